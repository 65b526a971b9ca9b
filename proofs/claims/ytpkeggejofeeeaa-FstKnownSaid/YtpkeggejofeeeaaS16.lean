/- Laws of the small machine and of how it stands to the model; a helper of the statements: no statement is proved here. -/
import Derived.Test.YtpkeggejofeeeaaS15
namespace Go.Proofs.Ytpkeggejofeeeaa.Lvm

/-! ### the textual run of a drawn region -/
def cl (ops : Array Oper) (j : Nat) : Option Cl := (ops[j]?).bind fun o => clOf o.op

structure DRun (E : Env) (call : CallFn) (lo : Nat) (ops : Array Oper) (F : Nat → LFr) (S : Nat → LSt) : Prop where
  tr : ∀ (j : Nat) (o : Oper), ops[j]? = some o → Tr E call lo true ops.toList o (F j) (S j) (F (j + 1)) (S (j + 1))
  ok : DOk ops
  ce : CallEff call
  ce' : ∀ lo f args st r st', call lo f args st = some (r, st') → NewOk st → CEff st.nxt st st'
  new0 : NewOk (S 0)
  lo0 : lo ≤ (S 0).nxt

theorem vOpers_run {E : Env} {call : CallFn} {lo : Nat} {cover : Bool} {ops : List Oper} : ∀ (l : List Oper) (fr fr' : LFr) (st st' : LSt), vOpers E call lo cover ops l fr st = some (fr', st') →
    ∃ (F : Nat → LFr) (S : Nat → LSt), F 0 = fr ∧ S 0 = st ∧ F l.length = fr' ∧ S l.length = st' ∧ ∀ (j : Nat) (o : Oper), l[j]? = some o → Tr E call lo cover ops o (F j) (S j) (F (j + 1)) (S (j + 1))
  | [], fr, fr', st, st', h => by
    rw [vOpers_nil] at h; simp only [Option.some.injEq, Prod.mk.injEq] at h; obtain ⟨rfl, rfl⟩ := h
    exact ⟨fun _ => fr, fun _ => st, rfl, rfl, rfl, rfl, fun j o hj => by simp at hj⟩
  | x :: l, fr, fr', st, st', h => by
    rw [vOpers_cons] at h
    split at h
    · rename_i fr1 st1 h1
      obtain ⟨F, S, hF, hS, hF', hS', ht⟩ := vOpers_run l fr1 fr' st1 st' h
      refine ⟨fun j => match j with | 0 => fr | j + 1 => F j, fun j => match j with | 0 => st | j + 1 => S j, rfl, rfl, hF', hS', fun j o hj => ?_⟩
      cases j with
      | zero => simp at hj; subst hj; simp only; rw [hF, hS]; exact vOper_tr h1
      | succ j => simp at hj; exact ht j o hj
    · cases h

section
variable {E : Env} {call : CallFn} {lo : Nat} {ops : Array Oper} {F : Nat → LFr} {S : Nat → LSt}

namespace DRun

theorem cl_some {j : Nat} {o : Oper} (ho : ops[j]? = some o) : cl ops j = clOf o.op := by simp [cl, ho]

theorem getop {ops : Array Oper} {j : Nat} (hj : j < ops.size) : ∃ o, ops[j]? = some o := ⟨ops[j], by simp [hj]⟩

theorem both (D : DRun E call lo ops F S) : ∀ j, j ≤ ops.size → NewOk (S j) ∧ (S 0).nxt ≤ (S j).nxt ∧ lo ≤ (S j).nxt ∧ ∀ L, L < lo → (S j).mem.get L = (S 0).mem.get L
  | 0, _ => ⟨D.new0, Nat.le_refl _, D.lo0, fun _ _ => rfl⟩
  | j + 1, hj => by
    obtain ⟨h1, h2, h3, h4⟩ := both D j (by omega)
    obtain ⟨o, ho⟩ := getop (ops := ops) (j := j) (by omega)
    have e := (D.tr j o ho).ceff D.ce h1 h3
    exact ⟨e.new, Nat.le_trans h2 e.nxt, Nat.le_trans h3 e.nxt, fun L hL => (e.old L hL).trans (h4 L hL)⟩

theorem step (D : DRun E call lo ops F S) {j : Nat} {o : Oper} (ho : ops[j]? = some o) : CEff lo (S j) (S (j + 1)) := by
  have hj := (Array.getElem?_eq_some_iff.1 ho).1
  obtain ⟨h1, _, h3, _⟩ := D.both j (by omega)
  exact (D.tr j o ho).ceff D.ce h1 h3

theorem new (D : DRun E call lo ops F S) {j : Nat} (hj : j ≤ ops.size) : NewOk (S j) := (D.both j hj).1

theorem nxt_le (D : DRun E call lo ops F S) : ∀ {i k : Nat}, i ≤ k → k ≤ ops.size → (S i).nxt ≤ (S k).nxt := by
  intro i k hik
  induction k with
  | zero => intro _; have : i = 0 := by omega
            subst this; exact Nat.le_refl _
  | succ k ih =>
    intro hk
    by_cases h : i = k + 1
    · subst h; exact Nat.le_refl _
    · obtain ⟨o, ho⟩ := getop (ops := ops) (j := k) (by omega)
      exact Nat.le_trans (ih (by omega) (by omega)) (D.step ho).nxt

/-- An operation that writes nothing keeps every block, but one that an append outgrows. -/
theorem step_mem (D : DRun E call lo ops F S) {j : Nat} (hj : j < ops.size) (hw : cl ops j ≠ some .write) {L : Nat} (hL : L < (S j).nxt) :
    (S (j + 1)).mem.get L = (S j).mem.get L ∨ (cl ops j = some .grow ∧ (S (j + 1)).mem.get L = some .dead) := by
  obtain ⟨o, ho⟩ := getop hj
  have hn := D.new (j := j) (by omega)
  obtain ⟨v, _, ⟨_, h⟩ | ⟨_, _, h⟩⟩ := D.tr j o ho
  · obtain ⟨c, hc⟩ := D.ok.cls j o ho
    rw [cl_some ho, hc] at hw ⊢
    have hnew : ∀ (st : LSt) (x : LObj), L < st.nxt → (newB st x).mem.get L = st.mem.get L := fun st x h => by
      simp only [newB, Mem.get_set]; rw [if_neg (by omega)]
    cases c with
    | pure => left; rw [show S (j + 1) = S j from vop_eff hc h]
    | read => left; rw [show S (j + 1) = S j from vop_eff hc h]
    | fresh =>
      left
      rcases vop_eff hc h with e | ⟨x, e⟩
      · rw [e]
      · rw [e]; exact hnew _ _ hL
    | write => exact absurd rfl hw
    | call =>
      left
      obtain ⟨k, f, hk, hkf⟩ := clOf_call hc
      rw [hk] at h
      simp only [vop] at h
      obtain ⟨vs, g, first, cap, _, _, hcl⟩ := opCall_value hkf h
      exact (D.ce' lo g _ (S j) v (S (j + 1)) hcl hn).old L hL
    | grow =>
      rcases vop_eff hc h with (e | ⟨x, e⟩) | ⟨e, _⟩ | ⟨L0, cs, cs', h1, h3, e⟩
      · left; rw [e]
      · left; rw [e]; exact hnew _ _ hL
      · cases e
      · by_cases hne : L0 = L
        · right
          refine ⟨rfl, ?_⟩
          rw [e, hnew { S j with mem := (S j).mem.set L0 .dead } _ hL]
          simp only [Mem.get_set]; rw [if_pos hne]
        · left
          rw [e, hnew { S j with mem := (S j).mem.set L0 .dead } _ hL]
          simp only [Mem.get_set]; rw [if_neg hne]
  · left; rw [h]

/-- No write stands ahead of k. -/
def _root_.Go.Proofs.Ytpkeggejofeeeaa.Lvm.ph1 (ops : Array Oper) (k : Nat) : Prop := ∀ i, i < k → cl ops i ≠ some .write

theorem mem_le (D : DRun E call lo ops F S) {i k : Nat} (hik : i ≤ k) (hk : k ≤ ops.size) (hp : ph1 ops k) {L : Nat} (hL : L < (S i).nxt) :
    (S k).mem.get L = (S i).mem.get L ∨ (S k).mem.get L = some .dead := by
  induction k with
  | zero => left; have : i = 0 := by omega
            subst this; rfl
  | succ k ih =>
    by_cases h : i = k + 1
    · subst h; left; rfl
    · have hLk : L < (S k).nxt := Nat.lt_of_lt_of_le hL (D.nxt_le (i := i) (k := k) (by omega) (by omega))
      rcases D.step_mem (j := k) (by omega) (hp k (by omega)) hLk with e | ⟨_, e⟩
      · rw [e]; exact ih (by omega) (by omega) (fun i hi => hp i (by omega))
      · exact Or.inr e

theorem live_back (D : DRun E call lo ops F S) {i k : Nat} (hik : i ≤ k) (hk : k ≤ ops.size) (hp : ph1 ops k) {L : Nat} (hL : L < (S i).nxt) (hl : live (S k) L) : live (S i) L := by
  obtain ⟨x, hx, hd⟩ := hl
  rcases D.mem_le hik hk hp hL with e | e
  · exact ⟨x, by rw [← e]; exact hx, hd⟩
  · rw [e] at hx; simp at hx; exact absurd hx.symm hd

theorem live_lt (D : DRun E call lo ops F S) {k : Nat} (hk : k ≤ ops.size) {L : Nat} (hl : live (S k) L) : L < (S k).nxt := by
  obtain ⟨x, hx, _⟩ := hl
  refine Nat.lt_of_not_le fun h => ?_
  rw [D.new hk L h] at hx; cases hx

/-- When was it made? -/
theorem born {k : Nat} (hk : k ≤ ops.size) {L : Nat} (hL : L < (S k).nxt) : L < (S 0).nxt ∨ ∃ i, i < k ∧ (S i).nxt ≤ L ∧ L < (S (i + 1)).nxt := by
  induction k with
  | zero => exact Or.inl hL
  | succ k ih =>
    by_cases h : L < (S k).nxt
    · rcases ih (by omega) h with e | ⟨i, h1, h2, h3⟩
      · exact Or.inl e
      · exact Or.inr ⟨i, by omega, h2, h3⟩
    · exact Or.inr ⟨k, by omega, by omega, hL⟩

theorem born_uniq (D : DRun E call lo ops F S) {i k : Nat} (hi : i < ops.size) (hk : k < ops.size) {L : Nat} (h1 : (S i).nxt ≤ L) (h2 : L < (S (i + 1)).nxt) (h3 : (S k).nxt ≤ L) (h4 : L < (S (k + 1)).nxt) : i = k := by
  rcases Nat.lt_trichotomy i k with h | h | h
  · have := D.nxt_le (i := i + 1) (k := k) (by omega) (by omega); omega
  · exact h
  · have := D.nxt_le (i := k + 1) (k := i) (by omega) (by omega); omega

theorem pure_same (D : DRun E call lo ops F S) {j : Nat} (hj : j < ops.size) (hc : cl ops j = some .pure) : S (j + 1) = S j := by
  obtain ⟨o, ho⟩ := getop hj
  rw [cl_some ho] at hc
  obtain ⟨v, _, ⟨_, h⟩ | ⟨_, _, h⟩⟩ := D.tr j o ho
  · exact vop_eff hc h
  · exact h

theorem pure_run (D : DRun E call lo ops F S) {i k : Nat} (hik : i ≤ k) (hk : k ≤ ops.size) (hp : ∀ j, i ≤ j → j < k → cl ops j = some .pure) : S k = S i := by
  induction k with
  | zero => have : i = 0 := by omega
            subst this; rfl
  | succ k ih =>
    by_cases h : i = k + 1
    · subst h; rfl
    · rw [D.pure_same (by omega) (hp k (by omega) (by omega))]
      exact ih (by omega) (by omega) fun j h1 h2 => hp j h1 (by omega)

/-- Who wrote a slot last? -/
theorem slot (D : DRun E call lo ops F S) (t : Nat) : ∀ {k : Nat}, k ≤ ops.size → ((∀ i o, i < k → ops[i]? = some o → o.dst ≠ some t) ∧ (F k).m.get t = (F 0).m.get t) ∨
    ∃ i o, i < k ∧ ops[i]? = some o ∧ o.dst = some t ∧ (F k).m.get t = (F (i + 1)).m.get t := by
  intro k
  induction k with
  | zero => intro _; exact Or.inl ⟨fun i o h => absurd h (by omega), rfl⟩
  | succ k ih =>
    intro hk
    obtain ⟨o, ho⟩ := getop (ops := ops) (j := k) (by omega)
    by_cases hd : o.dst = some t
    · exact Or.inr ⟨k, o, by omega, ho, hd, rfl⟩
    · have hsame : (F (k + 1)).m.get t = (F k).m.get t := by
        obtain ⟨v, ⟨_, hf⟩ | ⟨d, hdd, _, hf⟩, _⟩ := D.tr k o ho
        · rw [hf]
        · rw [hf]
          have hne : d ≠ t := fun e => hd (by rw [hdd, e])
          simp only [LFr.put, Mem.get_set]; rw [if_neg hne]
      rcases ih (by omega) with ⟨h1, h2⟩ | ⟨i, oi, h1, h2, h3, h4⟩
      · refine Or.inl ⟨fun i oi hi hoi => ?_, hsame.trans h2⟩
        by_cases e : i = k
        · subst e; rw [ho] at hoi; simp only [Option.some.injEq] at hoi; subst hoi; exact hd
        · exact h1 i oi (by omega) hoi
      · exact Or.inr ⟨i, oi, by omega, h2, h3, hsame.trans h4⟩

theorem frn (D : DRun E call lo ops F S) : ∀ {k : Nat}, k ≤ ops.size → (F k).n = (F 0).n := by
  intro k
  induction k with
  | zero => intro _; rfl
  | succ k ih =>
    intro hk
    obtain ⟨o, ho⟩ := getop (ops := ops) (j := k) (by omega)
    obtain ⟨v, ⟨_, hf⟩ | ⟨d, hdd, _, hf⟩, _⟩ := D.tr k o ho
    · rw [hf]; exact ih (by omega)
    · rw [hf]; exact ih (by omega)
end DRun
end
end Go.Proofs.Ytpkeggejofeeeaa.Lvm
