/- Laws of the small machine, of how it stands to the model, and of what functions come to on it; a helper of the statement: no statement is proved here. -/
import Derived.Test.YtpkeggejofeeeaaD
set_option linter.unusedVariables false
namespace Go.Proofs.Ytpkeggejofeeeaa.Lvm

/-! ### the textual run of a drawn region -/
def cl (ops : Array Oper) (j : Nat) : Option Cl := (ops[j]?).bind fun o => clOf o.op

structure DRun (E : Env) (call : CallFn) (lo : Nat) (ops : Array Oper) (F : Nat → LFr) (S : Nat → LSt) : Prop where
  tr : ∀ (j : Nat) (o : Oper), ops[j]? = some o → Tr E call lo true ops.toList o (F j) (S j) (F (j + 1)) (S (j + 1))
  ok : DOk ops
  ce : CallEff call
  ce' : ∀ lo f args st r st', call lo f args st = some (r, st') → NewOk st → CEff st.nxt st st'
  new0 : NewOk (S 0)
  lo0 : lo ≤ (S 0).nxt

theorem vOpers_run {E : Env} {call : CallFn} {lo : Nat} {cover : Bool} {ops : List Oper} : ∀ (l : List Oper) (fr fr' : LFr) (st st' : LSt), vOpers E call lo cover ops l fr st = some (fr', st') →
    ∃ (F : Nat → LFr) (S : Nat → LSt), F 0 = fr ∧ S 0 = st ∧ F l.length = fr' ∧ S l.length = st' ∧ ∀ (j : Nat) (o : Oper), l[j]? = some o → Tr E call lo cover ops o (F j) (S j) (F (j + 1)) (S (j + 1))
  | [], fr, fr', st, st', h => by
    rw [vOpers_nil] at h; simp only [Option.some.injEq, Prod.mk.injEq] at h; obtain ⟨rfl, rfl⟩ := h
    exact ⟨fun _ => fr, fun _ => st, rfl, rfl, rfl, rfl, fun j o hj => by simp at hj⟩
  | x :: l, fr, fr', st, st', h => by
    rw [vOpers_cons] at h
    split at h
    · rename_i fr1 st1 h1
      obtain ⟨F, S, hF, hS, hF', hS', ht⟩ := vOpers_run l fr1 fr' st1 st' h
      refine ⟨fun j => match j with | 0 => fr | j + 1 => F j, fun j => match j with | 0 => st | j + 1 => S j, rfl, rfl, hF', hS', fun j o hj => ?_⟩
      cases j with
      | zero => simp at hj; subst hj; simp only; rw [hF, hS]; exact vOper_tr h1
      | succ j => simp at hj; exact ht j o hj
    · cases h

section
variable {E : Env} {call : CallFn} {lo : Nat} {ops : Array Oper} {F : Nat → LFr} {S : Nat → LSt}

namespace DRun

theorem cl_some {j : Nat} {o : Oper} (ho : ops[j]? = some o) : cl ops j = clOf o.op := by simp [cl, ho]

theorem getop {ops : Array Oper} {j : Nat} (hj : j < ops.size) : ∃ o, ops[j]? = some o := ⟨ops[j], by simp [hj]⟩

theorem both (D : DRun E call lo ops F S) : ∀ j, j ≤ ops.size → NewOk (S j) ∧ (S 0).nxt ≤ (S j).nxt ∧ lo ≤ (S j).nxt ∧ ∀ L, L < lo → (S j).mem.get L = (S 0).mem.get L
  | 0, _ => ⟨D.new0, Nat.le_refl _, D.lo0, fun _ _ => rfl⟩
  | j + 1, hj => by
    obtain ⟨h1, h2, h3, h4⟩ := both D j (by omega)
    obtain ⟨o, ho⟩ := getop (ops := ops) (j := j) (by omega)
    have e := (D.tr j o ho).ceff D.ce h1 h3
    exact ⟨e.new, Nat.le_trans h2 e.nxt, Nat.le_trans h3 e.nxt, fun L hL => (e.old L hL).trans (h4 L hL)⟩

theorem step (D : DRun E call lo ops F S) {j : Nat} {o : Oper} (ho : ops[j]? = some o) : CEff lo (S j) (S (j + 1)) := by
  have hj := (Array.getElem?_eq_some_iff.1 ho).1
  obtain ⟨h1, _, h3, _⟩ := D.both j (by omega)
  exact (D.tr j o ho).ceff D.ce h1 h3

theorem new (D : DRun E call lo ops F S) {j : Nat} (hj : j ≤ ops.size) : NewOk (S j) := (D.both j hj).1

theorem nxt_le (D : DRun E call lo ops F S) : ∀ {i k : Nat}, i ≤ k → k ≤ ops.size → (S i).nxt ≤ (S k).nxt := by
  intro i k hik
  induction k with
  | zero => intro _; have : i = 0 := by omega
            subst this; exact Nat.le_refl _
  | succ k ih =>
    intro hk
    by_cases h : i = k + 1
    · subst h; exact Nat.le_refl _
    · obtain ⟨o, ho⟩ := getop (ops := ops) (j := k) (by omega)
      exact Nat.le_trans (ih (by omega) (by omega)) (D.step ho).nxt

/-- An operation that writes nothing keeps every block, but one that an append outgrows. -/
theorem step_mem (D : DRun E call lo ops F S) {j : Nat} (hj : j < ops.size) (hw : cl ops j ≠ some .write) {L : Nat} (hL : L < (S j).nxt) :
    (S (j + 1)).mem.get L = (S j).mem.get L ∨ (cl ops j = some .grow ∧ (S (j + 1)).mem.get L = some .dead) := by
  obtain ⟨o, ho⟩ := getop hj
  have hn := D.new (j := j) (by omega)
  obtain ⟨v, _, ⟨_, h⟩ | ⟨_, _, h⟩⟩ := D.tr j o ho
  · obtain ⟨c, hc⟩ := D.ok.cls j o ho
    rw [cl_some ho, hc] at hw ⊢
    have hnew : ∀ (st : LSt) (x : LObj), L < st.nxt → (newB st x).mem.get L = st.mem.get L := fun st x h => by
      simp only [newB, Mem.get_set]; rw [if_neg (by omega)]
    cases c with
    | pure => left; rw [show S (j + 1) = S j from vop_eff hc h]
    | read => left; rw [show S (j + 1) = S j from vop_eff hc h]
    | fresh =>
      left
      rcases vop_eff hc h with e | ⟨x, e⟩
      · rw [e]
      · rw [e]; exact hnew _ _ hL
    | write => exact absurd rfl hw
    | call =>
      left
      obtain ⟨k, f, hk, hkf⟩ := clOf_call hc
      rw [hk] at h
      simp only [vop] at h
      obtain ⟨vs, g, first, cap, _, _, hcl⟩ := opCall_value hkf h
      exact (D.ce' lo g _ (S j) v (S (j + 1)) hcl hn).old L hL
    | grow =>
      rcases vop_eff hc h with (e | ⟨x, e⟩) | ⟨e, _⟩ | ⟨L0, cs, cs', h1, h3, e⟩
      · left; rw [e]
      · left; rw [e]; exact hnew _ _ hL
      · cases e
      · by_cases hne : L0 = L
        · right
          refine ⟨rfl, ?_⟩
          rw [e, hnew { S j with mem := (S j).mem.set L0 .dead } _ hL]
          simp only [Mem.get_set]; rw [if_pos hne]
        · left
          rw [e, hnew { S j with mem := (S j).mem.set L0 .dead } _ hL]
          simp only [Mem.get_set]; rw [if_neg hne]
  · left; rw [h]

/-- No write stands ahead of k. -/
def _root_.Go.Proofs.Ytpkeggejofeeeaa.Lvm.ph1 (ops : Array Oper) (k : Nat) : Prop := ∀ i, i < k → cl ops i ≠ some .write

theorem mem_le (D : DRun E call lo ops F S) {i k : Nat} (hik : i ≤ k) (hk : k ≤ ops.size) (hp : ph1 ops k) {L : Nat} (hL : L < (S i).nxt) :
    (S k).mem.get L = (S i).mem.get L ∨ (S k).mem.get L = some .dead := by
  induction k with
  | zero => left; have : i = 0 := by omega
            subst this; rfl
  | succ k ih =>
    by_cases h : i = k + 1
    · subst h; left; rfl
    · have hLk : L < (S k).nxt := Nat.lt_of_lt_of_le hL (D.nxt_le (i := i) (k := k) (by omega) (by omega))
      rcases D.step_mem (j := k) (by omega) (hp k (by omega)) hLk with e | ⟨_, e⟩
      · rw [e]; exact ih (by omega) (by omega) (fun i hi => hp i (by omega))
      · exact Or.inr e

theorem live_back (D : DRun E call lo ops F S) {i k : Nat} (hik : i ≤ k) (hk : k ≤ ops.size) (hp : ph1 ops k) {L : Nat} (hL : L < (S i).nxt) (hl : live (S k) L) : live (S i) L := by
  obtain ⟨x, hx, hd⟩ := hl
  rcases D.mem_le hik hk hp hL with e | e
  · exact ⟨x, by rw [← e]; exact hx, hd⟩
  · rw [e] at hx; simp at hx; exact absurd hx.symm hd

theorem live_lt (D : DRun E call lo ops F S) {k : Nat} (hk : k ≤ ops.size) {L : Nat} (hl : live (S k) L) : L < (S k).nxt := by
  obtain ⟨x, hx, _⟩ := hl
  refine Nat.lt_of_not_le fun h => ?_
  rw [D.new hk L h] at hx; cases hx

/-- When was it made? -/
theorem born {k : Nat} (hk : k ≤ ops.size) {L : Nat} (hL : L < (S k).nxt) : L < (S 0).nxt ∨ ∃ i, i < k ∧ (S i).nxt ≤ L ∧ L < (S (i + 1)).nxt := by
  induction k with
  | zero => exact Or.inl hL
  | succ k ih =>
    by_cases h : L < (S k).nxt
    · rcases ih (by omega) h with e | ⟨i, h1, h2, h3⟩
      · exact Or.inl e
      · exact Or.inr ⟨i, by omega, h2, h3⟩
    · exact Or.inr ⟨k, by omega, by omega, hL⟩

theorem born_uniq (D : DRun E call lo ops F S) {i k : Nat} (hi : i < ops.size) (hk : k < ops.size) {L : Nat} (h1 : (S i).nxt ≤ L) (h2 : L < (S (i + 1)).nxt) (h3 : (S k).nxt ≤ L) (h4 : L < (S (k + 1)).nxt) : i = k := by
  rcases Nat.lt_trichotomy i k with h | h | h
  · have := D.nxt_le (i := i + 1) (k := k) (by omega) (by omega); omega
  · exact h
  · have := D.nxt_le (i := k + 1) (k := i) (by omega) (by omega); omega

theorem pure_same (D : DRun E call lo ops F S) {j : Nat} (hj : j < ops.size) (hc : cl ops j = some .pure) : S (j + 1) = S j := by
  obtain ⟨o, ho⟩ := getop hj
  rw [cl_some ho] at hc
  obtain ⟨v, _, ⟨_, h⟩ | ⟨_, _, h⟩⟩ := D.tr j o ho
  · exact vop_eff hc h
  · exact h

theorem pure_run (D : DRun E call lo ops F S) {i k : Nat} (hik : i ≤ k) (hk : k ≤ ops.size) (hp : ∀ j, i ≤ j → j < k → cl ops j = some .pure) : S k = S i := by
  induction k with
  | zero => have : i = 0 := by omega
            subst this; rfl
  | succ k ih =>
    by_cases h : i = k + 1
    · subst h; rfl
    · rw [D.pure_same (by omega) (hp k (by omega) (by omega))]
      exact ih (by omega) (by omega) fun j h1 h2 => hp j h1 (by omega)

/-- Who wrote a slot last? -/
theorem slot (D : DRun E call lo ops F S) (t : Nat) : ∀ {k : Nat}, k ≤ ops.size → ((∀ i o, i < k → ops[i]? = some o → o.dst ≠ some t) ∧ (F k).m.get t = (F 0).m.get t) ∨
    ∃ i o, i < k ∧ ops[i]? = some o ∧ o.dst = some t ∧ (F k).m.get t = (F (i + 1)).m.get t := by
  intro k
  induction k with
  | zero => intro _; exact Or.inl ⟨fun i o h => absurd h (by omega), rfl⟩
  | succ k ih =>
    intro hk
    obtain ⟨o, ho⟩ := getop (ops := ops) (j := k) (by omega)
    by_cases hd : o.dst = some t
    · exact Or.inr ⟨k, o, by omega, ho, hd, rfl⟩
    · have hsame : (F (k + 1)).m.get t = (F k).m.get t := by
        obtain ⟨v, ⟨_, hf⟩ | ⟨d, hdd, _, hf⟩, _⟩ := D.tr k o ho
        · rw [hf]
        · rw [hf]
          have hne : d ≠ t := fun e => hd (by rw [hdd, e])
          simp only [LFr.put, Mem.get_set]; rw [if_neg hne]
      rcases ih (by omega) with ⟨h1, h2⟩ | ⟨i, oi, h1, h2, h3, h4⟩
      · refine Or.inl ⟨fun i oi hi hoi => ?_, hsame.trans h2⟩
        by_cases e : i = k
        · subst e; rw [ho] at hoi; simp only [Option.some.injEq] at hoi; subst hoi; exact hd
        · exact h1 i oi (by omega) hoi
      · exact Or.inr ⟨i, oi, by omega, h2, h3, hsame.trans h4⟩

theorem frn (D : DRun E call lo ops F S) : ∀ {k : Nat}, k ≤ ops.size → (F k).n = (F 0).n := by
  intro k
  induction k with
  | zero => intro _; rfl
  | succ k ih =>
    intro hk
    obtain ⟨o, ho⟩ := getop (ops := ops) (j := k) (by omega)
    obtain ⟨v, ⟨_, hf⟩ | ⟨d, hdd, _, hf⟩, _⟩ := D.tr k o ho
    · rw [hf]; exact ih (by omega)
    · rw [hf]; exact ih (by omega)
end DRun
end
end Go.Proofs.Ytpkeggejofeeeaa.Lvm

namespace Go.Proofs.Ytpkeggejofeeeaa.Lvm

def cut (inj : Inj) (n : Nat) : Inj := fun L => if L < n then inj L else none

theorem cut_mono {inj inj' : Inj} (h : Ext inj inj') {n m : Nat} (hnm : n ≤ m) : Ext (cut inj n) (cut inj' m) := fun L q hq => by
  simp only [cut] at hq ⊢
  split at hq
  · rw [if_pos (by omega)]; exact h L q hq
  · cases hq
theorem cut_some {inj : Inj} {n L : Nat} {q : Nat × Nat} (h : cut inj n L = some q) : L < n ∧ inj L = some q := by
  simp only [cut] at h
  split at h
  · exact ⟨by assumption, h⟩
  · cases h
theorem cut_lt {inj : Inj} {n L : Nat} (h : L < n) : cut inj n L = inj L := by simp [cut, h]
theorem cut_ext (inj : Inj) (n : Nat) : Ext (cut inj n) inj := fun _ _ h => (cut_some h).2

section
variable {E : Env} {B lo : Nat} {call : CallFn} {ops : Array Oper} {F : Nat → LFr} {S : Nat → LSt}

def aliveX (ops : Array Oper) (S : Nat → LSt) (X : Nat → Prop) (L : Nat) : Prop :=
  ∃ k, k ≤ ops.size ∧ ph1 ops k ∧ live (S k) L ∧ ∀ g, X g → cl ops g = some .grow → L < (S g).nxt → g < k

/-- Some of the operations are done, and no write among them. -/
structure DInv (E : Env) (B lo : Nat) (ops : Array Oper) (S : Nat → LSt) (inj0 : Inj) (w0 : World) (X : Nat → Prop) (inj : Inj) (w : World) : Prop where
  dom : ∀ L q, inj L = some q → B ≤ q.1 ∧ q.1 < w.heap.size ∧ (L < (S 0).nxt ∨ ∃ i, X i ∧ i < ops.size ∧ (S i).nxt ≤ L ∧ L < (S (i + 1)).nxt)
  full0 : ∀ L, live (S 0) L → ∃ q, inj L = some q
  full : ∀ i, X i → i < ops.size → ∀ L, (S i).nxt ≤ L → live (S (i + 1)) L → ∃ q, inj L = some q
  obj : ∀ k, k ≤ ops.size → ph1 ops k → (∀ g, X g → cl ops g = some .grow → g < k) → ∀ L q o, L < (S k).nxt → inj L = some q → (S k).mem.get L = some o →
    ORel E (cut inj (S k).nxt) o w.heap[q.1]? q.2
  uniq : ∀ L L' q q', aliveX ops S X L → aliveX ops S X L' → inj L = some q → inj L' = some q' → q.1 = q'.1 → L = L'
  base : ∀ r o v, E.bm r o = some v → r < B ∧ ∃ u, w.cell? ⟨r, o, none⟩ = some u ∧ ∀ i : Inj, VRel i v u
  low : B ≤ w.heap.size
  ext0 : ∀ L, L < (S 0).nxt → inj L = inj0 L
  size : w0.heap.size ≤ w.heap.size
  keep : ∀ b, b < w0.heap.size → (∀ L q, lo ≤ L → live (S 0) L → inj0 L = some q → q.1 ≠ b) → w.heap[b]? = w0.heap[b]?
  orig : ∀ L q, lo ≤ L → aliveX ops S X L → inj L = some q → w0.heap.size ≤ q.1 ∨ ∃ L0 q0, lo ≤ L0 ∧ live (S 0) L0 ∧ inj0 L0 = some q0 ∧ q0.1 = q.1
  al : Alike3 w0 w

variable {inj0 inj inj' : Inj} {w0 w w' : World} {X : Nat → Prop}

theorem DInv.emb (D : DRun E call lo ops F S) (I : DInv E B lo ops S inj0 w0 X inj w) {k : Nat} (hk : k ≤ ops.size) (hp : ph1 ops k) (hg : ∀ g, X g → cl ops g = some .grow → g < k) :
    Emb E B (cut inj (S k).nxt) (S k) w where
  dom := fun L q hq => by
    obtain ⟨h1, h2⟩ := cut_some hq
    exact ⟨h1, (I.dom L q h2).1, (I.dom L q h2).2.1⟩
  obj := fun L q o hq ho => by
    obtain ⟨h1, h2⟩ := cut_some hq
    exact I.obj k hk hp hg L q o h1 h2 ho
  new := D.new hk
  base := fun r o v hv => by
    obtain ⟨h1, u, h2, h3⟩ := I.base r o v hv
    exact ⟨h1, u, h2, h3 _⟩
  low := I.low

theorem DInv.start (hE : E.Ok) (D : DRun E call lo ops F S) (hr : Rel E B inj0 (S 0) w0) : DInv E B lo ops S inj0 w0 (fun _ => False) inj0 w0 where
  dom := fun L q hq => by have := hr.dom L q hq; exact ⟨this.2.1, this.2.2, Or.inl this.1⟩
  full0 := hr.full
  full := fun i h => h.elim
  obj := fun k hk hp _ L q o hL hq ho => by
    have h0 := (hr.dom L q hq).1
    have hx : Ext inj0 (cut inj0 (S k).nxt) := fun A p hp' => by
      rw [cut_lt (Nat.lt_of_lt_of_le (hr.dom A p hp').1 (D.nxt_le (Nat.zero_le _) hk))]; exact hp'
    rcases D.mem_le (Nat.zero_le _) hk hp h0 with e | e
    · rw [e] at ho; exact (hr.obj L q o hq ho).mono hx
    · rw [e] at ho; simp only [Option.some.injEq] at ho; subst ho; trivial
  uniq := fun L L' q q' ⟨k, hk, hp, hl, _⟩ ⟨k', hk', hp', hl', _⟩ hq hq' he =>
    hr.uniq L L' q q' (D.live_back (Nat.zero_le _) hk hp (hr.dom L q hq).1 hl) (D.live_back (Nat.zero_le _) hk' hp' (hr.dom L' q' hq').1 hl') hq hq' he
  base := fun r o v hv => by
    obtain ⟨h1, u, h2, h3⟩ := hr.base r o v hv
    exact ⟨h1, u, h2, fun i => hE.base r o v hv _ i u h3⟩
  low := hr.low
  ext0 := fun _ _ => rfl
  size := Nat.le_refl _
  keep := fun _ _ _ => rfl
  orig := fun L q hL ⟨k, hk, hp, hl, _⟩ hq => Or.inr ⟨L, q, hL, D.live_back (Nat.zero_le _) hk hp (hr.dom L q hq).1 hl, hq, rfl⟩
  al := ⟨rfl, rfl, rfl⟩

/-- What is done, and j. -/
def also (X : Nat → Prop) (j : Nat) : Nat → Prop := fun i => X i ∨ i = j

theorem aliveX.less {j L : Nat} (h : aliveX ops S (also X j) L) : aliveX ops S X L := by
  obtain ⟨k, h1, h2, h3, h4⟩ := h
  exact ⟨k, h1, h2, h3, fun g hg => h4 g (Or.inl hg)⟩

theorem DInv.skip (D : DRun E call lo ops F S) (I : DInv E B lo ops S inj0 w0 X inj w) {j : Nat} (hj : j < ops.size) (hs : S (j + 1) = S j) : DInv E B lo ops S inj0 w0 (also X j) inj w where
  dom := fun L q hq => by
    obtain ⟨h1, h2, h3⟩ := I.dom L q hq
    refine ⟨h1, h2, h3.imp id ?_⟩
    rintro ⟨i, hi, h4⟩; exact ⟨i, Or.inl hi, h4⟩
  full0 := I.full0
  full := fun i hi hlt L hL hl => by
    rcases hi with hi | rfl
    · exact I.full i hi hlt L hL hl
    · rw [hs] at hl
      have := D.live_lt (k := i) (by omega) hl
      omega
  obj := fun k hk hp hg => I.obj k hk hp fun g h => hg g (Or.inl h)
  uniq := fun L L' q q' h h' => I.uniq L L' q q' h.less h'.less
  base := I.base
  low := I.low
  ext0 := I.ext0
  size := I.size
  keep := I.keep
  orig := fun L q hL h => I.orig L q hL h.less
  al := I.al

/-- The block that operation j takes over. -/
def Kb (lo : Nat) (ops : Array Oper) (S : Nat → LSt) (inj : Inj) (j b : Nat) : Prop :=
  cl ops j = some .grow ∧ ∃ L0 q0, lo ≤ L0 ∧ L0 < (S j).nxt ∧ live (S j) L0 ∧ (S (j + 1)).mem.get L0 = some .dead ∧ inj L0 = some q0 ∧ q0.1 = b

theorem DInv.inj_ext (D : DRun E call lo ops F S) (I : DInv E B lo ops S inj0 w0 X inj w) {j : Nat} (hj : j < ops.size) (hun : ¬ X j)
    (hb : ∀ L, ¬((S j).nxt ≤ L ∧ L < (S (j + 1)).nxt) → inj' L = inj L) : Ext inj inj' := fun L q hq => by
  rw [hb L]; exact hq
  intro ⟨h1, h2⟩
  rcases (I.dom L q hq).2.2 with h | ⟨i, hi, hlt, h3, h4⟩
  · have := D.nxt_le (Nat.zero_le j) (by omega); omega
  · have := D.born_uniq hlt hj h3 h4 h1 h2
    subst this; exact hun hi

theorem DInv.adv (D : DRun E call lo ops F S) (I : DInv E B lo ops S inj0 w0 X inj w) {j : Nat} (hj : j < ops.size) (hp : ph1 ops (j + 1)) (hun : ¬ X j)
    (hX : ∀ g, X g → cl ops g = some .grow → g < j)
    (hb : ∀ L, ¬((S j).nxt ≤ L ∧ L < (S (j + 1)).nxt) → inj' L = inj L)
    (ha : Emb E B (cut inj' (S (j + 1)).nxt) (S (j + 1)) w')
    (hc : ∀ b, b < w.heap.size → w'.heap[b]? = w.heap[b]? ∨ Kb lo ops S inj j b)
    (hsz : w.heap.size ≤ w'.heap.size)
    (hd : ∀ L q, (S j).nxt ≤ L → live (S (j + 1)) L → inj' L = some q → w.heap.size ≤ q.1 ∨ Kb lo ops S inj j q.1)
    (hf : ∀ L, (S j).nxt ≤ L → live (S (j + 1)) L → ∃ q, inj' L = some q)
    (he : ∀ L L' q q', (S j).nxt ≤ L → (S j).nxt ≤ L' → live (S (j + 1)) L → live (S (j + 1)) L' → inj' L = some q → inj' L' = some q' → q.1 = q'.1 → L = L')
    (hal : Alike3 w w') : DInv E B lo ops S inj0 w0 (also X j) inj' w' := by
  have hx := I.inj_ext D hj hun hb
  have hnj : (S j).nxt ≤ (S (j + 1)).nxt := D.nxt_le (by omega) (by omega)
  have hpj : ph1 ops j := fun i hi => hp i (by omega)
  -- new or old
  have cases2 : ∀ {L : Nat} {q : Nat × Nat}, inj' L = some q → ((S j).nxt ≤ L ∧ L < (S (j + 1)).nxt) ∨ (¬((S j).nxt ≤ L ∧ L < (S (j + 1)).nxt) ∧ inj L = some q) := fun {L q} h => by
    by_cases hh : (S j).nxt ≤ L ∧ L < (S (j + 1)).nxt
    · exact Or.inl hh
    · exact Or.inr ⟨hh, by rw [← hb L hh]; exact h⟩
  have back : ∀ {L : Nat}, L < (S (j + 1)).nxt → (S j).nxt ≤ L → aliveX ops S (also X j) L → live (S (j + 1)) L := fun {L} h1 h2 ⟨k, hk, hpk, hl, _⟩ => by
    have hlt := D.live_lt hk hl
    have hjk : j + 1 ≤ k := by
      refine Nat.lt_of_not_le fun hkj => ?_
      have := D.nxt_le hkj (k := j) (by omega); omega
    exact D.live_back hjk hk hpk h1 hl
  have aliveOf : ∀ {L0 : Nat}, live (S j) L0 → aliveX ops S X L0 := fun {L0} h => ⟨j, by omega, hpj, h, fun g hg hgg _ => hX g hg hgg⟩
  -- a block taken over is held by nobody else
  have noK : ∀ {L : Nat} {q : Nat × Nat}, inj L = some q → aliveX ops S (also X j) L → ¬ Kb lo ops S inj j q.1 := fun {L q} hq hal ⟨hg, L0, q0, h1, h2, h3, h4, h5, h6⟩ => by
    have hLL := I.uniq L L0 q q0 hal.less (aliveOf h3) hq h5 h6.symm
    subst hLL
    obtain ⟨k, hk, hpk, hl, hgk⟩ := hal
    have hjk := hgk j (Or.inr rfl) hg h2
    have hl' := D.live_back (i := j + 1) (by omega) hk hpk (by omega) hl
    obtain ⟨x, hx1, hx2⟩ := hl'
    rw [h4] at hx1; simp only [Option.some.injEq] at hx1; exact hx2 hx1.symm
  refine ⟨?_, ?_, ?_, ?_, ?_, ?_, ?_, ?_, ?_, ?_, ?_, ?_⟩
  · intro L q hq
    rcases cases2 hq with ⟨h1, h2⟩ | ⟨_, h1⟩
    · have := ha.dom L q (by rw [cut_lt h2]; exact hq)
      exact ⟨this.2.1, this.2.2, Or.inr ⟨j, Or.inr rfl, hj, h1, h2⟩⟩
    · obtain ⟨g1, g2, g3⟩ := I.dom L q h1
      refine ⟨g1, by omega, g3.imp id ?_⟩
      rintro ⟨i, hi, h4⟩; exact ⟨i, Or.inl hi, h4⟩
  · intro L hl; obtain ⟨q, hq⟩ := I.full0 L hl; exact ⟨q, hx _ _ hq⟩
  · intro i hi hlt L hL hl
    rcases hi with hi | rfl
    · obtain ⟨q, hq⟩ := I.full i hi hlt L hL hl; exact ⟨q, hx _ _ hq⟩
    · exact hf L hL hl
  · intro k hk hpk hgk L q o hL hq ho
    by_cases hdd : o = .dead
    · subst hdd; trivial
    have hlk : live (S k) L := ⟨o, ho, hdd⟩
    by_cases hjk : j + 1 ≤ k
    · -- after j
      by_cases hLj : L < (S (j + 1)).nxt
      · rcases D.mem_le hjk hk hpk hLj with e | e
        · rw [e] at ho
          exact (ha.obj L q o (by rw [cut_lt hLj]; exact hq) ho).mono (cut_mono (Ext.refl _) (D.nxt_le hjk hk))
        · rw [e] at ho; simp only [Option.some.injEq] at ho; exact absurd ho.symm hdd
      · rcases cases2 hq with ⟨h1, h2⟩ | ⟨_, h1⟩
        · omega
        · have halv : aliveX ops S (also X j) L := ⟨k, hk, hpk, hlk, fun g hg hgg _ => hgk g hg hgg⟩
          have hold := I.obj k hk hpk (fun g hg => hgk g (Or.inl hg)) L q o hL h1 ho
          rcases hc q.1 (I.dom L q h1).2.1 with e | e
          · rw [e]; exact hold.mono (cut_mono hx (Nat.le_refl _))
          · exact absurd e (noK h1 halv)
    · -- before j: j is no append
      have hng : cl ops j ≠ some .grow := fun e => by have := hgk j (Or.inr rfl) e; omega
      have hLj : L < (S j).nxt := Nat.lt_of_lt_of_le hL (D.nxt_le (by omega) (by omega))
      rcases cases2 hq with ⟨h1, h2⟩ | ⟨_, h1⟩
      · omega
      · have hold := I.obj k hk hpk (fun g hg => hgk g (Or.inl hg)) L q o hL h1 ho
        rcases hc q.1 (I.dom L q h1).2.1 with e | e
        · rw [e]; exact hold.mono (cut_mono hx (Nat.le_refl _))
        · exact absurd e.1 hng
  · intro L L' q q' h h' hq hq' heq
    rcases cases2 hq with ⟨h1, h2⟩ | ⟨_, h1⟩ <;> rcases cases2 hq' with ⟨h1', h2'⟩ | ⟨_, h1'⟩
    · exact he L L' q q' h1 h1' (back h2 h1 h) (back h2' h1' h') hq hq' heq
    · rcases hd L q h1 (back h2 h1 h) hq with e | e
      · have := (I.dom L' q' h1').2.1; omega
      · rw [heq] at e; exact absurd e (noK h1' h')
    · rcases hd L' q' h1' (back h2' h1' h') hq' with e | e
      · have := (I.dom L q h1).2.1; omega
      · rw [← heq] at e; exact absurd e (noK h1 h)
    · exact I.uniq L L' q q' h.less h'.less h1 h1' heq
  · intro r o v hv
    obtain ⟨h1, u, h2, h3⟩ := I.base r o v hv
    refine ⟨h1, u, ?_, h3⟩
    have : w'.heap[r]? = w.heap[r]? := by
      rcases hc r (by have := I.low; omega) with e | ⟨_, L0, q0, _, _, _, _, h5, h6⟩
      · exact e
      · have := (I.dom L0 q0 h5).1; omega
    rw [← h2]; simp [World.cell?, this]
  · have := I.low; omega
  · intro L hL
    rw [← I.ext0 L hL]
    refine hb L ?_
    have := D.nxt_le (Nat.zero_le j) (by omega); omega
  · have := I.size; omega
  · intro b hb0 hno
    rw [← I.keep b hb0 hno]
    rcases hc b (by have := I.size; omega) with e | ⟨_, L0, q0, h1, h2, h3, h4, h5, h6⟩
    · exact e
    · rcases I.orig L0 q0 h1 (aliveOf h3) h5 with g | ⟨L1, q1, g1, g2, g3, g4⟩
      · omega
      · exact absurd (g4.trans h6) (hno L1 q1 g1 g2 g3)
  · intro L q hL h hq
    rcases cases2 hq with ⟨h1, h2⟩ | ⟨_, h1⟩
    · rcases hd L q h1 (back h2 h1 h) hq with e | ⟨_, L0, q0, g1, g2, g3, g4, g5, g6⟩
      · left; have := I.size; omega
      · rcases I.orig L0 q0 g1 (aliveOf g3) g5 with k1 | ⟨L1, q1, k1, k2, k3, k4⟩
        · left; omega
        · right; exact ⟨L1, q1, k1, k2, k3, k4.trans g6⟩
    · exact I.orig L q hL h.less h1
  · exact ⟨hal.os.trans I.al.os, hal.tape.trans I.al.tape, hal.output.trans I.al.output⟩

/-- All that touches memory ahead of m is done, and nothing behind. -/
theorem DInv.toRel (D : DRun E call lo ops F S) (I : DInv E B lo ops S inj0 w0 X inj w) {m : Nat} (hm : m ≤ ops.size) (hp : ph1 ops m)
    (hdone : ∀ i, i < m → cl ops i ≠ some .pure → X i) (hnot : ∀ i, m ≤ i → i < ops.size → X i → cl ops i = some .pure) :
    Rel E B inj (S m) w ∧ Step lo inj0 (S 0) w0 inj (S m) w := by
  have hlt : ∀ L q, inj L = some q → L < (S m).nxt := fun L q hq => by
    rcases (I.dom L q hq).2.2 with h | ⟨i, hi, hi2, h3, h4⟩
    · exact Nat.lt_of_lt_of_le h (D.nxt_le (Nat.zero_le _) hm)
    · by_cases him : i < m
      · exact Nat.lt_of_lt_of_le h4 (D.nxt_le (by omega) hm)
      · rw [D.pure_same hi2 (hnot i (by omega) hi2 hi)] at h4; omega
  have hcut : cut inj (S m).nxt = inj := by
    funext L
    by_cases h : L < (S m).nxt
    · exact cut_lt h
    · simp only [cut]; rw [if_neg h]
      cases hq : inj L with
      | none => rfl
      | some q => exact absurd (hlt L q hq) h
  have hg : ∀ g, X g → cl ops g = some .grow → g < m := fun g hg hgg => by
    refine Nat.lt_of_not_le fun h => ?_
    have hgs : g < ops.size := by
      refine Nat.lt_of_not_le fun h' => ?_
      have : ops[g]? = none := by simp; omega
      simp [cl, this] at hgg
    rw [hnot g h hgs hg] at hgg; cases hgg
  have hemb := I.emb D hm hp hg
  rw [hcut] at hemb
  have halv : ∀ L, live (S m) L → aliveX ops S X L := fun L hl => ⟨m, hm, hp, hl, fun g h1 h2 _ => hg g h1 h2⟩
  refine ⟨⟨hemb, ?_, ?_⟩, ?_⟩
  · intro L hl
    rcases DRun.born (S := S) (ops := ops) hm (D.live_lt hm hl) with h | ⟨i, him, h1, h2⟩
    · exact I.full0 L (D.live_back (Nat.zero_le _) hm hp h hl)
    · have hnp : cl ops i ≠ some .pure := fun e => by rw [D.pure_same (by omega) e] at h2; omega
      exact I.full i (hdone i him hnp) (by omega) L h1 (D.live_back (i := i + 1) (by omega) hm hp h2 hl)
  · intro L L' q q' h h' hq hq' he; exact I.uniq L L' q q' (halv L h) (halv L' h') hq hq' he
  · exact ⟨I.ext0, D.nxt_le (Nat.zero_le _) hm, I.size, I.keep, fun L q hL hl hq => I.orig L q hL (halv L hl) hq, (D.both m hm).2.2.2, I.al⟩
end
end Go.Proofs.Ytpkeggejofeeeaa.Lvm

namespace Go.Proofs.Ytpkeggejofeeeaa.Lvm

section
variable {E : Env} {B lo : Nat} {call : CallFn} {ops : Array Oper} {F : Nat → LFr} {S : Nat → LSt} {inj0 inj inj' : Inj} {w0 w w' : World} {X : Nat → Prop} {a : Act}

theorem cut_injAt (inj : Inj) (n : Nat) (q : Nat × Nat) : cut (injAt inj n q) (n + 1) = injAt (cut inj n) n q := by
  funext L
  simp only [cut, injAt]
  by_cases h : L = n
  · subst h; rw [if_pos (by omega), if_pos rfl, if_pos rfl]
  · rw [if_neg h, if_neg h]
    by_cases h' : L < n
    · rw [if_pos (by omega), if_pos h']
    · rw [if_neg (by omega), if_neg h']

theorem Emb.fresh {st : LSt} (hm : Emb E B inj st w) {o : LObj} {ob : Obj} {cnt : Nat} (h8 : w'.heap = w.heap.push ob)
    (ho : ORel E (injAt inj st.nxt (w.heap.size, cnt)) o (some ob) cnt) : Emb E B (injAt inj st.nxt (w.heap.size, cnt)) (newB st o) w' := by
  have hx := injAt_ext hm (w.heap.size, cnt)
  have hsz : w'.heap.size = w.heap.size + 1 := by rw [h8]; simp
  refine ⟨?_, ?_, ?_, ?_, ?_⟩
  · intro L q hq
    simp only [injAt] at hq
    split at hq
    · simp at hq; subst hq; exact ⟨by simp [newB]; omega, hm.low, by omega⟩
    · have := hm.dom L q hq; exact ⟨by simp [newB]; omega, this.2.1, by omega⟩
  · intro L q o' hq ho'
    simp only [injAt] at hq
    simp only [newB, Mem.get_set] at ho'
    split at hq
    · rename_i h; subst h
      rw [if_pos rfl] at ho'
      simp only [Option.some.injEq] at hq ho'
      subst hq; subst ho'
      rw [push_new h8]; exact ho
    · rename_i h
      rw [if_neg (Ne.symm h)] at ho'
      rw [push_old h8 (hm.dom L q hq).2.2]
      exact (hm.obj L q o' hq ho').mono hx
  · intro L hL
    simp only [newB] at hL
    simp only [newB, Mem.get_set]
    rw [if_neg (by omega)]; exact hm.new L (by omega)
  · intro r o' v hv
    exact base_keep hm hx (fun b hb => push_old h8 (by have := hm.low; omega)) hv
  · have := hm.low; omega

theorem Rel.heap {st : LSt} (hr : Rel E B inj st w) (h : w'.heap = w.heap) : Rel E B inj st w' := ⟨hr.toEmb.heap h, hr.full, hr.uniq⟩

/-! ### what may still be open -/
def Closed (ops : Array Oper) (X : Nat → Prop) : Prop := ∀ (j : Nat) (o : Oper), ops[j]? = some o → X j → ∀ e ∈ o.after, Region.binds .any e = true → X e.on
structure Ready (ops : Array Oper) (X : Nat → Prop) (j : Nat) (o : Oper) : Prop where
  op : ops[j]? = some o
  un : ¬ X j
  edges : ∀ e ∈ o.after, Region.binds .any e = true → X e.on

theorem lt_of_cl {j : Nat} {c : Cl} (h : cl ops j = some c) : j < ops.size := by
  refine Nat.lt_of_not_le fun h' => ?_
  have : ops[j]? = none := by simp; omega
  simp [cl, this] at h

section
variable {j : Nat} {o : Oper}

theorem Ready.past (hok : DOk ops) (hcl : Closed ops X) (hj : Ready ops X j o) {i : Nat} {oi : Oper} (hi : ops[i]? = some oi) (hlt : i < j) (hn : ¬ X i) : oi.apart ops o = true ∧ ∀ ci cj, cl ops i = some ci → cl ops j = some cj → mustWait ci cj = false := by
  rcases hok.pair i j oi o hi hj.op hlt with h | h
  · exact absurd (before_spec hcl hj.op hj.edges h) hn
  · refine ⟨h.1, fun ci cj h1 h2 => h.2 ci cj ?_ ?_⟩
    · simpa [cl, hi] using h1
    · simpa [cl, hj.op] using h2

theorem Ready.future (hok : DOk ops) (hcl : Closed ops X) (hj : Ready ops X j o) {i : Nat} {oi : Oper} (hi : ops[i]? = some oi) (hlt : j < i) (hX : X i) : o.apart ops oi = true ∧ ∀ ci cj, cl ops i = some ci → cl ops j = some cj → mustWait cj ci = false := by
  rcases hok.pair j i o oi hj.op hi hlt with h | h
  · exact absurd (before_spec hcl hi (hcl i oi hi hX) h) hj.un
  · refine ⟨h.1, fun ci cj h1 h2 => h.2 cj ci ?_ ?_⟩
    · simpa [cl, hj.op] using h2
    · simpa [cl, hi] using h1

theorem Ready.waits (hok : DOk ops) (hcl : Closed ops X) (hj : Ready ops X j o) {i : Nat} {ci cj : Cl} (hlt : i < j) (h1 : cl ops i = some ci) (h2 : cl ops j = some cj) (hw : mustWait ci cj = true) : X i := by
  refine Classical.byContradiction fun hn => ?_
  obtain ⟨oi, hi⟩ := DRun.getop (lt_of_cl h1)
  have := (hj.past hok hcl hi hlt hn).2 ci cj h1 h2
  rw [this] at hw; cases hw

theorem Ready.ahead (hok : DOk ops) (hcl : Closed ops X) (hj : Ready ops X j o) {i : Nat} {ci cj : Cl} (hlt : j < i) (h1 : cl ops i = some ci) (h2 : cl ops j = some cj) (hw : mustWait cj ci = true) : ¬ X i := by
  intro hX
  obtain ⟨oi, hi⟩ := DRun.getop (lt_of_cl h1)
  have := (hj.future hok hcl hi hlt hX).2 ci cj h1 h2
  rw [this] at hw; cases hw
end

theorem cl_get (hok : DOk ops) {j : Nat} (hj : j < ops.size) : ∃ c, cl ops j = some c := by
  obtain ⟨o, ho⟩ := DRun.getop hj
  obtain ⟨c, hc⟩ := hok.cls j o ho
  exact ⟨c, by simp [cl, ho, hc]⟩

theorem late' (hok : DOk ops) {i j : Nat} (hlt : i < j) (h1 : cl ops i = some .write) {c : Cl} (h2 : cl ops j = some c) : c = .pure ∨ c = .write := by
  obtain ⟨oi, hi⟩ := DRun.getop (lt_of_cl h1)
  obtain ⟨oj, hj⟩ := DRun.getop (lt_of_cl h2)
  have := hok.late i j oi oj hi hj hlt (by simpa [cl, hi] using h1)
  simp only [cl, hj, Option.bind_some] at h2
  rw [h2] at this
  simpa using this

/-! ### frames -/
structure FInv (ops : Array Oper) (F : Nat → LFr) (S : Nat → LSt) (X : Nat → Prop) (inj : Inj) (a : Act) : Prop where
  size : a.tmps.size = (F 0).n
  done : ∀ i (o : Oper) t, ops[i]? = some o → X i → o.dst = some t → ∀ v, (F (i + 1)).m.get t = some v → VRel (cut inj (S (i + 1)).nxt) v (a.tmps.getD t undef)
  rest : ∀ t, (∀ i (o : Oper), ops[i]? = some o → X i → o.dst ≠ some t) → ∀ v, (F 0).m.get t = some v → VRel (cut inj (S 0).nxt) v (a.tmps.getD t undef)

theorem FInv.slots (D : DRun E call lo ops F S) (hcl : Closed ops X) (hf : FInv ops F S X inj a) {j : Nat} {o : Oper} (hj : Ready ops X j o) {t : Nat} (ht : t ∈ o.looksAt ops) :
    ∀ v, (F j).m.get t = some v → VRel (cut inj (S j).nxt) v (a.tmps.getD t undef) := by
  intro v hv
  have hjs := (Array.getElem?_eq_some_iff.1 hj.op).1
  rcases D.slot t (k := j) (by omega) with ⟨h1, h2⟩ | ⟨i, oi, h1, h2, h3, h4⟩
  · rw [h2] at hv
    refine (hf.rest t (fun i oi hi hX hd => ?_) v hv).mono (cut_mono (Ext.refl _) (D.nxt_le (Nat.zero_le _) (by omega)))
    rcases Nat.lt_trichotomy i j with h | h | h
    · exact h1 i oi h hi hd
    · subst h; exact hj.un hX
    · have := (hj.future D.ok hcl hi h hX).1
      exact (Oper.apart_spec this).2.2 t hd ht
  · rw [h4] at hv
    by_cases hX : X i
    · exact (hf.done i oi t h2 hX h3 v hv).mono (cut_mono (Ext.refl _) (D.nxt_le (by omega) (by omega)))
    · have := (hj.past D.ok hcl h2 h1 hX).1
      exact absurd ht ((Oper.apart_spec this).1 t h3)

theorem FInv.put (D : DRun E call lo ops F S) (hf : FInv ops F S X inj a) {j : Nat} {o : Oper} (hj : Ready ops X j o) (hx : Ext inj inj') {v : LV} {u : Value}
    (ht : (o.dst = none ∧ F (j + 1) = F j) ∨ ∃ d, o.dst = some d ∧ d < (F j).n ∧ F (j + 1) = (F j).put d v) (hv : VRel (cut inj' (S (j + 1)).nxt) v u) :
    FInv ops F S (also X j) inj' (a.put o.dst u) := by
  have hjs := (Array.getElem?_eq_some_iff.1 hj.op).1
  have hne : ∀ {t : Nat}, o.dst ≠ some t → (a.put o.dst u).tmps.getD t undef = a.tmps.getD t undef := fun {t} h => by
    cases hd : o.dst with
    | none => rfl
    | some d =>
      have : d ≠ t := fun e => h (by rw [hd, e])
      simp only [Act.put, Array.getD_eq_getD_getElem?, Array.getElem?_setIfInBounds_ne this]
  refine ⟨?_, ?_, ?_⟩
  · rw [← hf.size]; cases o.dst <;> simp [Act.put]
  · intro i oi t hi hX hd y hy
    rcases hX with hX | rfl
    · have hdt : o.dst ≠ some t := fun e => by
        rcases Nat.lt_trichotomy i j with h | h | h
        · exact D.ok.dsts i j oi o hi hj.op h t hd e
        · subst h; exact hj.un hX
        · exact D.ok.dsts j i o oi hj.op hi h t e hd
      rw [hne hdt]
      exact (hf.done i oi t hi hX hd y hy).mono (cut_mono hx (Nat.le_refl _))
    · rw [hj.op] at hi; simp only [Option.some.injEq] at hi; subst hi
      rcases ht with ⟨h, _⟩ | ⟨d, h1, h2, h3⟩
      · rw [h] at hd; cases hd
      · rw [h1] at hd; simp only [Option.some.injEq] at hd; subst hd
        have hlt : d < a.tmps.size := by rw [hf.size, ← D.frn (k := i) (by omega)]; exact h2
        rw [h3] at hy
        simp only [LFr.put, Mem.get_set_eq, Option.some.injEq] at hy
        subst hy
        rw [h1]
        simp only [Act.put, Array.getD_eq_getD_getElem?]
        simpa [hlt] using hv
  · intro t h y hy
    have hdt : o.dst ≠ some t := h j o hj.op (Or.inr rfl)
    rw [hne hdt]
    exact (hf.rest t (fun i oi hi hX => h i oi hi (Or.inl hX)) y hy).mono (cut_mono hx (Nat.le_refl _))

theorem wanted_slots {fr : LFr} {o : Oper} {b : Bool} (hs : ∀ t ∈ o.looksAt ops, ∀ v, fr.m.get t = some v → VRel inj v (a.tmps.getD t undef)) (h : lwanted ops.toList fr o = some b) :
    Region.wanted o (yielded ops a.tmps) = b :=
  wanted_slot h fun j b g d v hg hj hd hv => hs d (by
    unfold Oper.looksAt
    rw [hg]
    simp [hj, hd]) v hv

theorem XRel.of_slots {fr : LFr} {o : Oper} (hs : ∀ t ∈ o.looksAt ops, ∀ v, fr.m.get t = some v → VRel inj v (a.tmps.getD t undef)) {x : Operand} (hx : x ∈ o.op.operands) : XRel inj fr a x := by
  intro v hv
  cases x with
  | tmp t =>
    simp only [leval] at hv
    refine hs t ?_ v hv
    unfold Oper.looksAt
    simp only [List.mem_append, List.mem_filterMap]
    exact Or.inl ⟨.tmp t, by simpa using hx, rfl⟩
  | const c => exact lift_rel hv
  | global g => simp only [leval, Option.some.injEq] at hv; subst hv; simp only [VRel]; exact ⟨g, rfl, rfl⟩
  | func f => simp only [leval, Option.some.injEq] at hv; subst hv; simp only [VRel]; exact ⟨#[], #[], rfl, by simp [VRels], by simp [VRels]⟩
end
end Go.Proofs.Ytpkeggejofeeeaa.Lvm

namespace Go.Proofs.Ytpkeggejofeeeaa.Lvm

section
variable {E : Env} {B lo : Nat} {call : CallFn} {ops : Array Oper} {F : Nat → LFr} {S : Nat → LSt} {inj0 inj inj' : Inj} {w0 w w' : World} {X : Nat → Prop} {a : Act}

structure At (E : Env) (B lo : Nat) (ops : Array Oper) (S : Nat → LSt) (inj0 : Inj) (w0 : World) (X : Nat → Prop) (inj : Inj) (w : World) (m : Nat) : Prop where
  le : m ≤ ops.size
  done : ∀ i, i < m → cl ops i ≠ some .pure → X i
  not : ∀ i, m ≤ i → i < ops.size → X i → cl ops i = some .pure
  late : ∀ i, m ≤ i → i < ops.size → cl ops i = some .pure ∨ cl ops i = some .write
  rel : Rel E B inj (S m) w
  step : Step lo inj0 (S 0) w0 inj (S m) w

def MInv (E : Env) (B lo : Nat) (ops : Array Oper) (S : Nat → LSt) (inj0 : Inj) (w0 : World) (X : Nat → Prop) (inj : Inj) (w : World) : Prop :=
  (DInv E B lo ops S inj0 w0 X inj w ∧ ∀ i, X i → cl ops i ≠ some .write) ∨ ∃ m, At E B lo ops S inj0 w0 X inj w m

theorem MInv.dom (hE : E.Ok) (h : MInv E B lo ops S inj0 w0 X inj w) : (∀ L q, inj L = some q → B ≤ q.1 ∧ q.1 < w.heap.size) ∧
    (∀ r o v, E.bm r o = some v → r < B ∧ ∃ u, w.cell? ⟨r, o, none⟩ = some u ∧ ∀ i : Inj, VRel i v u) ∧ B ≤ w.heap.size := by
  rcases h with ⟨I, _⟩ | ⟨m, A⟩
  · exact ⟨fun L q hq => ⟨(I.dom L q hq).1, (I.dom L q hq).2.1⟩, I.base, I.low⟩
  · exact ⟨fun L q hq => (A.rel.dom L q hq).2, fun r o v hv => by
      obtain ⟨h1, u, h2, h3⟩ := A.rel.base r o v hv
      exact ⟨h1, u, h2, fun i => hE.base r o v hv _ i u h3⟩, A.rel.low⟩

theorem MInv.leaf (hE : E.Ok) (h : MInv E B lo ops S inj0 w0 X inj w) (n : Nat) : Emb E B (cut inj n) { mem := .leaf, nxt := n } w := by
  obtain ⟨h1, h2, h3⟩ := h.dom hE
  refine ⟨fun L q hq => ⟨(cut_some hq).1, h1 L q (cut_some hq).2⟩, fun L q o _ ho => ?_, fun _ _ => rfl, fun r o v hv => ?_, h3⟩
  · cases ho
  · obtain ⟨g1, u, g2, g3⟩ := h2 r o v hv
    exact ⟨g1, u, g2, g3 _⟩

section
variable {j : Nat} {o : Oper}

theorem no_write_before (D : DRun E call lo ops F S) (_hcl : Closed ops X) (hj : Ready ops X j o) {c : Cl} (hc : cl ops j = some c) (h1 : c ≠ .pure) (h2 : c ≠ .write) : ph1 ops (j + 1) := fun i hi hw => by
  by_cases e : i = j
  · subst e; rw [hc] at hw; simp at hw; exact h2 hw
  · rcases late' D.ok (by omega) hw hc with e | e
    · exact h1 e
    · exact h2 e

theorem grows_before (D : DRun E call lo ops F S) (hcl : Closed ops X) (hj : Ready ops X j o) {c : Cl} (hc : cl ops j = some c) (h1 : c ≠ .pure) {g : Nat} (hg : X g) (hgg : cl ops g = some .grow) : g < j := by
  rcases Nat.lt_trichotomy g j with h | h | h
  · exact h
  · subst h; exact absurd hg hj.un
  · refine absurd hg (hj.ahead D.ok hcl h hgg hc ?_)
    cases c <;> first | exact absurd rfl h1 | rfl

/-- Before a write stands all that touches memory, and nothing of it behind. -/
theorem MInv.at_write (D : DRun E call lo ops F S) (hcl : Closed ops X) (hj : Ready ops X j o) (h : MInv E B lo ops S inj0 w0 X inj w) (hc : cl ops j = some .write) : At E B lo ops S inj0 w0 X inj w j := by
  have hjs := lt_of_cl hc
  have hdone : ∀ i, i < j → cl ops i ≠ some .pure → X i := fun i hi hp => by
    obtain ⟨c, hci⟩ := cl_get D.ok (j := i) (by omega)
    refine hj.waits D.ok hcl hi hci hc ?_
    cases c <;> first | exact absurd hci hp | rfl
  have hnot : ∀ i, j ≤ i → i < ops.size → X i → cl ops i = some .pure := fun i hi hlt hX => by
    obtain ⟨c, hci⟩ := cl_get D.ok hlt
    by_cases e : i = j
    · subst e; exact absurd hX hj.un
    · refine Classical.byContradiction fun hp => ?_
      refine hj.ahead D.ok hcl (i := i) (by omega) hci hc ?_ hX
      cases c <;> first | exact absurd hci hp | rfl
  have hlate : ∀ i, j ≤ i → i < ops.size → cl ops i = some .pure ∨ cl ops i = some .write := fun i hi hlt => by
    by_cases e : i = j
    · subst e; exact Or.inr hc
    · obtain ⟨c, hci⟩ := cl_get D.ok hlt
      rcases late' D.ok (i := j) (by omega) hc hci with e | e <;> subst e
      · exact Or.inl hci
      · exact Or.inr hci
  rcases h with ⟨I, hnw⟩ | ⟨m, A⟩
  · have hp : ph1 ops j := fun i hi hw => hnw i (hdone i hi (by rw [hw]; simp)) hw
    obtain ⟨h1, h2⟩ := I.toRel D (by omega) hp hdone hnot
    exact ⟨by omega, hdone, hnot, hlate, h1, h2⟩
  · have hmj : m ≤ j := Nat.le_of_not_lt fun h => hj.un (A.done j h (by rw [hc]; simp))
    have hsame : S j = S m := D.pure_run hmj (by omega) fun i h1 h2 => by
      refine Classical.byContradiction fun hp => ?_
      exact hp (A.not i h1 (by omega) (hdone i h2 hp))
    exact ⟨by omega, hdone, hnot, hlate, by rw [hsame]; exact A.rel, by rw [hsame]; exact A.step⟩

theorem At.next (_D : DRun E call lo ops F S) (_hcl : Closed ops X) (_hj : Ready ops X j o) (A : At E B lo ops S inj0 w0 X inj w j) (hjs : j < ops.size) (hr : Rel E B inj' (S (j + 1)) w') (hs : Step lo inj (S j) w inj' (S (j + 1)) w') :
    At E B lo ops S inj0 w0 (also X j) inj' w' (j + 1) where
  le := hjs
  done := fun i hi hp => by
    by_cases e : i = j
    · exact Or.inr e
    · exact Or.inl (A.done i (by omega) hp)
  not := fun i hi hlt hX => by
    rcases hX with hX | e
    · exact A.not i (by omega) hlt hX
    · omega
  late := fun i hi hlt => A.late i (by omega) hlt
  rel := hr
  step := A.step.trans hs

theorem MInv.same (D : DRun E call lo ops F S) (hcl : Closed ops X) (hj : Ready ops X j o) (h : MInv E B lo ops S inj0 w0 X inj w) (hs : S (j + 1) = S j) : MInv E B lo ops S inj0 w0 (also X j) inj w := by
  have hjs := (Array.getElem?_eq_some_iff.1 hj.op).1
  by_cases hc : cl ops j = some .write
  · have A := h.at_write D hcl hj hc
    refine Or.inr ⟨j + 1, A.next D hcl hj hjs (by rw [hs]; exact A.rel) (by rw [hs]; exact Step.refl)⟩
  · rcases h with ⟨I, hnw⟩ | ⟨m, A⟩
    · refine Or.inl ⟨I.skip D hjs hs, fun i hi => ?_⟩
      rcases hi with hi | rfl
      · exact hnw i hi
      · exact hc
    · refine Or.inr ⟨m, A.le, fun i hi hp => Or.inl (A.done i hi hp), fun i hi hlt hX => ?_, A.late, A.rel, A.step⟩
      rcases hX with hX | rfl
      · exact A.not i hi hlt hX
      · exact (A.late i hi hlt).resolve_right hc

/-- Reading, making and calling: before all writes. -/
theorem MInv.early (_D : DRun E call lo ops F S) (_hcl : Closed ops X) (hj : Ready ops X j o) (h : MInv E B lo ops S inj0 w0 X inj w) {c : Cl} (hc : cl ops j = some c) (h1 : c ≠ .pure) (h2 : c ≠ .write) :
    DInv E B lo ops S inj0 w0 X inj w ∧ ∀ i, X i → cl ops i ≠ some .write := by
  rcases h with h | ⟨m, A⟩
  · exact h
  · have hjs := lt_of_cl hc
    rcases Nat.lt_or_ge j m with h | h
    · refine absurd (A.done j h ?_) hj.un
      rw [hc]; simpa using h1
    · rcases A.late j h hjs with e | e <;> rw [hc] at e <;> simp at e
      · exact absurd e h1
      · exact absurd e h2

theorem DInv.relCut (D : DRun E call lo ops F S) (_hcl : Closed ops X) (_hj : Ready ops X j o) (I : DInv E B lo ops S inj0 w0 X inj w) (hjs : j < ops.size) (hp : ph1 ops j) (hg : ∀ g, X g → cl ops g = some .grow → g < j)
    (hdone : ∀ i, i < j → (S i).nxt < (S (i + 1)).nxt → X i) : Rel E B (cut inj (S j).nxt) (S j) w := by
  refine ⟨I.emb D (by omega) hp hg, ?_, ?_⟩
  · intro L hl
    have hlt := D.live_lt (k := j) (by omega) hl
    have : ∃ q, inj L = some q := by
      rcases DRun.born (S := S) (ops := ops) (k := j) (by omega) hlt with h | ⟨i, him, h1, h2⟩
      · exact I.full0 L (D.live_back (Nat.zero_le _) (by omega) hp h hl)
      · exact I.full i (hdone i him (by omega)) (by omega) L h1 (D.live_back (i := i + 1) (by omega) (by omega) hp h2 hl)
    rw [cut_lt hlt]; exact this
  · intro L L' q q' h h' hq hq' he
    have halv : ∀ L, live (S j) L → aliveX ops S X L := fun L hl => ⟨j, by omega, hp, hl, fun g h1 h2 _ => hg g h1 h2⟩
    exact I.uniq L L' q q' (halv L h) (halv L' h') (cut_some hq).2 (cut_some hq').2 he

theorem grow_of_dead (D : DRun E call lo ops F S) (_hcl : Closed ops X) (_hj : Ready ops X j o) (hjs : j < ops.size) (hw : cl ops j ≠ some .write) {L : Nat} {cs : List LV} (h3 : (S j).mem.get L = some (.cells cs)) (h : (S (j + 1)).mem.get L = some .dead) : cl ops j = some .grow := by
  have hl : live (S j) L := ⟨_, h3, by simp⟩
  rcases D.step_mem hjs hw (D.live_lt (by omega) hl) with e | ⟨e, _⟩
  · rw [e, h3] at h; simp at h
  · exact e

theorem MInv.light (D : DRun E call lo ops F S) (hcl : Closed ops X) (hj : Ready ops X j o) (h : MInv E B lo ops S inj0 w0 X inj w) {c : Cl} (hc : cl ops j = some c) (h1 : c ≠ .pure) (h2 : c ≠ .write) (_h3 : c ≠ .call) {v : LV} {s : Sem Next}
    (hnr : ∀ i, i < j → c = .grow → (S i).nxt < (S (i + 1)).nxt → X i)
    (hl : LOut E (cut inj (S j).nxt) lo true false (S j) w v (S (j + 1)) s) :
    ∃ n u w' inj', NextIs n u ∧ s.run E.P w = .ok n w' ∧ Ext inj inj' ∧ VRel (cut inj' (S (j + 1)).nxt) v u ∧ MInv E B lo ops S inj0 w0 (also X j) inj' w' := by
  have hjs := lt_of_cl hc
  have hp := no_write_before D hcl hj hc h1 h2
  have hg : ∀ g, X g → cl ops g = some .grow → g < j := fun g => grows_before D hcl hj hc h1
  obtain ⟨I, hnw⟩ := h.early D hcl hj hc h1 h2
  have hcw : cl ops j ≠ some .write := by rw [hc]; simpa using h2
  have hnw' : ∀ i, also X j i → cl ops i ≠ some .write := fun i hi => by
    rcases hi with hi | rfl
    · exact hnw i hi
    · exact hcw
  have hemb := I.emb D (k := j) (by omega) (fun i hi => hp i (by omega)) hg
  have hS := D.nxt_le (i := j) (k := j + 1) (by omega) (by omega)
  cases hl with
  | same hs n u hn hrun hv =>
    exact ⟨n, u, w, inj, hn, hrun, Ext.refl _, hv.mono (cut_mono (Ext.refl _) hS), h.same D hcl hj hs⟩
  | store hcc => exact absurd (hcc rfl) (by simp)
  | fresh o' ob cnt n u w' hn h1' hrun h8 h9 h10 =>
    have hx0 := injAt_ext hemb (w.heap.size, cnt)
    obtain ⟨k1, k2⟩ := h10 _ hx0 (by simp [injAt])
    have hnx : (S (j + 1)).nxt = (S j).nxt + 1 := by rw [h1']; rfl
    have ha : Emb E B (cut (injAt inj (S j).nxt (w.heap.size, cnt)) (S (j + 1)).nxt) (S (j + 1)) w' := by
      rw [hnx, cut_injAt, h1']; exact hemb.fresh h8 k2
    have hb : ∀ L, ¬((S j).nxt ≤ L ∧ L < (S (j + 1)).nxt) → injAt inj (S j).nxt (w.heap.size, cnt) L = inj L := fun L hL => by
      simp only [injAt]; rw [if_neg]; rintro rfl; rw [hnx] at hL; omega
    have heq : ∀ L, (S j).nxt ≤ L → live (S (j + 1)) L → L = (S j).nxt := fun L hL hl => by
      have := D.live_lt (k := j + 1) (by omega) hl; omega
    refine ⟨n, u, w', injAt inj (S j).nxt (w.heap.size, cnt), hn, hrun, I.inj_ext D hjs hj.un hb, by rw [hnx, cut_injAt]; exact k1, Or.inl ⟨?_, hnw'⟩⟩
    refine I.adv D hjs hp hj.un hg hb ha (fun b hb' => Or.inl (push_old h8 hb')) (by rw [h8]; simp) ?_ ?_ ?_ h9
    · intro L q hL hl hq
      rw [heq L hL hl] at hq; simp [injAt] at hq; subst hq; exact Or.inl (Nat.le_refl _)
    · intro L hL hl; rw [heq L hL hl]; exact ⟨_, if_pos rfl⟩
    · intro L L' q q' hL hL' hl hl' _ _ _; rw [heq L hL hl, heq L' hL' hl']
  | grow L0 q0 cs cs' n u w' hn g1 g2 g3 g6 hrun g9 g8 =>
    have hlv : live (S j) L0 := ⟨_, g3, by simp⟩
    have hlt0 := D.live_lt (k := j) (by omega) hlv
    have hdead : (S (j + 1)).mem.get L0 = some .dead := by
      rw [g6]; simp only [newB, Mem.get_set]; rw [if_neg (by omega)]; simp
    have hgr := grow_of_dead D hcl hj hjs hcw g3 hdead
    have hcg : c = .grow := by rw [hc] at hgr; simpa using hgr
    have hrel := I.relCut D hcl hj hjs (fun i hi => hp i (by omega)) hg (fun i hi h => hnr i hi hcg h)
    have hnx : (S (j + 1)).nxt = (S j).nxt + 1 := by rw [g6]; rfl
    have hlo := (D.both j (by omega)).2.2.1
    have heq : ∀ L, (S j).nxt ≤ L → live (S (j + 1)) L → L = (S j).nxt := fun L hL hl => by
      have := D.live_lt (k := j + 1) (by omega) hl; omega
    have hbAny : ∀ q L, ¬((S j).nxt ≤ L ∧ L < (S (j + 1)).nxt) → injAt inj (S j).nxt q L = inj L := fun q L hL => by
      simp only [injAt]; rw [if_neg]; rintro rfl; rw [hnx] at hL; omega
    rcases g8 with ⟨ob, cnt, h8, h10⟩ | ⟨ob, h8, _, h10⟩
    · have hk := kill_step hrel g2
      have hx0 := injAt_ext hrel.toEmb (w.heap.size, cnt)
      obtain ⟨k1, k2⟩ := h10 _ hx0 (by simp [injAt])
      have ha0 := (fresh_step (lo := lo) hk hlo h8 g9 k2).1.toEmb
      have ha : Emb E B (cut (injAt inj (S j).nxt (w.heap.size, cnt)) (S (j + 1)).nxt) (S (j + 1)) w' := by
        rw [hnx, cut_injAt, g6]; exact ha0
      refine ⟨n, u, w', injAt inj (S j).nxt (w.heap.size, cnt), hn, hrun, I.inj_ext D hjs hj.un (hbAny _), by rw [hnx, cut_injAt]; exact k1, Or.inl ⟨?_, hnw'⟩⟩
      refine I.adv D hjs hp hj.un hg (hbAny _) ha (fun b hb' => Or.inl (push_old h8 hb')) (by rw [h8]; simp) ?_ ?_ ?_ g9
      · intro L q hL hl hq
        rw [heq L hL hl] at hq; simp [injAt] at hq; subst hq; exact Or.inl (Nat.le_refl _)
      · intro L hL hl; rw [heq L hL hl]; exact ⟨_, if_pos rfl⟩
      · intro L L' q q' hL hL' hl hl' _ _ _; rw [heq L hL hl, heq L' hL' hl']
    · have hx0 := injAt_ext hrel.toEmb q0
      obtain ⟨k1, k2⟩ := h10 _ hx0 (by simp [injAt])
      have ha0 := (grow_step hrel hlo g1 g2 g3 h8 g9 k2).1.toEmb
      have ha : Emb E B (cut (injAt inj (S j).nxt q0) (S (j + 1)).nxt) (S (j + 1)) w' := by
        rw [hnx, cut_injAt, g6]; exact ha0
      have hK : Kb lo ops S inj j q0.1 := ⟨hgr, L0, q0, g1, hlt0, hlv, hdead, (cut_some g2).2, rfl⟩
      refine ⟨n, u, w', injAt inj (S j).nxt q0, hn, hrun, I.inj_ext D hjs hj.un (hbAny _), by rw [hnx, cut_injAt]; exact k1, Or.inl ⟨?_, hnw'⟩⟩
      refine I.adv D hjs hp hj.un hg (hbAny _) ha (fun b hb' => ?_) (by rw [h8]; simp) ?_ ?_ ?_ g9
      · by_cases e : q0.1 = b
        · subst e; exact Or.inr hK
        · exact Or.inl (set_old h8 e)
      · intro L q hL hl hq
        rw [heq L hL hl] at hq; simp [injAt] at hq; subst hq; exact Or.inr hK
      · intro L hL hl; rw [heq L hL hl]; exact ⟨_, if_pos rfl⟩
      · intro L L' q q' hL hL' hl hl' _ _ _; rw [heq L hL hl, heq L' hL' hl']
end
end
end Go.Proofs.Ytpkeggejofeeeaa.Lvm

namespace Go.Proofs.Ytpkeggejofeeeaa.Lvm

theorem isCallV_of {op : Op} {c : Cl} (h : clOf op = some c) (hc : c ≠ .call) : isCallV op = false := by
  cases op <;> try rfl
  rename_i k
  obtain ⟨callee, args, argTypes⟩ := k
  cases callee with
  | value f => simp only [clOf, Option.some.injEq] at h; exact absurd h.symm hc
  | invoke r m => rfl
  | builtin b => rfl

theorem isWrite_of {op : Op} {c : Cl} (h : clOf op = some c) (hc : c ≠ .write) : isWrite op = false := by
  cases op <;> first | rfl | (simp only [clOf, Option.some.injEq] at h; exact absurd h.symm hc)

section
variable {E : Env} {B lo : Nat} {call : CallFn} {ops : Array Oper} {F : Nat → LFr} {S : Nat → LSt} {inj0 inj inj' : Inj} {w0 w w' : World} {X : Nat → Prop} {a : Act}

/-- A call under its own barrier. -/
def CallHere (E : Env) (B : Nat) (call : CallFn) : Prop := ∀ lo f args st r st', call lo f args st = some (r, st') →
  ∀ (inj : Inj) (w : World) (args' : Array Value), Rel E B inj st w → VRels inj args args'.toList →
    (callFunc f args').run E.P w = .ok (.enter f args') w ∧
    Calls E.P f args' w fun e w' => ∃ u inj', e = .returned u ∧ VRel inj' r u ∧ Rel E B inj' st' w' ∧ Step st.nxt inj st w inj' st' w'

theorem wp_next {o : Oper} {K : Act → World → Prop} {Q : Exit → Act → World → Prop} {n : Next} {u : Value} (hn : NextIs n u) (hrun : (execOp a.eval o).run E.P w = .ok n w')
    (h : K (a.put o.dst u) w') : o.wp E.P a w K Q := by
  unfold Oper.wp
  rw [hrun]
  rcases hn with rfl | ⟨rfl, rfl⟩ <;> exact h

variable {j : Nat} {o : Oper}

/-- A call has come back. -/
theorem MInv.called (D : DRun E call lo ops F S) (hcl : Closed ops X) (hj : Ready ops X j o) (h : MInv E B lo ops S inj0 w0 X inj w) (hc : cl ops j = some .call)
    (hs : Step (S j).nxt (cut inj (S j).nxt) (S j) w inj' (S (j + 1)) w') (hr' : Rel E B inj' (S (j + 1)) w') :
    ∃ inj2, Ext inj inj2 ∧ cut inj2 (S (j + 1)).nxt = inj' ∧ MInv E B lo ops S inj0 w0 (also X j) inj2 w' := by
  have hjs := lt_of_cl hc
  have hp := no_write_before D hcl hj hc (by simp) (by simp)
  have hg : ∀ g, X g → cl ops g = some .grow → g < j := fun g => grows_before D hcl hj hc (by simp)
  obtain ⟨I, hnw⟩ := h.early D hcl hj hc (by simp) (by simp)
  have hnw' : ∀ i, also X j i → cl ops i ≠ some .write := fun i hi => by
    rcases hi with hi | rfl
    · exact hnw i hi
    · rw [hc]; simp
  have hS := D.nxt_le (i := j) (k := j + 1) (by omega) (by omega)
  let inj2 : Inj := fun L => if (S j).nxt ≤ L ∧ L < (S (j + 1)).nxt then inj' L else inj L
  have hb : ∀ L, ¬((S j).nxt ≤ L ∧ L < (S (j + 1)).nxt) → inj2 L = inj L := fun L hL => if_neg hL
  have hn : ∀ L, (S j).nxt ≤ L → L < (S (j + 1)).nxt → inj2 L = inj' L := fun L h1 h2 => if_pos ⟨h1, h2⟩
  have hcut : cut inj2 (S (j + 1)).nxt = inj' := by
    funext L
    by_cases h1 : L < (S (j + 1)).nxt
    · rw [cut_lt h1]
      by_cases h2 : (S j).nxt ≤ L
      · exact hn L h2 h1
      · rw [hb L (by omega), hs.ext L (by omega), cut_lt (by omega)]
    · simp only [cut]; rw [if_neg h1]
      cases hq : inj' L with
      | none => rfl
      | some q => exact absurd (hr'.dom L q hq).1 h1
  have hlt : ∀ {L}, live (S (j + 1)) L → L < (S (j + 1)).nxt := fun hl => D.live_lt (by omega) hl
  refine ⟨inj2, I.inj_ext D hjs hj.un hb, hcut, Or.inl ⟨?_, hnw'⟩⟩
  refine I.adv D hjs hp hj.un hg hb (by rw [hcut]; exact hr'.toEmb) (fun b hb' => Or.inl (hs.keep b hb' fun L q hL hl _ => ?_)) hs.size ?_ ?_ ?_ hs.al
  · have := D.live_lt (k := j) (by omega) hl; omega
  · intro L q hL hl hq
    rw [hn L hL (hlt hl)] at hq
    rcases hs.orig L q hL hl hq with e | ⟨L0, q0, g1, g2, _⟩
    · exact Or.inl e
    · have := D.live_lt (k := j) (by omega) g2; omega
  · intro L hL hl
    rw [hn L hL (hlt hl)]; exact hr'.full L hl
  · intro L L' q q' hL hL' hl hl' hq hq' he
    rw [hn L hL (hlt hl)] at hq; rw [hn L' hL' (hlt hl')] at hq'
    exact hr'.uniq L L' q q' hl hl' hq hq' he

theorem oper_draw (hE : E.Ok) (D : DRun E call lo ops F S) (hcl : Closed ops X) (hj : Ready ops X j o) (hcall : CallHere E B call) (hM : MInv E B lo ops S inj0 w0 X inj w) (hf : FInv ops F S X inj a) (hd : a.defers = []) {K : Act → World → Prop} {Q : Exit → Act → World → Prop}
    (hK : ∀ inj' a' w', MInv E B lo ops S inj0 w0 (also X j) inj' w' → FInv ops F S (also X j) inj' a' → a'.defers = [] → K a' w') : wpOp E.P ops Q j K a w := by
  have hjs := (Array.getElem?_eq_some_iff.1 hj.op).1
  have hS := D.nxt_le (i := j) (k := j + 1) (by omega) (by omega)
  have hs : ∀ t ∈ o.looksAt ops, ∀ v, (F j).m.get t = some v → VRel (cut inj (S j).nxt) v (a.tmps.getD t undef) := fun t ht => hf.slots D hcl hj ht
  have hxr : ∀ x ∈ o.op.operands, XRel (cut inj (S j).nxt) (F j) a x := fun x hx => XRel.of_slots hs hx
  unfold wpOp
  simp only [hj.op]
  obtain ⟨v, ht, ⟨hw, hv⟩ | ⟨hw, rfl, hsame⟩⟩ := D.tr j o hj.op
  · rw [wanted_slots hs hw]
    simp only [if_true]
    left
    obtain ⟨c, hc⟩ := D.ok.cls j o hj.op
    have hc' : cl ops j = some c := by simp [cl, hj.op, hc]
    by_cases hpure : c = .pure
    · subst hpure
      have hsame := D.pure_same hjs hc'
      have hv2 := vop_pure hc hv { mem := .leaf, nxt := (S j).nxt }
      have hl := vop_light hE (hM.leaf hE (S j).nxt) hxr (isCallV_of hc (by simp)) hv2
      cases hl with
      | same _ n u hn hrun hvr =>
        exact wp_next hn hrun (hK inj _ w (hM.same D hcl hj hsame) (hf.put D hj (Ext.refl _) ht (hvr.mono (cut_mono (Ext.refl _) hS))) (by rw [put_defers]; exact hd))
      | fresh o' ob cnt n u w' hn h1 => have := congrArg LSt.nxt h1; simp [newB] at this
      | store hcc => have := hcc rfl; rw [isWrite_of hc (by simp)] at this; cases this
      | grow L0 q0 cs cs' n u w' hn g1 g2 g3 g6 => have := congrArg LSt.nxt g6; simp [newB] at this
    · by_cases hwr : c = .write
      · subst hwr
        have A := hM.at_write D hcl hj hc'
        have hl := vop_light hE (A.rel.toEmb) (fun x hx y hy => (hxr x hx y hy).mono (cut_ext _ _)) (isCallV_of hc (by simp)) hv
        obtain ⟨n, u, w', inj', hn, hrun, hvr, hr', hs'⟩ := hl.step A.rel (D.both j (by omega)).2.2.1
        refine wp_next hn hrun (hK inj' _ w' (Or.inr ⟨j + 1, A.next D hcl hj hjs hr' hs'⟩) (hf.put D hj (hs'.toExt A.rel.toEmb) ht (hvr.mono fun L q hq => ?_)) (by rw [put_defers]; exact hd))
        rw [cut_lt (hr'.dom L q hq).1]; exact hq
      · have hp := no_write_before D hcl hj hc' hpure hwr
        have hg : ∀ g, X g → cl ops g = some .grow → g < j := fun g => grows_before D hcl hj hc' hpure
        obtain ⟨I, hnw⟩ := hM.early D hcl hj hc' hpure hwr
        have hnp : ∀ i, i < j → (S i).nxt < (S (i + 1)).nxt → ∃ ci, cl ops i = some ci ∧ ci ≠ .pure ∧ ci ≠ .read := fun i hi hlt => by
          obtain ⟨ci, hci⟩ := cl_get D.ok (j := i) (by omega)
          refine ⟨ci, hci, fun e => ?_, fun e => ?_⟩
          · subst e; rw [D.pure_same (by omega) hci] at hlt; omega
          · subst e
            obtain ⟨oi, hoi⟩ := DRun.getop (j := i) (ops := ops) (by omega)
            rw [DRun.cl_some hoi] at hci
            obtain ⟨v', _, ⟨_, h'⟩ | ⟨_, _, h'⟩⟩ := D.tr i oi hoi
            · rw [show S (i + 1) = S i from vop_eff hci h'] at hlt; omega
            · rw [h'] at hlt; omega
        by_cases hcc : c = .call
        · subst hcc
          have hrel := I.relCut D hcl hj hjs (fun i hi => hp i (by omega)) hg fun i hi hlt => by
            obtain ⟨ci, hci, h1, h2⟩ := hnp i hi hlt
            refine hj.waits D.ok hcl hi hci hc' ?_
            cases ci <;> first | exact absurd rfl h1 | exact absurd rfl h2 | rfl
          obtain ⟨k, f, hk, hkf⟩ := clOf_call hc
          have hv' := hv
          rw [hk] at hv'
          simp only [vop] at hv'
          obtain ⟨vs, g, first, cap, hvs, hgf, hcl'⟩ := opCall_value hkf hv'
          have hops : ∀ x, x ∈ k.operands → XRel (cut inj (S j).nxt) (F j) a x := fun x hx => hxr x (by rw [hk]; exact hx)
          have hxf := hops f (by simp [Call.operands, hkf]) _ hgf
          simp only [VRel] at hxf
          obtain ⟨fs, cs, hfe, hr1, hr2⟩ := hxf
          have hargs := levals_rel (a := a) (fun x hx => hops x (by simp only [Call.operands, Array.mem_append]; exact Or.inr (by simpa using hx))) hvs
          have hall : VRels (cut inj (S j).nxt) ((first ++ vs) ++ cap) ((fs ++ k.args.map a.eval) ++ cs).toList := by
            simpa using (hr1.append hargs).append hr2
          obtain ⟨hcf, hcalls⟩ := hcall lo g _ (S j) v (S (j + 1)) hcl' _ w _ hrel hall
          have hrun : (execOp a.eval o).run E.P w = .ok (.enter g ((fs ++ k.args.map a.eval) ++ cs)) w := by
            simp only [execOp, hk, resolve, hkf, hfe, Deferred.ofValue, pure_bind, invoke]
            exact hcf
          unfold Oper.wp
          rw [hrun, Oper.upon_enter]
          refine hcalls.mono fun e w' he => ?_
          obtain ⟨u, inj', rfl, hvr, hr', hs'⟩ := he
          obtain ⟨inj2, hx2, hcut, hM'⟩ := hM.called D hcl hj hc' hs' hr'
          exact hK inj2 _ w' hM' (hf.put D hj hx2 ht (by rw [hcut]; exact hvr)) (by rw [put_defers]; exact hd)
        · have hl := vop_light hE (I.emb D (k := j) (by omega) (fun i hi => hp i (by omega)) hg) hxr (isCallV_of hc hcc) hv
          rw [isWrite_of hc hwr] at hl
          obtain ⟨n, u, w', inj', hn, hrun, hx, hvr, hM'⟩ := hM.light D hcl hj hc' hpure hwr hcc (fun i hi hcg hlt => by
            subst hcg
            obtain ⟨ci, hci, h1, h2⟩ := hnp i hi hlt
            refine hj.waits D.ok hcl hi hci hc' ?_
            cases ci <;> first | exact absurd rfl h1 | rfl) hl
          exact wp_next hn hrun (hK inj' _ w' hM' (hf.put D hj hx ht hvr) (by rw [put_defers]; exact hd))
  · rw [wanted_slots hs hw]
    simp only [Bool.false_eq_true, if_false]
    exact hK inj _ w (hM.same D hcl hj hsame) (hf.put D hj (Ext.refl _) ht VRel.undef) (by rw [put_defers]; exact hd)
end

section
variable {E : Env} {B lo : Nat} {call : CallFn} {ops : Array Oper} {F : Nat → LFr} {S : Nat → LSt} {inj0 : Inj} {w0 : World}

theorem any_draw (hE : E.Ok) (D : DRun E call lo ops F S) (hcall : CallHere E B call) {Q : Exit → Act → World → Prop}
    (hQ : ∀ inj' a' w', Step lo inj0 (S 0) w0 inj' (S ops.size) w' → Rel E B inj' (S ops.size) w' → FRel inj' (F ops.size) a'.tmps → a'.defers = [] → Q .normal a' w') :
    ∀ (fuel : Nat) (listed : Array Bool) (l : List Nat) (inj : Inj) (w : World) (a : Act), l.length ≤ fuel → (∀ i, i < ops.size → listed.getD i true = false → i ∈ l) → listed.size = ops.size →
      Closed ops (fun i => listed.getD i false = true) → MInv E B lo ops S inj0 w0 (fun i => listed.getD i false = true) inj w → FInv ops F S (fun i => listed.getD i false = true) inj a → a.defers = [] →
      wpAny E.P .any ops Q fuel listed a w := by
  have fin : ∀ (listed : Array Bool) (inj : Inj) (w : World) (a : Act), listed.size = ops.size → Region.ready .any ops listed = [] →
      MInv E B lo ops S inj0 w0 (fun i => listed.getD i false = true) inj w → FInv ops F S (fun i => listed.getD i false = true) inj a → a.defers = [] → Q .normal a w := by
    intro listed inj w a hsz hr hM hf hd
    have hall : ∀ i, i < ops.size → listed.getD i false = true := by
      intro i
      induction i using Nat.strongRecOn with
      | _ i ih =>
        intro hi
        refine Classical.byContradiction fun hn => ?_
        obtain ⟨o, ho⟩ := DRun.getop hi
        have : i ∈ Region.ready .any ops listed := mem_ready.2 ⟨by
          have hlt : i < listed.size := by omega
          simp only [Array.getD_eq_getD_getElem?, Array.getElem?_eq_getElem hlt, Option.getD_some] at hn ⊢
          simpa using hn, o, ho, fun e he hb => ih e.on (D.ok.back i o ho e he hb) (by have := D.ok.back i o ho e he hb; omega)⟩
        rw [hr] at this; cases this
    have hR : Rel E B inj (S ops.size) w ∧ Step lo inj0 (S 0) w0 inj (S ops.size) w := by
      rcases hM with ⟨I, hnw⟩ | ⟨m, A⟩
      · exact I.toRel D (Nat.le_refl _) (fun i hi => hnw i (hall i hi)) (fun i hi _ => hall i hi) (fun i h1 h2 => by omega)
      · have : S ops.size = S m := D.pure_run A.le (Nat.le_refl _) fun i h1 h2 => A.not i h1 h2 (hall i h2)
        rw [this]; exact ⟨A.rel, A.step⟩
    refine hQ inj a w hR.2 hR.1 ⟨by rw [hf.size, D.frn (Nat.le_refl _)], fun t v hv => ?_⟩ hd
    rcases D.slot t (k := ops.size) (Nat.le_refl _) with ⟨h1, h2⟩ | ⟨i, oi, h1, h2, h3, h4⟩
    · rw [h2] at hv
      exact (hf.rest t (fun i oi hi _ => h1 i oi (Array.getElem?_eq_some_iff.1 hi).1 hi) v hv).mono (cut_ext _ _)
    · rw [h4] at hv; exact (hf.done i oi t h2 (hall i h1) h3 v hv).mono (cut_ext _ _)
  intro fuel
  induction fuel with
  | zero =>
    intro listed l inj w a hl hmem hsz hcl hM hf hd
    have hr : Region.ready .any ops listed = [] := by
      refine List.eq_nil_iff_forall_not_mem.2 fun i hi => ?_
      obtain ⟨h0, o, ho, _⟩ := mem_ready.1 hi
      have := hmem i (Array.getElem?_eq_some_iff.1 ho).1 h0
      simp at hl; subst hl; cases this
    exact ⟨hr, fin listed inj w a hsz hr hM hf hd⟩
  | succ fuel ih =>
    intro listed l inj w a hl hmem hsz hcl hM hf hd
    refine ⟨fun hr => fin listed inj w a hsz hr hM hf hd, fun j hj => ?_⟩
    obtain ⟨h0, o, ho, hall⟩ := mem_ready.1 hj
    have hjs := (Array.getElem?_eq_some_iff.1 ho).1
    have hun : ¬ listed.getD j false = true := by
      have hlt : j < listed.size := by omega
      simp only [Array.getD_eq_getD_getElem?, Array.getElem?_eq_getElem hlt, Option.getD_some] at h0 ⊢
      simp [h0]
    have hready : Ready ops (fun i => listed.getD i false = true) j o := ⟨ho, hun, hall⟩
    have hX : (fun i => (listed.setIfInBounds j true).getD i false = true) = also (fun i => listed.getD i false = true) j := by
      funext i
      simp only [also, eq_iff_iff]
      by_cases e : j = i
      · subst e
        have hlt : j < listed.size := by omega
        simp [hlt]
      · rw [getD_set_ne false e]
        exact ⟨Or.inl, fun h => h.resolve_right fun e' => e e'.symm⟩
    refine oper_draw hE D hcl hready hcall hM hf hd fun inj' a' w' hM' hf' hd' => ?_
    refine ih (listed.setIfInBounds j true) (l.erase j) inj' w' a' ?_ ?_ (by simpa using hsz) ?_ (by rw [hX]; exact hM') (by rw [hX]; exact hf') hd'
    · rw [List.length_erase_of_mem (hmem j hjs h0)]; omega
    · intro i hi hun'
      by_cases e : j = i
      · subst e
        have hlt : j < listed.size := by omega
        simp [hlt] at hun'
      · rw [getD_set_ne true e] at hun'
        exact (List.mem_erase_of_ne (Ne.symm e)).2 (hmem i hi hun')
    · rw [hX]
      intro i oi hi hXi e he hb
      rcases hXi with hXi | rfl
      · exact Or.inl (hcl i oi hi hXi e he hb)
      · rw [ho] at hi; simp only [Option.some.injEq] at hi; subst hi
        exact Or.inl (hall e he hb)

theorem draw_sound (hE : E.Ok) (hext : ExtEff E) : DrawSound E B := by
  intro n hcall lo ops fr st fr' st' h id inj w a hr hlo hf hd Q hQ
  have hce := vcall_eff (vcode_eff hext n) hext
  unfold vregion at h
  simp only [cond_true] at h
  cases hdo : drawOk ops with
  | false => rw [hdo] at h; simp at h
  | true =>
    rw [hdo] at h; simp only [cond_true] at h
    obtain ⟨F, S, rfl, rfl, hF, hS, htr⟩ := vOpers_run _ _ _ _ _ h
    simp only [Array.length_toList] at hF hS
    have D : DRun E (fun _ f args st => vcall E (vcode E n) st.nxt f args st) lo ops F S :=
      ⟨fun j o ho => htr j o (by simpa using ho), drawOk_spec hdo, hce.drawn, fun _ f args st r st' hc hn => hce st.nxt f args st r st' hc (Nat.le_refl _) hn, hr.new, hlo⟩
    have hch : CallHere E B (fun _ f args st => vcall E (vcode E n) st.nxt f args st) := fun _ f args st r st' hc inj w args' hr' hv =>
      hcall st.nxt f args st r st' hc inj w args' hr' (Nat.le_refl _) hv
    refine wp_region_any hE.mixed ?_
    have hr1 : Rel E B inj (S 0) { w with drawn := w.drawn + 1 } := hr.heap rfl
    refine any_draw hE (inj0 := inj) (w0 := { w with drawn := w.drawn + 1 }) (B := B) D hch (fun inj' a' w' hs' hr' hf' hd' => ?_) ops.size _ (List.range ops.size) inj _ a (by simp) (fun i hi _ => by simpa using hi) (by simp) ?_ (Or.inl ⟨?_, ?_⟩) ?_ hd
    · refine hQ inj' a' w' ?_ (by rw [← hS]; exact hr') (by rw [← hF]; exact hf') hd'
      rw [← hS]
      exact ⟨hs'.ext, hs'.nxt, hs'.size, hs'.keep, hs'.orig, hs'.old, ⟨hs'.al.os, hs'.al.tape, hs'.al.output⟩⟩
    · intro j o _ hX
      simp only [Array.getD_eq_getD_getElem?, Array.getElem?_replicate] at hX
      split at hX <;> simp at hX
    · have := DInv.start hE D hr1
      have e : (fun i => (Array.replicate ops.size false).getD i false = true) = (fun _ : Nat => False) := by
        funext i
        simp only [Array.getD_eq_getD_getElem?, Array.getElem?_replicate, eq_iff_iff, iff_false]
        split <;> simp
      rw [e]; exact this
    · intro i hX
      simp only [Array.getD_eq_getD_getElem?, Array.getElem?_replicate] at hX
      split at hX <;> simp at hX
    · refine ⟨hf.1, fun i o t _ hX => ?_, fun t _ => ?_⟩
      · simp only [Array.getD_eq_getD_getElem?, Array.getElem?_replicate] at hX
        split at hX <;> simp at hX
      · intro v hv
        refine (hf.2 t v hv).mono fun L q hq => ?_
        rw [cut_lt (hr.dom L q hq).1]; exact hq

/-- The small machine's calls are the model's. -/
theorem vrun_sound (hE : E.Ok) (hx1 : ExtSound E B) (hx2 : ExtEff E) (hw : WalkSound E B) (n : Nat) : CallSound E B (vrun E n) :=
  vcall_sound hE (vcode_sound hE hx1 (draw_sound hE hx2) hw n).1 hx1
end
end Go.Proofs.Ytpkeggejofeeeaa.Lvm
