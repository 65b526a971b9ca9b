/- Laws of the small machine and of how it stands to the model; a helper of the statements: no statement is proved here. -/
import Derived.Test.YtpkeggejofeeeaaS16
namespace Go.Proofs.Ytpkeggejofeeeaa.Lvm

def cut (inj : Inj) (n : Nat) : Inj := fun L => if L < n then inj L else none

theorem cut_mono {inj inj' : Inj} (h : Ext inj inj') {n m : Nat} (hnm : n ≤ m) : Ext (cut inj n) (cut inj' m) := fun L q hq => by
  simp only [cut] at hq ⊢
  split at hq
  · rw [if_pos (by omega)]; exact h L q hq
  · cases hq
theorem cut_some {inj : Inj} {n L : Nat} {q : Nat × Nat} (h : cut inj n L = some q) : L < n ∧ inj L = some q := by
  simp only [cut] at h
  split at h
  · exact ⟨by assumption, h⟩
  · cases h
theorem cut_lt {inj : Inj} {n L : Nat} (h : L < n) : cut inj n L = inj L := by simp [cut, h]
theorem cut_ext (inj : Inj) (n : Nat) : Ext (cut inj n) inj := fun _ _ h => (cut_some h).2

section
variable {E : Env} {B lo : Nat} {call : CallFn} {ops : Array Oper} {F : Nat → LFr} {S : Nat → LSt}

def aliveX (ops : Array Oper) (S : Nat → LSt) (X : Nat → Prop) (L : Nat) : Prop :=
  ∃ k, k ≤ ops.size ∧ ph1 ops k ∧ live (S k) L ∧ ∀ g, X g → cl ops g = some .grow → L < (S g).nxt → g < k

/-- Some of the operations are done, and no write among them. -/
structure DInv (E : Env) (B lo : Nat) (ops : Array Oper) (S : Nat → LSt) (inj0 : Inj) (w0 : World) (X : Nat → Prop) (inj : Inj) (w : World) : Prop where
  dom : ∀ L q, inj L = some q → B ≤ q.1 ∧ q.1 < w.heap.size ∧ (L < (S 0).nxt ∨ ∃ i, X i ∧ i < ops.size ∧ (S i).nxt ≤ L ∧ L < (S (i + 1)).nxt)
  full0 : ∀ L, live (S 0) L → ∃ q, inj L = some q
  full : ∀ i, X i → i < ops.size → ∀ L, (S i).nxt ≤ L → live (S (i + 1)) L → ∃ q, inj L = some q
  obj : ∀ k, k ≤ ops.size → ph1 ops k → (∀ g, X g → cl ops g = some .grow → g < k) → ∀ L q o, L < (S k).nxt → inj L = some q → (S k).mem.get L = some o →
    ORel E (cut inj (S k).nxt) o w.heap[q.1]? q.2
  uniq : ∀ L L' q q', aliveX ops S X L → aliveX ops S X L' → inj L = some q → inj L' = some q' → q.1 = q'.1 → L = L'
  base : ∀ r o v, E.bm r o = some v → r < B ∧ ∃ u, w.cell? ⟨r, o, none⟩ = some u ∧ ∀ i : Inj, VRel i v u
  low : B ≤ w.heap.size
  ext0 : ∀ L, L < (S 0).nxt → inj L = inj0 L
  size : w0.heap.size ≤ w.heap.size
  keep : ∀ b, b < w0.heap.size → (∀ L q, lo ≤ L → live (S 0) L → inj0 L = some q → q.1 ≠ b) → w.heap[b]? = w0.heap[b]?
  orig : ∀ L q, lo ≤ L → aliveX ops S X L → inj L = some q → w0.heap.size ≤ q.1 ∨ ∃ L0 q0, lo ≤ L0 ∧ live (S 0) L0 ∧ inj0 L0 = some q0 ∧ q0.1 = q.1
  al : Alike3 w0 w

variable {inj0 inj inj' : Inj} {w0 w w' : World} {X : Nat → Prop}

theorem DInv.emb (D : DRun E call lo ops F S) (I : DInv E B lo ops S inj0 w0 X inj w) {k : Nat} (hk : k ≤ ops.size) (hp : ph1 ops k) (hg : ∀ g, X g → cl ops g = some .grow → g < k) :
    Emb E B (cut inj (S k).nxt) (S k) w where
  dom := fun L q hq => by
    obtain ⟨h1, h2⟩ := cut_some hq
    exact ⟨h1, (I.dom L q h2).1, (I.dom L q h2).2.1⟩
  obj := fun L q o hq ho => by
    obtain ⟨h1, h2⟩ := cut_some hq
    exact I.obj k hk hp hg L q o h1 h2 ho
  new := D.new hk
  base := fun r o v hv => by
    obtain ⟨h1, u, h2, h3⟩ := I.base r o v hv
    exact ⟨h1, u, h2, h3 _⟩
  low := I.low

theorem DInv.start (hE : E.Ok) (D : DRun E call lo ops F S) (hr : Rel E B inj0 (S 0) w0) : DInv E B lo ops S inj0 w0 (fun _ => False) inj0 w0 where
  dom := fun L q hq => by have := hr.dom L q hq; exact ⟨this.2.1, this.2.2, Or.inl this.1⟩
  full0 := hr.full
  full := fun i h => h.elim
  obj := fun k hk hp _ L q o hL hq ho => by
    have h0 := (hr.dom L q hq).1
    have hx : Ext inj0 (cut inj0 (S k).nxt) := fun A p hp' => by
      rw [cut_lt (Nat.lt_of_lt_of_le (hr.dom A p hp').1 (D.nxt_le (Nat.zero_le _) hk))]; exact hp'
    rcases D.mem_le (Nat.zero_le _) hk hp h0 with e | e
    · rw [e] at ho; exact (hr.obj L q o hq ho).mono hx
    · rw [e] at ho; simp only [Option.some.injEq] at ho; subst ho; trivial
  uniq := fun L L' q q' ⟨k, hk, hp, hl, _⟩ ⟨k', hk', hp', hl', _⟩ hq hq' he =>
    hr.uniq L L' q q' (D.live_back (Nat.zero_le _) hk hp (hr.dom L q hq).1 hl) (D.live_back (Nat.zero_le _) hk' hp' (hr.dom L' q' hq').1 hl') hq hq' he
  base := fun r o v hv => by
    obtain ⟨h1, u, h2, h3⟩ := hr.base r o v hv
    exact ⟨h1, u, h2, fun i => hE.base r o v hv _ i u h3⟩
  low := hr.low
  ext0 := fun _ _ => rfl
  size := Nat.le_refl _
  keep := fun _ _ _ => rfl
  orig := fun L q hL ⟨k, hk, hp, hl, _⟩ hq => Or.inr ⟨L, q, hL, D.live_back (Nat.zero_le _) hk hp (hr.dom L q hq).1 hl, hq, rfl⟩
  al := ⟨rfl, rfl, rfl⟩

/-- What is done, and j. -/
def also (X : Nat → Prop) (j : Nat) : Nat → Prop := fun i => X i ∨ i = j

theorem aliveX.less {j L : Nat} (h : aliveX ops S (also X j) L) : aliveX ops S X L := by
  obtain ⟨k, h1, h2, h3, h4⟩ := h
  exact ⟨k, h1, h2, h3, fun g hg => h4 g (Or.inl hg)⟩

theorem DInv.skip (D : DRun E call lo ops F S) (I : DInv E B lo ops S inj0 w0 X inj w) {j : Nat} (hj : j < ops.size) (hs : S (j + 1) = S j) : DInv E B lo ops S inj0 w0 (also X j) inj w where
  dom := fun L q hq => by
    obtain ⟨h1, h2, h3⟩ := I.dom L q hq
    refine ⟨h1, h2, h3.imp id ?_⟩
    rintro ⟨i, hi, h4⟩; exact ⟨i, Or.inl hi, h4⟩
  full0 := I.full0
  full := fun i hi hlt L hL hl => by
    rcases hi with hi | rfl
    · exact I.full i hi hlt L hL hl
    · rw [hs] at hl
      have := D.live_lt (k := i) (by omega) hl
      omega
  obj := fun k hk hp hg => I.obj k hk hp fun g h => hg g (Or.inl h)
  uniq := fun L L' q q' h h' => I.uniq L L' q q' h.less h'.less
  base := I.base
  low := I.low
  ext0 := I.ext0
  size := I.size
  keep := I.keep
  orig := fun L q hL h => I.orig L q hL h.less
  al := I.al

/-- The block that operation j takes over. -/
def Kb (lo : Nat) (ops : Array Oper) (S : Nat → LSt) (inj : Inj) (j b : Nat) : Prop :=
  cl ops j = some .grow ∧ ∃ L0 q0, lo ≤ L0 ∧ L0 < (S j).nxt ∧ live (S j) L0 ∧ (S (j + 1)).mem.get L0 = some .dead ∧ inj L0 = some q0 ∧ q0.1 = b

theorem DInv.inj_ext (D : DRun E call lo ops F S) (I : DInv E B lo ops S inj0 w0 X inj w) {j : Nat} (hj : j < ops.size) (hun : ¬ X j)
    (hb : ∀ L, ¬((S j).nxt ≤ L ∧ L < (S (j + 1)).nxt) → inj' L = inj L) : Ext inj inj' := fun L q hq => by
  rw [hb L]; exact hq
  intro ⟨h1, h2⟩
  rcases (I.dom L q hq).2.2 with h | ⟨i, hi, hlt, h3, h4⟩
  · have := D.nxt_le (Nat.zero_le j) (by omega); omega
  · have := D.born_uniq hlt hj h3 h4 h1 h2
    subst this; exact hun hi

theorem DInv.adv (D : DRun E call lo ops F S) (I : DInv E B lo ops S inj0 w0 X inj w) {j : Nat} (hj : j < ops.size) (hp : ph1 ops (j + 1)) (hun : ¬ X j)
    (hX : ∀ g, X g → cl ops g = some .grow → g < j)
    (hb : ∀ L, ¬((S j).nxt ≤ L ∧ L < (S (j + 1)).nxt) → inj' L = inj L)
    (ha : Emb E B (cut inj' (S (j + 1)).nxt) (S (j + 1)) w')
    (hc : ∀ b, b < w.heap.size → w'.heap[b]? = w.heap[b]? ∨ Kb lo ops S inj j b)
    (hsz : w.heap.size ≤ w'.heap.size)
    (hd : ∀ L q, (S j).nxt ≤ L → live (S (j + 1)) L → inj' L = some q → w.heap.size ≤ q.1 ∨ Kb lo ops S inj j q.1)
    (hf : ∀ L, (S j).nxt ≤ L → live (S (j + 1)) L → ∃ q, inj' L = some q)
    (he : ∀ L L' q q', (S j).nxt ≤ L → (S j).nxt ≤ L' → live (S (j + 1)) L → live (S (j + 1)) L' → inj' L = some q → inj' L' = some q' → q.1 = q'.1 → L = L')
    (hal : Alike3 w w') : DInv E B lo ops S inj0 w0 (also X j) inj' w' := by
  have hx := I.inj_ext D hj hun hb
  have hnj : (S j).nxt ≤ (S (j + 1)).nxt := D.nxt_le (by omega) (by omega)
  have hpj : ph1 ops j := fun i hi => hp i (by omega)
  -- new or old
  have cases2 : ∀ {L : Nat} {q : Nat × Nat}, inj' L = some q → ((S j).nxt ≤ L ∧ L < (S (j + 1)).nxt) ∨ (¬((S j).nxt ≤ L ∧ L < (S (j + 1)).nxt) ∧ inj L = some q) := fun {L q} h => by
    by_cases hh : (S j).nxt ≤ L ∧ L < (S (j + 1)).nxt
    · exact Or.inl hh
    · exact Or.inr ⟨hh, by rw [← hb L hh]; exact h⟩
  have back : ∀ {L : Nat}, L < (S (j + 1)).nxt → (S j).nxt ≤ L → aliveX ops S (also X j) L → live (S (j + 1)) L := fun {L} h1 h2 ⟨k, hk, hpk, hl, _⟩ => by
    have hlt := D.live_lt hk hl
    have hjk : j + 1 ≤ k := by
      refine Nat.lt_of_not_le fun hkj => ?_
      have := D.nxt_le hkj (k := j) (by omega); omega
    exact D.live_back hjk hk hpk h1 hl
  have aliveOf : ∀ {L0 : Nat}, live (S j) L0 → aliveX ops S X L0 := fun {L0} h => ⟨j, by omega, hpj, h, fun g hg hgg _ => hX g hg hgg⟩
  -- a block taken over is held by nobody else
  have noK : ∀ {L : Nat} {q : Nat × Nat}, inj L = some q → aliveX ops S (also X j) L → ¬ Kb lo ops S inj j q.1 := fun {L q} hq hal ⟨hg, L0, q0, h1, h2, h3, h4, h5, h6⟩ => by
    have hLL := I.uniq L L0 q q0 hal.less (aliveOf h3) hq h5 h6.symm
    subst hLL
    obtain ⟨k, hk, hpk, hl, hgk⟩ := hal
    have hjk := hgk j (Or.inr rfl) hg h2
    have hl' := D.live_back (i := j + 1) (by omega) hk hpk (by omega) hl
    obtain ⟨x, hx1, hx2⟩ := hl'
    rw [h4] at hx1; simp only [Option.some.injEq] at hx1; exact hx2 hx1.symm
  refine ⟨?_, ?_, ?_, ?_, ?_, ?_, ?_, ?_, ?_, ?_, ?_, ?_⟩
  · intro L q hq
    rcases cases2 hq with ⟨h1, h2⟩ | ⟨_, h1⟩
    · have := ha.dom L q (by rw [cut_lt h2]; exact hq)
      exact ⟨this.2.1, this.2.2, Or.inr ⟨j, Or.inr rfl, hj, h1, h2⟩⟩
    · obtain ⟨g1, g2, g3⟩ := I.dom L q h1
      refine ⟨g1, by omega, g3.imp id ?_⟩
      rintro ⟨i, hi, h4⟩; exact ⟨i, Or.inl hi, h4⟩
  · intro L hl; obtain ⟨q, hq⟩ := I.full0 L hl; exact ⟨q, hx _ _ hq⟩
  · intro i hi hlt L hL hl
    rcases hi with hi | rfl
    · obtain ⟨q, hq⟩ := I.full i hi hlt L hL hl; exact ⟨q, hx _ _ hq⟩
    · exact hf L hL hl
  · intro k hk hpk hgk L q o hL hq ho
    by_cases hdd : o = .dead
    · subst hdd; trivial
    have hlk : live (S k) L := ⟨o, ho, hdd⟩
    by_cases hjk : j + 1 ≤ k
    · -- after j
      by_cases hLj : L < (S (j + 1)).nxt
      · rcases D.mem_le hjk hk hpk hLj with e | e
        · rw [e] at ho
          exact (ha.obj L q o (by rw [cut_lt hLj]; exact hq) ho).mono (cut_mono (Ext.refl _) (D.nxt_le hjk hk))
        · rw [e] at ho; simp only [Option.some.injEq] at ho; exact absurd ho.symm hdd
      · rcases cases2 hq with ⟨h1, h2⟩ | ⟨_, h1⟩
        · omega
        · have halv : aliveX ops S (also X j) L := ⟨k, hk, hpk, hlk, fun g hg hgg _ => hgk g hg hgg⟩
          have hold := I.obj k hk hpk (fun g hg => hgk g (Or.inl hg)) L q o hL h1 ho
          rcases hc q.1 (I.dom L q h1).2.1 with e | e
          · rw [e]; exact hold.mono (cut_mono hx (Nat.le_refl _))
          · exact absurd e (noK h1 halv)
    · -- before j: j is no append
      have hng : cl ops j ≠ some .grow := fun e => by have := hgk j (Or.inr rfl) e; omega
      have hLj : L < (S j).nxt := Nat.lt_of_lt_of_le hL (D.nxt_le (by omega) (by omega))
      rcases cases2 hq with ⟨h1, h2⟩ | ⟨_, h1⟩
      · omega
      · have hold := I.obj k hk hpk (fun g hg => hgk g (Or.inl hg)) L q o hL h1 ho
        rcases hc q.1 (I.dom L q h1).2.1 with e | e
        · rw [e]; exact hold.mono (cut_mono hx (Nat.le_refl _))
        · exact absurd e.1 hng
  · intro L L' q q' h h' hq hq' heq
    rcases cases2 hq with ⟨h1, h2⟩ | ⟨_, h1⟩ <;> rcases cases2 hq' with ⟨h1', h2'⟩ | ⟨_, h1'⟩
    · exact he L L' q q' h1 h1' (back h2 h1 h) (back h2' h1' h') hq hq' heq
    · rcases hd L q h1 (back h2 h1 h) hq with e | e
      · have := (I.dom L' q' h1').2.1; omega
      · rw [heq] at e; exact absurd e (noK h1' h')
    · rcases hd L' q' h1' (back h2' h1' h') hq' with e | e
      · have := (I.dom L q h1).2.1; omega
      · rw [← heq] at e; exact absurd e (noK h1 h)
    · exact I.uniq L L' q q' h.less h'.less h1 h1' heq
  · intro r o v hv
    obtain ⟨h1, u, h2, h3⟩ := I.base r o v hv
    refine ⟨h1, u, ?_, h3⟩
    have : w'.heap[r]? = w.heap[r]? := by
      rcases hc r (by have := I.low; omega) with e | ⟨_, L0, q0, _, _, _, _, h5, h6⟩
      · exact e
      · have := (I.dom L0 q0 h5).1; omega
    rw [← h2]; simp [World.cell?, this]
  · have := I.low; omega
  · intro L hL
    rw [← I.ext0 L hL]
    refine hb L ?_
    have := D.nxt_le (Nat.zero_le j) (by omega); omega
  · have := I.size; omega
  · intro b hb0 hno
    rw [← I.keep b hb0 hno]
    rcases hc b (by have := I.size; omega) with e | ⟨_, L0, q0, h1, h2, h3, h4, h5, h6⟩
    · exact e
    · rcases I.orig L0 q0 h1 (aliveOf h3) h5 with g | ⟨L1, q1, g1, g2, g3, g4⟩
      · omega
      · exact absurd (g4.trans h6) (hno L1 q1 g1 g2 g3)
  · intro L q hL h hq
    rcases cases2 hq with ⟨h1, h2⟩ | ⟨_, h1⟩
    · rcases hd L q h1 (back h2 h1 h) hq with e | ⟨_, L0, q0, g1, g2, g3, g4, g5, g6⟩
      · left; have := I.size; omega
      · rcases I.orig L0 q0 g1 (aliveOf g3) g5 with k1 | ⟨L1, q1, k1, k2, k3, k4⟩
        · left; omega
        · right; exact ⟨L1, q1, k1, k2, k3, k4.trans g6⟩
    · exact I.orig L q hL h.less h1
  · exact ⟨hal.os.trans I.al.os, hal.tape.trans I.al.tape, hal.output.trans I.al.output⟩

/-- All that touches memory ahead of m is done, and nothing behind. -/
theorem DInv.toRel (D : DRun E call lo ops F S) (I : DInv E B lo ops S inj0 w0 X inj w) {m : Nat} (hm : m ≤ ops.size) (hp : ph1 ops m)
    (hdone : ∀ i, i < m → cl ops i ≠ some .pure → X i) (hnot : ∀ i, m ≤ i → i < ops.size → X i → cl ops i = some .pure) :
    Rel E B inj (S m) w ∧ Step lo inj0 (S 0) w0 inj (S m) w := by
  have hlt : ∀ L q, inj L = some q → L < (S m).nxt := fun L q hq => by
    rcases (I.dom L q hq).2.2 with h | ⟨i, hi, hi2, h3, h4⟩
    · exact Nat.lt_of_lt_of_le h (D.nxt_le (Nat.zero_le _) hm)
    · by_cases him : i < m
      · exact Nat.lt_of_lt_of_le h4 (D.nxt_le (by omega) hm)
      · rw [D.pure_same hi2 (hnot i (by omega) hi2 hi)] at h4; omega
  have hcut : cut inj (S m).nxt = inj := by
    funext L
    by_cases h : L < (S m).nxt
    · exact cut_lt h
    · simp only [cut]; rw [if_neg h]
      cases hq : inj L with
      | none => rfl
      | some q => exact absurd (hlt L q hq) h
  have hg : ∀ g, X g → cl ops g = some .grow → g < m := fun g hg hgg => by
    refine Nat.lt_of_not_le fun h => ?_
    have hgs : g < ops.size := by
      refine Nat.lt_of_not_le fun h' => ?_
      have : ops[g]? = none := by simp; omega
      simp [cl, this] at hgg
    rw [hnot g h hgs hg] at hgg; cases hgg
  have hemb := I.emb D hm hp hg
  rw [hcut] at hemb
  have halv : ∀ L, live (S m) L → aliveX ops S X L := fun L hl => ⟨m, hm, hp, hl, fun g h1 h2 _ => hg g h1 h2⟩
  refine ⟨⟨hemb, ?_, ?_⟩, ?_⟩
  · intro L hl
    rcases DRun.born (S := S) (ops := ops) hm (D.live_lt hm hl) with h | ⟨i, him, h1, h2⟩
    · exact I.full0 L (D.live_back (Nat.zero_le _) hm hp h hl)
    · have hnp : cl ops i ≠ some .pure := fun e => by rw [D.pure_same (by omega) e] at h2; omega
      exact I.full i (hdone i him hnp) (by omega) L h1 (D.live_back (i := i + 1) (by omega) hm hp h2 hl)
  · intro L L' q q' h h' hq hq' he; exact I.uniq L L' q q' (halv L h) (halv L' h') hq hq' he
  · exact ⟨I.ext0, D.nxt_le (Nat.zero_le _) hm, I.size, I.keep, fun L q hL hl hq => I.orig L q hL (halv L hl) hq, (D.both m hm).2.2.2, I.al⟩
end
end Go.Proofs.Ytpkeggejofeeeaa.Lvm
