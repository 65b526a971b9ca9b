/- Laws of the small machine and of how it stands to the model; a helper of the statements: no statement is proved here. -/
import Derived.Test.YtpkeggejofeeeaaS18
namespace Go.Proofs.Ytpkeggejofeeeaa.Lvm

section
variable {E : Env} {B lo : Nat} {call : CallFn} {ops : Array Oper} {F : Nat → LFr} {S : Nat → LSt} {inj0 inj inj' : Inj} {w0 w w' : World} {X : Nat → Prop} {a : Act}

structure At (E : Env) (B lo : Nat) (ops : Array Oper) (S : Nat → LSt) (inj0 : Inj) (w0 : World) (X : Nat → Prop) (inj : Inj) (w : World) (m : Nat) : Prop where
  le : m ≤ ops.size
  done : ∀ i, i < m → cl ops i ≠ some .pure → X i
  not : ∀ i, m ≤ i → i < ops.size → X i → cl ops i = some .pure
  late : ∀ i, m ≤ i → i < ops.size → cl ops i = some .pure ∨ cl ops i = some .write
  rel : Rel E B inj (S m) w
  step : Step lo inj0 (S 0) w0 inj (S m) w

def MInv (E : Env) (B lo : Nat) (ops : Array Oper) (S : Nat → LSt) (inj0 : Inj) (w0 : World) (X : Nat → Prop) (inj : Inj) (w : World) : Prop :=
  (DInv E B lo ops S inj0 w0 X inj w ∧ ∀ i, X i → cl ops i ≠ some .write) ∨ ∃ m, At E B lo ops S inj0 w0 X inj w m

theorem MInv.dom (hE : E.Ok) (h : MInv E B lo ops S inj0 w0 X inj w) : (∀ L q, inj L = some q → B ≤ q.1 ∧ q.1 < w.heap.size) ∧
    (∀ r o v, E.bm r o = some v → r < B ∧ ∃ u, w.cell? ⟨r, o, none⟩ = some u ∧ ∀ i : Inj, VRel i v u) ∧ B ≤ w.heap.size := by
  rcases h with ⟨I, _⟩ | ⟨m, A⟩
  · exact ⟨fun L q hq => ⟨(I.dom L q hq).1, (I.dom L q hq).2.1⟩, I.base, I.low⟩
  · exact ⟨fun L q hq => (A.rel.dom L q hq).2, fun r o v hv => by
      obtain ⟨h1, u, h2, h3⟩ := A.rel.base r o v hv
      exact ⟨h1, u, h2, fun i => hE.base r o v hv _ i u h3⟩, A.rel.low⟩

theorem MInv.leaf (hE : E.Ok) (h : MInv E B lo ops S inj0 w0 X inj w) (n : Nat) : Emb E B (cut inj n) { mem := .leaf, nxt := n } w := by
  obtain ⟨h1, h2, h3⟩ := h.dom hE
  refine ⟨fun L q hq => ⟨(cut_some hq).1, h1 L q (cut_some hq).2⟩, fun L q o _ ho => ?_, fun _ _ => rfl, fun r o v hv => ?_, h3⟩
  · cases ho
  · obtain ⟨g1, u, g2, g3⟩ := h2 r o v hv
    exact ⟨g1, u, g2, g3 _⟩

section
variable {j : Nat} {o : Oper}

theorem no_write_before (D : DRun E call lo ops F S) (_hcl : Closed ops X) (hj : Ready ops X j o) {c : Cl} (hc : cl ops j = some c) (h1 : c ≠ .pure) (h2 : c ≠ .write) : ph1 ops (j + 1) := fun i hi hw => by
  by_cases e : i = j
  · subst e; rw [hc] at hw; simp at hw; exact h2 hw
  · rcases late' D.ok (by omega) hw hc with e | e
    · exact h1 e
    · exact h2 e

theorem grows_before (D : DRun E call lo ops F S) (hcl : Closed ops X) (hj : Ready ops X j o) {c : Cl} (hc : cl ops j = some c) (h1 : c ≠ .pure) {g : Nat} (hg : X g) (hgg : cl ops g = some .grow) : g < j := by
  rcases Nat.lt_trichotomy g j with h | h | h
  · exact h
  · subst h; exact absurd hg hj.un
  · refine absurd hg (hj.ahead D.ok hcl h hgg hc ?_)
    cases c <;> first | exact absurd rfl h1 | rfl

/-- Before a write stands all that touches memory, and nothing of it behind. -/
theorem MInv.at_write (D : DRun E call lo ops F S) (hcl : Closed ops X) (hj : Ready ops X j o) (h : MInv E B lo ops S inj0 w0 X inj w) (hc : cl ops j = some .write) : At E B lo ops S inj0 w0 X inj w j := by
  have hjs := lt_of_cl hc
  have hdone : ∀ i, i < j → cl ops i ≠ some .pure → X i := fun i hi hp => by
    obtain ⟨c, hci⟩ := cl_get D.ok (j := i) (by omega)
    refine hj.waits D.ok hcl hi hci hc ?_
    cases c <;> first | exact absurd hci hp | rfl
  have hnot : ∀ i, j ≤ i → i < ops.size → X i → cl ops i = some .pure := fun i hi hlt hX => by
    obtain ⟨c, hci⟩ := cl_get D.ok hlt
    by_cases e : i = j
    · subst e; exact absurd hX hj.un
    · refine Classical.byContradiction fun hp => ?_
      refine hj.ahead D.ok hcl (i := i) (by omega) hci hc ?_ hX
      cases c <;> first | exact absurd hci hp | rfl
  have hlate : ∀ i, j ≤ i → i < ops.size → cl ops i = some .pure ∨ cl ops i = some .write := fun i hi hlt => by
    by_cases e : i = j
    · subst e; exact Or.inr hc
    · obtain ⟨c, hci⟩ := cl_get D.ok hlt
      rcases late' D.ok (i := j) (by omega) hc hci with e | e <;> subst e
      · exact Or.inl hci
      · exact Or.inr hci
  rcases h with ⟨I, hnw⟩ | ⟨m, A⟩
  · have hp : ph1 ops j := fun i hi hw => hnw i (hdone i hi (by rw [hw]; simp)) hw
    obtain ⟨h1, h2⟩ := I.toRel D (by omega) hp hdone hnot
    exact ⟨by omega, hdone, hnot, hlate, h1, h2⟩
  · have hmj : m ≤ j := Nat.le_of_not_lt fun h => hj.un (A.done j h (by rw [hc]; simp))
    have hsame : S j = S m := D.pure_run hmj (by omega) fun i h1 h2 => by
      refine Classical.byContradiction fun hp => ?_
      exact hp (A.not i h1 (by omega) (hdone i h2 hp))
    exact ⟨by omega, hdone, hnot, hlate, by rw [hsame]; exact A.rel, by rw [hsame]; exact A.step⟩

theorem At.next (_D : DRun E call lo ops F S) (_hcl : Closed ops X) (_hj : Ready ops X j o) (A : At E B lo ops S inj0 w0 X inj w j) (hjs : j < ops.size) (hr : Rel E B inj' (S (j + 1)) w') (hs : Step lo inj (S j) w inj' (S (j + 1)) w') :
    At E B lo ops S inj0 w0 (also X j) inj' w' (j + 1) where
  le := hjs
  done := fun i hi hp => by
    by_cases e : i = j
    · exact Or.inr e
    · exact Or.inl (A.done i (by omega) hp)
  not := fun i hi hlt hX => by
    rcases hX with hX | e
    · exact A.not i (by omega) hlt hX
    · omega
  late := fun i hi hlt => A.late i (by omega) hlt
  rel := hr
  step := A.step.trans hs

theorem MInv.same (D : DRun E call lo ops F S) (hcl : Closed ops X) (hj : Ready ops X j o) (h : MInv E B lo ops S inj0 w0 X inj w) (hs : S (j + 1) = S j) : MInv E B lo ops S inj0 w0 (also X j) inj w := by
  have hjs := (Array.getElem?_eq_some_iff.1 hj.op).1
  by_cases hc : cl ops j = some .write
  · have A := h.at_write D hcl hj hc
    refine Or.inr ⟨j + 1, A.next D hcl hj hjs (by rw [hs]; exact A.rel) (by rw [hs]; exact Step.refl)⟩
  · rcases h with ⟨I, hnw⟩ | ⟨m, A⟩
    · refine Or.inl ⟨I.skip D hjs hs, fun i hi => ?_⟩
      rcases hi with hi | rfl
      · exact hnw i hi
      · exact hc
    · refine Or.inr ⟨m, A.le, fun i hi hp => Or.inl (A.done i hi hp), fun i hi hlt hX => ?_, A.late, A.rel, A.step⟩
      rcases hX with hX | rfl
      · exact A.not i hi hlt hX
      · exact (A.late i hi hlt).resolve_right hc

/-- Reading, making and calling: before all writes. -/
theorem MInv.early (_D : DRun E call lo ops F S) (_hcl : Closed ops X) (hj : Ready ops X j o) (h : MInv E B lo ops S inj0 w0 X inj w) {c : Cl} (hc : cl ops j = some c) (h1 : c ≠ .pure) (h2 : c ≠ .write) :
    DInv E B lo ops S inj0 w0 X inj w ∧ ∀ i, X i → cl ops i ≠ some .write := by
  rcases h with h | ⟨m, A⟩
  · exact h
  · have hjs := lt_of_cl hc
    rcases Nat.lt_or_ge j m with h | h
    · refine absurd (A.done j h ?_) hj.un
      rw [hc]; simpa using h1
    · rcases A.late j h hjs with e | e <;> rw [hc] at e <;> simp at e
      · exact absurd e h1
      · exact absurd e h2

theorem DInv.relCut (D : DRun E call lo ops F S) (_hcl : Closed ops X) (_hj : Ready ops X j o) (I : DInv E B lo ops S inj0 w0 X inj w) (hjs : j < ops.size) (hp : ph1 ops j) (hg : ∀ g, X g → cl ops g = some .grow → g < j)
    (hdone : ∀ i, i < j → (S i).nxt < (S (i + 1)).nxt → X i) : Rel E B (cut inj (S j).nxt) (S j) w := by
  refine ⟨I.emb D (by omega) hp hg, ?_, ?_⟩
  · intro L hl
    have hlt := D.live_lt (k := j) (by omega) hl
    have : ∃ q, inj L = some q := by
      rcases DRun.born (S := S) (ops := ops) (k := j) (by omega) hlt with h | ⟨i, him, h1, h2⟩
      · exact I.full0 L (D.live_back (Nat.zero_le _) (by omega) hp h hl)
      · exact I.full i (hdone i him (by omega)) (by omega) L h1 (D.live_back (i := i + 1) (by omega) (by omega) hp h2 hl)
    rw [cut_lt hlt]; exact this
  · intro L L' q q' h h' hq hq' he
    have halv : ∀ L, live (S j) L → aliveX ops S X L := fun L hl => ⟨j, by omega, hp, hl, fun g h1 h2 _ => hg g h1 h2⟩
    exact I.uniq L L' q q' (halv L h) (halv L' h') (cut_some hq).2 (cut_some hq').2 he

theorem grow_of_dead (D : DRun E call lo ops F S) (_hcl : Closed ops X) (_hj : Ready ops X j o) (hjs : j < ops.size) (hw : cl ops j ≠ some .write) {L : Nat} {cs : List LV} (h3 : (S j).mem.get L = some (.cells cs)) (h : (S (j + 1)).mem.get L = some .dead) : cl ops j = some .grow := by
  have hl : live (S j) L := ⟨_, h3, by simp⟩
  rcases D.step_mem hjs hw (D.live_lt (by omega) hl) with e | ⟨e, _⟩
  · rw [e, h3] at h; simp at h
  · exact e

theorem MInv.light (D : DRun E call lo ops F S) (hcl : Closed ops X) (hj : Ready ops X j o) (h : MInv E B lo ops S inj0 w0 X inj w) {c : Cl} (hc : cl ops j = some c) (h1 : c ≠ .pure) (h2 : c ≠ .write) (_h3 : c ≠ .call) {v : LV} {s : Sem Next}
    (hnr : ∀ i, i < j → c = .grow → (S i).nxt < (S (i + 1)).nxt → X i)
    (hl : LOut E (cut inj (S j).nxt) lo true false (S j) w v (S (j + 1)) s) :
    ∃ n u w' inj', NextIs n u ∧ s.run E.P w = .ok n w' ∧ Ext inj inj' ∧ VRel (cut inj' (S (j + 1)).nxt) v u ∧ MInv E B lo ops S inj0 w0 (also X j) inj' w' := by
  have hjs := lt_of_cl hc
  have hp := no_write_before D hcl hj hc h1 h2
  have hg : ∀ g, X g → cl ops g = some .grow → g < j := fun g => grows_before D hcl hj hc h1
  obtain ⟨I, hnw⟩ := h.early D hcl hj hc h1 h2
  have hcw : cl ops j ≠ some .write := by rw [hc]; simpa using h2
  have hnw' : ∀ i, also X j i → cl ops i ≠ some .write := fun i hi => by
    rcases hi with hi | rfl
    · exact hnw i hi
    · exact hcw
  have hemb := I.emb D (k := j) (by omega) (fun i hi => hp i (by omega)) hg
  have hS := D.nxt_le (i := j) (k := j + 1) (by omega) (by omega)
  cases hl with
  | same hs n u hn hrun hv =>
    exact ⟨n, u, w, inj, hn, hrun, Ext.refl _, hv.mono (cut_mono (Ext.refl _) hS), h.same D hcl hj hs⟩
  | store hcc => exact absurd (hcc rfl) (by simp)
  | fresh o' ob cnt n u w' hn h1' hrun h8 h9 h10 =>
    have hx0 := injAt_ext hemb (w.heap.size, cnt)
    obtain ⟨k1, k2⟩ := h10 _ hx0 (by simp [injAt])
    have hnx : (S (j + 1)).nxt = (S j).nxt + 1 := by rw [h1']; rfl
    have ha : Emb E B (cut (injAt inj (S j).nxt (w.heap.size, cnt)) (S (j + 1)).nxt) (S (j + 1)) w' := by
      rw [hnx, cut_injAt, h1']; exact hemb.fresh h8 k2
    have hb : ∀ L, ¬((S j).nxt ≤ L ∧ L < (S (j + 1)).nxt) → injAt inj (S j).nxt (w.heap.size, cnt) L = inj L := fun L hL => by
      simp only [injAt]; rw [if_neg]; rintro rfl; rw [hnx] at hL; omega
    have heq : ∀ L, (S j).nxt ≤ L → live (S (j + 1)) L → L = (S j).nxt := fun L hL hl => by
      have := D.live_lt (k := j + 1) (by omega) hl; omega
    refine ⟨n, u, w', injAt inj (S j).nxt (w.heap.size, cnt), hn, hrun, I.inj_ext D hjs hj.un hb, by rw [hnx, cut_injAt]; exact k1, Or.inl ⟨?_, hnw'⟩⟩
    refine I.adv D hjs hp hj.un hg hb ha (fun b hb' => Or.inl (push_old h8 hb')) (by rw [h8]; simp) ?_ ?_ ?_ h9
    · intro L q hL hl hq
      rw [heq L hL hl] at hq; simp [injAt] at hq; subst hq; exact Or.inl (Nat.le_refl _)
    · intro L hL hl; rw [heq L hL hl]; exact ⟨_, if_pos rfl⟩
    · intro L L' q q' hL hL' hl hl' _ _ _; rw [heq L hL hl, heq L' hL' hl']
  | grow L0 q0 cs cs' n u w' hn g1 g2 g3 g6 hrun g9 g8 =>
    have hlv : live (S j) L0 := ⟨_, g3, by simp⟩
    have hlt0 := D.live_lt (k := j) (by omega) hlv
    have hdead : (S (j + 1)).mem.get L0 = some .dead := by
      rw [g6]; simp only [newB, Mem.get_set]; rw [if_neg (by omega)]; simp
    have hgr := grow_of_dead D hcl hj hjs hcw g3 hdead
    have hcg : c = .grow := by rw [hc] at hgr; simpa using hgr
    have hrel := I.relCut D hcl hj hjs (fun i hi => hp i (by omega)) hg (fun i hi h => hnr i hi hcg h)
    have hnx : (S (j + 1)).nxt = (S j).nxt + 1 := by rw [g6]; rfl
    have hlo := (D.both j (by omega)).2.2.1
    have heq : ∀ L, (S j).nxt ≤ L → live (S (j + 1)) L → L = (S j).nxt := fun L hL hl => by
      have := D.live_lt (k := j + 1) (by omega) hl; omega
    have hbAny : ∀ q L, ¬((S j).nxt ≤ L ∧ L < (S (j + 1)).nxt) → injAt inj (S j).nxt q L = inj L := fun q L hL => by
      simp only [injAt]; rw [if_neg]; rintro rfl; rw [hnx] at hL; omega
    rcases g8 with ⟨ob, cnt, h8, h10⟩ | ⟨ob, h8, _, h10⟩
    · have hk := kill_step hrel g2
      have hx0 := injAt_ext hrel.toEmb (w.heap.size, cnt)
      obtain ⟨k1, k2⟩ := h10 _ hx0 (by simp [injAt])
      have ha0 := (fresh_step (lo := lo) hk hlo h8 g9 k2).1.toEmb
      have ha : Emb E B (cut (injAt inj (S j).nxt (w.heap.size, cnt)) (S (j + 1)).nxt) (S (j + 1)) w' := by
        rw [hnx, cut_injAt, g6]; exact ha0
      refine ⟨n, u, w', injAt inj (S j).nxt (w.heap.size, cnt), hn, hrun, I.inj_ext D hjs hj.un (hbAny _), by rw [hnx, cut_injAt]; exact k1, Or.inl ⟨?_, hnw'⟩⟩
      refine I.adv D hjs hp hj.un hg (hbAny _) ha (fun b hb' => Or.inl (push_old h8 hb')) (by rw [h8]; simp) ?_ ?_ ?_ g9
      · intro L q hL hl hq
        rw [heq L hL hl] at hq; simp [injAt] at hq; subst hq; exact Or.inl (Nat.le_refl _)
      · intro L hL hl; rw [heq L hL hl]; exact ⟨_, if_pos rfl⟩
      · intro L L' q q' hL hL' hl hl' _ _ _; rw [heq L hL hl, heq L' hL' hl']
    · have hx0 := injAt_ext hrel.toEmb q0
      obtain ⟨k1, k2⟩ := h10 _ hx0 (by simp [injAt])
      have ha0 := (grow_step hrel hlo g1 g2 g3 h8 g9 k2).1.toEmb
      have ha : Emb E B (cut (injAt inj (S j).nxt q0) (S (j + 1)).nxt) (S (j + 1)) w' := by
        rw [hnx, cut_injAt, g6]; exact ha0
      have hK : Kb lo ops S inj j q0.1 := ⟨hgr, L0, q0, g1, hlt0, hlv, hdead, (cut_some g2).2, rfl⟩
      refine ⟨n, u, w', injAt inj (S j).nxt q0, hn, hrun, I.inj_ext D hjs hj.un (hbAny _), by rw [hnx, cut_injAt]; exact k1, Or.inl ⟨?_, hnw'⟩⟩
      refine I.adv D hjs hp hj.un hg (hbAny _) ha (fun b hb' => ?_) (by rw [h8]; simp) ?_ ?_ ?_ g9
      · by_cases e : q0.1 = b
        · subst e; exact Or.inr hK
        · exact Or.inl (set_old h8 e)
      · intro L q hL hl hq
        rw [heq L hL hl] at hq; simp [injAt] at hq; subst hq; exact Or.inr hK
      · intro L hL hl; rw [heq L hL hl]; exact ⟨_, if_pos rfl⟩
      · intro L L' q q' hL hL' hl hl' _ _ _; rw [heq L hL hl, heq L' hL' hl']
end
end
end Go.Proofs.Ytpkeggejofeeeaa.Lvm
