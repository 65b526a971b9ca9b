/- Laws of the small machine, of how it stands to the model, and of what functions come to on it; a helper of the statement: no statement is proved here. -/
import Derived.Test.YtpkeggejofeeeaaC
import Derived.LoopN
set_option linter.unusedVariables false
namespace Go.Proofs.Ytpkeggejofeeeaa.Lvm

def live (st : LSt) (L : Nat) : Prop := ∃ o, st.mem.get L = some o ∧ o ≠ .dead

structure Rel (E : Env) (B : Nat) (inj : Inj) (st : LSt) (w : World) : Prop extends Emb E B inj st w where
  full : ∀ L, live st L → ∃ q, inj L = some q
  uniq : ∀ L L' q q', live st L → live st L' → inj L = some q → inj L' = some q' → q.1 = q'.1 → L = L'

structure Step (lo : Nat) (inj : Inj) (st : LSt) (w : World) (inj' : Inj) (st' : LSt) (w' : World) : Prop where
  ext : ∀ L, L < st.nxt → inj' L = inj L
  nxt : st.nxt ≤ st'.nxt
  size : w.heap.size ≤ w'.heap.size
  keep : ∀ b, b < w.heap.size → (∀ L q, lo ≤ L → live st L → inj L = some q → q.1 ≠ b) → w'.heap[b]? = w.heap[b]?
  orig : ∀ L q, lo ≤ L → live st' L → inj' L = some q → w.heap.size ≤ q.1 ∨ ∃ L0 q0, lo ≤ L0 ∧ live st L0 ∧ inj L0 = some q0 ∧ q0.1 = q.1
  old : ∀ L, L < lo → st'.mem.get L = st.mem.get L
  al : Alike3 w w'

section
variable {E : Env} {B lo : Nat} {inj inj' inj'' : Inj} {st st' st'' : LSt} {w w' w'' : World}

theorem Step.refl : Step lo inj st w inj st w where
  ext := fun _ _ => rfl
  nxt := Nat.le_refl _
  size := Nat.le_refl _
  keep := fun _ _ _ => rfl
  orig := fun L q h h1 h2 => Or.inr ⟨L, q, h, h1, h2, rfl⟩
  old := fun _ _ => rfl
  al := ⟨rfl, rfl, rfl⟩

theorem Step.trans (h : Step lo inj st w inj' st' w') (h' : Step lo inj' st' w' inj'' st'' w'') : Step lo inj st w inj'' st'' w'' where
  ext := fun L hL => (h'.ext L (Nat.lt_of_lt_of_le hL h.nxt)).trans (h.ext L hL)
  nxt := Nat.le_trans h.nxt h'.nxt
  size := Nat.le_trans h.size h'.size
  keep := fun b hb hp => by
    rw [h'.keep b (Nat.lt_of_lt_of_le hb h.size) (fun L q hL h1 h2 => ?_), h.keep b hb hp]
    rcases h.orig L q hL h1 h2 with ho | ⟨L0, q0, g1, g2, g3, g4⟩
    · omega
    · rw [← g4]; exact hp L0 q0 g1 g2 g3
  orig := fun L q hL h1 h2 => by
    rcases h'.orig L q hL h1 h2 with ho | ⟨L0, q0, g1, g2, g3, g4⟩
    · exact Or.inl (Nat.le_trans h.size ho)
    · rcases h.orig L0 q0 g1 g2 g3 with ho | ⟨L1, q1, k1, k2, k3, k4⟩
      · exact Or.inl (by omega)
      · exact Or.inr ⟨L1, q1, k1, k2, k3, by omega⟩
  old := fun L hL => (h'.old L hL).trans (h.old L hL)
  al := ⟨h'.al.os.trans h.al.os, h'.al.tape.trans h.al.tape, h'.al.output.trans h.al.output⟩

theorem Step.toExt (h : Step lo inj st w inj' st' w') (hm : Emb E B inj st w) : Ext inj inj' := fun L q hq => by
  rw [h.ext L (hm.dom L q hq).1]; exact hq

/-- A frame and the model's slots. -/
def FRel (inj : Inj) (fr : LFr) (tmps : Array Value) : Prop := tmps.size = fr.n ∧ ∀ i v, fr.m.get i = some v → VRel inj v (tmps.getD i undef)

theorem FRel.mono {fr : LFr} {tmps : Array Value} (h : Go.Proofs.Ytpkeggejofeeeaa.Lvm.Ext inj inj') (hf : FRel inj fr tmps) : FRel inj' fr tmps := ⟨hf.1, fun i v hv => (hf.2 i v hv).mono h⟩

theorem FRel.put {fr : LFr} {a : Act} {v : LV} {u : Value} (hf : FRel inj fr a.tmps) (hv : VRel inj v u) (d : Nat) (hd : d < fr.n) : FRel inj (fr.put d v) (a.put (some d) u).tmps := by
  refine ⟨by simp [Act.put, LFr.put, hf.1], fun i x hx => ?_⟩
  simp only [LFr.put, Mem.get_set] at hx
  by_cases h : d = i
  · subst h
    rw [if_pos rfl] at hx
    simp only [Option.some.injEq] at hx; subst hx
    simp only [Act.put, Array.getD_eq_getD_getElem?, Array.getElem?_setIfInBounds]
    simpa [hf.1, hd] using hv
  · rw [if_neg h] at hx
    have := hf.2 i x hx
    simpa only [Act.put, Array.getD_eq_getD_getElem?, Array.getElem?_setIfInBounds_ne h] using this

theorem XRel.of_frame {fr : LFr} {a : Act} (hf : FRel inj fr a.tmps) (x : Operand) : XRel inj fr a x := by
  intro v hv
  cases x with
  | tmp t => exact hf.2 t v hv
  | const c => exact lift_rel hv
  | global g => simp only [leval, Option.some.injEq] at hv; subst hv; simp only [VRel]; exact ⟨g, rfl, rfl⟩
  | func f => simp only [leval, Option.some.injEq] at hv; subst hv; simp only [VRel]; exact ⟨#[], #[], rfl, by simp [VRels], by simp [VRels]⟩

theorem bool_of_rel {x : LV} {b : Bool} (h : VRel inj x (.bool b)) : x = .bool b := by
  cases x <;> simp only [VRel, Value.bool.injEq, reduceCtorEq, false_and, and_false, exists_false] at h
  · rw [h]
theorem rel_of_bool {b : Bool} {v : Value} (h : VRel inj (.bool b) v) : v = .bool b := by simpa only [VRel] using h

theorem wanted_slot {ops : Array Oper} {fr : LFr} {a : Act} {o : Oper} {w : Bool} (h : lwanted ops.toList fr o = some w)
    (hs : ∀ j b g d v, o.guard = some (j, b) → ops[j]? = some g → g.dst = some d → fr.m.get d = some v → VRel inj v (a.tmps.getD d undef)) :
    Region.wanted o (yielded ops a.tmps) = w := by
  unfold lwanted at h
  unfold Region.wanted
  cases hg : o.guard with
  | none => rw [hg] at h; simpa using h
  | some p =>
    obtain ⟨j, b⟩ := p
    rw [hg] at h
    simp only [Array.getElem?_toList] at h ⊢
    unfold yielded
    cases hj : ops[j]? with
    | none => rw [hj] at h; simp at h ⊢; exact h
    | some g =>
      rw [hj] at h
      simp only [Option.bind_some] at h ⊢
      cases hd : g.dst with
      | none => rw [hd] at h; simp at h ⊢; exact h
      | some d =>
        rw [hd] at h
        simp only [Option.bind_some] at h ⊢
        cases hv : fr.m.get d with
        | none => rw [hv] at h; simp at h
        | some v =>
          rw [hv] at h
          have hr := hs j b g d v hg hj hd hv
          simp only [Array.getD_eq_getD_getElem?] at hr
          cases ht : a.tmps[d]? with
          | none =>
            rw [ht] at hr; simp only [Option.getD_none] at hr
            cases v <;> simp [VRel, undef] at hr <;> simp at h ⊢ <;> exact h
          | some u =>
            rw [ht] at hr; simp only [Option.getD_some] at hr
            cases v
            case bool x =>
              simp only [VRel] at hr; subst hr
              simp only [Option.some.injEq] at h
              subst h
              cases x <;> cases b <;> rfl
            all_goals
              simp only [Option.some.injEq] at h
              simp only [VRel] at hr
              first
                | (subst hr; subst h; rfl)
                | (obtain ⟨_, hr⟩ := hr; subst h; first | (subst hr; rfl) | (obtain ⟨_, hr⟩ := hr; first | (subst hr; rfl) | (obtain ⟨rfl, _⟩ := hr; rfl) | (obtain ⟨_, hr⟩ := hr; first | (subst hr; rfl) | (obtain ⟨rfl, _⟩ := hr; rfl) | (obtain ⟨_, rfl, _⟩ := hr; rfl)) | (obtain ⟨_, rfl⟩ := hr; rfl)) | (obtain ⟨rfl, _⟩ := hr; rfl) | (obtain ⟨_, rfl⟩ := hr; rfl))

theorem wanted_eq {ops : Array Oper} {fr : LFr} {a : Act} (hf : FRel inj fr a.tmps) {o : Oper} {w : Bool} (h : lwanted ops.toList fr o = some w) : Region.wanted o (yielded ops a.tmps) = w :=
  wanted_slot h fun _ _ _ d v _ _ _ hv => hf.2 d v hv

/-! ### one light operation, in a row of operations -/
def injAt (inj : Inj) (n : Nat) (q : Nat × Nat) : Inj := fun L => if L = n then some q else inj L

theorem injAt_ext (hm : Emb E B inj st w) (q : Nat × Nat) : Go.Proofs.Ytpkeggejofeeeaa.Lvm.Ext inj (injAt inj st.nxt q) := fun L p hp => by
  have := (hm.dom L p hp).1
  simp only [injAt]; rw [if_neg (by omega)]; exact hp

theorem push_old {w w' : World} {ob : Obj} (h : w'.heap = w.heap.push ob) {b : Nat} (hb : b < w.heap.size) : w'.heap[b]? = w.heap[b]? := by
  rw [h, Array.getElem?_push, if_neg (by omega)]
theorem push_new {w w' : World} {ob : Obj} (h : w'.heap = w.heap.push ob) : w'.heap[w.heap.size]? = some ob := by
  rw [h]; simp

theorem base_keep (hm : Emb E B inj st w) (hi : Go.Proofs.Ytpkeggejofeeeaa.Lvm.Ext inj inj') (hk : ∀ b, b < B → w'.heap[b]? = w.heap[b]?) {r o : Nat} {v : LV} (hv : E.bm r o = some v) :
    r < B ∧ ∃ u, w'.cell? ⟨r, o, none⟩ = some u ∧ VRel inj' v u := by
  obtain ⟨h1, u, h2, h3⟩ := hm.base r o v hv
  refine ⟨h1, u, ?_, h3.mono hi⟩
  rw [← h2]; simp [World.cell?, hk r h1]

theorem live_newB {o : LObj} {L : Nat} (hl : live (newB st o) L) : L = st.nxt ∨ (L ≠ st.nxt ∧ live st L) := by
  obtain ⟨x, hx, hd⟩ := hl
  simp only [newB, Mem.get_set] at hx
  by_cases h0 : st.nxt = L
  · exact Or.inl h0.symm
  · rw [if_neg h0] at hx; exact Or.inr ⟨Ne.symm h0, x, hx, hd⟩

/-- A new block on both sides. -/
theorem fresh_step (hr : Rel E B inj st w) (hlo : lo ≤ st.nxt) {o : LObj} {ob : Obj} {cnt : Nat} (h8 : w'.heap = w.heap.push ob) (h9 : Alike3 w w')
    (ho : ORel E (injAt inj st.nxt (w.heap.size, cnt)) o (some ob) cnt) :
    Rel E B (injAt inj st.nxt (w.heap.size, cnt)) (newB st o) w' ∧ Step lo inj st w (injAt inj st.nxt (w.heap.size, cnt)) (newB st o) w' := by
  have hm := hr.toEmb
  have hx := injAt_ext hm (w.heap.size, cnt)
  have hsz : w'.heap.size = w.heap.size + 1 := by rw [h8]; simp
  refine ⟨⟨⟨?_, ?_, ?_, ?_, ?_⟩, ?_, ?_⟩, ⟨?_, ?_, ?_, ?_, ?_, ?_, h9⟩⟩
  · intro L q hq
    simp only [injAt] at hq
    split at hq
    · simp at hq; subst hq; exact ⟨by simp [newB]; omega, hm.low, by omega⟩
    · have := hm.dom L q hq; exact ⟨by simp [newB]; omega, this.2.1, by omega⟩
  · intro L q o' hq ho'
    simp only [injAt] at hq
    simp only [newB, Mem.get_set] at ho'
    split at hq
    · rename_i h; subst h
      rw [if_pos rfl] at ho'
      simp only [Option.some.injEq] at hq ho'
      subst hq; subst ho'
      rw [push_new h8]; exact ho
    · rename_i h
      rw [if_neg (Ne.symm h)] at ho'
      rw [push_old h8 (hm.dom L q hq).2.2]
      exact (hm.obj L q o' hq ho').mono hx
  · intro L hL
    simp only [newB] at hL
    simp only [newB, Mem.get_set]
    rw [if_neg (by omega)]; exact hm.new L (by omega)
  · intro r o' v hv
    exact base_keep hm hx (fun b hb => push_old h8 (by have := hm.low; omega)) hv
  · have := hm.low; omega
  · intro L hL
    rcases live_newB hL with h | ⟨h, hl⟩
    · exact ⟨_, by simp only [injAt]; rw [if_pos h]⟩
    · obtain ⟨q, hq⟩ := hr.full L hl
      exact ⟨q, hx _ _ hq⟩
  · intro L L' q q' h1 h2 h3 h4 h5
    simp only [injAt] at h3 h4
    rcases live_newB h1 with e1 | ⟨e1, l1⟩ <;> rcases live_newB h2 with e2 | ⟨e2, l2⟩
    · rw [e1, e2]
    · rw [if_pos e1] at h3; rw [if_neg e2] at h4
      simp at h3; subst h3
      have := (hm.dom _ _ h4).2.2
      simp only at h5; omega
    · rw [if_neg e1] at h3; rw [if_pos e2] at h4
      simp at h4; subst h4
      have := (hm.dom _ _ h3).2.2
      simp only at h5; omega
    · rw [if_neg e1] at h3; rw [if_neg e2] at h4
      exact hr.uniq L L' q q' l1 l2 h3 h4 h5
  · intro L hL; simp only [injAt]; rw [if_neg (by omega)]
  · simp [newB]
  · omega
  · intro b hb _; exact push_old h8 hb
  · intro L q hL hl hq
    simp only [injAt] at hq
    split at hq
    · simp at hq; subst hq; exact Or.inl (Nat.le_refl _)
    · rename_i h
      rcases live_newB hl with e | ⟨_, l⟩
      · exact absurd e h
      · exact Or.inr ⟨L, q, hL, l, hq, rfl⟩
  · intro L hL; simp only [newB, Mem.get_set]; rw [if_neg (by omega)]

theorem set_old {w w' : World} {c : Nat} {ob : Obj} (h : w'.heap = w.heap.setIfInBounds c ob) {b : Nat} (hb : c ≠ b) : w'.heap[b]? = w.heap[b]? := by
  rw [h, Array.getElem?_setIfInBounds_ne hb]
theorem set_new {w w' : World} {c : Nat} {ob : Obj} (h : w'.heap = w.heap.setIfInBounds c ob) (hc : c < w.heap.size) : w'.heap[c]? = some ob := by
  rw [h]; simp [hc]

theorem store_step (hr : Rel E B inj st w) (_hlo : lo ≤ st.nxt) {L : Nat} {q : Nat × Nat} {old o : LObj} {ob : Obj} (h1 : lo ≤ L) (h2 : inj L = some q) (h3 : st.mem.get L = some old) (h4 : old ≠ .dead) (_h5 : o ≠ .dead)
    (h8 : w'.heap = w.heap.setIfInBounds q.1 ob) (h9 : Alike3 w w') (h10 : ORel E inj o (some ob) q.2) :
    Rel E B inj { st with mem := st.mem.set L o } w' ∧ Step lo inj st w inj { st with mem := st.mem.set L o } w' := by
  have hm := hr.toEmb
  have hl : live st L := ⟨old, h3, h4⟩
  have hsz : w'.heap.size = w.heap.size := by rw [h8]; simp
  have hd := hm.dom L q h2
  have hlv : ∀ {L'}, live { st with mem := st.mem.set L o } L' → live st L' := fun {L'} ⟨x, hx, hxd⟩ => by
    simp only [Mem.get_set] at hx
    by_cases e : L = L'
    · subst e; exact hl
    · rw [if_neg e] at hx; exact ⟨x, hx, hxd⟩
  refine ⟨⟨⟨?_, ?_, ?_, ?_, ?_⟩, ?_, ?_⟩, ⟨fun _ _ => rfl, Nat.le_refl _, by omega, ?_, ?_, ?_, h9⟩⟩
  · intro L' q' hq; have := hm.dom L' q' hq; exact ⟨this.1, this.2.1, by omega⟩
  · intro L' q' o' hq ho'
    simp only [Mem.get_set] at ho'
    by_cases e : L = L'
    · subst e
      rw [if_pos rfl] at ho'
      rw [h2] at hq; simp only [Option.some.injEq] at hq ho'; subst hq; subst ho'
      rw [set_new h8 hd.2.2]; exact h10
    · rw [if_neg e] at ho'
      by_cases hdd : o' = .dead
      · subst hdd; trivial
      · have hne : q.1 ≠ q'.1 := fun e' => e (hr.uniq L L' q q' hl ⟨o', ho', hdd⟩ h2 hq e')
        rw [set_old h8 hne]
        exact hm.obj L' q' o' hq ho'
  · intro L' hL'
    have hL' : st.nxt ≤ L' := hL'
    simp only [Mem.get_set]
    rw [if_neg (by omega)]; exact hm.new L' hL'
  · intro r o' v hv
    exact base_keep hm (Ext.refl _) (fun b hb => set_old h8 (by omega)) hv
  · have := hm.low; omega
  · intro L' hL'; exact hr.full L' (hlv hL')
  · intro A A' p p' a1 a2 a3 a4 a5; exact hr.uniq A A' p p' (hlv a1) (hlv a2) a3 a4 a5
  · intro b hb hp
    exact set_old h8 (hp L q h1 hl h2)
  · intro L' q' hL' hl' hq'; exact Or.inr ⟨L', q', hL', hlv hl', hq', rfl⟩
  · intro L' hL'; simp only [Mem.get_set]; rw [if_neg (by omega)]

theorem kill_step (hr : Rel E B inj st w) {L : Nat} {q : Nat × Nat} (h2 : inj L = some q) : Rel E B inj { st with mem := st.mem.set L .dead } w := by
  have hm := hr.toEmb
  have hd := hm.dom L q h2
  have hlv : ∀ {L'}, live { st with mem := st.mem.set L .dead } L' → L' ≠ L ∧ live st L' := fun {L'} ⟨x, hx, hxd⟩ => by
    simp only [Mem.get_set] at hx
    by_cases e : L = L'
    · subst e; rw [if_pos rfl] at hx; simp at hx; exact absurd hx.symm hxd
    · rw [if_neg e] at hx; exact ⟨Ne.symm e, x, hx, hxd⟩
  refine ⟨⟨hm.dom, ?_, ?_, hm.base, hm.low⟩, fun L' h => hr.full L' (hlv h).2, fun A A' p p' a1 a2 => hr.uniq A A' p p' (hlv a1).2 (hlv a2).2⟩
  · intro L' q' o' hq ho'
    simp only [Mem.get_set] at ho'
    by_cases e : L = L'
    · subst e; rw [if_pos rfl] at ho'; simp at ho'; subst ho'; trivial
    · rw [if_neg e] at ho'; exact hm.obj L' q' o' hq ho'
  · intro L' hL'
    simp only [Mem.get_set]; rw [if_neg (by have := hd.1; simp only at hL'; omega)]; exact hm.new L' hL'

theorem grow_step (hr : Rel E B inj st w) (hlo : lo ≤ st.nxt) {L : Nat} {q : Nat × Nat} {cs cs' : List LV} {ob : Obj} (h1 : lo ≤ L) (h2 : inj L = some q) (h3 : st.mem.get L = some (.cells cs))
    (h8 : w'.heap = w.heap.setIfInBounds q.1 ob) (h9 : Alike3 w w') (ho : ORel E (injAt inj st.nxt q) (.cells cs') (some ob) q.2) :
    Rel E B (injAt inj st.nxt q) (newB { st with mem := st.mem.set L .dead } (.cells cs')) w' ∧
      Step lo inj st w (injAt inj st.nxt q) (newB { st with mem := st.mem.set L .dead } (.cells cs')) w' := by
  have hm := hr.toEmb
  have hl : live st L := ⟨_, h3, by simp⟩
  have hx := injAt_ext hm q
  have hsz : w'.heap.size = w.heap.size := by rw [h8]; simp
  have hd := hm.dom L q h2
  have hget : ∀ A, (newB { st with mem := st.mem.set L .dead } (.cells cs')).mem.get A = if A = st.nxt then some (.cells cs') else if A = L then some .dead else st.mem.get A := by
    intro A
    simp only [newB, Mem.get_set]
    by_cases e1 : st.nxt = A
    · rw [if_pos e1, if_pos e1.symm]
    · rw [if_neg e1, if_neg (Ne.symm e1)]
      by_cases e2 : L = A
      · rw [if_pos e2, if_pos e2.symm]
      · rw [if_neg e2, if_neg (Ne.symm e2)]
  have hlv : ∀ {A}, live (newB { st with mem := st.mem.set L .dead } (.cells cs')) A → A = st.nxt ∨ (A ≠ st.nxt ∧ A ≠ L ∧ live st A) := fun {A} ⟨x, hx', hxd⟩ => by
    rw [hget] at hx'
    by_cases e1 : A = st.nxt
    · exact Or.inl e1
    · rw [if_neg e1] at hx'
      by_cases e2 : A = L
      · rw [if_pos e2] at hx'; simp at hx'; exact absurd hx'.symm hxd
      · rw [if_neg e2] at hx'; exact Or.inr ⟨e1, e2, x, hx', hxd⟩
  have hinj : ∀ {A p}, A ≠ st.nxt → injAt inj st.nxt q A = some p → inj A = some p := fun {A p} e hp => by
    simp only [injAt] at hp; rwa [if_neg e] at hp
  have hnx : injAt inj st.nxt q st.nxt = some q := by simp [injAt]
  refine ⟨⟨⟨?_, ?_, ?_, ?_, ?_⟩, ?_, ?_⟩, ⟨?_, ?_, by omega, ?_, ?_, ?_, h9⟩⟩
  · intro A p hp
    by_cases e : A = st.nxt
    · subst e; rw [hnx] at hp; simp at hp; subst hp; exact ⟨by simp [newB], hd.2.1, by omega⟩
    · have := hm.dom A p (hinj e hp); exact ⟨by simp [newB]; omega, this.2.1, by omega⟩
  · intro A p o' hp ho'
    rw [hget] at ho'
    by_cases e : A = st.nxt
    · subst e; rw [if_pos rfl] at ho'; rw [hnx] at hp; simp only [Option.some.injEq] at hp ho'; subst hp; subst ho'
      rw [set_new h8 hd.2.2]; exact ho
    · rw [if_neg e] at ho'
      by_cases e2 : A = L
      · rw [if_pos e2] at ho'; simp at ho'; subst ho'; trivial
      · rw [if_neg e2] at ho'
        by_cases hdd : o' = .dead
        · subst hdd; trivial
        · have hp' := hinj e hp
          have hne : q.1 ≠ p.1 := fun e' => e2 (hr.uniq L A q p hl ⟨o', ho', hdd⟩ h2 hp' e').symm
          rw [set_old h8 hne]
          exact (hm.obj A p o' hp' ho').mono hx
  · intro A hA
    simp only [newB] at hA
    rw [hget, if_neg (by omega), if_neg (by omega)]; exact hm.new A (by omega)
  · intro r o' v hv
    exact base_keep hm hx (fun b hb => set_old h8 (by omega)) hv
  · have := hm.low; omega
  · intro A hA
    rcases hlv hA with e | ⟨e, _, l⟩
    · subst e; exact ⟨q, hnx⟩
    · obtain ⟨p, hp⟩ := hr.full A l
      exact ⟨p, hx _ _ hp⟩
  · intro A A' p p' a1 a2 a3 a4 a5
    rcases hlv a1 with e1 | ⟨e1, n1, l1⟩ <;> rcases hlv a2 with e2 | ⟨e2, n2, l2⟩
    · rw [e1, e2]
    · subst e1; rw [hnx] at a3; simp at a3; subst a3
      exact absurd (hr.uniq L A' q p' hl l2 h2 (hinj e2 a4) a5).symm n2
    · subst e2; rw [hnx] at a4; simp at a4; subst a4
      exact absurd (hr.uniq L A q p hl l1 h2 (hinj e1 a3) a5.symm).symm n1
    · exact hr.uniq A A' p p' l1 l2 (hinj e1 a3) (hinj e2 a4) a5
  · intro A hA; simp only [injAt]; rw [if_neg (by omega)]
  · simp [newB]
  · intro b hb hp; exact set_old h8 (hp L q h1 hl h2)
  · intro A p hA hl' hp
    rcases hlv hl' with e | ⟨e, _, l⟩
    · subst e; rw [hnx] at hp; simp at hp; subst hp; exact Or.inr ⟨L, q, h1, hl, h2, rfl⟩
    · exact Or.inr ⟨A, p, hA, l, hinj e hp, rfl⟩
  · intro A hA; rw [hget, if_neg (by omega), if_neg (by omega)]
end
end Go.Proofs.Ytpkeggejofeeeaa.Lvm

namespace Go.Proofs.Ytpkeggejofeeeaa.Lvm

def CallSound (E : Env) (B : Nat) (call : CallFn) : Prop := ∀ lo f args st r st', call lo f args st = some (r, st') →
  ∀ (inj : Inj) (w : World) (args' : Array Value), Rel E B inj st w → lo ≤ st.nxt → VRels inj args args'.toList →
    (callFunc f args').run E.P w = .ok (.enter f args') w ∧
    Calls E.P f args' w fun e w' => ∃ u inj', e = .returned u ∧ VRel inj' r u ∧ Rel E B inj' st' w' ∧ Step lo inj st w inj' st' w'

section
variable {E : Env} {B lo : Nat} {inj : Inj} {st st' : LSt} {w : World} {fr fr' : LFr} {a : Act} {cover wr : Bool} {v : LV}

theorem LOut.step {s : Sem Next} (hr : Rel E B inj st w) (hlo : lo ≤ st.nxt) (h : LOut E inj lo cover wr st w v st' s) :
    ∃ n u w' inj', NextIs n u ∧ s.run E.P w = .ok n w' ∧ VRel inj' v u ∧ Rel E B inj' st' w' ∧ Step lo inj st w inj' st' w' := by
  cases h with
  | same h n u hn hrun hv => subst h; exact ⟨n, u, w, inj, hn, hrun, hv, hr, Step.refl⟩
  | fresh o ob cnt n u w' hn h1 hrun h8 h9 h10 =>
    subst h1
    have hx := injAt_ext hr.toEmb (w.heap.size, cnt)
    obtain ⟨k1, k2⟩ := h10 (injAt inj st.nxt (w.heap.size, cnt)) hx (by simp [injAt])
    obtain ⟨g1, g2⟩ := fresh_step hr hlo h8 h9 k2
    exact ⟨n, u, w', _, hn, hrun, k1, g1, g2⟩
  | store hc L q old o ob n u w' hn h1 h2 h3 h4 h5 h6 hrun h8 h9 h10 h11 =>
    subst h6
    obtain ⟨g1, g2⟩ := store_step hr hlo h1 h2 h3 h4 h5 h8 h9 h10
    exact ⟨n, u, w', _, hn, hrun, h11, g1, g2⟩
  | grow L q cs cs' n u w' hn h1 h2 h3 h6 hrun h9 h8 =>
    subst h6
    rcases h8 with ⟨ob, cnt, h8, h10⟩ | ⟨ob, h8, _, h10⟩
    · have hk := kill_step hr h2
      have hx := injAt_ext hr.toEmb (w.heap.size, cnt)
      obtain ⟨k1, k2⟩ := h10 (injAt inj st.nxt (w.heap.size, cnt)) hx (by simp [injAt])
      obtain ⟨g1, g2⟩ := fresh_step (st := { st with mem := st.mem.set L .dead }) (lo := lo) hk hlo h8 h9 k2
      refine ⟨n, u, w', _, hn, hrun, k1, g1, ⟨g2.ext, g2.nxt, g2.size, ?_, ?_, ?_, h9⟩⟩
      · intro b hb _; exact push_old h8 hb
      · intro A p hA hl hp
        rcases g2.orig A p hA hl hp with e | ⟨A0, p0, e1, e2, e3, e4⟩
        · exact Or.inl e
        · refine Or.inr ⟨A0, p0, e1, ?_, e3, e4⟩
          obtain ⟨x, hx1, hx2⟩ := e2
          simp only [Mem.get_set] at hx1
          by_cases e : L = A0
          · subst e; exact ⟨_, h3, by simp⟩
          · rw [if_neg e] at hx1; exact ⟨x, hx1, hx2⟩
      · intro A hA
        rw [g2.old A hA]; simp only [Mem.get_set]; rw [if_neg (by omega)]
    · have hx := injAt_ext hr.toEmb q
      obtain ⟨k1, k2⟩ := h10 (injAt inj st.nxt q) hx (by simp [injAt])
      obtain ⟨g1, g2⟩ := grow_step hr hlo h1 h2 h3 h8 h9 k2
      exact ⟨n, u, w', _, hn, hrun, k1, g1, g2⟩

theorem lput_rel {dst : Option Tmp} {u : Value} {o : Oper} (ho : o.dst = dst) (hf : FRel inj fr a.tmps) (hv : VRel inj v u) (h : lputK fr dst v (fun f => some (f, st)) = some (fr', st')) :
    st' = st ∧ FRel inj fr' (a.put o.dst u).tmps := by
  rw [lputK_eq] at h
  subst ho
  cases hd : o.dst with
  | none =>
    rw [hd] at h
    simp only [Option.some.injEq, Prod.mk.injEq] at h
    obtain ⟨rfl, rfl⟩ := h
    exact ⟨rfl, hf⟩
  | some d =>
    rw [hd] at h
    simp only at h
    cases hb : Nat.blt d fr.n with
    | false => rw [hb] at h; simp at h
    | true =>
      rw [hb] at h
      simp only [cond_true, Option.some.injEq, Prod.mk.injEq] at h
      obtain ⟨rfl, rfl⟩ := h
      exact ⟨rfl, hf.put hv d (blt_lt hb)⟩

theorem put_defers (a : Act) (d : Option Tmp) (u : Value) : (a.put d u).defers = a.defers := by cases d <;> rfl

/-- The call's own operands. -/
theorem opCall_value {call : CallFn} {c : Call} {f : Operand} {r : LV} (hcv : c.callee = .value f) (h : opCall E call lo cover fr st c = some (r, st')) :
    ∃ vs g first cap, levals fr c.args.toList = some vs ∧ leval fr f = some (.fn g first cap) ∧ call lo g ((first ++ vs) ++ cap) st = some (r, st') := by
  unfold opCall at h
  split at h
  · rename_i vs hvs
    rw [hcv] at h
    simp only at h
    split at h
    · rename_i g first cap hg; exact ⟨vs, g, first, cap, hvs, hg, h⟩
    · cases h
  · cases h

theorem oper_seq (hE : E.Ok) {call : CallFn} (hcall : CallSound E B call) {ops : Array Oper} {i : Nat} {o : Oper} (ho : ops[i]? = some o) (hr : Rel E B inj st w) (hlo : lo ≤ st.nxt) (hf : FRel inj fr a.tmps)
    (hd : a.defers = []) (h : vOper E call lo cover ops.toList o fr st = some (fr', st')) {K : Act → World → Prop} {Q : Exit → Act → World → Prop}
    (hK : ∀ inj' a' w', Step lo inj st w inj' st' w' → Rel E B inj' st' w' → FRel inj' fr' a'.tmps → a'.defers = [] → K a' w') :
    wpOp E.P ops Q i K a w := by
  unfold wpOp
  simp only [ho]
  unfold vOper at h
  cases hw : lwanted ops.toList fr o with
  | none => rw [hw] at h; cases h
  | some bw =>
  rw [hw] at h
  rw [wanted_eq hf hw]
  cases bw with
  | false =>
    simp only at h
    obtain ⟨rfl, hf'⟩ := lput_rel rfl hf VRel.undef h
    simp only [Bool.false_eq_true, if_false]
    exact hK inj _ w Step.refl hr hf' (by rw [put_defers]; exact hd)
  | true =>
    simp only at h
    simp only [if_true]
    left
    split at h
    · rename_i v st2 hv
      cases hcv : isCallV o.op with
      | false =>
        obtain ⟨n, u, w', inj', hn, hrun, hvr, hr', hs'⟩ := (vop_light hE hr.toEmb (fun x _ => XRel.of_frame hf x) hcv hv).step hr hlo
        obtain ⟨rfl, hf'⟩ := lput_rel rfl (hf.mono (hs'.toExt hr.toEmb)) hvr h
        unfold Oper.wp
        rw [hrun]
        rcases hn with rfl | ⟨rfl, rfl⟩
        · exact hK inj' _ w' hs' hr' hf' (by rw [put_defers]; exact hd)
        · exact hK inj' _ w' hs' hr' hf' (by rw [put_defers]; exact hd)
      | true =>
        obtain ⟨dst, op, ty, pos, after, guard⟩ := o
        cases op <;> simp only [isCallV, Bool.false_eq_true] at hcv
        rename_i c
        cases hcc : c.callee with
        | builtin b => rw [hcc] at hcv; simp at hcv
        | invoke r m => rw [hcc] at hcv; simp at hcv
        | value f =>
          simp only [vop] at hv
          obtain ⟨vs, g, first, cap, hvs, hg, hcl⟩ := opCall_value hcc hv
          have hxf := XRel.of_frame (a := a) hf f _ hg
          simp only [VRel] at hxf
          obtain ⟨fs, cs, hfe, hr1, hr2⟩ := hxf
          have hargs := levals_rel (a := a) (fun x _ => XRel.of_frame hf x) hvs
          have hall : VRels inj ((first ++ vs) ++ cap) ((fs ++ c.args.map a.eval) ++ cs).toList := by
            simpa using (hr1.append hargs).append hr2
          obtain ⟨hcf, hcalls⟩ := hcall lo g _ st v st2 hcl inj w _ hr hlo hall
          have hrun : (execOp a.eval ⟨dst, .call c, ty, pos, after, guard⟩).run E.P w = .ok (.enter g ((fs ++ c.args.map a.eval) ++ cs)) w := by
            simp only [execOp, resolve, hcc, hfe, Deferred.ofValue, pure_bind, invoke]
            exact hcf
          unfold Oper.wp
          rw [hrun, Oper.upon_enter]
          refine hcalls.mono fun e w' he => ?_
          obtain ⟨u, inj', rfl, hvr, hr', hs'⟩ := he
          obtain ⟨rfl, hf'⟩ := lput_rel (o := ⟨dst, .call c, ty, pos, after, guard⟩) rfl (hf.mono (hs'.toExt hr.toEmb)) hvr h
          exact hK inj' _ w' hs' hr' hf' (by rw [put_defers]; exact hd)
    · cases h

theorem vOpers_nil {call : CallFn} {ops : List Oper} : vOpers E call lo cover ops [] fr st = some (fr, st) := rfl
theorem vOpers_cons {call : CallFn} {ops os : List Oper} {o : Oper} : vOpers E call lo cover ops (o :: os) fr st = match vOper E call lo cover ops o fr st with
    | some (fr', st') => vOpers E call lo cover ops os fr' st'
    | none => none := rfl

theorem opers_seq (hE : E.Ok) {call : CallFn} (hcall : CallSound E B call) {ops : Array Oper} {Q : Exit → Act → World → Prop} : ∀ (os : List Oper) (k : Nat) (inj : Inj) (st : LSt) (w : World) (fr : LFr) (a : Act),
    (∀ j o, os[j]? = some o → ops[k + j]? = some o) → Rel E B inj st w → lo ≤ st.nxt → FRel inj fr a.tmps → a.defers = [] → vOpers E call lo cover ops.toList os fr st = some (fr', st') →
    (∀ inj' a' w', Step lo inj st w inj' st' w' → Rel E B inj' st' w' → FRel inj' fr' a'.tmps → a'.defers = [] → Q .normal a' w') →
    wpOps E.P ops Q (List.range' k os.length) a w
  | [], k, inj, st, w, fr, a, _, hr, hlo, hf, hd, h, hQ => by
    rw [vOpers_nil] at h
    simp only [Option.some.injEq, Prod.mk.injEq] at h
    obtain ⟨rfl, rfl⟩ := h
    simp only [List.length_nil, List.range'_zero, wpOps]
    exact hQ inj a w Step.refl hr hf hd
  | o :: os, k, inj, st, w, fr, a, hos, hr, hlo, hf, hd, h, hQ => by
    rw [vOpers_cons] at h
    split at h
    · rename_i fr1 st1 h1
      rw [List.length_cons, List.range'_succ, wpOps_cons]
      refine oper_seq hE hcall (by simpa using hos 0 o rfl) hr hlo hf hd h1 fun inj1 a1 w1 hs1 hr1 hf1 hd1 => ?_
      exact opers_seq hE hcall os (k + 1) inj1 st1 w1 fr1 a1 (fun j x hj => by rw [← hos (j + 1) x (by simpa using hj)]; congr 1; omega) hr1 (Nat.le_trans hlo hs1.nxt) hf1 hd1 h
        fun inj' a' w' hs' => hQ inj' a' w' (hs1.trans hs')
    · cases h

def LExit.to : LExit → Exit
  | .normal => .normal
  | .exit id => .exit id
  | .ret => .ret

def RecSound (E : Env) (B : Nat) (rec : RecFn) : Prop := ∀ lo c fr st ex fr' st', rec lo c fr st = some (ex, fr', st') →
  ∀ (inj : Inj) (w : World) (a : Act), Rel E B inj st w → lo ≤ st.nxt → FRel inj fr a.tmps → a.defers = [] → ∀ (Q : Exit → Act → World → Prop),
    (∀ inj' a' w', Step lo inj st w inj' st' w' → Rel E B inj' st' w' → FRel inj' fr' a'.tmps → a'.defers = [] → Q ex.to a' w') → c.wp E.P Q a w

/-- A region that draws its order. -/
def DrawSound (E : Env) (B : Nat) : Prop := ∀ (n : Nat), CallSound E B (vcall E (vcode E n)) → ∀ lo ops fr st fr' st', vregion E (vcode E n) lo ops true fr st = some (fr', st') →
  ∀ (id : Nat) (inj : Inj) (w : World) (a : Act), Rel E B inj st w → lo ≤ st.nxt → FRel inj fr a.tmps → a.defers = [] → ∀ (Q : Exit → Act → World → Prop),
    (∀ inj' a' w', Step lo inj st w inj' st' w' → Rel E B inj' st' w' → FRel inj' fr' a'.tmps → a'.defers = [] → Q .normal a' w') → (Code.region id ops true).wp E.P Q a w

/-- A loop over a map. -/
def WalkSound (E : Env) (B : Nat) : Prop := ∀ (n : Nat), RecSound E B (vcode E n) → ∀ lo id body x t c b fr st ex fr' st', walkOf body = some (x, t, c, id, b) → vwalk (vcode E n) lo x t c b fr st = some (ex, fr', st') →
  ∀ (inj : Inj) (w : World) (a : Act), Rel E B inj st w → lo ≤ st.nxt → FRel inj fr a.tmps → a.defers = [] → ∀ (Q : Exit → Act → World → Prop),
    (∀ inj' a' w', Step lo inj st w inj' st' w' → Rel E B inj' st' w' → FRel inj' fr' a'.tmps → a'.defers = [] → Q ex.to a' w') → (Code.block id body).wp E.P Q a w

/-- What stands for functions that are taken by a contract. -/
def ExtSound (E : Env) (B : Nat) : Prop := ∀ f g, E.ext f = some g → ∀ lo args st r st', g args st = some (r, st') →
  ∀ (inj : Inj) (w : World) (args' : Array Value), Rel E B inj st w → lo ≤ st.nxt → VRels inj args args'.toList →
    (callFunc f args').run E.P w = .ok (.enter f args') w ∧
    Calls E.P f args' w fun e w' => ∃ u inj', e = .returned u ∧ VRel inj' r u ∧ Rel E B inj' st' w' ∧ Step lo inj st w inj' st' w'

theorem argsF_cons {α : Type} (x : LV) (xs : List LV) (i : Nat) (m : Mem LV) (k : Mem LV → Option α) : argsF (x :: xs) i m k = argsF xs (i + 1) (m.set i x) k := by
  show Mem.setFK x (i + 1) m i (fun m => frcNat (i + 1) fun i => argsF xs i m k) = _
  rw [Mem.setFK_eq, frcNat_eq]; rfl

theorem argsF_eq {α : Type} : ∀ (l : List LV) (i : Nat) (m : Mem LV) (k : Mem LV → Option α),
    ∃ m', argsF l i m k = k m' ∧ ∀ j, m'.get j = if i ≤ j ∧ j < i + l.length then l[j - i]? else m.get j
  | [], i, m, k => ⟨m, rfl, fun j => by rw [if_neg (by simp)]⟩
  | x :: xs, i, m, k => by
    obtain ⟨m', h1, h2⟩ := argsF_eq xs (i + 1) (m.set i x) k
    refine ⟨m', by rw [argsF_cons]; exact h1, fun j => ?_⟩
    rw [h2, Mem.get_set]
    by_cases e : i = j
    · subst e
      rw [if_neg (by omega), if_pos rfl, if_pos (by simp)]; simp
    · rw [if_neg e]
      by_cases hj : i + 1 ≤ j ∧ j < i + 1 + xs.length
      · rw [if_pos hj, if_pos (by simp; omega)]
        rw [show j - i = (j - (i + 1)) + 1 by omega]; simp
      · rw [if_neg hj, if_neg (by simp; omega)]

theorem VRels.getD' {xs : List LV} {vs : Array Value} (h : VRels inj xs vs.toList) {i : Nat} {x : LV} (hx : xs[i]? = some x) : VRel inj x (vs.getD i undef) := by
  obtain ⟨v, hv, hr⟩ := h.get? hx
  have : vs[i]? = some v := by simpa using hv
  simpa [Array.getD_eq_getD_getElem?, this] using hr

theorem frame_args {args : List LV} {args' : Array Value} (h : VRels inj args args'.toList) {m : Mem LV} (hm : ∀ j, m.get j = if 0 ≤ j ∧ j < 0 + args.length then args[j - 0]? else (Mem.leaf : Mem LV).get j)
    {n : Nat} (hn : args.length ≤ n) : FRel inj { m := m, n := n } (args' ++ Array.replicate (n - args'.size) undef) := by
  have hl := h.length
  simp only [Array.length_toList] at hl
  refine ⟨by simp; omega, fun i v hv => ?_⟩
  simp only [hm] at hv
  by_cases hi : i < args.length
  · rw [if_pos (by omega)] at hv
    simp only [Nat.sub_zero] at hv
    have := h.getD' hv
    have e : (args' ++ Array.replicate (n - args'.size) undef).getD i undef = args'.getD i undef := by
      simp only [Array.getD_eq_getD_getElem?]
      rw [Array.getElem?_append_left (by omega)]
    rw [e]; exact this
  · rw [if_neg (by omega)] at hv
    cases hv

def resSem (a : Act) : ResultVar → Sem Value
  | .tmp t => pure (a.tmps.getD t undef)
  | .cell p t => do loadVar t (← asAddr (a.tmps.getD p undef))

theorem vresult_sound (hE : E.Ok) (hm : Emb E B inj st w) (hf : FRel inj fr a.tmps) {r : ResultVar} {x : LV} (h : vresult E fr st r = some x) :
    ∃ u, (resSem a r).run E.P w = .ok u w ∧ VRel inj x u := by
  cases r with
  | tmp t => simp only [vresult] at h; exact ⟨_, rfl, hf.2 t x h⟩
  | cell p t =>
    simp only [vresult] at h
    split at h
    · rename_i b o hb
      have hp := hf.2 p _ hb
      simp only [VRel] at hp
      obtain ⟨q, hq, hv⟩ := hp
      obtain ⟨u, hu, hr⟩ := loadV_sound hE hm h hq
      exact ⟨u, by simp only [resSem, hv, asAddr, Sem.run_bind, Sem.run_pure, Result.andThen_ok, hu], hr⟩
    · cases h

theorem vresultsL_sound (hE : E.Ok) (hm : Emb E B inj st w) (hf : FRel inj fr a.tmps) : ∀ {rs : List ResultVar} {xs : List LV}, vresultsL E fr st rs = some xs →
    ∃ us : List Value, (rs.mapM (resSem a)).run E.P w = .ok us w ∧ VRels inj xs us
  | [], xs, h => by simp [vresultsL] at h; subst h; exact ⟨[], by simp, VRels.nil⟩
  | r :: rs, xs, h => by
    simp only [vresultsL] at h
    split at h
    · rename_i v hv
      split at h
      · rename_i vs hvs
        simp at h; subst h
        obtain ⟨u, hu, h1⟩ := vresult_sound hE hm hf hv
        obtain ⟨us, hus, h2⟩ := vresultsL_sound hE hm hf hvs
        exact ⟨u :: us, by simp only [List.mapM_cons, Sem.run_bind, hu, Result.andThen_ok, hus, Sem.run_pure], VRels.cons h1 h2⟩
      · cases h
    · cases h

theorem vresults_sound (hE : E.Ok) (hm : Emb E B inj st w) (hf : FRel inj fr a.tmps) {fn : Func} {x : LV} (h : vresults E fn fr st = some x) : ∃ u, (results fn a.tmps).run E.P w = .ok u w ∧ VRel inj x u := by
  unfold vresults at h
  have key : ∀ xs, vresultsL E fr st fn.results.toList = some xs → ∃ us : List Value, (results fn a.tmps).run E.P w = .ok (if h : us.toArray.size = 1 then us.toArray[0] else .tuple us.toArray) w ∧ VRels inj xs us := by
    intro xs hxs
    obtain ⟨us, h1, h2⟩ := vresultsL_sound hE hm hf hxs
    refine ⟨us, ?_, h2⟩
    have hfun : results fn a.tmps = ((fn.results.mapM (resSem a)) >>= fun vs => pure (if h : vs.size = 1 then vs[0] else .tuple vs)) := by
      unfold results
      congr 2
    simp only [hfun, Sem.run_bind, Array.mapM_eq_mapM_toList, Sem.run_map]
    rw [h1]
    rfl
  split at h
  · rename_i v hv
    simp at h; subst h
    obtain ⟨us, h1, h2⟩ := key _ hv
    simp only [VRels] at h2
    obtain ⟨u, _, rfl, hr, rfl⟩ := h2
    exact ⟨u, by simpa using h1, hr⟩
  · rename_i vs hn hv
    simp at h; subst h
    obtain ⟨us, h1, h2⟩ := key _ hv
    have hl := h2.length
    refine ⟨.tuple us.toArray, ?_, by simp only [VRel]; exact ⟨_, rfl, by simpa using h2⟩⟩
    rw [h1]
    have : us.toArray.size ≠ 1 := by
      intro e
      simp only [List.size_toArray] at e
      rw [hl] at e
      match vs, e, hn with
      | [x], _, hn => exact hn x rfl
    rw [dif_neg this]
  · cases h

theorem vcall_sound (hE : E.Ok) {rec : RecFn} (hrec : RecSound E B rec) (hext : ExtSound E B) : CallSound E B (vcall E rec) := by
  intro lo f args st r st' h inj w args' hr hlo hv
  unfold vcall at h
  split at h
  · rename_i g hg; exact hext f g hg lo args st r st' h inj w args' hr hlo hv
  · split at h
    · rename_i fn hfn
      obtain ⟨hP, hname⟩ := hE.code f fn hfn
      split at h
      · rename_i c hc
        have hcf : (callFunc f args').run E.P w = .ok (.enter f args') w := by
          simp only [callFunc, Sem.run_bind, run_program, Result.andThen_ok, hP]
          rw [if_neg (by simpa using hname), if_neg (by simp [hc])]
          rfl
        refine ⟨hcf, ?_⟩
        cases hb : Nat.ble args.length fn.ntmps with
        | false => rw [hb] at h; simp at h
        | true =>
          rw [hb] at h; simp only [cond_true] at h
          have hle := Nat.le_of_ble_eq_true hb
          obtain ⟨m', h1, h2⟩ := argsF_eq args 0 .leaf (fun m => rec lo c { m := m, n := fn.ntmps } st)
          rw [h1] at h
          have hf := frame_args hv h2 hle
          have hl := hv.length
          simp only [Array.length_toList] at hl
          refine calls_of_wp hP hc ?_
          split at h
          · rename_i fr st2 hex
            refine hrec lo c _ st .normal fr st2 hex inj w { tmps := args' ++ Array.replicate (fn.ntmps - args'.size) undef, defers := [] } hr hlo hf rfl _ fun inj' a' w' hs' hr' hf' hd' => ?_
            cases hres : vresults E fn fr st2 with
            | none => rw [hres] at h; simp at h
            | some x =>
              rw [hres] at h; simp at h
              obtain ⟨rfl, rfl⟩ := h
              obtain ⟨u, hu, hru⟩ := vresults_sound hE hr'.toEmb hf' hres
              exact ⟨hd', u, hu, u, inj', rfl, hru, hr', hs'⟩
          · rename_i fr st2 hex
            refine hrec lo c _ st .ret fr st2 hex inj w { tmps := args' ++ Array.replicate (fn.ntmps - args'.size) undef, defers := [] } hr hlo hf rfl _ fun inj' a' w' hs' hr' hf' hd' => ?_
            cases hres : vresults E fn fr st2 with
            | none => rw [hres] at h; simp at h
            | some x =>
              rw [hres] at h; simp at h
              obtain ⟨rfl, rfl⟩ := h
              obtain ⟨u, hu, hru⟩ := vresults_sound hE hr'.toEmb hf' hres
              exact ⟨hd', u, hu, u, inj', rfl, hru, hr', hs'⟩
          · cases h
      · cases h
    · cases h

/-- The rounds of a loop. -/
def LoopSound (E : Env) (B : Nat) (n : Nat) : Prop := ∀ lo body fr st ex fr' st', vcode E n lo (.loop body) fr st = some (ex, fr', st') →
  ∀ (inj : Inj) (w : World) (a : Act), Rel E B inj st w → lo ≤ st.nxt → FRel inj fr a.tmps → a.defers = [] → ∀ (Q : Exit → Act → World → Prop),
    (∀ inj' a' w', Step lo inj st w inj' st' w' → Rel E B inj' st' w' → FRel inj' fr' a'.tmps → a'.defers = [] → Q ex.to a' w') → Code.rounds E.P body Q n a w

theorem vcode_sound (hE : E.Ok) (hext : ExtSound E B) (hdraw : DrawSound E B) (hwalk : WalkSound E B) : ∀ n, RecSound E B (vcode E n) ∧ LoopSound E B n
  | 0 => by
    refine ⟨?_, ?_⟩
    · intro lo c fr st ex fr' st' h
      change none = some _ at h; cases h
    · intro lo body fr st ex fr' st' h
      change none = some _ at h; cases h
  | n + 1 => by
    obtain ⟨ih, ihl⟩ := vcode_sound hE hext hdraw hwalk n
    have hcall := vcall_sound hE ih hext
    have hloop : LoopSound E B (n + 1) := by
      intro lo body fr st ex fr' st' h inj w a hr hlo hf hd Q hQ
      rw [rounds_succ]
      change (match vcode E n lo body fr st with
        | some (.normal, fr', st') => vcode E n lo (.loop body) fr' st'
        | r => r) = _ at h
      split at h
      · rename_i fr1 st1 h1
        refine ih lo body fr st _ fr1 st1 h1 inj w a hr hlo hf hd _ fun inj1 a1 w1 hs1 hr1 hf1 hd1 => ?_
        exact ihl lo body fr1 st1 ex fr' st' h inj1 w1 a1 hr1 (Nat.le_trans hlo hs1.nxt) hf1 hd1 Q fun inj' a' w' hs' => hQ inj' a' w' (hs1.trans hs')
      · rename_i hne
        refine ih lo body fr st ex fr' st' h inj w a hr hlo hf hd _ fun inj1 a1 w1 hs1 hr1 hf1 hd1 => ?_
        have hq := hQ inj1 a1 w1 hs1 hr1 hf1 hd1
        cases ex with
        | normal => exact absurd h (hne fr' st')
        | exit id => exact hq
        | ret => exact hq
    refine ⟨?_, hloop⟩
    intro lo c fr st ex fr' st' h inj w a hr hlo hf hd Q hQ
    change vstep E (vcode E n) lo c fr st = _ at h
    cases c <;> simp only [vstep, reduceCtorEq] at h
    case skip =>
      simp only [Option.some.injEq, Prod.mk.injEq] at h
      obtain ⟨rfl, rfl, rfl⟩ := h
      exact wp_skip (hQ inj a w Step.refl hr hf hd)
    case label l =>
      simp only [Option.some.injEq, Prod.mk.injEq] at h
      obtain ⟨rfl, rfl, rfl⟩ := h
      exact wp_label (hQ inj a w Step.refl hr hf hd)
    case exit id =>
      simp only [Option.some.injEq, Prod.mk.injEq] at h
      obtain ⟨rfl, rfl, rfl⟩ := h
      exact wp_exit (hQ inj a w Step.refl hr hf hd)
    case ret =>
      simp only [Option.some.injEq, Prod.mk.injEq] at h
      obtain ⟨rfl, rfl, rfl⟩ := h
      exact wp_ret (hQ inj a w Step.refl hr hf hd)
    case region id ops draw =>
      split at h
      · rename_i fr1 st1 h1
        simp only [Option.some.injEq, Prod.mk.injEq] at h
        obtain ⟨rfl, rfl, rfl⟩ := h
        cases draw with
        | true => exact hdraw n hcall lo ops fr st fr1 st1 h1 id inj w a hr hlo hf hd Q hQ
        | false =>
          unfold vregion at h1
          simp only [cond_false] at h1
          have := opers_seq hE hcall (ops := ops) (Q := Q) ops.toList 0 inj st w fr a (fun j o hj => by simpa using hj) hr hlo hf hd h1 hQ
          refine wp_region ?_
          rw [List.range_eq_range']
          simpa using this
      · cases h
    case seq x y =>
      refine wp_seq ?_
      split at h
      · rename_i fr1 st1 h1
        refine ih lo x fr st _ fr1 st1 h1 inj w a hr hlo hf hd _ fun inj1 a1 w1 hs1 hr1 hf1 hd1 => ?_
        exact ih lo y fr1 st1 ex fr' st' h inj1 w1 a1 hr1 (Nat.le_trans hlo hs1.nxt) hf1 hd1 Q fun inj' a' w' hs' => hQ inj' a' w' (hs1.trans hs')
      · rename_i hne
        refine ih lo x fr st ex fr' st' h inj w a hr hlo hf hd _ fun inj1 a1 w1 hs1 hr1 hf1 hd1 => ?_
        have hq := hQ inj1 a1 w1 hs1 hr1 hf1 hd1
        cases ex with
        | normal => exact absurd h (hne fr' st')
        | exit id => exact hq
        | ret => exact hq
    case cond x y z =>
      split at h
      · rename_i t ht
        have hx := XRel.of_frame (a := a) hf x _ ht
        refine wp_cond (t := t) (by simpa only [VRel] using hx) ?_
        exact ih lo _ fr st ex fr' st' h inj w a hr hlo hf hd Q hQ
      · cases h
    case block id body =>
      cases hwk : walkOf body with
      | some p =>
        obtain ⟨x, t, c, i, b⟩ := p
        rw [hwk] at h
        simp only at h
        cases hb : Nat.beq i id with
        | false => rw [hb] at h; simp at h
        | true =>
          rw [hb] at h; simp only [cond_true] at h
          have hb := Nat.eq_of_beq_eq_true hb
          subst hb
          exact hwalk n ih lo i body x t c b fr st ex fr' st' hwk h inj w a hr hlo hf hd Q hQ
      | none =>
        rw [hwk] at h
        simp only at h
        refine wp_block ?_
        split at h
        · rename_i i fr1 st1 h1
          refine ih lo body fr st _ fr1 st1 h1 inj w a hr hlo hf hd _ fun inj1 a1 w1 hs1 hr1 hf1 hd1 => ?_
          cases hb : Nat.beq i id with
          | true =>
            rw [hb] at h
            simp only [cond_true, Option.some.injEq, Prod.mk.injEq] at h
            obtain ⟨rfl, rfl, rfl⟩ := h
            have hb := Nat.eq_of_beq_eq_true hb
            subst hb
            have := hQ inj1 a1 w1 hs1 hr1 hf1 hd1
            simpa [LExit.to, Exit.inBlock] using this
          | false =>
            rw [hb] at h
            simp only [cond_false, Option.some.injEq, Prod.mk.injEq] at h
            obtain ⟨rfl, rfl, rfl⟩ := h
            have hne : i ≠ id := by intro e; subst e; simp at hb
            have := hQ inj1 a1 w1 hs1 hr1 hf1 hd1
            simpa [LExit.to, Exit.inBlock, hne] using this
        · rename_i hne
          refine ih lo body fr st ex fr' st' h inj w a hr hlo hf hd _ fun inj1 a1 w1 hs1 hr1 hf1 hd1 => ?_
          have hq := hQ inj1 a1 w1 hs1 hr1 hf1 hd1
          cases ex with
          | normal => exact hq
          | exit id' => exact absurd h (hne id' fr' st')
          | ret => exact hq
    case loop body =>
      exact wp_loop_rounds (n + 1) (hloop lo body fr st ex fr' st' h inj w a hr hlo hf hd Q hQ)
end
end Go.Proofs.Ytpkeggejofeeeaa.Lvm

namespace Go.Proofs.Ytpkeggejofeeeaa.Lvm

/-! ### what an operation does to the small machine's memory -/
inductive Eff (lo : Nat) (st st' : LSt) : Prop where
  | same (h : st' = st)
  | fresh (o : LObj) (h : st' = newB st o)
  | store (L : Nat) (old o : LObj) (h1 : lo ≤ L) (h3 : st.mem.get L = some old) (h4 : old ≠ .dead) (h5 : o ≠ .dead) (h : st' = { st with mem := st.mem.set L o })
  | grow (L : Nat) (cs cs' : List LV) (h1 : lo ≤ L) (h3 : st.mem.get L = some (.cells cs)) (h : st' = newB { st with mem := st.mem.set L .dead } (.cells cs'))

section
variable {E : Env} {lo : Nat} {cover : Bool} {st st' : LSt} {fr : LFr} {v : LV} {call : CallFn}

theorem newK_eff {x : LV} {o : LObj} (h : newK x st o = some (v, st')) : Eff lo st st' := by
  rw [newK_eq] at h; simp only [Option.some.injEq, Prod.mk.injEq] at h; exact .fresh o h.2.symm

theorem storeN_eff {b : Blk} {o : Nat} {us : List LV} (h : storeN lo st b o us = some st') : ∃ L old o', lo ≤ L ∧ st.mem.get L = some old ∧ old ≠ .dead ∧ o' ≠ .dead ∧ st' = { st with mem := st.mem.set L o' } := by
  cases b with
  | base _ => simp [storeN] at h
  | own L =>
    simp only [storeN] at h
    cases hlo : Nat.ble lo L with
    | false => rw [hlo] at h; simp at h
    | true =>
      rw [hlo] at h; simp only [cond_true] at h
      split at h
      · rename_i cs hcs
        cases hc : (Nat.ble (o + us.length) cs.length && us.all LV.scalar) with
        | false => rw [hc] at h; simp at h
        | true =>
          rw [hc] at h; simp only [cond_true, setObjK_eq, Option.some.injEq] at h
          exact ⟨L, _, _, Nat.le_of_ble_eq_true hlo, hcs, by simp, by simp, h.symm⟩
      · cases h

/-- The kinds of effect, by class. -/
def EffOf (lo : Nat) (cover : Bool) (st st' : LSt) : Cl → Prop
  | .pure => st' = st
  | .read => st' = st
  | .fresh => st' = st ∨ ∃ o, st' = newB st o
  | .grow => (st' = st ∨ ∃ o, st' = newB st o) ∨ (cover = false ∧ ∃ L old o, lo ≤ L ∧ st.mem.get L = some old ∧ old ≠ .dead ∧ o ≠ .dead ∧ st' = { st with mem := st.mem.set L o }) ∨
      ∃ L cs cs', lo ≤ L ∧ st.mem.get L = some (.cells cs) ∧ st' = newB { st with mem := st.mem.set L .dead } (.cells cs')
  | .call => True
  | .write => ∃ L old o, lo ≤ L ∧ st.mem.get L = some old ∧ old ≠ .dead ∧ o ≠ .dead ∧ st' = { st with mem := st.mem.set L o }

theorem fresh_of {x : LV} {o : LObj} (h : newK x st o = some (v, st')) : st' = st ∨ ∃ o, st' = newB st o := by
  rw [newK_eq] at h; simp only [Option.some.injEq, Prod.mk.injEq] at h; exact Or.inr ⟨o, h.2.symm⟩

theorem mapSet_eff {t : TypeId} {x k y : LV} (h : mapSetL E lo st t x k y = some st') : EffOf lo cover st st' .write := by
  unfold mapSetL at h
  split at h
  · split at h
    · split at h
      · rename_i m
        cases hlo : Nat.ble lo m with
        | false => rw [hlo] at h; simp at h
        | true =>
          rw [hlo] at h; simp only [cond_true] at h
          split at h
          · rename_i kt' es hes
            generalize Nat.beq _ _ = c0 at h
            cases c0 with
            | false => simp at h
            | true =>
              simp only [cond_true] at h
              split at h
              · simp only [setObjK_eq, Option.some.injEq] at h
                exact ⟨m, _, _, Nat.le_of_ble_eq_true hlo, hes, by simp, by simp, h.symm⟩
              · simp only [setObjK_eq, Option.some.injEq] at h
                exact ⟨m, _, _, Nat.le_of_ble_eq_true hlo, hes, by simp, by simp, h.symm⟩
          · cases h
      · cases h
    · cases h
  · cases h

theorem mapEntry_eff {t : TypeId} {x k : LV} (h : mapEntryL E lo st t x k = some (v, st')) : EffOf lo cover st st' .write := by
  unfold mapEntryL at h
  split at h
  · split at h
    · split at h
      · rename_i m
        cases hlo : Nat.ble lo m with
        | false => rw [hlo] at h; simp at h
        | true =>
          rw [hlo] at h; simp only [cond_true] at h
          split at h
          · rename_i kt' es hes
            generalize Nat.beq _ _ = c0 at h
            cases c0 with
            | false => simp at h
            | true =>
              simp only [cond_true] at h
              split at h
              · simp only [setObjK_eq, Option.some.injEq, Prod.mk.injEq] at h
                exact ⟨m, _, _, Nat.le_of_ble_eq_true hlo, hes, by simp, by simp, h.2.symm⟩
              · split at h
                · simp only [setObjK_eq, Option.some.injEq, Prod.mk.injEq] at h
                  exact ⟨m, _, _, Nat.le_of_ble_eq_true hlo, hes, by simp, by simp, h.2.symm⟩
                · cases h
          · cases h
      · cases h
    · cases h
  · cases h

theorem entryStore_eff {x p y : LV} (h : entryStoreL lo st x p y = some st') : EffOf lo cover st st' .write := by
  unfold entryStoreL at h
  split at h
  · rename_i m
    split at h
    · cases hlo : Nat.ble lo m with
      | false => rw [hlo] at h; simp at h
      | true =>
        rw [hlo] at h; simp only [cond_true] at h
        split at h
        · rename_i kt es hes
          split at h
          · simp only [setObjK_eq, Option.some.injEq] at h
            exact ⟨m, _, _, Nat.le_of_ble_eq_true hlo, hes, by simp, by simp, h.symm⟩
          · cases h
        · cases h
    · cases h
  · cases h

theorem range_eff {t : TypeId} {x : LV} (h : rangeL E st t x = some (v, st')) : EffOf lo cover st st' .fresh := by
  unfold rangeL at h
  split at h
  · split at h
    · split at h
      · exact fresh_of h
      · cases h
    · cases h
  · cases h

theorem append_eff {sType : TypeId} {s x : LV} (h : appendL E lo cover st sType s x = some (v, st')) : EffOf lo cover st st' .grow := by
  unfold appendL at h
  split at h
  · split at h
    · rename_i sz _
      split at h
      · rename_i by_ _
        split at h
        · rename_i n _
          split at h
          · rename_i new _
            generalize (new.all LV.scalar && _) = c0 at h
            cases c0 with
            | false => simp at h
            | true =>
              simp only [cond_true] at h
              generalize Nat.beq n 0 = c1 at h
              cases c1 with
              | true =>
                simp only [cond_true] at h
                unfold sameSl at h
                split at h
                · simp only [Option.some.injEq, Prod.mk.injEq] at h; exact Or.inl (Or.inl h.2.symm)
                · generalize Nat.beq _ _ = c2 at h
                  cases c2 with
                  | false => simp at h
                  | true => simp only [cond_true, Option.some.injEq, Prod.mk.injEq] at h; exact Or.inl (Or.inl h.2.symm)
                · cases h
              | false =>
                simp only [cond_false] at h
                split at h
                · generalize roomFor _ _ = c2 at h
                  cases c2 with
                  | false => simp at h
                  | true => simp only [cond_true] at h; exact Or.inl (fresh_of h)
                · rename_i b o sz' len cap ex
                  generalize Nat.beq sz' sz = c2 at h
                  cases c2 with
                  | false => simp at h
                  | true =>
                    simp only [cond_true] at h
                    cases ex with
                    | true =>
                      simp only [cond_true] at h
                      generalize Nat.ble (len + n) cap = c3 at h
                      cases c3 with
                      | true =>
                        simp only [cond_true] at h
                        cases cover with
                        | true => simp at h
                        | false =>
                          simp only [cond_false] at h
                          split at h
                          · rename_i st2 hst
                            simp only [Option.some.injEq, Prod.mk.injEq] at h
                            obtain ⟨_, rfl⟩ := h
                            exact Or.inr (Or.inl ⟨rfl, storeN_eff hst⟩)
                          · cases h
                      | false =>
                        simp only [cond_false] at h
                        generalize roomFor _ _ = c4 at h
                        cases c4 with
                        | false => simp at h
                        | true =>
                          simp only [cond_true] at h
                          split at h
                          · exact Or.inl (fresh_of h)
                          · cases h
                    | false =>
                      simp only [cond_false] at h
                      split at h
                      · rename_i L
                        cases hc1 : (Nat.ble lo L && (Nat.beq o 0 && roomFor (len + n) by_)) with
                        | false => rw [hc1] at h; simp at h
                        | true =>
                          rw [hc1] at h; simp only [cond_true] at h
                          simp only [Bool.and_eq_true] at hc1
                          split at h
                          · rename_i cs hcs
                            generalize (Nat.ble (len * sz) cs.length && _) = c5 at h
                            cases c5 with
                            | false => simp at h
                            | true =>
                              simp only [cond_true, Mem.setFK_eq, newK_eq, Option.some.injEq, Prod.mk.injEq] at h
                              exact Or.inr (Or.inr ⟨L, cs, _, Nat.le_of_ble_eq_true hc1.1, hcs, h.2.symm⟩)
                          · cases h
                      · cases h
                · cases h
          · cases h
        · cases h
      · cases h
    · cases h
  · cases h

theorem vop_eff {op : Op} {c : Cl} (hc : clOf op = some c) (h : vop E call lo cover fr st op = some (v, st')) : EffOf lo cover st st' c := by
  cases op <;> simp only [clOf, Option.some.injEq, reduceCtorEq] at hc
  case call k =>
    obtain ⟨callee, args, argTypes⟩ := k
    cases callee with
    | value f => simp only [Option.some.injEq] at hc; subst hc; trivial
    | invoke r m => simp at hc
    | builtin b =>
      simp only [vop, opCall] at h
      split at h
      · unfold builtinL at h
        split at h
        · simp only [Option.some.injEq] at hc; subst hc
          simp only [Option.map_eq_some_iff, Prod.mk.injEq] at h
          obtain ⟨_, _, _, h⟩ := h; exact h.symm
        · simp only [Option.some.injEq] at hc; subst hc
          split at h
          · exact append_eff h
          · exact append_eff h
          · cases h
        · simp only [Option.some.injEq] at hc; subst hc
          simp only [Option.map_eq_some_iff, Prod.mk.injEq] at h
          obtain ⟨_, _, _, h⟩ := h; exact h.symm
        · simp only [Option.some.injEq] at hc; subst hc
          simp only [Option.map_eq_some_iff, Prod.mk.injEq] at h
          obtain ⟨_, _, _, h⟩ := h; exact h.symm
        · cases h
      · cases h
  all_goals subst hc
  all_goals simp only [vop] at h
  case alloc t =>
    unfold opAlloc at h; split at h
    · generalize List.all _ _ = c0 at h; cases c0 with
      | false => simp at h
      | true => exact fresh_of h
    · cases h
  case box t x =>
    unfold opBox at h; split at h
    · generalize List.all _ _ = c0 at h; cases c0 with
      | false => simp at h
      | true => exact fresh_of h
    · cases h
  case buildSlice t n ps =>
    unfold opBuildSlice at h
    repeat' split at h
    all_goals first | (cases h; done) | skip
    generalize (List.all _ _ && _) = c0 at h; cases c0 with
    | false => simp at h
    | true => exact fresh_of h
  case makeMap t r =>
    unfold opMakeMap at h
    repeat' split at h
    all_goals first | exact fresh_of h | cases h
  case makeSlice t l c =>
    unfold opMakeSlice at h
    repeat' split at h
    all_goals first | (cases h; done) | skip
    generalize (Nat.ble _ _ && _) = c0 at h; cases c0 with
    | false => simp at h
    | true => exact fresh_of h
  case convert s d x =>
    unfold opConv convL at h
    repeat' split at h
    all_goals first
      | (cases h; done)
      | exact fresh_of h
      | (simp only [Option.some.injEq, Prod.mk.injEq] at h; exact Or.inl h.2.symm)
      | skip
    all_goals
      generalize Nat.beq _ _ = c0 at h
      cases c0 with
      | false => simp at h
      | true =>
        simp only [cond_true] at h
        repeat' split at h
        all_goals first
          | (cases h; done)
          | (simp only [Option.some.injEq, Prod.mk.injEq] at h; exact Or.inl h.2.symm)
  case mapEntry t m k =>
    unfold opMapEntry at h
    repeat' split at h
    all_goals first | exact mapEntry_eff (cover := cover) h | cases h
  case entryStore t m k x =>
    unfold opEntryStore at h
    repeat' split at h
    all_goals first | (cases h; done) | skip
    rename_i hst
    simp only [Option.some.injEq, Prod.mk.injEq] at h
    obtain ⟨_, rfl⟩ := h
    exact entryStore_eff (cover := cover) hst
  case range t x =>
    unfold opRange at h
    repeat' split at h
    all_goals first | exact range_eff (lo := lo) (cover := cover) h | cases h
  case store t p x =>
    unfold opStore storeV at h
    split at h
    · split at h
      · split at h
        · rename_i st2 hst
          simp only [Option.some.injEq, Prod.mk.injEq] at h
          obtain ⟨_, rfl⟩ := h
          split at hst
          · generalize Nat.beq _ _ = c0 at hst
            cases c0 with
            | false => simp at hst
            | true => simp only [cond_true] at hst; exact storeN_eff hst
          · cases hst
        · cases h
      · cases h
    · cases h
  case mapUpdate t m k x =>
    unfold opMapUpdate at h
    repeat' split at h
    all_goals first | (cases h; done) | skip
    rename_i hst
    simp only [Option.some.injEq, Prod.mk.injEq] at h
    obtain ⟨_, rfl⟩ := h
    exact mapSet_eff (cover := cover) hst
  all_goals
    first
      | unfold opMove at h
      | (unfold opPick opMove at h)
      | unfold opBuild at h
      | unfold opLoad at h
      | unfold opNil at h
      | unfold opBin at h
      | unfold opUn at h
      | unfold opFunc at h
      | unfold opSlice at h
      | unfold opFieldAddr at h
      | unfold opField at h
      | unfold opIndexAddr at h
      | unfold opIndex at h
      | unfold opLookup at h
      | unfold opExtract at h
      | unfold opEntry at h
    (repeat' split at h)
    all_goals first
      | (cases h; done)
      | (simp only [Option.some.injEq, Prod.mk.injEq] at h; exact h.2.symm)

theorem vop_pure {op : Op} (hc : clOf op = some .pure) (h : vop E call lo cover fr st op = some (v, st')) (st2 : LSt) : vop E call lo cover fr st2 op = some (v, st2) := by
  cases op <;> simp only [clOf, Option.some.injEq, reduceCtorEq] at hc
  case call k =>
    obtain ⟨callee, args, argTypes⟩ := k
    cases callee with
    | value f => simp at hc
    | invoke r m => simp at hc
    | builtin b =>
      simp only [vop, opCall] at h ⊢
      split at h
      · rename_i vs hvs
        unfold builtinL at h ⊢
        split at h
        · simp at hc
        · simp at hc
        · simp only [Option.map_eq_some_iff, Prod.mk.injEq] at h ⊢
          obtain ⟨z, h1, h2, _⟩ := h; exact ⟨z, h1, h2, trivial⟩
        · simp only [Option.map_eq_some_iff, Prod.mk.injEq] at h ⊢
          obtain ⟨z, h1, h2, _⟩ := h; exact ⟨z, h1, h2, trivial⟩
        · cases h
      · cases h
  all_goals simp only [vop] at h ⊢
  all_goals
    first
      | unfold opMove at h ⊢
      | (unfold opPick opMove at h ⊢)
      | unfold opBuild at h ⊢
      | unfold opNil at h ⊢
      | unfold opBin at h ⊢
      | unfold opUn at h ⊢
      | unfold opFunc at h ⊢
      | unfold opSlice at h ⊢
      | unfold opFieldAddr at h ⊢
      | unfold opField at h ⊢
      | unfold opIndexAddr at h ⊢
      | unfold opIndex at h ⊢
      | unfold opExtract at h ⊢
    (repeat' split at h)
    all_goals first
      | (cases h; done)
      | (simp only [Option.some.injEq, Prod.mk.injEq] at h; simp_all)
end
end Go.Proofs.Ytpkeggejofeeeaa.Lvm

namespace Go.Proofs.Ytpkeggejofeeeaa.Lvm

/-! ### the small machine's own memory, under a barrier -/
def NewOk (st : LSt) : Prop := ∀ L, st.nxt ≤ L → st.mem.get L = none
structure CEff (lo : Nat) (st st' : LSt) : Prop where
  nxt : st.nxt ≤ st'.nxt
  old : ∀ L, L < lo → st'.mem.get L = st.mem.get L
  new : NewOk st'

def CallEff (call : CallFn) : Prop := ∀ lo f args st r st', call lo f args st = some (r, st') → lo ≤ st.nxt → NewOk st → CEff lo st st'
def RecEff (rec : RecFn) : Prop := ∀ lo c fr st ex fr' st', rec lo c fr st = some (ex, fr', st') → lo ≤ st.nxt → NewOk st → CEff lo st st'
def ExtEff (E : Env) : Prop := ∀ f g, E.ext f = some g → ∀ args st r st', g args st = some (r, st') → NewOk st → CEff st.nxt st st'

section
variable {E : Env} {lo lo' : Nat} {cover : Bool} {st st' st'' : LSt} {fr fr' : LFr} {v : LV} {call : CallFn}

theorem CEff.refl (h : NewOk st) : CEff lo st st := ⟨Nat.le_refl _, fun _ _ => rfl, h⟩
theorem CEff.trans (h : CEff lo st st') (h' : CEff lo st' st'') : CEff lo st st'' :=
  ⟨Nat.le_trans h.nxt h'.nxt, fun L hL => (h'.old L hL).trans (h.old L hL), h'.new⟩
theorem CEff.weak (h : CEff lo st st') (hl : lo' ≤ lo) : CEff lo' st st' := ⟨h.nxt, fun L hL => h.old L (by omega), h.new⟩

theorem newB_eff (hn : NewOk st) (hlo : lo ≤ st.nxt) (o : LObj) : CEff lo st (newB st o) where
  nxt := by simp [newB]
  old := fun L hL => by simp only [newB, Mem.get_set]; rw [if_neg (by omega)]
  new := fun L hL => by
    simp only [newB] at hL ⊢
    rw [Mem.get_set, if_neg (by omega)]; exact hn L (by omega)

theorem set_eff (hn : NewOk st) {L : Nat} {old o : LObj} (h1 : lo ≤ L) (h3 : st.mem.get L = some old) : CEff lo st { st with mem := st.mem.set L o } where
  nxt := Nat.le_refl _
  old := fun A hA => by simp only [Mem.get_set]; rw [if_neg (by omega)]
  new := fun A hA => by
    simp only [Mem.get_set] at hA ⊢
    by_cases e : L = A
    · subst e; rw [hn L hA] at h3; cases h3
    · rw [if_neg e]; exact hn A hA

theorem EffOf.ceff {c : Cl} (hc : c ≠ .call) (hn : NewOk st) (hlo : lo ≤ st.nxt) (h : EffOf lo cover st st' c) : CEff lo st st' := by
  cases c with
  | pure => cases (show st' = st from h); exact .refl hn
  | read => cases (show st' = st from h); exact .refl hn
  | fresh => rcases h with rfl | ⟨o, rfl⟩; exact .refl hn; exact newB_eff hn hlo o
  | call => exact absurd rfl hc
  | write => obtain ⟨L, old, o, h1, h3, _, _, rfl⟩ := h; exact set_eff hn h1 h3
  | grow =>
    rcases h with (rfl | ⟨o, rfl⟩) | ⟨_, L, old, o, h1, h3, _, _, rfl⟩ | ⟨L, cs, cs', h1, h3, rfl⟩
    · exact .refl hn
    · exact newB_eff hn hlo o
    · exact set_eff hn h1 h3
    · have h := set_eff (o := .dead) hn h1 h3
      exact h.trans (newB_eff h.new hlo _)

theorem clOf_none {op : Op} (hc : clOf op = none) : vop E call lo cover fr st op = none := by
  cases op <;> simp only [clOf, reduceCtorEq] at hc <;> try rfl
  rename_i c
  obtain ⟨callee, args, argTypes⟩ := c
  cases callee with
  | value f => simp at hc
  | invoke r m => simp only [vop, opCall]; split <;> rfl
  | builtin b =>
    simp only [vop, opCall]
    split
    · unfold builtinL
      split <;> first | rfl | (simp at hc)
    · rfl

theorem clOf_call {op : Op} (hc : clOf op = some .call) : ∃ k f, op = .call k ∧ k.callee = .value f := by
  cases op <;> simp only [clOf, Option.some.injEq, reduceCtorEq] at hc
  rename_i c
  obtain ⟨callee, args, argTypes⟩ := c
  cases callee with
  | value f => exact ⟨_, f, rfl, rfl⟩
  | invoke r m => simp at hc
  | builtin b => simp only at hc; split at hc <;> first | (simp at hc; done) | (rename_i e; cases e)

theorem vop_ceff (hcall : CallEff call) (hn : NewOk st) (hlo : lo ≤ st.nxt) {op : Op} (h : vop E call lo cover fr st op = some (v, st')) : CEff lo st st' := by
  cases hc : clOf op with
  | none => rw [clOf_none hc] at h; cases h
  | some c =>
    by_cases hcc : c = .call
    · subst hcc
      obtain ⟨k, f, rfl, hk⟩ := clOf_call hc
      simp only [vop] at h
      obtain ⟨vs, g, first, cap, _, _, hcl⟩ := opCall_value hk h
      exact hcall lo g _ st v st' hcl hlo hn
    · exact EffOf.ceff hcc hn hlo (vop_eff hc h)

theorem lput_st {dst : Option Tmp} (h : lputK fr dst v (fun f => some (f, st)) = some (fr', st')) : st' = st ∧ ((dst = none ∧ fr' = fr) ∨ ∃ d, dst = some d ∧ d < fr.n ∧ fr' = fr.put d v) := by
  rw [lputK_eq] at h
  cases dst with
  | none => simp only [Option.some.injEq, Prod.mk.injEq] at h; exact ⟨h.2.symm, Or.inl ⟨rfl, h.1.symm⟩⟩
  | some d =>
    simp only at h
    cases hb : Nat.blt d fr.n with
    | false => rw [hb] at h; simp at h
    | true => rw [hb] at h; simp only [cond_true, Option.some.injEq, Prod.mk.injEq] at h; exact ⟨h.2.symm, Or.inr ⟨d, rfl, blt_lt hb, h.1.symm⟩⟩

/-- What one operation did, in its region. -/
def Tr (E : Env) (call : CallFn) (lo : Nat) (cover : Bool) (ops : List Oper) (o : Oper) (fr : LFr) (st : LSt) (fr' : LFr) (st' : LSt) : Prop :=
  ∃ v, ((o.dst = none ∧ fr' = fr) ∨ ∃ d, o.dst = some d ∧ d < fr.n ∧ fr' = fr.put d v) ∧
    ((lwanted ops fr o = some true ∧ vop E call lo cover fr st o.op = some (v, st')) ∨ (lwanted ops fr o = some false ∧ v = lundef ∧ st' = st))

theorem vOper_tr {ops : List Oper} {o : Oper} (h : vOper E call lo cover ops o fr st = some (fr', st')) : Tr E call lo cover ops o fr st fr' st' := by
  unfold vOper at h
  split at h
  · rename_i hw
    split at h
    · rename_i x st2 hv
      obtain ⟨rfl, h2⟩ := lput_st h
      exact ⟨x, h2, Or.inl ⟨hw, hv⟩⟩
    · cases h
  · rename_i hw
    obtain ⟨rfl, h2⟩ := lput_st h
    exact ⟨lundef, h2, Or.inr ⟨hw, rfl, rfl⟩⟩
  · cases h

theorem Tr.ceff (hcall : CallEff call) (hn : NewOk st) (hlo : lo ≤ st.nxt) {ops : List Oper} {o : Oper} (h : Tr E call lo cover ops o fr st fr' st') : CEff lo st st' := by
  obtain ⟨v, _, ⟨_, h⟩ | ⟨_, _, rfl⟩⟩ := h
  · exact vop_ceff hcall hn hlo h
  · exact .refl hn

theorem vOpers_eff (hcall : CallEff call) {ops : List Oper} : ∀ (l : List Oper) (fr : LFr) (st : LSt), lo ≤ st.nxt → NewOk st → vOpers E call lo cover ops l fr st = some (fr', st') → CEff lo st st'
  | [], fr, st, _, hn, h => by
    rw [vOpers_nil] at h; simp only [Option.some.injEq, Prod.mk.injEq] at h; obtain ⟨rfl, rfl⟩ := h; exact .refl hn
  | o :: os, fr, st, hlo, hn, h => by
    rw [vOpers_cons] at h
    split at h
    · rename_i fr1 st1 h1
      have e := (vOper_tr h1).ceff hcall hn hlo
      exact e.trans (vOpers_eff hcall os fr1 st1 (Nat.le_trans hlo e.nxt) e.new h)
    · cases h

theorem vcall_eff {rec : RecFn} (hrec : RecEff rec) (hext : ExtEff E) : CallEff (vcall E rec) := by
  intro lo f args st r st' h hlo hn
  unfold vcall at h
  split at h
  · rename_i g hg; exact (hext f g hg args st r st' h hn).weak hlo
  · split at h
    · rename_i fn hfn
      split at h
      · rename_i c hc
        cases hb : Nat.ble args.length fn.ntmps with
        | false => rw [hb] at h; simp at h
        | true =>
          rw [hb] at h; simp only [cond_true] at h
          obtain ⟨m', h1, h2⟩ := argsF_eq args 0 .leaf (fun m => rec lo c { m := m, n := fn.ntmps } st)
          rw [h1] at h
          split at h
          · rename_i fr st2 hex
            simp only [Option.map_eq_some_iff, Prod.mk.injEq] at h
            obtain ⟨_, _, _, rfl⟩ := h
            exact hrec _ _ _ _ _ _ _ hex hlo hn
          · rename_i fr st2 hex
            simp only [Option.map_eq_some_iff, Prod.mk.injEq] at h
            obtain ⟨_, _, _, rfl⟩ := h
            exact hrec _ _ _ _ _ _ _ hex hlo hn
          · cases h
      · cases h
    · cases h

theorem CallEff.drawn {call : CallFn} (h : CallEff call) : CallEff (fun _ f args st => call st.nxt f args st) :=
  fun _lo f args st r st' hc hlo hn => (h st.nxt f args st r st' hc (Nat.le_refl _) hn).weak hlo

theorem vwalk_eff {rec : RecFn} {x t c : Nat} {b : Code} {ex : LExit} (hn : NewOk st) (h : vwalk rec lo x t c b fr st = some (ex, fr', st')) : CEff lo st st' := by
  unfold vwalk at h
  split at h
  · rename_i L _
    cases hlo : Nat.ble lo L with
    | false => rw [hlo] at h; simp at h
    | true =>
      rw [hlo] at h; simp only [cond_true] at h
      split at h
      · rename_i m len hit
        split at h
        · rename_i kt es hes
          generalize (Nat.beq _ _ && _) = c0 at h
          cases c0 with
          | false => simp at h
          | true =>
            simp only [cond_true, setObjK_eq] at h
            split at h
            · simp only [Option.some.injEq, Prod.mk.injEq] at h
              obtain ⟨_, _, rfl⟩ := h
              exact set_eff hn (Nat.le_of_ble_eq_true hlo) hit
            · simp only [Option.some.injEq, Prod.mk.injEq] at h
              obtain ⟨_, _, rfl⟩ := h
              exact set_eff hn (Nat.le_of_ble_eq_true hlo) hit
            · cases h
        · cases h
      · cases h
  · cases h

theorem vcode_eff (hext : ExtEff E) : ∀ n, RecEff (vcode E n)
  | 0 => by intro lo c fr st ex fr' st' h; change none = some _ at h; cases h
  | n + 1 => by
    have ih := vcode_eff hext n
    have hcall := vcall_eff ih hext
    intro lo c fr st ex fr' st' h hlo hn
    change vstep E (vcode E n) lo c fr st = _ at h
    cases c <;> simp only [vstep, reduceCtorEq] at h
    case skip => simp only [Option.some.injEq, Prod.mk.injEq] at h; obtain ⟨_, _, rfl⟩ := h; exact .refl hn
    case label l => simp only [Option.some.injEq, Prod.mk.injEq] at h; obtain ⟨_, _, rfl⟩ := h; exact .refl hn
    case exit id => simp only [Option.some.injEq, Prod.mk.injEq] at h; obtain ⟨_, _, rfl⟩ := h; exact .refl hn
    case ret => simp only [Option.some.injEq, Prod.mk.injEq] at h; obtain ⟨_, _, rfl⟩ := h; exact .refl hn
    case region id ops draw =>
      split at h
      · rename_i fr1 st1 h1
        simp only [Option.some.injEq, Prod.mk.injEq] at h
        obtain ⟨_, rfl, rfl⟩ := h
        unfold vregion at h1
        cases draw with
        | true =>
          simp only [cond_true] at h1
          cases hd : drawOk ops with
          | false => rw [hd] at h1; simp at h1
          | true => rw [hd] at h1; simp only [cond_true] at h1; exact vOpers_eff hcall.drawn _ _ _ hlo hn h1
        | false => simp only [cond_false] at h1; exact vOpers_eff hcall _ _ _ hlo hn h1
      · cases h
    case seq x y =>
      split at h
      · rename_i fr1 st1 h1
        have e := ih _ _ _ _ _ _ _ h1 hlo hn
        exact e.trans (ih _ _ _ _ _ _ _ h (Nat.le_trans hlo e.nxt) e.new)
      · exact ih _ _ _ _ _ _ _ h hlo hn
    case cond x y z =>
      split at h
      · exact ih _ _ _ _ _ _ _ h hlo hn
      · cases h
    case block id body =>
      cases hwk : walkOf body with
      | some p =>
        obtain ⟨x, t, c, i, b⟩ := p
        rw [hwk] at h
        simp only at h
        generalize Nat.beq i id = c0 at h
        cases c0 with
        | false => simp at h
        | true => exact vwalk_eff hn h
      | none =>
        rw [hwk] at h
        simp only at h
        split at h
        · rename_i i fr1 st1 h1
          have e := ih _ _ _ _ _ _ _ h1 hlo hn
          cases hb : Nat.beq i id with
          | true => rw [hb] at h; simp only [cond_true, Option.some.injEq, Prod.mk.injEq] at h; obtain ⟨_, _, rfl⟩ := h; exact e
          | false => rw [hb] at h; simp only [cond_false, Option.some.injEq, Prod.mk.injEq] at h; obtain ⟨_, _, rfl⟩ := h; exact e
        · exact ih _ _ _ _ _ _ _ h hlo hn
    case loop body =>
      split at h
      · rename_i fr1 st1 h1
        have e := ih _ _ _ _ _ _ _ h1 hlo hn
        exact e.trans (ih _ _ _ _ _ _ _ h (Nat.le_trans hlo e.nxt) e.new)
      · exact ih _ _ _ _ _ _ _ h hlo hn
end

/-! ### what 'drawOk' says -/
theorem before_spec {ops : Array Oper} {X : Nat → Prop} (hX : ∀ j o, ops[j]? = some o → X j → ∀ e ∈ o.after, Region.binds .any e = true → X e.on) {j : Nat} {o : Oper} (ho : ops[j]? = some o)
    (hj : ∀ e ∈ o.after, Region.binds .any e = true → X e.on) {i : Nat} (hi : ((Region.before ops).getD j 0).testBit i = true) : X i := by
  have inner : ∀ (acc : Array Nat), (∀ k o, ops[k]? = some o → X k → ∀ i, (acc.getD k 0).testBit i = true → X i) → (∀ k, ops.size ≤ k → acc.getD k 0 = 0) →
      ∀ (l : List Edge) (s : Nat), (∀ e ∈ l, Region.binds .any e = true → X e.on) → (∀ i, s.testBit i = true → X i) →
        ∀ i, (l.foldl (fun s e => if Region.binds .any e then s ||| 2 ^ e.on ||| acc.getD e.on 0 else s) s).testBit i = true → X i := by
    intro acc hacc hbig l
    induction l with
    | nil => intro s _ hs i h; exact hs i h
    | cons e l ih =>
      intro s hl hs i h
      rw [List.foldl_cons] at h
      refine ih _ (fun e' he' => hl e' (List.mem_cons_of_mem _ he')) ?_ i h
      intro i hi
      split at hi
      · rename_i hb
        have hon := hl e (List.mem_cons_self ..) hb
        rw [Nat.testBit_or, Nat.testBit_or] at hi
        simp only [Bool.or_eq_true] at hi
        rcases hi with (hi | hi) | hi
        · exact hs i hi
        · rw [Nat.testBit_two_pow] at hi
          simp only [decide_eq_true_eq] at hi
          subst hi; exact hon
        · cases hoo : ops[e.on]? with
          | none =>
            rw [hbig e.on (by simpa using hoo)] at hi; simp at hi
          | some oo => exact hacc e.on oo hoo hon i hi
      · exact hs i hi
  have outer : ∀ (l : List Oper) (acc : Array Nat), (∀ k o, l[k]? = some o → ops[acc.size + k]? = some o) → acc.size + l.length ≤ ops.size →
      (∀ k o, ops[k]? = some o → (∀ e ∈ o.after, Region.binds .any e = true → X e.on) → ∀ i, (acc.getD k 0).testBit i = true → X i) →
      ∀ k o, ops[k]? = some o → (∀ e ∈ o.after, Region.binds .any e = true → X e.on) → ∀ i,
        ((l.foldl (fun acc o => acc.push (o.after.foldl (fun s e => if Region.binds .any e then s ||| 2 ^ e.on ||| acc.getD e.on 0 else s) 0)) acc).getD k 0).testBit i = true → X i := by
    intro l
    induction l with
    | nil => intro acc _ _ h k o hk he i hi; exact h k o hk he i hi
    | cons x l ih =>
      intro acc hl hsz h k o hk he i hi
      rw [List.foldl_cons] at hi
      refine ih _ ?_ (by simp at hsz ⊢; omega) ?_ k o hk he i hi
      · intro k' o' hk'
        rw [← hl (k' + 1) o' (by simpa using hk')]
        congr 1; simp; omega
      · intro k' o' hk' he' i' hi'
        have hx := hl 0 x rfl
        by_cases hlt : k' < acc.size
        · refine h k' o' hk' he' i' ?_
          have e : (acc.push (x.after.foldl (fun s e => if Region.binds .any e then s ||| 2 ^ e.on ||| acc.getD e.on 0 else s) 0)).getD k' 0 = acc.getD k' 0 := by
            simp only [Array.getD_eq_getD_getElem?, Array.getElem?_push]; rw [if_neg (by omega)]
          rw [e] at hi'; exact hi'
        · by_cases heq : k' = acc.size
          · subst heq
            simp only [Nat.add_zero] at hx
            rw [hx] at hk'
            simp only [Option.some.injEq] at hk'; subst hk'
            have e : (acc.push (x.after.foldl (fun s e => if Region.binds .any e then s ||| 2 ^ e.on ||| acc.getD e.on 0 else s) 0)).getD acc.size 0 =
                x.after.foldl (fun s e => if Region.binds .any e then s ||| 2 ^ e.on ||| acc.getD e.on 0 else s) 0 := by
              simp
            rw [e, ← Array.foldl_toList] at hi'
            refine inner acc (fun k o hk hXk => h k o hk (hX k o hk hXk)) (fun k hk => ?_) _ 0 (fun e he => he' e (by simpa using he)) (fun i h0 => by simp at h0) i' hi'
            simp only [List.length_cons] at hsz
            simp only [Array.getD_eq_getD_getElem?]
            rw [Array.getElem?_eq_none (by omega)]; rfl
          · have e : (acc.push (x.after.foldl (fun s e => if Region.binds .any e then s ||| 2 ^ e.on ||| acc.getD e.on 0 else s) 0)).getD k' 0 = 0 := by
              simp only [Array.getD_eq_getD_getElem?]
              rw [Array.getElem?_eq_none (by simp; omega)]; rfl
            rw [e] at hi'; simp at hi'
  unfold Region.before at hi
  rw [← Array.foldl_toList] at hi
  exact outer ops.toList #[] (fun k o h => by simpa using h) (by simp) (fun k o _ _ i h => by simp at h) j o ho hj i hi

structure DOk (ops : Array Oper) : Prop where
  cls : ∀ (j : Nat) (o : Oper), ops[j]? = some o → ∃ c, clOf o.op = some c
  back : ∀ (j : Nat) (o : Oper), ops[j]? = some o → ∀ e ∈ o.after, Region.binds .any e = true → e.on < j
  dsts : ∀ (i j : Nat) (oi oj : Oper), ops[i]? = some oi → ops[j]? = some oj → i < j → ∀ d, oi.dst = some d → oj.dst ≠ some d
  late : ∀ (i j : Nat) (oi oj : Oper), ops[i]? = some oi → ops[j]? = some oj → i < j → clOf oi.op = some .write → clOf oj.op = some .pure ∨ clOf oj.op = some .write
  pair : ∀ (i j : Nat) (oi oj : Oper), ops[i]? = some oi → ops[j]? = some oj → i < j →
    ((Region.before ops).getD j 0).testBit i = true ∨ (oi.apart ops oj = true ∧ ∀ ci cj, clOf oi.op = some ci → clOf oj.op = some cj → mustWait ci cj = false)

theorem drawOk_spec {ops : Array Oper} (h : drawOk ops = true) : DOk ops := by
  unfold drawOk at h
  simp only [List.all_eq_true, Bool.and_eq_true] at h
  have mem : ∀ {j o}, ops[j]? = some o → (o, j) ∈ ops.toList.zipIdx := fun {j o} hj => by
    rw [List.mem_zipIdx_iff_getElem?]; simpa using hj
  have two : ∀ (i j : Nat) (oi oj : Oper), ops[i]? = some oi → ops[j]? = some oj → i < j → ((oi.dst.isNone = true ∨ oi.dst ≠ oj.dst) ∧ lateB (clOf oi.op) (clOf oj.op) = true) ∧
      (((Region.before ops).getD j 0).testBit i = true ∨ (oi.apart ops oj = true ∧ waitB (clOf oi.op) (clOf oj.op) = false)) := by
    intro i j oi oj hi hj hlt
    have := (h _ (mem hj)).2.2 _ (mem hi)
    have hb : Nat.blt i j = true := by rw [Nat.blt_eq]; exact hlt
    simp only [hb, Bool.not_true, Bool.false_or, Bool.and_eq_true, Bool.or_eq_true, bne_iff_ne, ne_eq, Bool.not_eq_true'] at this
    exact this
  refine ⟨fun j o hj => ?_, fun j o hj e he hb => ?_, fun i j oi oj hi hj hlt d hd hd' => ?_, fun i j oi oj hi hj hlt hw => ?_, fun i j oi oj hi hj hlt => ?_⟩
  · exact Option.isSome_iff_exists.1 (h _ (mem hj)).1
  · have := (h _ (mem hj)).2.1 e (by simpa using he)
    rw [hb] at this
    simpa using this
  · rcases (two i j oi oj hi hj hlt).1.1 with h0 | h0
    · rw [hd] at h0; simp at h0
    · exact h0 (hd.trans hd'.symm)
  · have := (two i j oi oj hi hj hlt).1.2
    rw [hw] at this
    cases hc : clOf oj.op with
    | none => rw [hc] at this; simp [lateB] at this
    | some c => rw [hc] at this; cases c <;> simp [lateB] at this ⊢
  · rcases (two i j oi oj hi hj hlt).2 with h0 | ⟨h0, h1⟩
    · exact Or.inl h0
    · exact Or.inr ⟨h0, fun ci cj e1 e2 => by rw [e1, e2] at h1; exact h1⟩
end Go.Proofs.Ytpkeggejofeeeaa.Lvm
