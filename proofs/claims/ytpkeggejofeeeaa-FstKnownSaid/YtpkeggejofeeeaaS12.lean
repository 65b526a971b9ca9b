/- Laws of the small machine and of how it stands to the model; a helper of the statements: no statement is proved here. -/
import Derived.Test.YtpkeggejofeeeaaS11
import Derived.LoopN
namespace Go.Proofs.Ytpkeggejofeeeaa.Lvm

def live (st : LSt) (L : Nat) : Prop := ∃ o, st.mem.get L = some o ∧ o ≠ .dead

structure Rel (E : Env) (B : Nat) (inj : Inj) (st : LSt) (w : World) : Prop extends Emb E B inj st w where
  full : ∀ L, live st L → ∃ q, inj L = some q
  uniq : ∀ L L' q q', live st L → live st L' → inj L = some q → inj L' = some q' → q.1 = q'.1 → L = L'

structure Step (lo : Nat) (inj : Inj) (st : LSt) (w : World) (inj' : Inj) (st' : LSt) (w' : World) : Prop where
  ext : ∀ L, L < st.nxt → inj' L = inj L
  nxt : st.nxt ≤ st'.nxt
  size : w.heap.size ≤ w'.heap.size
  keep : ∀ b, b < w.heap.size → (∀ L q, lo ≤ L → live st L → inj L = some q → q.1 ≠ b) → w'.heap[b]? = w.heap[b]?
  orig : ∀ L q, lo ≤ L → live st' L → inj' L = some q → w.heap.size ≤ q.1 ∨ ∃ L0 q0, lo ≤ L0 ∧ live st L0 ∧ inj L0 = some q0 ∧ q0.1 = q.1
  old : ∀ L, L < lo → st'.mem.get L = st.mem.get L
  al : Alike3 w w'

section
variable {E : Env} {B lo : Nat} {inj inj' inj'' : Inj} {st st' st'' : LSt} {w w' w'' : World}

theorem Step.refl : Step lo inj st w inj st w where
  ext := fun _ _ => rfl
  nxt := Nat.le_refl _
  size := Nat.le_refl _
  keep := fun _ _ _ => rfl
  orig := fun L q h h1 h2 => Or.inr ⟨L, q, h, h1, h2, rfl⟩
  old := fun _ _ => rfl
  al := ⟨rfl, rfl, rfl⟩

theorem Step.trans (h : Step lo inj st w inj' st' w') (h' : Step lo inj' st' w' inj'' st'' w'') : Step lo inj st w inj'' st'' w'' where
  ext := fun L hL => (h'.ext L (Nat.lt_of_lt_of_le hL h.nxt)).trans (h.ext L hL)
  nxt := Nat.le_trans h.nxt h'.nxt
  size := Nat.le_trans h.size h'.size
  keep := fun b hb hp => by
    rw [h'.keep b (Nat.lt_of_lt_of_le hb h.size) (fun L q hL h1 h2 => ?_), h.keep b hb hp]
    rcases h.orig L q hL h1 h2 with ho | ⟨L0, q0, g1, g2, g3, g4⟩
    · omega
    · rw [← g4]; exact hp L0 q0 g1 g2 g3
  orig := fun L q hL h1 h2 => by
    rcases h'.orig L q hL h1 h2 with ho | ⟨L0, q0, g1, g2, g3, g4⟩
    · exact Or.inl (Nat.le_trans h.size ho)
    · rcases h.orig L0 q0 g1 g2 g3 with ho | ⟨L1, q1, k1, k2, k3, k4⟩
      · exact Or.inl (by omega)
      · exact Or.inr ⟨L1, q1, k1, k2, k3, by omega⟩
  old := fun L hL => (h'.old L hL).trans (h.old L hL)
  al := ⟨h'.al.os.trans h.al.os, h'.al.tape.trans h.al.tape, h'.al.output.trans h.al.output⟩

theorem Step.toExt (h : Step lo inj st w inj' st' w') (hm : Emb E B inj st w) : Ext inj inj' := fun L q hq => by
  rw [h.ext L (hm.dom L q hq).1]; exact hq

/-- A frame and the model's slots. -/
def FRel (inj : Inj) (fr : LFr) (tmps : Array Value) : Prop := tmps.size = fr.n ∧ ∀ i v, fr.m.get i = some v → VRel inj v (tmps.getD i undef)

theorem FRel.mono {fr : LFr} {tmps : Array Value} (h : Go.Proofs.Ytpkeggejofeeeaa.Lvm.Ext inj inj') (hf : FRel inj fr tmps) : FRel inj' fr tmps := ⟨hf.1, fun i v hv => (hf.2 i v hv).mono h⟩

theorem FRel.put {fr : LFr} {a : Act} {v : LV} {u : Value} (hf : FRel inj fr a.tmps) (hv : VRel inj v u) (d : Nat) (hd : d < fr.n) : FRel inj (fr.put d v) (a.put (some d) u).tmps := by
  refine ⟨by simp [Act.put, LFr.put, hf.1], fun i x hx => ?_⟩
  simp only [LFr.put, Mem.get_set] at hx
  by_cases h : d = i
  · subst h
    rw [if_pos rfl] at hx
    simp only [Option.some.injEq] at hx; subst hx
    simp only [Act.put, Array.getD_eq_getD_getElem?, Array.getElem?_setIfInBounds]
    simpa [hf.1, hd] using hv
  · rw [if_neg h] at hx
    have := hf.2 i x hx
    simpa only [Act.put, Array.getD_eq_getD_getElem?, Array.getElem?_setIfInBounds_ne h] using this

theorem XRel.of_frame {fr : LFr} {a : Act} (hf : FRel inj fr a.tmps) (x : Operand) : XRel inj fr a x := by
  intro v hv
  cases x with
  | tmp t => exact hf.2 t v hv
  | const c => exact lift_rel hv
  | global g => simp only [leval, Option.some.injEq] at hv; subst hv; simp only [VRel]; exact ⟨g, rfl, rfl⟩
  | func f => simp only [leval, Option.some.injEq] at hv; subst hv; simp only [VRel]; exact ⟨#[], #[], rfl, by simp [VRels], by simp [VRels]⟩

theorem bool_of_rel {x : LV} {b : Bool} (h : VRel inj x (.bool b)) : x = .bool b := by
  cases x <;> simp only [VRel, Value.bool.injEq, reduceCtorEq, false_and, and_false, exists_false] at h
  · rw [h]
theorem rel_of_bool {b : Bool} {v : Value} (h : VRel inj (.bool b) v) : v = .bool b := by simpa only [VRel] using h

theorem wanted_slot {ops : Array Oper} {fr : LFr} {a : Act} {o : Oper} {w : Bool} (h : lwanted ops.toList fr o = some w)
    (hs : ∀ j b g d v, o.guard = some (j, b) → ops[j]? = some g → g.dst = some d → fr.m.get d = some v → VRel inj v (a.tmps.getD d undef)) :
    Region.wanted o (yielded ops a.tmps) = w := by
  unfold lwanted at h
  unfold Region.wanted
  cases hg : o.guard with
  | none => rw [hg] at h; simpa using h
  | some p =>
    obtain ⟨j, b⟩ := p
    rw [hg] at h
    simp only [Array.getElem?_toList] at h ⊢
    unfold yielded
    cases hj : ops[j]? with
    | none => rw [hj] at h; simp at h ⊢; exact h
    | some g =>
      rw [hj] at h
      simp only [Option.bind_some] at h ⊢
      cases hd : g.dst with
      | none => rw [hd] at h; simp at h ⊢; exact h
      | some d =>
        rw [hd] at h
        simp only [Option.bind_some] at h ⊢
        cases hv : fr.m.get d with
        | none => rw [hv] at h; simp at h
        | some v =>
          rw [hv] at h
          have hr := hs j b g d v hg hj hd hv
          simp only [Array.getD_eq_getD_getElem?] at hr
          cases ht : a.tmps[d]? with
          | none =>
            rw [ht] at hr; simp only [Option.getD_none] at hr
            cases v <;> simp [VRel, undef] at hr <;> simp at h ⊢ <;> exact h
          | some u =>
            rw [ht] at hr; simp only [Option.getD_some] at hr
            cases v
            case bool x =>
              simp only [VRel] at hr; subst hr
              simp only [Option.some.injEq] at h
              subst h
              cases x <;> cases b <;> rfl
            all_goals
              simp only [Option.some.injEq] at h
              simp only [VRel] at hr
              first
                | (subst hr; subst h; rfl)
                | (obtain ⟨_, hr⟩ := hr; subst h; first | (subst hr; rfl) | (obtain ⟨_, hr⟩ := hr; first | (subst hr; rfl) | (obtain ⟨rfl, _⟩ := hr; rfl) | (obtain ⟨_, hr⟩ := hr; first | (subst hr; rfl) | (obtain ⟨rfl, _⟩ := hr; rfl)) | (obtain ⟨_, rfl⟩ := hr; rfl)) | (obtain ⟨rfl, _⟩ := hr; rfl) | (obtain ⟨_, rfl⟩ := hr; rfl))

theorem wanted_eq {ops : Array Oper} {fr : LFr} {a : Act} (hf : FRel inj fr a.tmps) {o : Oper} {w : Bool} (h : lwanted ops.toList fr o = some w) : Region.wanted o (yielded ops a.tmps) = w :=
  wanted_slot h fun _ _ _ d v _ _ _ hv => hf.2 d v hv

/-! ### one light operation, in a row of operations -/
def injAt (inj : Inj) (n : Nat) (q : Nat × Nat) : Inj := fun L => if L = n then some q else inj L

theorem injAt_ext (hm : Emb E B inj st w) (q : Nat × Nat) : Go.Proofs.Ytpkeggejofeeeaa.Lvm.Ext inj (injAt inj st.nxt q) := fun L p hp => by
  have := (hm.dom L p hp).1
  simp only [injAt]; rw [if_neg (by omega)]; exact hp

theorem push_old {w w' : World} {ob : Obj} (h : w'.heap = w.heap.push ob) {b : Nat} (hb : b < w.heap.size) : w'.heap[b]? = w.heap[b]? := by
  rw [h, Array.getElem?_push, if_neg (by omega)]
theorem push_new {w w' : World} {ob : Obj} (h : w'.heap = w.heap.push ob) : w'.heap[w.heap.size]? = some ob := by
  rw [h]; simp

theorem base_keep (hm : Emb E B inj st w) (hi : Go.Proofs.Ytpkeggejofeeeaa.Lvm.Ext inj inj') (hk : ∀ b, b < B → w'.heap[b]? = w.heap[b]?) {r o : Nat} {v : LV} (hv : E.bm r o = some v) :
    r < B ∧ ∃ u, w'.cell? ⟨r, o, none⟩ = some u ∧ VRel inj' v u := by
  obtain ⟨h1, u, h2, h3⟩ := hm.base r o v hv
  refine ⟨h1, u, ?_, h3.mono hi⟩
  rw [← h2]; simp [World.cell?, hk r h1]

theorem live_newB {o : LObj} {L : Nat} (hl : live (newB st o) L) : L = st.nxt ∨ (L ≠ st.nxt ∧ live st L) := by
  obtain ⟨x, hx, hd⟩ := hl
  simp only [newB, Mem.get_set] at hx
  by_cases h0 : st.nxt = L
  · exact Or.inl h0.symm
  · rw [if_neg h0] at hx; exact Or.inr ⟨Ne.symm h0, x, hx, hd⟩

/-- A new block on both sides. -/
theorem fresh_step (hr : Rel E B inj st w) (hlo : lo ≤ st.nxt) {o : LObj} {ob : Obj} {cnt : Nat} (h8 : w'.heap = w.heap.push ob) (h9 : Alike3 w w')
    (ho : ORel E (injAt inj st.nxt (w.heap.size, cnt)) o (some ob) cnt) :
    Rel E B (injAt inj st.nxt (w.heap.size, cnt)) (newB st o) w' ∧ Step lo inj st w (injAt inj st.nxt (w.heap.size, cnt)) (newB st o) w' := by
  have hm := hr.toEmb
  have hx := injAt_ext hm (w.heap.size, cnt)
  have hsz : w'.heap.size = w.heap.size + 1 := by rw [h8]; simp
  refine ⟨⟨⟨?_, ?_, ?_, ?_, ?_⟩, ?_, ?_⟩, ⟨?_, ?_, ?_, ?_, ?_, ?_, h9⟩⟩
  · intro L q hq
    simp only [injAt] at hq
    split at hq
    · simp at hq; subst hq; exact ⟨by simp [newB]; omega, hm.low, by omega⟩
    · have := hm.dom L q hq; exact ⟨by simp [newB]; omega, this.2.1, by omega⟩
  · intro L q o' hq ho'
    simp only [injAt] at hq
    simp only [newB, Mem.get_set] at ho'
    split at hq
    · rename_i h; subst h
      rw [if_pos rfl] at ho'
      simp only [Option.some.injEq] at hq ho'
      subst hq; subst ho'
      rw [push_new h8]; exact ho
    · rename_i h
      rw [if_neg (Ne.symm h)] at ho'
      rw [push_old h8 (hm.dom L q hq).2.2]
      exact (hm.obj L q o' hq ho').mono hx
  · intro L hL
    simp only [newB] at hL
    simp only [newB, Mem.get_set]
    rw [if_neg (by omega)]; exact hm.new L (by omega)
  · intro r o' v hv
    exact base_keep hm hx (fun b hb => push_old h8 (by have := hm.low; omega)) hv
  · have := hm.low; omega
  · intro L hL
    rcases live_newB hL with h | ⟨h, hl⟩
    · exact ⟨_, by simp only [injAt]; rw [if_pos h]⟩
    · obtain ⟨q, hq⟩ := hr.full L hl
      exact ⟨q, hx _ _ hq⟩
  · intro L L' q q' h1 h2 h3 h4 h5
    simp only [injAt] at h3 h4
    rcases live_newB h1 with e1 | ⟨e1, l1⟩ <;> rcases live_newB h2 with e2 | ⟨e2, l2⟩
    · rw [e1, e2]
    · rw [if_pos e1] at h3; rw [if_neg e2] at h4
      simp at h3; subst h3
      have := (hm.dom _ _ h4).2.2
      simp only at h5; omega
    · rw [if_neg e1] at h3; rw [if_pos e2] at h4
      simp at h4; subst h4
      have := (hm.dom _ _ h3).2.2
      simp only at h5; omega
    · rw [if_neg e1] at h3; rw [if_neg e2] at h4
      exact hr.uniq L L' q q' l1 l2 h3 h4 h5
  · intro L hL; simp only [injAt]; rw [if_neg (by omega)]
  · simp [newB]
  · omega
  · intro b hb _; exact push_old h8 hb
  · intro L q hL hl hq
    simp only [injAt] at hq
    split at hq
    · simp at hq; subst hq; exact Or.inl (Nat.le_refl _)
    · rename_i h
      rcases live_newB hl with e | ⟨_, l⟩
      · exact absurd e h
      · exact Or.inr ⟨L, q, hL, l, hq, rfl⟩
  · intro L hL; simp only [newB, Mem.get_set]; rw [if_neg (by omega)]

theorem set_old {w w' : World} {c : Nat} {ob : Obj} (h : w'.heap = w.heap.setIfInBounds c ob) {b : Nat} (hb : c ≠ b) : w'.heap[b]? = w.heap[b]? := by
  rw [h, Array.getElem?_setIfInBounds_ne hb]
theorem set_new {w w' : World} {c : Nat} {ob : Obj} (h : w'.heap = w.heap.setIfInBounds c ob) (hc : c < w.heap.size) : w'.heap[c]? = some ob := by
  rw [h]; simp [hc]

theorem store_step (hr : Rel E B inj st w) (_hlo : lo ≤ st.nxt) {L : Nat} {q : Nat × Nat} {old o : LObj} {ob : Obj} (h1 : lo ≤ L) (h2 : inj L = some q) (h3 : st.mem.get L = some old) (h4 : old ≠ .dead) (_h5 : o ≠ .dead)
    (h8 : w'.heap = w.heap.setIfInBounds q.1 ob) (h9 : Alike3 w w') (h10 : ORel E inj o (some ob) q.2) :
    Rel E B inj { st with mem := st.mem.set L o } w' ∧ Step lo inj st w inj { st with mem := st.mem.set L o } w' := by
  have hm := hr.toEmb
  have hl : live st L := ⟨old, h3, h4⟩
  have hsz : w'.heap.size = w.heap.size := by rw [h8]; simp
  have hd := hm.dom L q h2
  have hlv : ∀ {L'}, live { st with mem := st.mem.set L o } L' → live st L' := fun {L'} ⟨x, hx, hxd⟩ => by
    simp only [Mem.get_set] at hx
    by_cases e : L = L'
    · subst e; exact hl
    · rw [if_neg e] at hx; exact ⟨x, hx, hxd⟩
  refine ⟨⟨⟨?_, ?_, ?_, ?_, ?_⟩, ?_, ?_⟩, ⟨fun _ _ => rfl, Nat.le_refl _, by omega, ?_, ?_, ?_, h9⟩⟩
  · intro L' q' hq; have := hm.dom L' q' hq; exact ⟨this.1, this.2.1, by omega⟩
  · intro L' q' o' hq ho'
    simp only [Mem.get_set] at ho'
    by_cases e : L = L'
    · subst e
      rw [if_pos rfl] at ho'
      rw [h2] at hq; simp only [Option.some.injEq] at hq ho'; subst hq; subst ho'
      rw [set_new h8 hd.2.2]; exact h10
    · rw [if_neg e] at ho'
      by_cases hdd : o' = .dead
      · subst hdd; trivial
      · have hne : q.1 ≠ q'.1 := fun e' => e (hr.uniq L L' q q' hl ⟨o', ho', hdd⟩ h2 hq e')
        rw [set_old h8 hne]
        exact hm.obj L' q' o' hq ho'
  · intro L' hL'
    have hL' : st.nxt ≤ L' := hL'
    simp only [Mem.get_set]
    rw [if_neg (by omega)]; exact hm.new L' hL'
  · intro r o' v hv
    exact base_keep hm (Ext.refl _) (fun b hb => set_old h8 (by omega)) hv
  · have := hm.low; omega
  · intro L' hL'; exact hr.full L' (hlv hL')
  · intro A A' p p' a1 a2 a3 a4 a5; exact hr.uniq A A' p p' (hlv a1) (hlv a2) a3 a4 a5
  · intro b hb hp
    exact set_old h8 (hp L q h1 hl h2)
  · intro L' q' hL' hl' hq'; exact Or.inr ⟨L', q', hL', hlv hl', hq', rfl⟩
  · intro L' hL'; simp only [Mem.get_set]; rw [if_neg (by omega)]

theorem kill_step (hr : Rel E B inj st w) {L : Nat} {q : Nat × Nat} (h2 : inj L = some q) : Rel E B inj { st with mem := st.mem.set L .dead } w := by
  have hm := hr.toEmb
  have hd := hm.dom L q h2
  have hlv : ∀ {L'}, live { st with mem := st.mem.set L .dead } L' → L' ≠ L ∧ live st L' := fun {L'} ⟨x, hx, hxd⟩ => by
    simp only [Mem.get_set] at hx
    by_cases e : L = L'
    · subst e; rw [if_pos rfl] at hx; simp at hx; exact absurd hx.symm hxd
    · rw [if_neg e] at hx; exact ⟨Ne.symm e, x, hx, hxd⟩
  refine ⟨⟨hm.dom, ?_, ?_, hm.base, hm.low⟩, fun L' h => hr.full L' (hlv h).2, fun A A' p p' a1 a2 => hr.uniq A A' p p' (hlv a1).2 (hlv a2).2⟩
  · intro L' q' o' hq ho'
    simp only [Mem.get_set] at ho'
    by_cases e : L = L'
    · subst e; rw [if_pos rfl] at ho'; simp at ho'; subst ho'; trivial
    · rw [if_neg e] at ho'; exact hm.obj L' q' o' hq ho'
  · intro L' hL'
    simp only [Mem.get_set]; rw [if_neg (by have := hd.1; simp only at hL'; omega)]; exact hm.new L' hL'

theorem grow_step (hr : Rel E B inj st w) (hlo : lo ≤ st.nxt) {L : Nat} {q : Nat × Nat} {cs cs' : List LV} {ob : Obj} (h1 : lo ≤ L) (h2 : inj L = some q) (h3 : st.mem.get L = some (.cells cs))
    (h8 : w'.heap = w.heap.setIfInBounds q.1 ob) (h9 : Alike3 w w') (ho : ORel E (injAt inj st.nxt q) (.cells cs') (some ob) q.2) :
    Rel E B (injAt inj st.nxt q) (newB { st with mem := st.mem.set L .dead } (.cells cs')) w' ∧
      Step lo inj st w (injAt inj st.nxt q) (newB { st with mem := st.mem.set L .dead } (.cells cs')) w' := by
  have hm := hr.toEmb
  have hl : live st L := ⟨_, h3, by simp⟩
  have hx := injAt_ext hm q
  have hsz : w'.heap.size = w.heap.size := by rw [h8]; simp
  have hd := hm.dom L q h2
  have hget : ∀ A, (newB { st with mem := st.mem.set L .dead } (.cells cs')).mem.get A = if A = st.nxt then some (.cells cs') else if A = L then some .dead else st.mem.get A := by
    intro A
    simp only [newB, Mem.get_set]
    by_cases e1 : st.nxt = A
    · rw [if_pos e1, if_pos e1.symm]
    · rw [if_neg e1, if_neg (Ne.symm e1)]
      by_cases e2 : L = A
      · rw [if_pos e2, if_pos e2.symm]
      · rw [if_neg e2, if_neg (Ne.symm e2)]
  have hlv : ∀ {A}, live (newB { st with mem := st.mem.set L .dead } (.cells cs')) A → A = st.nxt ∨ (A ≠ st.nxt ∧ A ≠ L ∧ live st A) := fun {A} ⟨x, hx', hxd⟩ => by
    rw [hget] at hx'
    by_cases e1 : A = st.nxt
    · exact Or.inl e1
    · rw [if_neg e1] at hx'
      by_cases e2 : A = L
      · rw [if_pos e2] at hx'; simp at hx'; exact absurd hx'.symm hxd
      · rw [if_neg e2] at hx'; exact Or.inr ⟨e1, e2, x, hx', hxd⟩
  have hinj : ∀ {A p}, A ≠ st.nxt → injAt inj st.nxt q A = some p → inj A = some p := fun {A p} e hp => by
    simp only [injAt] at hp; rwa [if_neg e] at hp
  have hnx : injAt inj st.nxt q st.nxt = some q := by simp [injAt]
  refine ⟨⟨⟨?_, ?_, ?_, ?_, ?_⟩, ?_, ?_⟩, ⟨?_, ?_, by omega, ?_, ?_, ?_, h9⟩⟩
  · intro A p hp
    by_cases e : A = st.nxt
    · subst e; rw [hnx] at hp; simp at hp; subst hp; exact ⟨by simp [newB], hd.2.1, by omega⟩
    · have := hm.dom A p (hinj e hp); exact ⟨by simp [newB]; omega, this.2.1, by omega⟩
  · intro A p o' hp ho'
    rw [hget] at ho'
    by_cases e : A = st.nxt
    · subst e; rw [if_pos rfl] at ho'; rw [hnx] at hp; simp only [Option.some.injEq] at hp ho'; subst hp; subst ho'
      rw [set_new h8 hd.2.2]; exact ho
    · rw [if_neg e] at ho'
      by_cases e2 : A = L
      · rw [if_pos e2] at ho'; simp at ho'; subst ho'; trivial
      · rw [if_neg e2] at ho'
        by_cases hdd : o' = .dead
        · subst hdd; trivial
        · have hp' := hinj e hp
          have hne : q.1 ≠ p.1 := fun e' => e2 (hr.uniq L A q p hl ⟨o', ho', hdd⟩ h2 hp' e').symm
          rw [set_old h8 hne]
          exact (hm.obj A p o' hp' ho').mono hx
  · intro A hA
    simp only [newB] at hA
    rw [hget, if_neg (by omega), if_neg (by omega)]; exact hm.new A (by omega)
  · intro r o' v hv
    exact base_keep hm hx (fun b hb => set_old h8 (by omega)) hv
  · have := hm.low; omega
  · intro A hA
    rcases hlv hA with e | ⟨e, _, l⟩
    · subst e; exact ⟨q, hnx⟩
    · obtain ⟨p, hp⟩ := hr.full A l
      exact ⟨p, hx _ _ hp⟩
  · intro A A' p p' a1 a2 a3 a4 a5
    rcases hlv a1 with e1 | ⟨e1, n1, l1⟩ <;> rcases hlv a2 with e2 | ⟨e2, n2, l2⟩
    · rw [e1, e2]
    · subst e1; rw [hnx] at a3; simp at a3; subst a3
      exact absurd (hr.uniq L A' q p' hl l2 h2 (hinj e2 a4) a5).symm n2
    · subst e2; rw [hnx] at a4; simp at a4; subst a4
      exact absurd (hr.uniq L A q p hl l1 h2 (hinj e1 a3) a5.symm).symm n1
    · exact hr.uniq A A' p p' l1 l2 (hinj e1 a3) (hinj e2 a4) a5
  · intro A hA; simp only [injAt]; rw [if_neg (by omega)]
  · simp [newB]
  · intro b hb hp; exact set_old h8 (hp L q h1 hl h2)
  · intro A p hA hl' hp
    rcases hlv hl' with e | ⟨e, _, l⟩
    · subst e; rw [hnx] at hp; simp at hp; subst hp; exact Or.inr ⟨L, q, h1, hl, h2, rfl⟩
    · exact Or.inr ⟨A, p, hA, l, hinj e hp, rfl⟩
  · intro A hA; rw [hget, if_neg (by omega), if_neg (by omega)]
end
end Go.Proofs.Ytpkeggejofeeeaa.Lvm
