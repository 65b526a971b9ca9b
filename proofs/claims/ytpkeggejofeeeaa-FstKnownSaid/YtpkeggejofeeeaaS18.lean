/- Laws of the small machine and of how it stands to the model; a helper of the statements: no statement is proved here. -/
import Derived.Test.YtpkeggejofeeeaaS17
namespace Go.Proofs.Ytpkeggejofeeeaa.Lvm

section
variable {E : Env} {B lo : Nat} {call : CallFn} {ops : Array Oper} {F : Nat → LFr} {S : Nat → LSt} {inj0 inj inj' : Inj} {w0 w w' : World} {X : Nat → Prop} {a : Act}

theorem cut_injAt (inj : Inj) (n : Nat) (q : Nat × Nat) : cut (injAt inj n q) (n + 1) = injAt (cut inj n) n q := by
  funext L
  simp only [cut, injAt]
  by_cases h : L = n
  · subst h; rw [if_pos (by omega), if_pos rfl, if_pos rfl]
  · rw [if_neg h, if_neg h]
    by_cases h' : L < n
    · rw [if_pos (by omega), if_pos h']
    · rw [if_neg (by omega), if_neg h']

theorem Emb.fresh {st : LSt} (hm : Emb E B inj st w) {o : LObj} {ob : Obj} {cnt : Nat} (h8 : w'.heap = w.heap.push ob)
    (ho : ORel E (injAt inj st.nxt (w.heap.size, cnt)) o (some ob) cnt) : Emb E B (injAt inj st.nxt (w.heap.size, cnt)) (newB st o) w' := by
  have hx := injAt_ext hm (w.heap.size, cnt)
  have hsz : w'.heap.size = w.heap.size + 1 := by rw [h8]; simp
  refine ⟨?_, ?_, ?_, ?_, ?_⟩
  · intro L q hq
    simp only [injAt] at hq
    split at hq
    · simp at hq; subst hq; exact ⟨by simp [newB]; omega, hm.low, by omega⟩
    · have := hm.dom L q hq; exact ⟨by simp [newB]; omega, this.2.1, by omega⟩
  · intro L q o' hq ho'
    simp only [injAt] at hq
    simp only [newB, Mem.get_set] at ho'
    split at hq
    · rename_i h; subst h
      rw [if_pos rfl] at ho'
      simp only [Option.some.injEq] at hq ho'
      subst hq; subst ho'
      rw [push_new h8]; exact ho
    · rename_i h
      rw [if_neg (Ne.symm h)] at ho'
      rw [push_old h8 (hm.dom L q hq).2.2]
      exact (hm.obj L q o' hq ho').mono hx
  · intro L hL
    simp only [newB] at hL
    simp only [newB, Mem.get_set]
    rw [if_neg (by omega)]; exact hm.new L (by omega)
  · intro r o' v hv
    exact base_keep hm hx (fun b hb => push_old h8 (by have := hm.low; omega)) hv
  · have := hm.low; omega

theorem Rel.heap {st : LSt} (hr : Rel E B inj st w) (h : w'.heap = w.heap) : Rel E B inj st w' := ⟨hr.toEmb.heap h, hr.full, hr.uniq⟩

/-! ### what may still be open -/
def Closed (ops : Array Oper) (X : Nat → Prop) : Prop := ∀ (j : Nat) (o : Oper), ops[j]? = some o → X j → ∀ e ∈ o.after, Region.binds .any e = true → X e.on
structure Ready (ops : Array Oper) (X : Nat → Prop) (j : Nat) (o : Oper) : Prop where
  op : ops[j]? = some o
  un : ¬ X j
  edges : ∀ e ∈ o.after, Region.binds .any e = true → X e.on

theorem lt_of_cl {j : Nat} {c : Cl} (h : cl ops j = some c) : j < ops.size := by
  refine Nat.lt_of_not_le fun h' => ?_
  have : ops[j]? = none := by simp; omega
  simp [cl, this] at h

section
variable {j : Nat} {o : Oper}

theorem Ready.past (hok : DOk ops) (hcl : Closed ops X) (hj : Ready ops X j o) {i : Nat} {oi : Oper} (hi : ops[i]? = some oi) (hlt : i < j) (hn : ¬ X i) : oi.apart ops o = true ∧ ∀ ci cj, cl ops i = some ci → cl ops j = some cj → mustWait ci cj = false := by
  rcases hok.pair i j oi o hi hj.op hlt with h | h
  · exact absurd (before_spec hcl hj.op hj.edges h) hn
  · refine ⟨h.1, fun ci cj h1 h2 => h.2 ci cj ?_ ?_⟩
    · simpa [cl, hi] using h1
    · simpa [cl, hj.op] using h2

theorem Ready.future (hok : DOk ops) (hcl : Closed ops X) (hj : Ready ops X j o) {i : Nat} {oi : Oper} (hi : ops[i]? = some oi) (hlt : j < i) (hX : X i) : o.apart ops oi = true ∧ ∀ ci cj, cl ops i = some ci → cl ops j = some cj → mustWait cj ci = false := by
  rcases hok.pair j i o oi hj.op hi hlt with h | h
  · exact absurd (before_spec hcl hi (hcl i oi hi hX) h) hj.un
  · refine ⟨h.1, fun ci cj h1 h2 => h.2 cj ci ?_ ?_⟩
    · simpa [cl, hj.op] using h2
    · simpa [cl, hi] using h1

theorem Ready.waits (hok : DOk ops) (hcl : Closed ops X) (hj : Ready ops X j o) {i : Nat} {ci cj : Cl} (hlt : i < j) (h1 : cl ops i = some ci) (h2 : cl ops j = some cj) (hw : mustWait ci cj = true) : X i := by
  refine Classical.byContradiction fun hn => ?_
  obtain ⟨oi, hi⟩ := DRun.getop (lt_of_cl h1)
  have := (hj.past hok hcl hi hlt hn).2 ci cj h1 h2
  rw [this] at hw; cases hw

theorem Ready.ahead (hok : DOk ops) (hcl : Closed ops X) (hj : Ready ops X j o) {i : Nat} {ci cj : Cl} (hlt : j < i) (h1 : cl ops i = some ci) (h2 : cl ops j = some cj) (hw : mustWait cj ci = true) : ¬ X i := by
  intro hX
  obtain ⟨oi, hi⟩ := DRun.getop (lt_of_cl h1)
  have := (hj.future hok hcl hi hlt hX).2 ci cj h1 h2
  rw [this] at hw; cases hw
end

theorem cl_get (hok : DOk ops) {j : Nat} (hj : j < ops.size) : ∃ c, cl ops j = some c := by
  obtain ⟨o, ho⟩ := DRun.getop hj
  obtain ⟨c, hc⟩ := hok.cls j o ho
  exact ⟨c, by simp [cl, ho, hc]⟩

theorem late' (hok : DOk ops) {i j : Nat} (hlt : i < j) (h1 : cl ops i = some .write) {c : Cl} (h2 : cl ops j = some c) : c = .pure ∨ c = .write := by
  obtain ⟨oi, hi⟩ := DRun.getop (lt_of_cl h1)
  obtain ⟨oj, hj⟩ := DRun.getop (lt_of_cl h2)
  have := hok.late i j oi oj hi hj hlt (by simpa [cl, hi] using h1)
  simp only [cl, hj, Option.bind_some] at h2
  rw [h2] at this
  simpa using this

/-! ### frames -/
structure FInv (ops : Array Oper) (F : Nat → LFr) (S : Nat → LSt) (X : Nat → Prop) (inj : Inj) (a : Act) : Prop where
  size : a.tmps.size = (F 0).n
  done : ∀ i (o : Oper) t, ops[i]? = some o → X i → o.dst = some t → ∀ v, (F (i + 1)).m.get t = some v → VRel (cut inj (S (i + 1)).nxt) v (a.tmps.getD t undef)
  rest : ∀ t, (∀ i (o : Oper), ops[i]? = some o → X i → o.dst ≠ some t) → ∀ v, (F 0).m.get t = some v → VRel (cut inj (S 0).nxt) v (a.tmps.getD t undef)

theorem FInv.slots (D : DRun E call lo ops F S) (hcl : Closed ops X) (hf : FInv ops F S X inj a) {j : Nat} {o : Oper} (hj : Ready ops X j o) {t : Nat} (ht : t ∈ o.looksAt ops) :
    ∀ v, (F j).m.get t = some v → VRel (cut inj (S j).nxt) v (a.tmps.getD t undef) := by
  intro v hv
  have hjs := (Array.getElem?_eq_some_iff.1 hj.op).1
  rcases D.slot t (k := j) (by omega) with ⟨h1, h2⟩ | ⟨i, oi, h1, h2, h3, h4⟩
  · rw [h2] at hv
    refine (hf.rest t (fun i oi hi hX hd => ?_) v hv).mono (cut_mono (Ext.refl _) (D.nxt_le (Nat.zero_le _) (by omega)))
    rcases Nat.lt_trichotomy i j with h | h | h
    · exact h1 i oi h hi hd
    · subst h; exact hj.un hX
    · have := (hj.future D.ok hcl hi h hX).1
      exact (Oper.apart_spec this).2.2 t hd ht
  · rw [h4] at hv
    by_cases hX : X i
    · exact (hf.done i oi t h2 hX h3 v hv).mono (cut_mono (Ext.refl _) (D.nxt_le (by omega) (by omega)))
    · have := (hj.past D.ok hcl h2 h1 hX).1
      exact absurd ht ((Oper.apart_spec this).1 t h3)

theorem FInv.put (D : DRun E call lo ops F S) (hf : FInv ops F S X inj a) {j : Nat} {o : Oper} (hj : Ready ops X j o) (hx : Ext inj inj') {v : LV} {u : Value}
    (ht : (o.dst = none ∧ F (j + 1) = F j) ∨ ∃ d, o.dst = some d ∧ d < (F j).n ∧ F (j + 1) = (F j).put d v) (hv : VRel (cut inj' (S (j + 1)).nxt) v u) :
    FInv ops F S (also X j) inj' (a.put o.dst u) := by
  have hjs := (Array.getElem?_eq_some_iff.1 hj.op).1
  have hne : ∀ {t : Nat}, o.dst ≠ some t → (a.put o.dst u).tmps.getD t undef = a.tmps.getD t undef := fun {t} h => by
    cases hd : o.dst with
    | none => rfl
    | some d =>
      have : d ≠ t := fun e => h (by rw [hd, e])
      simp only [Act.put, Array.getD_eq_getD_getElem?, Array.getElem?_setIfInBounds_ne this]
  refine ⟨?_, ?_, ?_⟩
  · rw [← hf.size]; cases o.dst <;> simp [Act.put]
  · intro i oi t hi hX hd y hy
    rcases hX with hX | rfl
    · have hdt : o.dst ≠ some t := fun e => by
        rcases Nat.lt_trichotomy i j with h | h | h
        · exact D.ok.dsts i j oi o hi hj.op h t hd e
        · subst h; exact hj.un hX
        · exact D.ok.dsts j i o oi hj.op hi h t e hd
      rw [hne hdt]
      exact (hf.done i oi t hi hX hd y hy).mono (cut_mono hx (Nat.le_refl _))
    · rw [hj.op] at hi; simp only [Option.some.injEq] at hi; subst hi
      rcases ht with ⟨h, _⟩ | ⟨d, h1, h2, h3⟩
      · rw [h] at hd; cases hd
      · rw [h1] at hd; simp only [Option.some.injEq] at hd; subst hd
        have hlt : d < a.tmps.size := by rw [hf.size, ← D.frn (k := i) (by omega)]; exact h2
        rw [h3] at hy
        simp only [LFr.put, Mem.get_set_eq, Option.some.injEq] at hy
        subst hy
        rw [h1]
        simp only [Act.put, Array.getD_eq_getD_getElem?]
        simpa [hlt] using hv
  · intro t h y hy
    have hdt : o.dst ≠ some t := h j o hj.op (Or.inr rfl)
    rw [hne hdt]
    exact (hf.rest t (fun i oi hi hX => h i oi hi (Or.inl hX)) y hy).mono (cut_mono hx (Nat.le_refl _))

theorem wanted_slots {fr : LFr} {o : Oper} {b : Bool} (hs : ∀ t ∈ o.looksAt ops, ∀ v, fr.m.get t = some v → VRel inj v (a.tmps.getD t undef)) (h : lwanted ops.toList fr o = some b) :
    Region.wanted o (yielded ops a.tmps) = b :=
  wanted_slot h fun j b g d v hg hj hd hv => hs d (by
    unfold Oper.looksAt
    rw [hg]
    simp [hj, hd]) v hv

theorem XRel.of_slots {fr : LFr} {o : Oper} (hs : ∀ t ∈ o.looksAt ops, ∀ v, fr.m.get t = some v → VRel inj v (a.tmps.getD t undef)) {x : Operand} (hx : x ∈ o.op.operands) : XRel inj fr a x := by
  intro v hv
  cases x with
  | tmp t =>
    simp only [leval] at hv
    refine hs t ?_ v hv
    unfold Oper.looksAt
    simp only [List.mem_append, List.mem_filterMap]
    exact Or.inl ⟨.tmp t, by simpa using hx, rfl⟩
  | const c => exact lift_rel hv
  | global g => simp only [leval, Option.some.injEq] at hv; subst hv; simp only [VRel]; exact ⟨g, rfl, rfl⟩
  | func f => simp only [leval, Option.some.injEq] at hv; subst hv; simp only [VRel]; exact ⟨#[], #[], rfl, by simp [VRels], by simp [VRels]⟩
end
end Go.Proofs.Ytpkeggejofeeeaa.Lvm
