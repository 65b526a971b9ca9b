/- Laws of the small machine and of how it stands to the model; a helper of the statements: no statement is proved here. -/
import Derived.Test.YtpkeggejofeeeaaS7
namespace Go.Proofs.Ytpkeggejofeeeaa.Lvm

def splA (c : Array Value) (o : Nat) (vs : List Value) : Array Value := (c.toList.take o ++ (vs ++ c.toList.drop (o + vs.length))).toArray

theorem splA_size {c : Array Value} {o : Nat} {vs : List Value} (h : o + vs.length ≤ c.size) : (splA c o vs).size = c.size := by
  simp [splA]; omega

theorem take_splice (l vs : List Value) {o n : Nat} (h : o + vs.length ≤ n) (hl : o + vs.length ≤ l.length) :
    (l.take o ++ (vs ++ l.drop (o + vs.length))).take n = (l.take n).take o ++ (vs ++ (l.take n).drop (o + vs.length)) := by
  rw [List.take_append, List.take_append, List.take_take, List.drop_take, List.take_take]
  simp only [List.length_take]
  rw [show min n o = o by omega, show min o n = o by omega, List.take_of_length_le (l := vs) (by omega)]
  rw [show n - min o l.length - vs.length = n - (o + vs.length) by omega]

theorem set_heap {w : World} {b o : Nat} {c : Array Value} {e : TypeId} {f : Nat × Nat} {v : Value} (h : w.heap[b]? = some (.cells c e f)) :
    w.setCell ⟨b, o, none⟩ v = { w with heap := w.heap.setIfInBounds b (.cells (c.setIfInBounds o v) e f) } := by
  have hlt : b < w.heap.size := (Array.getElem?_eq_some_iff.1 h).1
  unfold World.setCell
  congr 1
  apply Array.ext_getElem?
  intro i
  rw [Array.getElem?_modify, Array.getElem?_setIfInBounds]
  by_cases hi : b = i
  · subst hi; rw [if_pos rfl, if_pos rfl, if_pos hlt, h]; rfl
  · rw [if_neg hi, if_neg hi]

theorem run_storeCells {P : Program} {b o : Nat} {e : TypeId} {f : Nat × Nat} : ∀ (vs : List Value) (i : Nat) (c : Array Value) (w : World), w.heap[b]? = some (.cells c e f) →
    (∀ j, j < c.size → ¬(f.1 ≤ j ∧ j < f.2)) → o + i + vs.length ≤ c.size → (∀ v ∈ vs, v.oneCell' = true) →
    (storeCells ⟨b, o, none⟩ vs i).run P w = .ok () { w with heap := w.heap.setIfInBounds b (.cells (splA c (o + i) vs) e f) }
  | [], i, c, w, h, _, hl, _ => by
    have hlt : b < w.heap.size := (Array.getElem?_eq_some_iff.1 h).1
    have e1 : splA c (o + i) [] = c := by simp [splA]
    have e2 : w.heap.setIfInBounds b (.cells c e f) = w.heap := by
      apply Array.ext_getElem?
      intro k
      rw [Array.getElem?_setIfInBounds]
      by_cases hk : b = k
      · subst hk; rw [if_pos rfl, if_pos hlt, h]
      · rw [if_neg hk]
    rw [e1, e2]
    simp [storeCells]
  | v :: vs, i, c, w, h, hf, hl, hv => by
    have hlt : b < w.heap.size := (Array.getElem?_eq_some_iff.1 h).1
    simp only [List.length_cons] at hl
    have hcell : w.cell? ⟨b, o + i, none⟩ = some c[o + i] := by rw [cell_of h]; simp
    have hfr : w.frozen? ⟨b, o + i, none⟩ = false := by
      have := hf (o + i) (by omega)
      simp only [World.frozen?, h]
      obtain ⟨lo, hi⟩ := f
      simp only [decide_eq_false_iff_not, Bool.and_eq_false_iff] at this ⊢
      omega
    simp only [storeCells, Sem.run_bind, add_none]
    rw [run_store P w _ v _ (hv v (by simp)), hcell]
    simp only [hfr, Bool.false_eq_true, if_false, Result.andThen_ok]
    rw [set_heap h]
    rw [run_storeCells (e := e) (f := f) vs (i + 1) (c.setIfInBounds (o + i) v) _ (by simp [hlt]) (by simpa using hf) (by simp; omega) (fun u hu => hv u (by simp [hu]))]
    congr 2
    simp only [Array.setIfInBounds_setIfInBounds]
    congr 2
    simp only [splA, Array.toList_setIfInBounds, List.length_cons]
    have hlt' : o + i < c.toList.length := by simp; omega
    rw [← Nat.add_assoc, List.take_succ_eq_append_getElem (by simpa using hlt'), List.take_set_of_le (Nat.le_refl _), List.drop_set_of_lt (by omega)]
    simp only [List.getElem_set_self, List.append_assoc, List.cons_append, List.nil_append]
    rw [show o + i + (vs.length + 1) = o + i + 1 + vs.length by omega]

section
variable {E : Env} {B : Nat} {inj : Inj} {st st' : LSt} {w : World} {fr : LFr} {a : Act} {lo : Nat}

def StoreOut (E : Env) (inj : Inj) (lo : Nat) (st : LSt) (w : World) (st' : LSt) (s : Sem Unit) : Prop :=
  ∃ L q old o ob w', lo ≤ L ∧ inj L = some q ∧ st.mem.get L = some old ∧ old ≠ .dead ∧ o ≠ .dead ∧ st' = { st with mem := st.mem.set L o } ∧ s.run E.P w = .ok () w' ∧
    w'.heap = w.heap.setIfInBounds q.1 ob ∧ Alike3 w w' ∧ ORel E inj o (some ob) q.2

theorem scal_one : ∀ {us : List LV} {vs : List Value}, VRels inj us vs → us.all LV.scalar = true → ∀ v ∈ vs, v.oneCell' = true
  | [], _, h, _ => by simp only [VRels] at h; subst h; simp
  | u :: us, _, h, hs => by
    simp only [VRels] at h
    obtain ⟨v, vs, rfl, h1, h2⟩ := h
    simp only [List.all_cons, Bool.and_eq_true] at hs
    intro x hx
    simp only [List.mem_cons] at hx
    rcases hx with rfl | hx
    · exact h1.oneCell hs.1
    · exact scal_one h2 hs.2 x hx

theorem storeN_sound (hm : Emb E B inj st w) {b : Blk} {o r : Nat} {us : List LV} {vs : List Value} (hb : BRel inj b r) (hv : VRels inj us vs) (h : storeN lo st b o us = some st') :
    StoreOut E inj lo st w st' (storeCells ⟨r, o, none⟩ vs) := by
  cases b with
  | base _ => simp [storeN] at h
  | own L =>
    simp only [storeN] at h
    obtain ⟨n, hq⟩ := hb
    cases hlo : Nat.ble lo L with
    | false => rw [hlo] at h; simp at h
    | true =>
      rw [hlo] at h; simp only [cond_true] at h
      split at h
      · rename_i cs hcs
        cases hc : (Nat.ble (o + us.length) cs.length && us.all LV.scalar) with
        | false => rw [hc] at h; simp at h
        | true =>
          rw [hc] at h; simp only [cond_true, setObjK_eq, Option.some.injEq] at h
          subst h
          simp only [Bool.and_eq_true] at hc
          have hle := Nat.le_of_ble_eq_true hc.1
          obtain ⟨c, e, f, h1, h2, h3, h4, h5⟩ := hm.obj _ _ _ hq hcs
          have hl := hv.length
          have hrun := run_storeCells (P := E.P) (o := o) vs 0 c w h1 (by rw [h2]; exact h5) (by omega) (scal_one hv hc.2)
          refine ⟨L, (r, n), _, _, .cells (splA c o vs) e f, _, Nat.le_of_ble_eq_true hlo, hq, hcs, by simp, by simp, rfl, hrun, by simp, ⟨rfl, rfl, rfl⟩, splA c o vs, e, f, rfl, by rw [splA_size (by omega)]; exact h2, by simp [splice]; omega, ?_, h5⟩
          have hsp := h4.splice hv o
          have e0 : (splice cs o us).length = cs.length := by simp [splice]; omega
          rw [e0]
          have e1 : (splA c o vs).toList.take cs.length = (c.toList.take cs.length).take o ++ (vs ++ (c.toList.take cs.length).drop (o + vs.length)) := by
            simp only [splA]
            exact take_splice _ _ (by omega) (by simp; omega)
          rw [e1]; exact hsp
      · cases h

end
end Go.Proofs.Ytpkeggejofeeeaa.Lvm
