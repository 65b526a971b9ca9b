/- Laws of the small machine and of how it stands to the model; a helper of the statements: no statement is proved here. -/
import Derived.Test.YtpkeggejofeeeaaW2
namespace Go.Proofs.Ytpkeggejofeeeaa.Lvm

theorem next_ok {P : Program} {w : World} {ri rm len : Nat} {c : Array MapEntry} {seen : Array Nat} (hi : w.heap[ri]? = some (.mapIter (some rm) len seen len)) (hm : w.heap[rm]? = some (.map c len))
    (hborn : ∀ (i : Nat) (e : MapEntry), c.toList[i]? = some e → e.born = i) (hlen : c.size = len) (ty : TypeId) :
    ((∀ i, i < len → i ∈ seen) ∧ (Instr.next (.pointer (some ⟨ri, 0, none⟩)) false ty).run P w = .ok (.tuple #[.bool false]) w) ∨
    ∃ (i : Nat) (e : MapEntry) (w1 : World), c.toList[i]? = some e ∧ i ∉ seen ∧ w1.heap = w.heap ∧ Alike3 w w1 ∧
      (Instr.next (.pointer (some ⟨ri, 0, none⟩)) false ty).run P w = .ok (.tuple #[.bool true, e.key, e.val]) { w1 with heap := w.heap.setIfInBounds ri (.mapIter (some rm) len (seen.push i) len) } := by
  have hold : ∀ x ∈ c.toList, x.born < len := fun x hx => by
    obtain ⟨i, hlt, hxi⟩ := List.getElem_of_mem hx
    have := hborn i x (by rw [List.getElem?_eq_getElem hlt, hxi])
    simp at hlt
    omega
  have h1 : ∀ {α : Type} (K : Obj → Sem α), (getObj ri >>= K).run P w = (K (.mapIter (some rm) len seen len)).run P w := fun K => by
    simp [getObj, Sem.run_bind, Sem.run, hi, Result.andThen]
  have h2 : ∀ {α : Type} (K : Obj → Sem α), (getObj rm >>= K).run P w = (K (.map c len)).run P w := fun K => by
    simp [getObj, Sem.run_bind, Sem.run, hm, Result.andThen]
  simp only [Instr.next, h1, h2, next_test_false seen c len len hold (Nat.le_refl _), Bool.false_eq_true, if_false]
  have hmem : ∀ x ∈ (Array.filter (fun e => !seen.contains e.born) c).toList, x.born < len := fun x hx => hold x (by simp at hx ⊢; exact hx.1)
  have hin : ∀ x ∈ (Array.filter (fun e => !seen.contains e.born) c).toList, x ∈ c.toList ∧ x.born ∉ seen := fun x hx => by simpa using hx
  have hout : ∀ x ∈ c.toList, x.born ∉ seen → x ∈ (Array.filter (fun e => !seen.contains e.born) c).toList := fun x hx hs => by simpa using ⟨by simpa using hx, hs⟩
  generalize Array.filter (fun e => !seen.contains e.born) c = L at hmem hin hout ⊢
  have e1 : L.filter (fun x => decide (x.born < len)) = L := Array.filter_eq_self.2 (fun x hx => by simpa using hmem x (by simpa using hx))
  have e2 : L.filter (fun x => decide (x.born ≥ len)) = #[] := by
    rw [Array.filter_eq_empty_iff]
    intro x hx
    have := hmem x (by simpa using hx)
    simp
    omega
  simp only [e1, e2, Array.append_empty]
  by_cases h0 : L.size = 0
  · left
    have hL : L = #[] := Array.eq_empty_of_size_eq_zero h0
    refine ⟨fun i hi' => Classical.byContradiction fun hs => ?_, ?_⟩
    · have hlt : i < c.toList.length := by simp; omega
      have hb := hborn i c.toList[i] (List.getElem?_eq_getElem hlt)
      have := hout c.toList[i] (List.getElem_mem hlt) (by rw [hb]; exact hs)
      rw [hL] at this; simp at this
    · subst hL
      simp [choose, Sem.run, Question.forced]
  · right
    have hne : L.isEmpty = false := by simp [Array.isEmpty, h0]
    simp only [hne, Bool.false_eq_true, if_false, Array.empty_append, Array.size_map]
    have hch : ∃ (j : Nat) (w1 : World), j < L.size ∧ w1.heap = w.heap ∧ Alike3 w w1 ∧ (choose (Question.mapNext L.size)).run P w = .ok j w1 := by
      by_cases hf : L.size ≤ 1
      · exact ⟨0, w, by omega, rfl, ⟨rfl, rfl, rfl⟩, by simp [choose, Sem.run, Question.forced, hf]⟩
      · exact ⟨_, w.drew, Nat.mod_lt _ (by omega), rfl, ⟨rfl, rfl, rfl⟩, by
          simp only [choose, Sem.run, Question.forced, decide_eq_true_eq, hf, if_false, Question.cut]
          rfl⟩
    obtain ⟨j, w1, hj, hh, hal, hrun⟩ := hch
    obtain ⟨g1, g2⟩ := hin L[j] (by simp)
    obtain ⟨i, hlt, hxi⟩ := List.getElem_of_mem g1
    have hb := hborn i L[j] (by rw [List.getElem?_eq_getElem hlt, hxi])
    refine ⟨i, L[j], w1, by rw [List.getElem?_eq_getElem hlt, hxi], by rw [← hb]; exact g2, hh, hal, ?_⟩
    have hset : ∀ (o' : Obj), (setObj ri o').run P w1 = .ok () { w1 with heap := w.heap.setIfInBounds ri o' } := fun o' => by
      simp only [setObj, Sem.run, hh, hi]
    simp only [Sem.run_bind, hrun, Result.andThen_ok, Array.getElem?_map, Array.getElem?_eq_getElem hj, Option.map_some, hset, hb]
    rfl

section
variable {E : Env} {B lo : Nat} {inj : Inj} {st : LSt} {w w' : World}

/-- One block's object is another; all else that was there stands. -/
theorem Rel.shift (hr : Rel E B inj st w) {L : Nat} {q : Nat × Nat} {o : LObj} (h2 : inj L = some q) (hl : live st L) (hs : w.heap.size ≤ w'.heap.size)
    (hk : ∀ b, b < w.heap.size → b ≠ q.1 → w'.heap[b]? = w.heap[b]?) (h10 : ORel E inj o w'.heap[q.1]? q.2) : Rel E B inj { st with mem := st.mem.set L o } w' := by
  have hm := hr.toEmb
  have hd := hm.dom L q h2
  have hlv : ∀ {L'}, live { st with mem := st.mem.set L o } L' → live st L' := fun {L'} ⟨x, hx, hxd⟩ => by
    simp only [Mem.get_set] at hx
    by_cases e : L = L'
    · subst e; exact hl
    · rw [if_neg e] at hx; exact ⟨x, hx, hxd⟩
  refine ⟨⟨?_, ?_, ?_, ?_, ?_⟩, fun L' hL' => hr.full L' (hlv hL'), fun A A' p p' a1 a2 => hr.uniq A A' p p' (hlv a1) (hlv a2)⟩
  · intro L' q' hq; have := hm.dom L' q' hq; exact ⟨this.1, this.2.1, by omega⟩
  · intro L' q' o' hq ho'
    simp only [Mem.get_set] at ho'
    by_cases e : L = L'
    · subst e
      rw [if_pos rfl] at ho'
      rw [h2] at hq; simp only [Option.some.injEq] at hq ho'; subst hq; subst ho'
      exact h10
    · rw [if_neg e] at ho'
      by_cases hdd : o' = .dead
      · subst hdd; trivial
      · have hne : q'.1 ≠ q.1 := fun e' => e (hr.uniq L L' q q' hl ⟨o', ho', hdd⟩ h2 hq e'.symm)
        rw [hk _ (hm.dom L' q' hq).2.2 hne]
        exact hm.obj L' q' o' hq ho'
  · intro L' hL'
    have hL' : st.nxt ≤ L' := hL'
    simp only [Mem.get_set]
    rw [if_neg (by omega)]; exact hm.new L' hL'
  · intro r o' v hv
    exact base_keep hm (Ext.refl _) (fun b hb => hk b (by have := hm.low; omega) (by omega)) hv
  · have := hm.low; omega
end
end Go.Proofs.Ytpkeggejofeeeaa.Lvm
