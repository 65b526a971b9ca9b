/- Laws of the small machine and of how it stands to the model; a helper of the statements: no statement is proved here. -/
import Derived.Test.YtpkeggejofeeeaaS6
import Derived.Laws.BytesString
namespace Go.Proofs.Ytpkeggejofeeeaa.Lvm

section
variable {E : Env} {B : Nat} {inj : Inj} {st st' : LSt} {w : World} {fr : LFr} {a : Act}

theorem push_modify {α : Type} (xs : Array α) (x : α) (f : α → α) : (xs.push x).modify xs.size f = xs.push (f x) := by
  apply Array.ext_getElem?
  intro i
  rw [Array.getElem?_modify, Array.getElem?_push, Array.getElem?_push]
  by_cases h : xs.size = i
  · subst h; simp
  · rw [if_neg h]; rw [if_neg (Ne.symm h), if_neg (Ne.symm h)]

theorem bytesOf_rel : ∀ {cs : List LV} {l : List UInt8} {vs : List Value}, bytesOf cs = some l → VRels inj cs vs → ∃ ns : List Int, vs = ns.map (Value.int .u8) ∧ l = ns.map (fun n => UInt8.ofNat n.toNat)
  | [], l, vs, h, hc => by simp [bytesOf] at h; subst h; simp only [VRels] at hc; subst hc; exact ⟨[], rfl, rfl⟩
  | c :: cs, l, vs, h, hc => by
    unfold bytesOf at h
    split at h
    · rename_i h0; cases h0
    · rename_i n r h0
      simp only [List.cons.injEq] at h0
      obtain ⟨rfl, rfl⟩ := h0
      split at h
      · rename_i l' hl
        simp at h; subst h
        simp only [VRels, VRel] at hc
        obtain ⟨_, vs, rfl, rfl, h2⟩ := hc
        obtain ⟨ns, rfl, rfl⟩ := bytesOf_rel hl h2
        exact ⟨n :: ns, rfl, rfl⟩
      · cases h
    · cases h

theorem fold_push : ∀ (ns : List Int) (s : ByteArray), ns.foldl (fun r n => r.push (UInt8.ofNat n.toNat)) s = ⟨s.data ++ (ns.map (fun n => UInt8.ofNat n.toNat)).toArray⟩
  | [], s => by simp
  | n :: ns, s => by
    simp only [List.foldl_cons]
    rw [fold_push ns]
    simp [ByteArray.push]

def ConvOut (E : Env) (inj : Inj) (st : LSt) (w : World) (v : LV) (st' : LSt) (s : Sem Value) : Prop :=
  (st' = st ∧ ValOut E inj v w s) ∨ FreshOut E inj st w v st' s

theorem convL_sound (hE : E.Ok) (hm : Emb E B inj st w) {src dst : TypeId} {x v : LV} {u : Value} (hx : VRel inj x u) (h : convL E st src dst x = some (v, st')) :
    ConvOut E inj st w v st' (convert src dst u) := by
  unfold convL at h
  split at h
  · rename_i k k' n hs hd
    simp only [Option.some.injEq, Prod.mk.injEq] at h
    obtain ⟨rfl, rfl⟩ := h
    simp only [VRel] at hx; subst hx
    exact Or.inl ⟨rfl, _, by simp [convert, r_und (hE.und _ _ hs), r_und (hE.und _ _ hd), Conv.intToInt]; rfl, by simp [VRel]⟩
  · rename_i s hs hd
    simp only [Option.some.injEq, Prod.mk.injEq] at h
    obtain ⟨rfl, rfl⟩ := h
    simp only [VRel] at hx; subst hx
    exact Or.inl ⟨rfl, _, by simp [convert, r_und (hE.und _ _ hs), r_und (hE.und _ _ hd)]; rfl, by simp [VRel]⟩
  · rename_i e s hs hd
    split at h
    · rename_i he
      rw [newK_eq] at h
      simp only [Option.some.injEq, Prod.mk.injEq] at h
      obtain ⟨rfl, rfl⟩ := h
      simp only [VRel] at hx; subst hx
      right
      let C := Question.cut (.appendCap s.size 0 e) (w.tape w.drawn (.appendCap s.size 0 e))
      have hC : s.size ≤ C := by simp only [C, Question.cut]; omega
      let row : Array Value := (s.data.map fun b => Value.int .u8 b.toNat) ++ Array.replicate (C - s.size) (.int .u8 0)
      have hrow : row.size = C := by simp [row]; omega
      refine ⟨.cells (s.data.toList.map fun b => .int .u8 b.toNat), .cells row e (C, C + 1), C, .slice (some ⟨w.heap.size, 0, none⟩) s.size C,
        { w with drawn := w.drawn + 1, heap := w.heap.push (.cells row e (C, C + 1)) }, rfl, ?_, rfl, ⟨rfl, rfl, rfl⟩, fun inj' hx hn => ⟨?_, ?_⟩⟩
      · have hf : Question.forced (.appendCap s.size 0 e) = false := rfl
        simp only [convert, Sem.run_bind, r_und (hE.und _ _ hs), r_und (hE.und _ _ hd), Result.andThen_ok, r_und (hE.und _ _ he), Conv.stringToBytes, run_choose, hf, Bool.false_eq_true, if_false, newRow, run_newObj, Sem.run_pure]
        simp only [markStringish, Sem.run_bind, run_shape, Result.andThen_ok, World.shape?, Array.getElem?_push_size, freeze, Sem.run, World.freeze, push_modify]
        simp only [Nat.one_ne_zero, if_false, BEq.rfl, if_true]
        show Result.ok (Value.slice (some ⟨w.heap.size, 0, none⟩) s.size C) { w with drawn := w.drawn + 1, heap := w.heap.push (.cells row e (row.size, row.size + 1)) } = _
        rw [hrow]
      · simp only [VRel]
        exact ⟨_, 0, C, rfl, ⟨_, hn⟩, Or.inl rfl, hC, by simp, Nat.le_refl _, fun L q hL hq => by cases hL; rw [hn] at hq; simp at hq; omega⟩
      · refine ⟨row, e, (C, C + 1), rfl, hrow, by simp; exact hC, ?_, fun i hi => by simp; omega⟩
        have e1 : row.toList.take ((s.data.toList.map fun b => LV.int .u8 b.toNat).length) = s.data.toList.map fun b => Value.int .u8 b.toNat := by
          simp only [row, Array.toList_append, List.length_map, Array.toList_map]
          rw [List.take_append_of_le_length (by simp)]
          rw [List.take_of_length_le (by simp)]
        rw [e1]
        generalize s.data.toList = l
        induction l with
        | nil => exact VRels.nil
        | cons b l ih => exact VRels.cons (by simp [VRel]) ih
    · cases h
  · rename_i e hs hd
    split at h
    · rename_i he
      simp only [Option.some.injEq, Prod.mk.injEq] at h
      obtain ⟨rfl, rfl⟩ := h
      simp only [VRel] at hx; subst hx
      exact Or.inl ⟨rfl, _, by simp [convert, r_und (hE.und _ _ hs), r_und (hE.und _ _ hd), r_und (hE.und _ _ he), Conv.bytesToString]; rfl, by simp [VRel]⟩
    · cases h
  · rename_i e b o sz len cap ex hs hd
    split at h
    · rename_i he
      cases h1 : Nat.beq sz 1 with
      | false => rw [h1] at h; simp at h
      | true =>
        rw [h1] at h; simp only [cond_true] at h
        split at h
        · rename_i cs hcs
          split at h
          · rename_i l hl
            simp only [Option.some.injEq, Prod.mk.injEq] at h
            obtain ⟨rfl, rfl⟩ := h
            simp only [VRel] at hx
            obtain ⟨r, o', c, rfl, hb, ho, hc, hex, hle, hcap⟩ := hx
            obtain ⟨vs, hv1, hv2, hv3⟩ := loadN_sound hm hcs hb
            obtain ⟨ns, rfl, rfl⟩ := bytesOf_rel hl hv2
            have hload : (loadCells ⟨r, o', none⟩ len).run E.P w = .ok (ns.map (Value.int .u8)).toArray w := by
              unfold loadCells
              by_cases hl0 : len = 0
              · subst hl0
                have : ns = [] := by simpa using hv1
                subst this; simp [loadCellsFrom]
              · have ho : o' = o := by rcases ho with ho | ho <;> omega
                subst ho
                rw [← hv1]
                have := run_loadCells (P := E.P) (ns.map (Value.int .u8)) 0 #[] (fun j v hj => by simpa using hv3 j v hj)
                simpa using this
            refine Or.inl ⟨rfl, .string ⟨(ns.map (fun n => UInt8.ofNat n.toNat)).toArray⟩, ?_, by simp [VRel]⟩
            rw [run_convert_bytes_string w src dst e _ _ _ (hE.und _ _ hs) (hE.und _ _ he) (hE.und _ _ hd), run_bytesToString w _ _ _ ns hload, fold_push]
            show Result.ok (Value.string ⟨(#[] : Array UInt8) ++ _⟩) w = _
            simp
          · cases h
        · cases h
    · cases h
  · cases h

/-! ### len -/
theorem ERels.length : ∀ {es : List (LV × LV)} {l : List MapEntry}, ERels inj es l → l.length = es.length
  | [], _, e => by simp only [ERels] at e; simp [e]
  | (_, _) :: _, _, e => by
    simp only [ERels] at e
    obtain ⟨x, r, rfl, _, _, h⟩ := e
    simp [h.length]

theorem lenB_sound (hE : E.Ok) (hm : Emb E B inj st w) {t : TypeId} {x v : LV} {u : Value} {ts : Array TypeId} (ht : ts[0]? = some t) (hx : VRel inj x u) (h : lenB E st t x = some v) (ty : TypeId) :
    ValOut E inj v w (Builtin.len_ ts ty #[u]) := by
  unfold lenB at h
  split at h
  · rename_i s hu; simp at h; subst h; simp only [VRel] at hx; subst hx
    exact ⟨_, by simp [Builtin.len_, ht, r_und (hE.und _ _ hu)]; rfl, by simp [VRel, goInt]⟩
  · rename_i hu; simp at h; subst h; simp only [VRel] at hx; subst hx
    exact ⟨_, by simp [Builtin.len_, ht, r_und (hE.und _ _ hu)]; rfl, by simp [VRel, goInt]⟩
  · rename_i hu; simp at h; subst h; simp only [VRel] at hx; obtain ⟨r, o', c, rfl, _⟩ := hx
    exact ⟨_, by simp [Builtin.len_, ht, r_und (hE.und _ _ hu)]; rfl, by simp [VRel, goInt]⟩
  · rename_i hu; simp at h; subst h; simp only [VRel] at hx; subst hx
    exact ⟨_, by simp [Builtin.len_, ht, r_und (hE.und _ _ hu)]; rfl, by simp [VRel, goInt]⟩
  · rename_i m hu
    split at h
    · rename_i kt es hes
      simp at h; subst h
      simp only [VRel] at hx
      obtain ⟨r, n, hq, rfl⟩ := hx
      obtain ⟨c, k, h1, h2, h3⟩ := hm.obj _ _ _ hq hes
      have hl := h2.length
      simp only [Array.length_toList] at hl
      refine ⟨goInt c.size, ?_, by simp [VRel, goInt, hl]⟩
      simp [Builtin.len_, ht, r_und (hE.und _ _ hu), getObj, Sem.run, h1]
    · cases h
  · cases h

theorem minL_sound {xs : List LV} {vs : List Value} {z : LV} (h : minL xs = some z) (hx : VRels inj xs vs) (ts : Array TypeId) (t : TypeId) : ValOut E inj z w (Builtin.min_ ts t vs.toArray) := by
  unfold minL at h
  split at h
  · simp only [Option.some.injEq] at h; subst h
    simp only [VRels, VRel] at hx
    obtain ⟨_, _, rfl, rfl, _, _, rfl, rfl, rfl⟩ := hx
    exact ⟨_, by simp [Builtin.min_, Builtin.min2]; rfl, by simp [VRel]⟩
  · cases h
theorem maxL_sound {xs : List LV} {vs : List Value} {z : LV} (h : maxL xs = some z) (hx : VRels inj xs vs) (ts : Array TypeId) (t : TypeId) : ValOut E inj z w (Builtin.max_ ts t vs.toArray) := by
  unfold maxL at h
  split at h
  · simp only [Option.some.injEq] at h; subst h
    simp only [VRels, VRel] at hx
    obtain ⟨_, _, rfl, rfl, _, _, rfl, rfl, rfl⟩ := hx
    exact ⟨_, by simp [Builtin.max_, Builtin.max2]; rfl, by simp [VRel]⟩
  · cases h
end
end Go.Proofs.Ytpkeggejofeeeaa.Lvm
