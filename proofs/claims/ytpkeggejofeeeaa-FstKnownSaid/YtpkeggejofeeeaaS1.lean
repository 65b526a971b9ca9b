/- Laws of the small machine and of how it stands to the model; a helper of the statements: no statement is proved here. -/
import Derived.Test.YtpkeggejofeeeaaRel
import GoSem.Dispatch
namespace Go.Proofs.Ytpkeggejofeeeaa.Lvm

/- which types are flat: their cells are truth values, strings and whole numbers, one behind the other -/
def offsOk (P : Program) : Nat → List (Field × List CK) → Bool
  | _, [] => true
  | o, (f, ks) :: r => (f.name != "_") && (Nat.beq f.offset o && (Nat.beq (P.cellsOf f.type) ks.length && offsOk P (o + ks.length) r))

def mapO {α β : Type} (f : α → Option β) : List α → Option (List β)
  | [] => some []
  | x :: xs => match f x with
    | some y => match mapO f xs with
      | some ys => some (y :: ys)
      | none => none
    | none => none

def flatB (P : Program) : Nat → TypeId → Option (List CK)
  | 0, _ => none
  | d + 1, t => match P.underlying t with
    | some .bool => some [.bool]
    | some .string => some [.str]
    | some (.int k) => some [.int k]
    | some (.array n e) => match flatB P d e with
      | some l => cond (Nat.beq (P.cellsOf e) l.length && (P.info? e).isSome) (some ((List.replicate n l).flatten)) none
      | none => none
    | some (.struct fs) => cond (P.stoodInHeld t) none (match mapO (fun f => match flatB P d f.type with
        | some l => cond (P.info? f.type).isSome (some (f, l)) none
        | none => none) fs.toList with
      | some l => cond (offsOk P 0 l) (some (l.map (·.2)).flatten) none
      | none => none)
    | _ => none

structure Env.Ok (E : Env) : Prop where
  und : ∀ t d, E.und t = some d → E.P.underlying t = some d
  size : ∀ t n, E.size t = some n → ∃ i, E.P.info? t = some i ∧ i.size = n
  bytes : ∀ t n, E.bytes t = some n → ∃ i, E.P.info? t = some i ∧ i.bytes = n
  zero : ∀ t z, E.zero t = some z → ∃ i v, E.P.info? t = some i ∧ i.zero = some v ∧ lift v = some z
  flat : ∀ t ks, E.flat t = some ks → flatB E.P 8 t = some ks
  depth : 8 ≤ E.P.depth
  code : ∀ f fn, E.code f = some fn → E.P.funcs[f]? = some fn ∧ fn.name ≠ "runtime.NumGoroutine"
  mixed : E.P.follows .mixedOrders = true
  base : ∀ r o v, E.bm r o = some v → ∀ (i j : Inj) u, VRel i v u → VRel j v u

def ERels (inj : Inj) : List (LV × LV) → List MapEntry → Prop
  | [], l => l = []
  | (k, x) :: es, l => ∃ e r, l = e :: r ∧ VRel inj k e.key ∧ VRel inj x e.val ∧ ERels inj es r

def ORel (E : Env) (inj : Inj) : LObj → Option Obj → Nat → Prop
  | .cells cs, o, n => ∃ c e f, o = some (.cells c e f) ∧ c.size = n ∧ cs.length ≤ n ∧ VRels inj cs (c.toList.take cs.length) ∧ (∀ i, i < n → ¬(f.1 ≤ i ∧ i < f.2))
  | .map kt es, o, _ => ∃ c k, o = some (.map c k) ∧ ERels inj es c.toList ∧ (∀ p ∈ es, keyOk E kt p.1 = some true) ∧ k = es.length ∧ ∀ (i : Nat) (e : MapEntry), c.toList[i]? = some e → e.born = i
  | .iter m len i, o, _ => ∃ r c seen, inj m = some (r, c) ∧ o = some (.mapIter (some r) len seen len) ∧ (match i with | none => seen = #[] | some i => seen.back? = some i)
  | .dead, _, _ => True

theorem ERels.mono {inj inj' : Inj} (h : Ext inj inj') : ∀ {es : List (LV × LV)} {l : List MapEntry}, ERels inj es l → ERels inj' es l
  | [], _, e => by simpa only [ERels] using e
  | (_, _) :: _, _, e => by
    simp only [ERels] at e ⊢
    obtain ⟨a, r, hl, h1, h2, h3⟩ := e
    exact ⟨a, r, hl, h1.mono h, h2.mono h, ERels.mono h h3⟩

theorem ORel.mono {E : Env} {inj inj' : Inj} (h : Ext inj inj') : ∀ {o : LObj} {ob : Option Obj} {n : Nat}, ORel E inj o ob n → ORel E inj' o ob n
  | .cells _, _, _, ⟨c, e, f, h1, h2, h3, h4, h5⟩ => ⟨c, e, f, h1, h2, h3, h4.mono h, h5⟩
  | .map _ _, _, _, ⟨c, k, h1, h2, h3⟩ => ⟨c, k, h1, h2.mono h, h3⟩
  | .iter _ _ _, _, _, ⟨r, c, seen, h1, h2, h3⟩ => ⟨r, c, seen, h _ _ h1, h2, h3⟩
  | .dead, _, _, _ => trivial

structure Emb (E : Env) (B : Nat) (inj : Inj) (st : LSt) (w : World) : Prop where
  dom : ∀ L q, inj L = some q → L < st.nxt ∧ B ≤ q.1 ∧ q.1 < w.heap.size
  obj : ∀ L q o, inj L = some q → st.mem.get L = some o → ORel E inj o w.heap[q.1]? q.2
  new : ∀ L, st.nxt ≤ L → st.mem.get L = none
  base : ∀ r o v, E.bm r o = some v → r < B ∧ ∃ u, w.cell? ⟨r, o, none⟩ = some u ∧ VRel inj v u
  low : B ≤ w.heap.size

section
variable {P : Program} {w : World} {t : TypeId}
theorem r_und {d : TypeDesc} (h : P.underlying t = some d) : (underlying t).run P w = .ok d w := by simp [underlying, h]
theorem r_info {i : TypeInfo} (h : P.info? t = some i) : (typeInfo t).run P w = .ok i w := by simp [typeInfo, h]
theorem r_size {i : TypeInfo} (h : P.info? t = some i) : (sizeOf t).run P w = .ok i.size w := by simp [sizeOf, r_info h]
theorem r_zero {i : TypeInfo} {v : Value} (h : P.info? t = some i) (hz : i.zero = some v) : (zeroValue t).run P w = .ok v w := by simp [zeroValue, r_info h, hz]
theorem r_isAgg {d : TypeDesc} (h : P.underlying t = some d) : (isAgg t).run P w = .ok (isAggD d) w := by
  simp only [isAgg, Sem.run_bind, r_und h, Result.andThen_ok]
  cases d <;> rfl
end

theorem add_none (b o i : Nat) : (⟨b, o, none⟩ : Addr).add i = ⟨b, o + i, none⟩ := by
  unfold Addr.add; split <;> simp_all

theorem cell_of {w : World} {b o : Nat} {c : Array Value} {e : TypeId} {f : Nat × Nat} (h : w.heap[b]? = some (.cells c e f)) : w.cell? ⟨b, o, none⟩ = c[o]? := by
  simp [World.cell?, h]

theorem run_loadCells {P : Program} {w : World} {b o : Nat} : ∀ (vs : List Value) (i : Nat) (acc : Array Value),
    (∀ j v, vs[j]? = some v → w.cell? ⟨b, o + i + j, none⟩ = some v) → (loadCellsFrom ⟨b, o, none⟩ i vs.length acc).run P w = .ok (acc ++ vs.toArray) w
  | [], i, acc, _ => by simp [loadCellsFrom]
  | v :: vs, i, acc, h => by
    have h0 := h 0 v rfl
    have ih := run_loadCells (P := P) (w := w) (b := b) (o := o) vs (i + 1) (acc.push v) (fun j u hj => by
      have := h (j + 1) u (by simpa using hj)
      rw [← this]; congr 2; omega)
    simp only [List.length_cons, loadCellsFrom, Sem.run_bind, add_none, run_load]
    rw [show w.cell? ⟨b, o + i, none⟩ = some v from h0]
    simp only [Result.andThen_ok]
    rw [ih]
    simp

section
variable {E : Env} {B : Nat} {inj : Inj} {st : LSt} {w : World}

theorem baseN_sound (hm : Emb E B inj st w) : ∀ (n o : Nat) (r : Nat) (cs : List LV), baseN E.bm r o n = some cs →
    ∃ vs : List Value, vs.length = n ∧ VRels inj cs vs ∧ ∀ j v, vs[j]? = some v → w.cell? ⟨r, o + j, none⟩ = some v
  | 0, o, r, cs, h => by simp [baseN] at h; subst h; exact ⟨[], rfl, VRels.nil, by simp⟩
  | n + 1, o, r, cs, h => by
    simp only [baseN] at h
    split at h
    · rename_i v hv
      split at h
      · rename_i xs hx
        simp at h; subst h
        obtain ⟨_, u, hu, hr⟩ := hm.base _ _ _ hv
        obtain ⟨us, h1, h2, h3⟩ := baseN_sound hm n (o + 1) r xs hx
        refine ⟨u :: us, by simp [h1], VRels.cons hr h2, fun j x hj => ?_⟩
        cases j with
        | zero => simp at hj; subst hj; simpa using hu
        | succ j => simp at hj; rw [← h3 j x hj]; congr 2; omega
      · cases h
    · cases h

theorem takeN_eq {cs : List LV} {o n : Nat} {r : List LV} (h : takeN cs o n = some r) : r = (cs.drop o).take n ∧ r.length = n ∧ o + n ≤ cs.length ∨ (r = [] ∧ n = 0) := by
  unfold takeN at h
  simp only at h
  cases hb : Nat.beq ((cs.drop o).take n).length n with
  | false => rw [hb] at h; simp at h
  | true =>
    rw [hb] at h
    simp only [cond_true, Option.some.injEq] at h
    have := Nat.eq_of_beq_eq_true hb
    subst h
    by_cases hn : n = 0
    · right; subst hn; simp
    · left
      refine ⟨rfl, this, ?_⟩
      simp at this; omega

theorem loadN_sound (hm : Emb E B inj st w) {b : Blk} {o n : Nat} {cs : List LV} {r : Nat} (h : loadN E st b o n = some cs) (hb : BRel inj b r) :
    ∃ vs : List Value, vs.length = n ∧ VRels inj cs vs ∧ ∀ j v, vs[j]? = some v → w.cell? ⟨r, o + j, none⟩ = some v := by
  cases b with
  | base b => simp only [BRel] at hb; subst hb; exact baseN_sound hm n o r cs h
  | own L =>
    simp only [loadN] at h
    obtain ⟨m, hq⟩ := hb
    split at h
    · rename_i row hrow
      obtain ⟨c, e, f, h1, h2, h3, h4, h5⟩ := hm.obj _ _ _ hq hrow
      rcases takeN_eq h with ⟨rfl, hl, hle⟩ | ⟨rfl, rfl⟩
      · refine ⟨((c.toList.take row.length).drop o).take n, ?_, (h4.drop o).take n, fun j v hj => ?_⟩
        · simp only [List.length_take, List.length_drop, Array.length_toList]; omega
        · rw [cell_of h1]
          rw [List.getElem?_take] at hj
          split at hj
          · rw [List.getElem?_drop, List.getElem?_take] at hj
            split at hj
            · simpa using hj
            · cases hj
          · cases hj
      · exact ⟨[], rfl, VRels.nil, by simp⟩
    · cases h

theorem load1_sound (hm : Emb E B inj st w) {b : Blk} {o : Nat} {x : LV} {r : Nat} (h : load1 E st b o = some x) (hb : BRel inj b r) :
    ∃ v, w.cell? ⟨r, o, none⟩ = some v ∧ VRel inj x v := by
  cases b with
  | base b => simp only [BRel] at hb; subst hb; exact (hm.base _ _ _ h).2
  | own L =>
    simp only [load1] at h
    obtain ⟨m, hq⟩ := hb
    split at h
    · rename_i row hrow
      obtain ⟨c, e, f, h1, h2, h3, h4, h5⟩ := hm.obj _ _ _ hq hrow
      obtain ⟨v, hv, hr⟩ := h4.get? h
      refine ⟨v, ?_, hr⟩
      rw [cell_of h1]
      rw [List.getElem?_take] at hv
      split at hv
      · simpa using hv
      · cases hv
    · cases h

theorem loadV_sound (hE : E.Ok) (hm : Emb E B inj st w) {t : TypeId} {b : Blk} {o : Nat} {x : LV} {r : Nat} (h : loadV E st t b o = some x) (hb : BRel inj b r) :
    ∃ v, (loadVar t ⟨r, o, none⟩).run E.P w = .ok v w ∧ VRel inj x v := by
  unfold loadV at h
  split at h
  · rename_i d hd
    have hu := hE.und _ _ hd
    cases ha : isAggD d with
    | true =>
      rw [ha] at h
      simp only [cond_true] at h
      split at h
      · rename_i n hn
        obtain ⟨i, hi, hsz⟩ := hE.size _ _ hn
        cases hl : loadN E st b o n with
        | none => simp [hl] at h
        | some cs =>
          simp [hl] at h; subst h
          obtain ⟨vs, h1, h2, h3⟩ := loadN_sound hm hl hb
          refine ⟨.agg vs.toArray, ?_, by simp only [VRel]; exact ⟨_, rfl, by simpa using h2⟩⟩
          simp only [loadVar, Sem.run_bind, r_isAgg hu, ha, Result.andThen_ok, if_true, r_size hi, loadCells, hsz]
          rw [← h1, run_loadCells vs 0 #[] (fun j v hj => by simpa using h3 j v hj)]
          simp
      · cases h
    | false =>
      rw [ha] at h
      simp only [cond_false] at h
      obtain ⟨v, hv, hr⟩ := load1_sound hm h hb
      refine ⟨v, ?_, hr⟩
      simp [loadVar, r_isAgg hu, ha, hv]
  · cases h
end
end Go.Proofs.Ytpkeggejofeeeaa.Lvm
