/- Laws of the small machine, of how it stands to the model, and of what functions come to on it; a helper of the statement: no statement is proved here. -/
import Derived.Test.YtpkeggejofeeeaaLv
import Derived.Laws.Sem
import Derived.Below
import GoSem.Dispatch
import Derived.Laws.StructEq
set_option linter.unusedVariables false
namespace Go.Proofs.Ytpkeggejofeeeaa.Lvm

abbrev Inj := Nat → Option (Nat × Nat)

def BRel (inj : Inj) : Blk → Nat → Prop
  | .own L, b => ∃ n, inj L = some (b, n)
  | .base r, b => b = r

mutual
def VRel (inj : Inj) : LV → Value → Prop
  | .bool x, v => v = .bool x
  | .int k n, v => v = .int k n
  | .str s, v => v = .string s
  | .flt k b, v => v = .float k b
  | .nilp, v => v = .pointer none
  | .ptr b o, v => ∃ r, BRel inj b r ∧ v = .pointer (some ⟨r, o, none⟩)
  | .nilsl, v => v = .slice none 0 0
  | .sl b o sz len cap ex, v => ∃ r o' c sp, v = .slice (some ⟨r, o', sp⟩) len c ∧ BRel inj b r ∧ (o' = o ∧ sp = none ∨ c = 0) ∧ cap ≤ c ∧ (ex = true → c = cap) ∧ len ≤ cap ∧
      (∀ L n, b = .own L → inj L = some (r, n) → o' + c * sz ≤ n)
  | .nilmap, v => v = .map none
  | .map m, v => ∃ r n, inj m = some (r, n) ∧ v = .map (some r)
  | .fn f first cap, v => ∃ vs cs, v = .func (.func f) vs cs ∧ VRels inj first vs.toList ∧ VRels inj cap cs.toList
  | .nilfn, v => v = .nilFunc
  | .nilif, v => v = .nilIface
  | .agg cs, v => ∃ vs, v = .agg vs ∧ VRels inj cs vs.toList
  | .tup cs, v => ∃ vs, v = .tuple vs ∧ VRels inj cs vs.toList
def VRels (inj : Inj) : List LV → List Value → Prop
  | [], l => l = []
  | c :: cs, l => ∃ v vs, l = v :: vs ∧ VRel inj c v ∧ VRels inj cs vs
end

def Ext (inj inj' : Inj) : Prop := ∀ L q, inj L = some q → inj' L = some q
theorem Ext.refl (inj : Inj) : Ext inj inj := fun _ _ h => h
theorem Ext.trans {a b c : Inj} (h : Ext a b) (h' : Ext b c) : Ext a c := fun L q e => h' L q (h L q e)

theorem BRel.mono {inj inj' : Inj} (h : Ext inj inj') : ∀ {b r}, BRel inj b r → BRel inj' b r
  | .own _, _, ⟨n, e⟩ => ⟨n, h _ _ e⟩
  | .base _, _, e => e

mutual
theorem VRel.mono {inj inj' : Inj} (h : Ext inj inj') : ∀ {x : LV} {v : Value}, VRel inj x v → VRel inj' x v
  | .bool _, _, e | .int _ _, _, e | .str _, _, e | .flt _ _, _, e | .nilp, _, e | .nilsl, _, e | .nilmap, _, e | .nilfn, _, e | .nilif, _, e => by
    simpa only [VRel] using e
  | .ptr _ _, _, e => by
    simp only [VRel] at e ⊢
    obtain ⟨r, hb, hv⟩ := e
    exact ⟨r, hb.mono h, hv⟩
  | .sl b _ _ _ _ _, _, e => by
    simp only [VRel] at e ⊢
    obtain ⟨r, o', c, sp, hv, hb, ho, hc, hex, hl, hcap⟩ := e
    refine ⟨r, o', c, sp, hv, hb.mono h, ho, hc, hex, hl, fun L n hL hn => ?_⟩
    subst hL
    obtain ⟨n', hn'⟩ := hb
    have := h _ _ hn'
    rw [hn] at this
    simp only [Option.some.injEq, Prod.mk.injEq, true_and] at this
    subst this
    exact hcap L _ rfl hn'
  | .map _, _, e => by
    simp only [VRel] at e ⊢
    obtain ⟨r, n, hb, hv⟩ := e
    exact ⟨r, n, h _ _ hb, hv⟩
  | .fn _ _ _, _, e => by
    simp only [VRel] at e ⊢
    obtain ⟨vs, cs, hv, h1, h2⟩ := e
    exact ⟨vs, cs, hv, VRels.mono h h1, VRels.mono h h2⟩
  | .agg _, _, e => by
    simp only [VRel] at e ⊢
    obtain ⟨vs, hv, h1⟩ := e
    exact ⟨vs, hv, VRels.mono h h1⟩
  | .tup _, _, e => by
    simp only [VRel] at e ⊢
    obtain ⟨vs, hv, h1⟩ := e
    exact ⟨vs, hv, VRels.mono h h1⟩
theorem VRels.mono {inj inj' : Inj} (h : Ext inj inj') : ∀ {xs : List LV} {vs : List Value}, VRels inj xs vs → VRels inj' xs vs
  | [], _, e => by simpa only [VRels] using e
  | _ :: _, _, e => by
    simp only [VRels] at e ⊢
    obtain ⟨v, vs, hl, h1, h2⟩ := e
    exact ⟨v, vs, hl, VRel.mono h h1, VRels.mono h h2⟩
end

section
variable {inj : Inj}
theorem VRels.nil : VRels inj [] [] := by simp [VRels]
theorem VRels.cons {c : LV} {cs : List LV} {v : Value} {vs : List Value} (h : VRel inj c v) (h' : VRels inj cs vs) : VRels inj (c :: cs) (v :: vs) := by
  simp only [VRels]; exact ⟨v, vs, rfl, h, h'⟩

theorem VRels.length : ∀ {xs : List LV} {vs : List Value}, VRels inj xs vs → vs.length = xs.length
  | [], _, e => by simp only [VRels] at e; simp [e]
  | _ :: _, _, e => by
    simp only [VRels] at e
    obtain ⟨v, vs, rfl, _, h2⟩ := e
    simp [h2.length]

theorem VRels.get? : ∀ {xs : List LV} {vs : List Value} (_ : VRels inj xs vs) {i : Nat} {x : LV}, xs[i]? = some x → ∃ v, vs[i]? = some v ∧ VRel inj x v
  | [], _, _, i, x, h => by simp at h
  | c :: cs, _, e, i, x, h => by
    simp only [VRels] at e
    obtain ⟨v, vs, rfl, h1, h2⟩ := e
    cases i with
    | zero => simp at h; subst h; exact ⟨v, by simp, h1⟩
    | succ i => simp at h; obtain ⟨u, hu, hr⟩ := h2.get? h; exact ⟨u, by simpa using hu, hr⟩

theorem VRels.getD {xs : List LV} {vs : List Value} (h : VRels inj xs vs) (i : Nat) {d : LV} {d' : Value} (hd : VRel inj d d') : VRel inj (xs.getD i d) (vs.getD i d') := by
  simp only [List.getD_eq_getElem?_getD]
  cases hx : xs[i]? with
  | none =>
    have : vs[i]? = none := by
      rw [List.getElem?_eq_none_iff] at hx ⊢; rw [h.length]; exact hx
    simpa [this] using hd
  | some x => obtain ⟨v, hv, hr⟩ := h.get? hx; simpa [hv] using hr

theorem VRels.append : ∀ {xs : List LV} {vs : List Value} {ys : List LV} {us : List Value}, VRels inj xs vs → VRels inj ys us → VRels inj (xs ++ ys) (vs ++ us)
  | [], _, _, _, e, h => by simp only [VRels] at e; subst e; simpa using h
  | _ :: _, _, _, _, e, h => by
    simp only [VRels] at e
    obtain ⟨v, vs, rfl, h1, h2⟩ := e
    exact VRels.cons h1 (h2.append h)

theorem VRels.take : ∀ {xs : List LV} {vs : List Value} (n : Nat), VRels inj xs vs → VRels inj (xs.take n) (vs.take n)
  | _, _, 0, _ => by simp [VRels.nil]
  | [], _, _ + 1, e => by simp only [VRels] at e; subst e; simp [VRels.nil]
  | _ :: _, _, n + 1, e => by
    simp only [VRels] at e
    obtain ⟨v, vs, rfl, h1, h2⟩ := e
    simpa using VRels.cons h1 (h2.take n)

theorem VRels.drop : ∀ {xs : List LV} {vs : List Value} (n : Nat), VRels inj xs vs → VRels inj (xs.drop n) (vs.drop n)
  | _, _, 0, h => by simpa using h
  | [], _, _ + 1, e => by simp only [VRels] at e; subst e; simp [VRels.nil]
  | _ :: _, _, n + 1, e => by
    simp only [VRels] at e
    obtain ⟨v, vs, rfl, h1, h2⟩ := e
    simpa using h2.drop n

theorem VRels.set : ∀ {xs : List LV} {vs : List Value} (n : Nat) {x : LV} {v : Value}, VRels inj xs vs → VRel inj x v → VRels inj (xs.set n x) (vs.set n v)
  | [], _, _, _, _, e, _ => by simp only [VRels] at e; subst e; simp [VRels.nil]
  | _ :: _, _, 0, _, _, e, h => by
    simp only [VRels] at e
    obtain ⟨v, vs, rfl, h1, h2⟩ := e
    simpa using VRels.cons h h2
  | _ :: _, _, n + 1, _, _, e, h => by
    simp only [VRels] at e
    obtain ⟨v, vs, rfl, h1, h2⟩ := e
    simpa using VRels.cons h1 (h2.set n h)

theorem VRels.replicate {x : LV} {v : Value} (h : VRel inj x v) : ∀ n, VRels inj (List.replicate n x) (List.replicate n v)
  | 0 => by simp [VRels.nil]
  | n + 1 => by simpa [List.replicate_succ] using VRels.cons h (VRels.replicate h n)

theorem VRel.undef : VRel inj lundef undef := by simp [VRel, lundef, Go.undef, VRels]

theorem VRel.cells {x : LV} {v : Value} (h : VRel inj x v) : VRels inj x.cells v.cells.toList := by
  cases x <;> simp only [VRel] at h
  case agg cs => obtain ⟨vs, rfl, h1⟩ := h; simpa [LV.cells, Value.cells] using h1
  case bool | int | str | flt | nilp | nilsl | nilmap | nilfn | nilif =>
    subst h; simp only [LV.cells, Value.cells]; exact VRels.cons (by simp [VRel]) VRels.nil
  case ptr b o => obtain ⟨r, hb, rfl⟩ := h; simp only [LV.cells, Value.cells]; exact VRels.cons (by simp only [VRel]; exact ⟨r, hb, rfl⟩) VRels.nil
  case sl =>
    obtain ⟨r, o', c, sp, rfl, hr⟩ := h
    simp only [LV.cells, Value.cells]; exact VRels.cons (by simp only [VRel]; exact ⟨r, o', c, sp, rfl, hr⟩) VRels.nil
  case map => obtain ⟨r, n, hb, rfl⟩ := h; simp only [LV.cells, Value.cells]; exact VRels.cons (by simp only [VRel]; exact ⟨r, n, hb, rfl⟩) VRels.nil
  case fn => obtain ⟨vs, cs, rfl, hr⟩ := h; simp only [LV.cells, Value.cells]; exact VRels.cons (by simp only [VRel]; exact ⟨vs, cs, rfl, hr⟩) VRels.nil
  case tup => obtain ⟨vs, rfl, hr⟩ := h; simp only [LV.cells, Value.cells]; exact VRels.cons (by simp only [VRel]; exact ⟨vs, rfl, hr⟩) VRels.nil

theorem VRel.oneCell {x : LV} {v : Value} (h : VRel inj x v) (hs : x.scalar = true) : v.oneCell' = true := by
  cases x <;> simp only [VRel] at h <;> simp only [LV.scalar, Bool.false_eq_true] at hs
  case bool | int | str | flt | nilp | nilsl | nilmap | nilfn | nilif => subst h; rfl
  case ptr => obtain ⟨r, _, rfl⟩ := h; rfl
  case sl => obtain ⟨r, o', c, sp, rfl, hr⟩ := h; rfl
  case map => obtain ⟨r, n, hb, rfl⟩ := h; rfl
  case fn => obtain ⟨vs, cs, rfl, hr⟩ := h; rfl

theorem liftS_rel {v : Value} {x : LV} (h : liftS v = some x) : VRel inj x v := by
  unfold liftS at h
  split at h <;> simp only [Option.some.injEq, reduceCtorEq] at h <;> subst h <;> simp [VRel]

theorem mapM_liftS : ∀ {l : List Value} {r : List LV}, l.mapM liftS = some r → VRels inj r l
  | [], r, h => by simp at h; subst h; exact VRels.nil
  | v :: vs, r, h => by
    simp only [List.mapM_cons, Option.pure_def, Option.bind_eq_bind, Option.bind_eq_some_iff, Option.some.injEq] at h
    obtain ⟨x, hx, xs, hxs, rfl⟩ := h
    exact VRels.cons (liftS_rel hx) (mapM_liftS hxs)

theorem lift_rel {v : Value} {x : LV} (h : lift v = some x) : VRel inj x v := by
  unfold lift at h
  split at h
  · rename_i cs
    cases hm : cs.toList.mapM liftS with
    | none => simp [hm] at h
    | some r => simp [hm] at h; subst h; simp only [VRel]; exact ⟨_, rfl, mapM_liftS hm⟩
  · rename_i vs
    split at h
    · simp at h; subst h; rename_i hn; simp only [VRel]; exact ⟨_, rfl, by rw [hn]; exact VRels.nil⟩
    · cases h
  · exact liftS_rel h
end

/-! ### memory -/
namespace Mem
variable {α : Type}
theorem setF_eq (x : α) : ∀ (f : Nat) (m : Mem α) (n : Nat), n < f → (setF x f m n).get n = some x := by
  intro f
  induction f with
  | zero => intro m n h; omega
  | succ f ih =>
    intro m n h
    by_cases h0 : n = 0
    · subst h0; rfl
    · have e0 : Nat.beq n 0 = false := by cases n <;> first | omega | rfl
      by_cases h1 : n % 2 = 1
      · have e1 : Nat.beq (n % 2) 1 = true := by rw [h1]; rfl
        simp only [setF, e0, e1, cond_false, cond_true, get]
        exact ih _ _ (by omega)
      · have e1 : Nat.beq (n % 2) 1 = false := by have : n % 2 = 0 := by omega
                                                  rw [this]; rfl
        simp only [setF, e0, e1, cond_false, get]
        exact ih _ _ (by omega)
theorem setF_ne (x : α) : ∀ (f : Nat) (m : Mem α) (n k : Nat), n ≠ k → (setF x f m n).get k = m.get k := by
  intro f
  induction f with
  | zero => intro m n k _; rfl
  | succ f ih =>
    intro m n k h
    have hleft : ∀ j, m.left.get j = m.get (2 * j + 1) := by
      intro j; cases m with
      | leaf => rfl
      | node l v r =>
        have e0 : Nat.beq (2 * j + 1) 0 = false := rfl
        have e1 : Nat.beq ((2 * j + 1) % 2) 1 = true := by have : (2 * j + 1) % 2 = 1 := by omega
                                                           rw [this]; rfl
        have e2 : (2 * j + 1) / 2 = j := by omega
        simp only [left, get, e0, e1, cond_false, cond_true, e2]
    have hright : ∀ j, m.right.get j = m.get (2 * j + 2) := by
      intro j; cases m with
      | leaf => rfl
      | node l v r =>
        have e0 : Nat.beq (2 * j + 2) 0 = false := rfl
        have e1 : Nat.beq ((2 * j + 2) % 2) 1 = false := by have : (2 * j + 2) % 2 = 0 := by omega
                                                            rw [this]; rfl
        have e2 : (2 * j + 2) / 2 - 1 = j := by omega
        simp only [right, get, e0, e1, cond_false, e2]
    have hval : m.val = m.get 0 := by cases m <;> rfl
    have key : ∀ (l' r' : Mem α) (v' : Option α), (∀ j, k = 2 * j + 1 → l'.get j = m.get k) → (∀ j, k = 2 * j + 2 → r'.get j = m.get k) → (k = 0 → v' = m.get k) →
        (node l' v' r').get k = m.get k := by
      intro l' r' v' hl hr hv
      by_cases k0 : k = 0
      · subst k0; exact hv rfl
      · have e0 : Nat.beq k 0 = false := by cases k <;> first | omega | rfl
        by_cases k1 : k % 2 = 1
        · have e1 : Nat.beq (k % 2) 1 = true := by rw [k1]; rfl
          simp only [get, e0, e1, cond_false, cond_true]; exact hl _ (by omega)
        · have e1 : Nat.beq (k % 2) 1 = false := by have : k % 2 = 0 := by omega
                                                    rw [this]; rfl
          simp only [get, e0, e1, cond_false]; exact hr _ (by omega)
    by_cases h0 : n = 0
    · subst h0
      have e0 : Nat.beq 0 0 = true := rfl
      simp only [setF, e0, cond_true]
      exact key _ _ _ (fun j hj => by rw [hleft, hj]) (fun j hj => by rw [hright, hj]) (fun hk => absurd hk.symm h)
    · have e0 : Nat.beq n 0 = false := by cases n <;> first | omega | rfl
      by_cases h1 : n % 2 = 1
      · have e1 : Nat.beq (n % 2) 1 = true := by rw [h1]; rfl
        simp only [setF, e0, e1, cond_false, cond_true]
        exact key _ _ _ (fun j hj => by rw [ih _ _ _ (by omega), hleft, hj]) (fun j hj => by rw [hright, hj]) (fun hk => by rw [hval, hk])
      · have e1 : Nat.beq (n % 2) 1 = false := by have : n % 2 = 0 := by omega
                                                  rw [this]; rfl
        simp only [setF, e0, e1, cond_false]
        exact key _ _ _ (fun j hj => by rw [hleft, hj]) (fun j hj => by rw [ih _ _ _ (by omega), hright, hj]) (fun hk => by rw [hval, hk])
theorem get_set_eq (m : Mem α) (n : Nat) (x : α) : (m.set n x).get n = some x := setF_eq x _ m n (Nat.lt_succ_self n)
theorem get_set_ne (m : Mem α) {n k : Nat} (x : α) (h : n ≠ k) : (m.set n x).get k = m.get k := setF_ne x _ m n k h
theorem get_set (m : Mem α) (n k : Nat) (x : α) : (m.set n x).get k = if n = k then some x else m.get k := by
  by_cases h : n = k
  · subst h; simp [get_set_eq]
  · simp [h, get_set_ne m x h]
end Mem

end Go.Proofs.Ytpkeggejofeeeaa.Lvm

namespace Go.Proofs.Ytpkeggejofeeeaa.Lvm

/- which types are flat: their cells are truth values, strings and whole numbers, one behind the other -/
def offsOk (P : Program) : Nat → List (Field × List CK) → Bool
  | _, [] => true
  | o, (f, ks) :: r => (f.name != "_") && (Nat.beq f.offset o && (Nat.beq (P.cellsOf f.type) ks.length && offsOk P (o + ks.length) r))

def mapO {α β : Type} (f : α → Option β) : List α → Option (List β)
  | [] => some []
  | x :: xs => match f x with
    | some y => match mapO f xs with
      | some ys => some (y :: ys)
      | none => none
    | none => none

def flatB (P : Program) : Nat → TypeId → Option (List CK)
  | 0, _ => none
  | d + 1, t => match P.underlying t with
    | some .bool => some [.bool]
    | some .string => some [.str]
    | some (.int k) => some [.int k]
    | some (.array n e) => match flatB P d e with
      | some l => cond (Nat.beq (P.cellsOf e) l.length && (P.info? e).isSome) (some ((List.replicate n l).flatten)) none
      | none => none
    | some (.struct fs) => cond (P.stoodInHeld t) none (match mapO (fun f => match flatB P d f.type with
        | some l => cond (P.info? f.type).isSome (some (f, l)) none
        | none => none) fs.toList with
      | some l => cond (offsOk P 0 l) (some (l.map (·.2)).flatten) none
      | none => none)
    | _ => none

structure Env.Ok (E : Env) : Prop where
  und : ∀ t d, E.und t = some d → E.P.underlying t = some d
  size : ∀ t n, E.size t = some n → ∃ i, E.P.info? t = some i ∧ i.size = n
  bytes : ∀ t n, E.bytes t = some n → ∃ i, E.P.info? t = some i ∧ i.bytes = n
  zero : ∀ t z, E.zero t = some z → ∃ i v, E.P.info? t = some i ∧ i.zero = some v ∧ lift v = some z
  flat : ∀ t ks, E.flat t = some ks → flatB E.P 8 t = some ks
  depth : 8 ≤ E.P.depth
  code : ∀ f fn, E.code f = some fn → E.P.funcs[f]? = some fn ∧ fn.name ≠ "runtime.NumGoroutine"
  mixed : E.P.follows .mixedOrders = true
  base : ∀ r o v, E.bm r o = some v → ∀ (i j : Inj) u, VRel i v u → VRel j v u

def ERels (inj : Inj) : List (LV × LV) → List MapEntry → Prop
  | [], l => l = []
  | (k, x) :: es, l => ∃ e r, l = e :: r ∧ VRel inj k e.key ∧ VRel inj x e.val ∧ ERels inj es r

def ORel (E : Env) (inj : Inj) : LObj → Option Obj → Nat → Prop
  | .cells cs, o, n => ∃ c e f, o = some (.cells c e f) ∧ c.size = n ∧ cs.length ≤ n ∧ VRels inj cs (c.toList.take cs.length) ∧ (∀ i, i < n → ¬(f.1 ≤ i ∧ i < f.2))
  | .map kt es, o, _ => ∃ c k, o = some (.map c k) ∧ ERels inj es c.toList ∧ (∀ p ∈ es, keyOk E kt p.1 = some true) ∧ k = es.length ∧ ∀ (i : Nat) (e : MapEntry), c.toList[i]? = some e → e.born = i
  | .iter m len i, o, _ => ∃ r c seen, inj m = some (r, c) ∧ o = some (.mapIter (some r) len seen len) ∧ (match i with | none => seen = #[] | some i => seen.back? = some i)
  | .dead, _, _ => True

theorem ERels.mono {inj inj' : Inj} (h : Ext inj inj') : ∀ {es : List (LV × LV)} {l : List MapEntry}, ERels inj es l → ERels inj' es l
  | [], _, e => by simpa only [ERels] using e
  | (_, _) :: _, _, e => by
    simp only [ERels] at e ⊢
    obtain ⟨a, r, hl, h1, h2, h3⟩ := e
    exact ⟨a, r, hl, h1.mono h, h2.mono h, ERels.mono h h3⟩

theorem ORel.mono {E : Env} {inj inj' : Inj} (h : Ext inj inj') : ∀ {o : LObj} {ob : Option Obj} {n : Nat}, ORel E inj o ob n → ORel E inj' o ob n
  | .cells _, _, _, ⟨c, e, f, h1, h2, h3, h4, h5⟩ => ⟨c, e, f, h1, h2, h3, h4.mono h, h5⟩
  | .map _ _, _, _, ⟨c, k, h1, h2, h3⟩ => ⟨c, k, h1, h2.mono h, h3⟩
  | .iter _ _ _, _, _, ⟨r, c, seen, h1, h2, h3⟩ => ⟨r, c, seen, h _ _ h1, h2, h3⟩
  | .dead, _, _, _ => trivial

structure Emb (E : Env) (B : Nat) (inj : Inj) (st : LSt) (w : World) : Prop where
  dom : ∀ L q, inj L = some q → L < st.nxt ∧ B ≤ q.1 ∧ q.1 < w.heap.size
  obj : ∀ L q o, inj L = some q → st.mem.get L = some o → ORel E inj o w.heap[q.1]? q.2
  new : ∀ L, st.nxt ≤ L → st.mem.get L = none
  base : ∀ r o v, E.bm r o = some v → r < B ∧ ∃ u, w.cell? ⟨r, o, none⟩ = some u ∧ VRel inj v u
  low : B ≤ w.heap.size

section
variable {P : Program} {w : World} {t : TypeId}
theorem r_und {d : TypeDesc} (h : P.underlying t = some d) : (underlying t).run P w = .ok d w := by simp [underlying, h]
theorem r_info {i : TypeInfo} (h : P.info? t = some i) : (typeInfo t).run P w = .ok i w := by simp [typeInfo, h]
theorem r_size {i : TypeInfo} (h : P.info? t = some i) : (sizeOf t).run P w = .ok i.size w := by simp [sizeOf, r_info h]
theorem r_zero {i : TypeInfo} {v : Value} (h : P.info? t = some i) (hz : i.zero = some v) : (zeroValue t).run P w = .ok v w := by simp [zeroValue, r_info h, hz]
theorem r_isAgg {d : TypeDesc} (h : P.underlying t = some d) : (isAgg t).run P w = .ok (isAggD d) w := by
  simp only [isAgg, Sem.run_bind, r_und h, Result.andThen_ok]
  cases d <;> rfl
end

theorem add_none (b o i : Nat) : (⟨b, o, none⟩ : Addr).add i = ⟨b, o + i, none⟩ := by
  unfold Addr.add; split <;> simp_all

theorem cell_of {w : World} {b o : Nat} {c : Array Value} {e : TypeId} {f : Nat × Nat} (h : w.heap[b]? = some (.cells c e f)) : w.cell? ⟨b, o, none⟩ = c[o]? := by
  simp [World.cell?, h]

theorem run_loadCells {P : Program} {w : World} {b o : Nat} : ∀ (vs : List Value) (i : Nat) (acc : Array Value),
    (∀ j v, vs[j]? = some v → w.cell? ⟨b, o + i + j, none⟩ = some v) → (loadCellsFrom ⟨b, o, none⟩ i vs.length acc).run P w = .ok (acc ++ vs.toArray) w
  | [], i, acc, _ => by simp [loadCellsFrom]
  | v :: vs, i, acc, h => by
    have h0 := h 0 v rfl
    have ih := run_loadCells (P := P) (w := w) (b := b) (o := o) vs (i + 1) (acc.push v) (fun j u hj => by
      have := h (j + 1) u (by simpa using hj)
      rw [← this]; congr 2; omega)
    simp only [List.length_cons, loadCellsFrom, Sem.run_bind, add_none, run_load]
    rw [show w.cell? ⟨b, o + i, none⟩ = some v from h0]
    simp only [Result.andThen_ok]
    rw [ih]
    simp

section
variable {E : Env} {B : Nat} {inj : Inj} {st : LSt} {w : World}

theorem baseN_sound (hm : Emb E B inj st w) : ∀ (n o : Nat) (r : Nat) (cs : List LV), baseN E.bm r o n = some cs →
    ∃ vs : List Value, vs.length = n ∧ VRels inj cs vs ∧ ∀ j v, vs[j]? = some v → w.cell? ⟨r, o + j, none⟩ = some v
  | 0, o, r, cs, h => by simp [baseN] at h; subst h; exact ⟨[], rfl, VRels.nil, by simp⟩
  | n + 1, o, r, cs, h => by
    simp only [baseN] at h
    split at h
    · rename_i v hv
      split at h
      · rename_i xs hx
        simp at h; subst h
        obtain ⟨_, u, hu, hr⟩ := hm.base _ _ _ hv
        obtain ⟨us, h1, h2, h3⟩ := baseN_sound hm n (o + 1) r xs hx
        refine ⟨u :: us, by simp [h1], VRels.cons hr h2, fun j x hj => ?_⟩
        cases j with
        | zero => simp at hj; subst hj; simpa using hu
        | succ j => simp at hj; rw [← h3 j x hj]; congr 2; omega
      · cases h
    · cases h

theorem takeN_eq {cs : List LV} {o n : Nat} {r : List LV} (h : takeN cs o n = some r) : r = (cs.drop o).take n ∧ r.length = n ∧ o + n ≤ cs.length ∨ (r = [] ∧ n = 0) := by
  unfold takeN at h
  simp only at h
  cases hb : Nat.beq ((cs.drop o).take n).length n with
  | false => rw [hb] at h; simp at h
  | true =>
    rw [hb] at h
    simp only [cond_true, Option.some.injEq] at h
    have := Nat.eq_of_beq_eq_true hb
    subst h
    by_cases hn : n = 0
    · right; subst hn; simp
    · left
      refine ⟨rfl, this, ?_⟩
      simp at this; omega

theorem loadN_sound (hm : Emb E B inj st w) {b : Blk} {o n : Nat} {cs : List LV} {r : Nat} (h : loadN E st b o n = some cs) (hb : BRel inj b r) :
    ∃ vs : List Value, vs.length = n ∧ VRels inj cs vs ∧ ∀ j v, vs[j]? = some v → w.cell? ⟨r, o + j, none⟩ = some v := by
  cases b with
  | base b => simp only [BRel] at hb; subst hb; exact baseN_sound hm n o r cs h
  | own L =>
    simp only [loadN] at h
    obtain ⟨m, hq⟩ := hb
    split at h
    · rename_i row hrow
      obtain ⟨c, e, f, h1, h2, h3, h4, h5⟩ := hm.obj _ _ _ hq hrow
      rcases takeN_eq h with ⟨rfl, hl, hle⟩ | ⟨rfl, rfl⟩
      · refine ⟨((c.toList.take row.length).drop o).take n, ?_, (h4.drop o).take n, fun j v hj => ?_⟩
        · simp only [List.length_take, List.length_drop, Array.length_toList]; omega
        · rw [cell_of h1]
          rw [List.getElem?_take] at hj
          split at hj
          · rw [List.getElem?_drop, List.getElem?_take] at hj
            split at hj
            · simpa using hj
            · cases hj
          · cases hj
      · exact ⟨[], rfl, VRels.nil, by simp⟩
    · cases h

theorem load1_sound (hm : Emb E B inj st w) {b : Blk} {o : Nat} {x : LV} {r : Nat} (h : load1 E st b o = some x) (hb : BRel inj b r) :
    ∃ v, w.cell? ⟨r, o, none⟩ = some v ∧ VRel inj x v := by
  cases b with
  | base b => simp only [BRel] at hb; subst hb; exact (hm.base _ _ _ h).2
  | own L =>
    simp only [load1] at h
    obtain ⟨m, hq⟩ := hb
    split at h
    · rename_i row hrow
      obtain ⟨c, e, f, h1, h2, h3, h4, h5⟩ := hm.obj _ _ _ hq hrow
      obtain ⟨v, hv, hr⟩ := h4.get? h
      refine ⟨v, ?_, hr⟩
      rw [cell_of h1]
      rw [List.getElem?_take] at hv
      split at hv
      · simpa using hv
      · cases hv
    · cases h

theorem loadV_sound (hE : E.Ok) (hm : Emb E B inj st w) {t : TypeId} {b : Blk} {o : Nat} {x : LV} {r : Nat} (h : loadV E st t b o = some x) (hb : BRel inj b r) :
    ∃ v, (loadVar t ⟨r, o, none⟩).run E.P w = .ok v w ∧ VRel inj x v := by
  unfold loadV at h
  split at h
  · rename_i d hd
    have hu := hE.und _ _ hd
    cases ha : isAggD d with
    | true =>
      rw [ha] at h
      simp only [cond_true] at h
      split at h
      · rename_i n hn
        obtain ⟨i, hi, hsz⟩ := hE.size _ _ hn
        cases hl : loadN E st b o n with
        | none => simp [hl] at h
        | some cs =>
          simp [hl] at h; subst h
          obtain ⟨vs, h1, h2, h3⟩ := loadN_sound hm hl hb
          refine ⟨.agg vs.toArray, ?_, by simp only [VRel]; exact ⟨_, rfl, by simpa using h2⟩⟩
          simp only [loadVar, Sem.run_bind, r_isAgg hu, ha, Result.andThen_ok, if_true, r_size hi, loadCells, hsz]
          rw [← h1, run_loadCells vs 0 #[] (fun j v hj => by simpa using h3 j v hj)]
          simp
      · cases h
    | false =>
      rw [ha] at h
      simp only [cond_false] at h
      obtain ⟨v, hv, hr⟩ := load1_sound hm h hb
      refine ⟨v, ?_, hr⟩
      simp [loadVar, r_isAgg hu, ha, hv]
  · cases h
end
end Go.Proofs.Ytpkeggejofeeeaa.Lvm

namespace Go.Proofs.Ytpkeggejofeeeaa.Lvm

def fv : LV → Value
  | .bool b => .bool b
  | .str s => .string s
  | .int k n => .int k n
  | _ => undef

theorem fit_vals {inj : Inj} : ∀ {ks : List CK} {cs : List LV} {vs : List Value}, ckFit ks cs = true → VRels inj cs vs → vs = cs.map fv
  | [], [], _, _, h => by simp only [VRels] at h; subst h; rfl
  | .bool :: ks, .bool b :: cs, _, hf, h => by
    simp only [VRels, VRel] at h; obtain ⟨v, vs, rfl, rfl, h2⟩ := h
    simp only [ckFit] at hf; simp [fv, fit_vals hf h2]
  | .str :: ks, .str b :: cs, _, hf, h => by
    simp only [VRels, VRel] at h; obtain ⟨v, vs, rfl, rfl, h2⟩ := h
    simp only [ckFit] at hf; simp [fv, fit_vals hf h2]
  | .int k :: ks, .int k' n :: cs, _, hf, h => by
    simp only [VRels, VRel] at h; obtain ⟨v, vs, rfl, rfl, h2⟩ := h
    simp only [ckFit, Bool.and_eq_true] at hf; simp [fv, fit_vals hf.2 h2]
  | [], _ :: _, _, hf, _ => by simp [ckFit] at hf
  | k :: _, [], _, hf, _ => by cases k <;> simp [ckFit] at hf
  | .bool :: _, .int .. :: _, _, hf, _ | .bool :: _, .str _ :: _, _, hf, _ | .bool :: _, .flt .. :: _, _, hf, _ | .bool :: _, .nilp :: _, _, hf, _ | .bool :: _, .ptr .. :: _, _, hf, _
  | .bool :: _, .nilsl :: _, _, hf, _ | .bool :: _, .sl .. :: _, _, hf, _ | .bool :: _, .nilmap :: _, _, hf, _ | .bool :: _, .map _ :: _, _, hf, _ | .bool :: _, .fn .. :: _, _, hf, _
  | .bool :: _, .nilfn :: _, _, hf, _ | .bool :: _, .nilif :: _, _, hf, _ | .bool :: _, .agg _ :: _, _, hf, _ | .bool :: _, .tup _ :: _, _, hf, _ => by simp [ckFit] at hf
  | .str :: _, .int .. :: _, _, hf, _ | .str :: _, .bool _ :: _, _, hf, _ | .str :: _, .flt .. :: _, _, hf, _ | .str :: _, .nilp :: _, _, hf, _ | .str :: _, .ptr .. :: _, _, hf, _
  | .str :: _, .nilsl :: _, _, hf, _ | .str :: _, .sl .. :: _, _, hf, _ | .str :: _, .nilmap :: _, _, hf, _ | .str :: _, .map _ :: _, _, hf, _ | .str :: _, .fn .. :: _, _, hf, _
  | .str :: _, .nilfn :: _, _, hf, _ | .str :: _, .nilif :: _, _, hf, _ | .str :: _, .agg _ :: _, _, hf, _ | .str :: _, .tup _ :: _, _, hf, _ => by simp [ckFit] at hf
  | .int _ :: _, .bool .. :: _, _, hf, _ | .int _ :: _, .str _ :: _, _, hf, _ | .int _ :: _, .flt .. :: _, _, hf, _ | .int _ :: _, .nilp :: _, _, hf, _ | .int _ :: _, .ptr .. :: _, _, hf, _
  | .int _ :: _, .nilsl :: _, _, hf, _ | .int _ :: _, .sl .. :: _, _, hf, _ | .int _ :: _, .nilmap :: _, _, hf, _ | .int _ :: _, .map _ :: _, _, hf, _ | .int _ :: _, .fn .. :: _, _, hf, _
  | .int _ :: _, .nilfn :: _, _, hf, _ | .int _ :: _, .nilif :: _, _, hf, _ | .int _ :: _, .agg _ :: _, _, hf, _ | .int _ :: _, .tup _ :: _, _, hf, _ => by simp [ckFit] at hf

/-- One cell of a kind. -/
inductive Fit1 : CK → LV → Prop where
  | bool (b : Bool) : Fit1 .bool (.bool b)
  | str (s : ByteArray) : Fit1 .str (.str s)
  | int (k : IntKind) (n : Int) : Fit1 (.int k) (.int k n)

theorem ckFit_cons {k : CK} {ks : List CK} {cs : List LV} (h : ckFit (k :: ks) cs = true) : ∃ c r, cs = c :: r ∧ Fit1 k c ∧ ckFit ks r = true := by
  cases cs with
  | nil => cases k <;> simp [ckFit] at h
  | cons c r =>
    refine ⟨c, r, rfl, ?_⟩
    cases k <;> cases c <;> simp only [ckFit, Bool.false_eq_true, Bool.and_eq_true, beq_iff_eq] at h
    · exact ⟨.bool _, h⟩
    · exact ⟨.str _, h⟩
    · obtain ⟨rfl, h⟩ := h; exact ⟨.int _ _, h⟩

theorem ckFit_length : ∀ {ks : List CK} {cs : List LV}, ckFit ks cs = true → cs.length = ks.length
  | [], [], _ => rfl
  | [], _ :: _, h => by simp [ckFit] at h
  | k :: ks, cs, h => by
    obtain ⟨c, r, rfl, _, h2⟩ := ckFit_cons h
    simp [ckFit_length h2]

theorem ckFit_split : ∀ {a b : List CK} {cs : List LV}, ckFit (a ++ b) cs = true → ckFit a (cs.take a.length) = true ∧ ckFit b (cs.drop a.length) = true
  | [], b, cs, h => by simpa [ckFit] using h
  | k :: a, b, cs, h => by
    obtain ⟨c, r, rfl, h1, h2⟩ := ckFit_cons (by simpa using h)
    obtain ⟨h3, h4⟩ := ckFit_split h2
    refine ⟨?_, by simpa using h4⟩
    cases h1 <;> simp [ckFit, h3]

theorem cellsEq_cons (k : CK) (c d : LV) (cs ds : List LV) (h : Fit1 k c) (h' : Fit1 k d) : cellsEq (c :: cs) (d :: ds) = (cellsEq [c] [d] && cellsEq cs ds) := by
  cases h <;> cases h' <;> simp [cellsEq]

theorem cellsEq_split : ∀ {a : List CK} {xs ys : List LV}, ckFit a (xs.take a.length) = true → ckFit a (ys.take a.length) = true →
    cellsEq xs ys = (cellsEq (xs.take a.length) (ys.take a.length) && cellsEq (xs.drop a.length) (ys.drop a.length))
  | [], xs, ys, _, _ => by simp [cellsEq]
  | k :: a, xs, ys, h, h' => by
    cases xs with
    | nil => simp at h; cases k <;> simp [ckFit] at h
    | cons x xs =>
      cases ys with
      | nil => simp at h'; cases k <;> simp [ckFit] at h'
      | cons y ys =>
        simp only [List.length_cons, List.take_succ_cons] at h h'
        obtain ⟨_, _, e1, f1, g1⟩ := ckFit_cons h
        obtain ⟨_, _, e2, f2, g2⟩ := ckFit_cons h'
        simp only [List.cons.injEq] at e1 e2
        obtain ⟨rfl, rfl⟩ := e1
        obtain ⟨rfl, rfl⟩ := e2
        simp only [List.length_cons, List.take_succ_cons, List.drop_succ_cons]
        rw [cellsEq_cons k _ _ _ _ f1 f2, cellsEq_cons k _ _ (xs.take a.length) _ f1 f2, cellsEq_split g1 g2, Bool.and_assoc]

def flatV (P : Program) (t : TypeId) (cs : List LV) : Value :=
  match P.underlying t with
  | some d => cond (isAggD d) (.agg (cs.map fv).toArray) ((cs.map fv).getD 0 undef)
  | none => undef

theorem run_part {P : Program} {w : World} {t : TypeId} {d : TypeDesc} {i : TypeInfo} (hu : P.underlying t = some d) (hi : P.info? t = some i) (xs : List LV) (o : Nat)
    (hl : isAggD d = false → o < xs.length ∧ i.size = 1) : (part t (xs.map fv).toArray o).run P w = .ok (flatV P t ((xs.drop o).take i.size)) w := by
  simp only [part, Sem.run_bind, r_isAgg hu, Result.andThen_ok, flatV, hu]
  cases ha : isAggD d with
  | true => simp [r_size hi, List.extract_eq_take_drop, List.map_take, List.map_drop]
  | false =>
    obtain ⟨h1, h2⟩ := hl ha
    simp [h1, h2]

theorem flat_agg {P : Program} {d : Nat} {t : TypeId} {ks : List CK} (h : flatB P d t = some ks) : ∃ D, P.underlying t = some D ∧ (isAggD D = false → ks.length = 1) := by
  cases d with
  | zero => simp [flatB] at h
  | succ d =>
    simp only [flatB] at h
    split at h
    · rename_i hu; simp at h; subst h; exact ⟨_, hu, fun _ => rfl⟩
    · rename_i hu; simp at h; subst h; exact ⟨_, hu, fun _ => rfl⟩
    · rename_i hu; simp at h; subst h; exact ⟨_, hu, fun _ => rfl⟩
    · rename_i hu; exact ⟨_, hu, fun h => by simp [isAggD] at h⟩
    · rename_i hu; exact ⟨_, hu, fun h => by simp [isAggD] at h⟩
    · cases h

theorem cellsOf_size {P : Program} {t : TypeId} {i : TypeInfo} (h : P.info? t = some i) : P.cellsOf t = i.size := by simp [Program.cellsOf, h]

theorem part_flat {P : Program} {w : World} {d : Nat} {t : TypeId} {ks : List CK} {i : TypeInfo} (h : flatB P d t = some ks) (hi : P.info? t = some i) (hs : i.size = ks.length)
    (xs : List LV) (o : Nat) (hf : ckFit ks ((xs.drop o).take ks.length) = true) :
    (part t (xs.map fv).toArray o).run P w = .ok (flatV P t ((xs.drop o).take ks.length)) w := by
  obtain ⟨D, hu, hl⟩ := flat_agg h
  rw [← hs]
  refine run_part hu hi xs o (fun ha => ?_)
  have h1 := hl ha
  have h2 := ckFit_length hf
  rw [h1] at h2
  simp at h2
  exact ⟨by omega, by rw [hs, h1]⟩

theorem mapO_nil {α β : Type} {f : α → Option β} {ys : List β} (h : mapO f [] = some ys) : ys = [] := by simpa [mapO] using h.symm
theorem mapO_cons {α β : Type} {f : α → Option β} {x : α} {xs : List α} {r : List β} (h : mapO f (x :: xs) = some r) : ∃ y ys, r = y :: ys ∧ f x = some y ∧ mapO f xs = some ys := by
  simp only [mapO] at h
  split at h
  · rename_i y hy
    split at h
    · rename_i ys hys; simp at h; exact ⟨y, ys, h.symm, hy, hys⟩
    · cases h
  · cases h

theorem run_eqFields {P : Program} {w : World} {d D : Nat}
    (ih : ∀ (t : TypeId) (ks : List CK) (xs ys : List LV), flatB P d t = some ks → ckFit ks xs = true → ckFit ks ys = true →
      (Op.equalIn D t (flatV P t xs) (flatV P t ys)).run P w = .ok (cellsEq xs ys) w) (xs ys : List LV) :
    ∀ (fs : List Field) (l : List (Field × List CK)) (o : Nat), mapO (fun f => match flatB P d f.type with
        | some l => cond (P.info? f.type).isSome (some (f, l)) none
        | none => none) fs = some l → offsOk P o l = true → ckFit (l.map (·.2)).flatten (xs.drop o) = true → ckFit (l.map (·.2)).flatten (ys.drop o) = true →
      (Op.eqFields D (xs.map fv).toArray (ys.map fv).toArray fs).run P w = .ok (cellsEq (xs.drop o) (ys.drop o)) w
  | [], l, o, hm, _, hx, hy => by
    have := mapO_nil hm; subst this
    simp only [List.map_nil, List.flatten_nil] at hx hy
    have h1 := List.eq_nil_of_length_eq_zero (ckFit_length hx)
    have h2 := List.eq_nil_of_length_eq_zero (ckFit_length hy)
    simp [Op.eqFields, h1, h2, cellsEq]
  | f :: fs, l, o, hm, ho, hx, hy => by
    obtain ⟨p, ps, rfl, hp, hps⟩ := mapO_cons hm
    split at hp
    · rename_i ks hks
      cases hi : P.info? f.type with
      | none => rw [hi] at hp; simp at hp
      | some i =>
        rw [hi] at hp
        simp at hp
        subst hp
        simp only [offsOk, Bool.and_eq_true, bne_iff_ne, ne_eq] at ho
        obtain ⟨hn, hoff, hsz, hrest⟩ := ho
        have hoff := Nat.eq_of_beq_eq_true hoff
        have hsz := Nat.eq_of_beq_eq_true hsz
        rw [cellsOf_size hi] at hsz
        simp only [List.map_cons, List.flatten_cons] at hx hy
        obtain ⟨x1, x2⟩ := ckFit_split hx
        obtain ⟨y1, y2⟩ := ckFit_split hy
        simp only [Op.eqFields]
        rw [if_pos hn]
        simp only [Sem.run_bind, hoff]
        rw [part_flat hks hi hsz xs o x1, Result.andThen_ok, part_flat hks hi hsz ys o y1, Result.andThen_ok, ih _ _ _ _ hks x1 y1, Result.andThen_ok]
        rw [cellsEq_split x1 y1]
        cases hc : cellsEq ((xs.drop o).take ks.length) ((ys.drop o).take ks.length) with
        | false => simp
        | true =>
          simp only [Bool.not_true, Bool.false_eq_true, if_false, Bool.true_and]
          rw [List.drop_drop, List.drop_drop]
          rw [List.drop_drop] at x2 y2
          exact run_eqFields ih xs ys fs ps (o + ks.length) hps hrest x2 y2
    · cases hp
end Go.Proofs.Ytpkeggejofeeeaa.Lvm

namespace Go.Proofs.Ytpkeggejofeeeaa.Lvm

theorem length_rep {α : Type} (n : Nat) (l : List α) : (List.replicate n l).flatten.length = n * l.length := by
  induction n with
  | zero => simp
  | succ n ih => simp [List.replicate_succ, ih, Nat.succ_mul]; omega

theorem run_eqArr {P : Program} {w : World} {d D : Nat} {e : TypeId} {ks : List CK} {i : TypeInfo}
    (ih : ∀ (xs ys : List LV), ckFit ks xs = true → ckFit ks ys = true → (Op.equalIn D e (flatV P e xs) (flatV P e ys)).run P w = .ok (cellsEq xs ys) w)
    (hk : flatB P d e = some ks) (hi : P.info? e = some i) (hs : i.size = ks.length) (xs ys : List LV) (n : Nat)
    (hx : ckFit (List.replicate n ks).flatten xs = true) (hy : ckFit (List.replicate n ks).flatten ys = true) :
    ∀ (m s : Nat), s + m = n →
      (ForIn.forIn (List.range' s m) ((none, ()) : Option Bool × Unit) (fun j (_ : Option Bool × Unit) => (do
        let a ← part e (xs.map fv).toArray (j * i.size)
        let b ← part e (ys.map fv).toArray (j * i.size)
        let r ← Op.equalIn D e a b
        if (!r) = true then pure (ForInStep.done (some false, ())) else pure (ForInStep.yield (none, ())) : Sem _))).run P w
        = .ok (if cellsEq (xs.drop (s * ks.length)) (ys.drop (s * ks.length)) then (none, ()) else (some false, ())) w
  | 0, s, h => by
    have h1 := ckFit_length hx
    have h2 := ckFit_length hy
    rw [length_rep] at h1 h2
    simp only [Nat.add_zero] at h
    subst h
    have e1 : xs.drop (s * ks.length) = [] := List.drop_eq_nil_of_le (by omega)
    have e2 : ys.drop (s * ks.length) = [] := List.drop_eq_nil_of_le (by omega)
    simp [e1, e2, cellsEq]
  | m + 1, s, h => by
    have hsplit : (List.replicate n ks).flatten = (List.replicate s ks).flatten ++ (ks ++ (List.replicate m ks).flatten) := by
      subst h
      rw [show s + (m + 1) = s + 1 + m by omega, ← List.replicate_append_replicate, List.flatten_append, ← List.replicate_append_replicate, List.flatten_append, List.append_assoc]
      simp
    have hlen : (List.replicate s ks).flatten.length = s * ks.length := length_rep s ks
    have gx := (ckFit_split (hsplit ▸ hx)).2
    have gy := (ckFit_split (hsplit ▸ hy)).2
    rw [hlen] at gx gy
    obtain ⟨x1, _⟩ := ckFit_split gx
    obtain ⟨y1, _⟩ := ckFit_split gy
    simp only [List.range'_succ, List.forIn_cons, Sem.run_bind]
    rw [hs, part_flat hk hi hs xs _ x1, Result.andThen_ok, part_flat hk hi hs ys _ y1, Result.andThen_ok, ih _ _ x1 y1, Result.andThen_ok]
    rw [cellsEq_split x1 y1]
    cases hc : cellsEq ((xs.drop (s * ks.length)).take ks.length) ((ys.drop (s * ks.length)).take ks.length) with
    | false => simp
    | true =>
      simp only [Bool.not_true, Bool.false_eq_true, if_false, Bool.true_and, Sem.run_pure, Result.andThen_ok]
      rw [List.drop_drop, List.drop_drop, ← Nat.succ_mul]
      have := run_eqArr ih hk hi hs xs ys n hx hy m (s + 1) (by omega)
      rw [hs] at this
      exact this

theorem stood_of {P : Program} {d : Nat} {t : TypeId} {ks : List CK} {fs : Array Field} (h : flatB P (d + 1) t = some ks) (hu : P.underlying t = some (.struct fs)) : P.stoodInHeld t = false := by
  simp only [flatB, hu] at h
  cases hs : P.stoodInHeld t with
  | true => rw [hs] at h; simp at h
  | false => rfl

theorem run_equalIn_flat {P : Program} {w : World} : ∀ (d D : Nat), d ≤ D → ∀ (t : TypeId) (ks : List CK) (xs ys : List LV), flatB P d t = some ks → ckFit ks xs = true → ckFit ks ys = true →
    (Op.equalIn D t (flatV P t xs) (flatV P t ys)).run P w = .ok (cellsEq xs ys) w
  | 0, _, _, _, _, _, _, h, _, _ => by simp [flatB] at h
  | d + 1, 0, hd, _, _, _, _, _, _, _ => by omega
  | d + 1, D + 1, hd, t, ks, xs, ys, h, hx, hy => by
    have h' := h
    simp only [flatB] at h
    split at h
    · rename_i hu; simp at h; subst h
      obtain ⟨_, _, rfl, h1, h2⟩ := ckFit_cons hx
      obtain ⟨_, _, rfl, h3, h4⟩ := ckFit_cons hy
      have e1 := List.eq_nil_of_length_eq_zero (ckFit_length h2)
      have e2 := List.eq_nil_of_length_eq_zero (ckFit_length h4)
      subst e1; subst e2
      cases h1; cases h3
      simp [flatV, hu, isAggD, fv, Op.equalIn, r_und hu, cellsEq]
    · rename_i hu; simp at h; subst h
      obtain ⟨_, _, rfl, h1, h2⟩ := ckFit_cons hx
      obtain ⟨_, _, rfl, h3, h4⟩ := ckFit_cons hy
      have e1 := List.eq_nil_of_length_eq_zero (ckFit_length h2)
      have e2 := List.eq_nil_of_length_eq_zero (ckFit_length h4)
      subst e1; subst e2
      cases h1; cases h3
      simp [flatV, hu, isAggD, fv, Op.equalIn, r_und hu, cellsEq]
    · rename_i k hu; simp at h; subst h
      obtain ⟨_, _, rfl, h1, h2⟩ := ckFit_cons hx
      obtain ⟨_, _, rfl, h3, h4⟩ := ckFit_cons hy
      have e1 := List.eq_nil_of_length_eq_zero (ckFit_length h2)
      have e2 := List.eq_nil_of_length_eq_zero (ckFit_length h4)
      subst e1; subst e2
      cases h1; cases h3
      simp [flatV, hu, isAggD, fv, Op.equalIn, r_und hu, cellsEq]
    · rename_i n e hu
      split at h
      · rename_i l hl
        cases hi : P.info? e with
        | none => rw [hi] at h; simp at h
        | some i =>
          rw [hi] at h
          cases hb : Nat.beq (P.cellsOf e) l.length with
          | false => rw [hb] at h; simp at h
          | true =>
            rw [hb] at h; simp at h; subst h
            have hs := Nat.eq_of_beq_eq_true hb
            rw [cellsOf_size hi] at hs
            have key := run_eqArr (w := w) (D := D) (fun xs ys a b => run_equalIn_flat d D (by omega) e l xs ys hl a b) hl hi hs xs ys n hx hy n 0 (by omega)
            simp only [flatV, hu, isAggD, cond_true, Op.equalIn, Sem.run_bind, r_und hu, Result.andThen_ok, r_size hi]
            simp only [Std.Legacy.Range.forIn_eq_forIn_range', Std.Legacy.Range.size, Nat.sub_zero, Nat.add_sub_cancel, Nat.div_one]
            simp only [Nat.zero_mul, List.drop_zero] at key
            rw [key]
            cases cellsEq xs ys <;> simp
      · cases h
    · rename_i fs hu
      have hst := stood_of h' hu
      rw [hst] at h
      simp only [cond_false] at h
      split at h
      · rename_i l hl
        cases ho : offsOk P 0 l with
        | false => rw [ho] at h; simp at h
        | true =>
          rw [ho] at h; simp at h; subst h
          have hfo : P.fieldsOf t = fs := by simp [Program.fieldsOf, hu]
          have := run_eqFields (w := w) (D := D) (fun t ks xs ys a b c => run_equalIn_flat d D (by omega) t ks xs ys a b c) xs ys fs.toList l 0 hl ho (by simpa using hx) (by simpa using hy)
          simp only [flatV, hu, isAggD, cond_true]
          rw [run_equalIn_struct w D t _ _ (by rw [hfo]; exact hu) hst, hfo]
          simpa using this
      · cases h
    · cases h

theorem eqGuard_flat {P : Program} : ∀ (d D : Nat), d ≤ D → ∀ (t : TypeId) (ks : List CK), flatB P d t = some ks → P.eqGuardType D t = false
  | 0, _, _, _, _, h => by simp [flatB] at h
  | d + 1, 0, hd, _, _, _ => by omega
  | d + 1, D + 1, hd, t, ks, h => by
    have h' := h
    simp only [flatB] at h
    split at h
    · rename_i hu; simp [Program.eqGuardType, hu]
    · rename_i hu; simp [Program.eqGuardType, hu]
    · rename_i hu; simp [Program.eqGuardType, hu]
    · rename_i n e hu
      split at h
      · rename_i l hl
        simp only [Program.eqGuardType, hu]
        exact eqGuard_flat d D (by omega) e l hl
      · cases h
    · rename_i fs hu
      rw [stood_of h' hu] at h
      simp only [cond_false] at h
      split at h
      · rename_i l hl
        simp only [Program.eqGuardType, hu]
        rw [← Array.any_toList]
        clear h h' hu
        have : ∀ (fs : List Field) l, mapO (fun f => match flatB P d f.type with
          | some l => cond (P.info? f.type).isSome (some (f, l)) none
          | none => none) fs = some l → (fs.any fun f => f.name != "_" && P.eqGuardType D f.type) = false := by
          intro fs
          induction fs with
          | nil => intro l _; rfl
          | cons f fs ihf =>
            intro l hl
            obtain ⟨p, ps, rfl, hp, hps⟩ := mapO_cons hl
            simp only [List.any_cons, ihf _ hps, Bool.or_false]
            split at hp
            · rename_i k hk; rw [eqGuard_flat d D (by omega) _ _ hk]; simp
            · cases hp
        exact this _ _ hl
      · cases h
    · cases h
end Go.Proofs.Ytpkeggejofeeeaa.Lvm

namespace Go.Proofs.Ytpkeggejofeeeaa.Lvm

/-- The run gives a value that stands to v, and leaves the world. -/
def ValOut (E : Env) (inj : Inj) (v : LV) (w : World) (s : Sem Value) : Prop := ∃ u, s.run E.P w = .ok u w ∧ VRel inj v u

section
variable {E : Env} {inj : Inj} {w : World}

theorem toList_beq (a b : ByteArray) : (a == b) = (a.toList == b.toList) := beq_toListBytes a b

theorem intOp_sound {op : BinOp} {k : IntKind} {a b : Int} {z : LV} (hs : isShift op = false) (h : intOp op k a b = some z) (t : TypeId) :
    ValOut E inj z w (binOp op t (.int k a) (.int k b)) := by
  cases op <;> simp only [isShift, Bool.true_eq_false] at hs <;> simp only [intOp] at h
  case quo =>
    split at h
    · cases h
    · rename_i hb; simp at h; subst h; exact ⟨_, by simp [binOp, Op.intDiv, hb]; rfl, by simp [VRel]⟩
  case rem =>
    split at h
    · cases h
    · rename_i hb; simp at h; subst h; exact ⟨_, by simp [binOp, Op.intDiv, hb]; rfl, by simp [VRel]⟩
  all_goals
    simp only [Option.some.injEq] at h; subst h
    first
      | exact ⟨_, by simp [binOp, Op.intArith]; rfl, by simp [VRel]⟩
      | exact ⟨_, by simp [binOp, Op.intBits]; rfl, by simp [VRel]⟩
      | exact ⟨_, by simp [binOp, Op.intCmp]; rfl, by simp [VRel]⟩

theorem shiftOp_sound {op : BinOp} {k k' : IntKind} {a b : Int} {z : LV} (h : shiftOp op k a b = some z) (t : TypeId) :
    ValOut E inj z w (binOp op t (.int k a) (.int k' b)) := by
  unfold shiftOp at h
  split at h
  · cases h
  · rename_i hb
    cases op <;> simp only [Option.some.injEq, reduceCtorEq] at h
    · subst h; exact ⟨_, by simp [binOp, Op.shift, hb]; rfl, by simp [VRel]⟩
    · subst h; exact ⟨_, by simp [binOp, Op.shift, hb]; rfl, by simp [VRel]⟩

theorem strOp_sound {op : BinOp} {x y : ByteArray} {z : LV} (h : strOp op x y = some z) (t : TypeId) : ValOut E inj z w (binOp op t (.string x) (.string y)) := by
  cases op <;> simp only [strOp, Option.some.injEq, reduceCtorEq] at h
  case add =>
    split at h
    · rename_i hle
      simp at h; subst h
      have hb : ¬ (((x.size + y.size : Nat) : Int) > IntKind.i64.max) := by
        have : IntKind.i64.max = 9223372036854775807 := by decide
        rw [this]; omega
      exact ⟨_, by simp only [binOp, Op.stringOp]; rw [if_neg hb]; rfl, by simp [VRel]⟩
    · cases h
  all_goals subst h; exact ⟨_, by simp [binOp, Op.stringOp]; rfl, by simp [VRel]⟩

theorem blt_lt {a b : Nat} (h : Nat.blt a b = true) : a < b := by rw [Nat.blt_eq] at h; exact h

section
variable {P : Program} {t e : TypeId} (d : Nat)
theorem eq_np (h : P.underlying t = some (.pointer e)) : (Op.equalIn (d + 1) t (.pointer none) (.pointer none)).run P w = .ok true w := by simp [Op.equalIn, r_und h]
theorem eq_np1 (h : P.underlying t = some (.pointer e)) (a : Addr) : (Op.equalIn (d + 1) t (.pointer none) (.pointer (some a))).run P w = .ok false w := by simp [Op.equalIn, r_und h]
theorem eq_np2 (h : P.underlying t = some (.pointer e)) (a : Addr) : (Op.equalIn (d + 1) t (.pointer (some a)) (.pointer none)).run P w = .ok false w := by simp [Op.equalIn, r_und h]
theorem eq_ns (h : P.underlying t = some (.slice e)) : (Op.equalIn (d + 1) t (.slice none 0 0) (.slice none 0 0)).run P w = .ok true w := by simp [Op.equalIn, r_und h]
theorem eq_ns1 (h : P.underlying t = some (.slice e)) (a : Addr) (n c : Nat) : (Op.equalIn (d + 1) t (.slice none 0 0) (.slice (some a) n c)).run P w = .ok false w := by simp [Op.equalIn, r_und h]
theorem eq_ns2 (h : P.underlying t = some (.slice e)) (a : Addr) (n c : Nat) : (Op.equalIn (d + 1) t (.slice (some a) n c) (.slice none 0 0)).run P w = .ok false w := by simp [Op.equalIn, r_und h]
theorem eq_bb (h : P.underlying t = some .bool) (a b : Bool) : (Op.equalIn (d + 1) t (.bool a) (.bool b)).run P w = .ok (a == b) w := by simp [Op.equalIn, r_und h]
end

theorem flatV_agg {P : Program} {t : TypeId} {d : TypeDesc} (hu : P.underlying t = some d) (ha : isAggD d = true) (cs : List LV) : flatV P t cs = .agg (cs.map fv).toArray := by
  simp [flatV, hu, ha]

theorem eqL_sound (hE : E.Ok) {t : TypeId} {x y : LV} {a b : Value} {z : Bool} (h : eqL E t x y = some z) (hx : VRel inj x a) (hy : VRel inj y b) :
    (Op.equal t a b).run E.P w = .ok z w := by
  unfold eqL at h
  split at h
  · rename_i cs ds
    simp only [VRel] at hx hy
    obtain ⟨vs, rfl, h1⟩ := hx
    obtain ⟨us, rfl, h2⟩ := hy
    unfold flatEq at h
    split at h
    · rename_i ks hk
      split at h
      · rename_i d hd
        cases hb : (isAggD d && (ckFit ks cs && ckFit ks ds)) with
        | false => rw [hb] at h; simp at h
        | true =>
          rw [hb] at h; simp at h; subst h
          simp only [Bool.and_eq_true] at hb
          have e1 := fit_vals hb.2.1 h1
          have e2 := fit_vals hb.2.2 h2
          have := run_equalIn_flat (P := E.P) (w := w) 8 10000 (by omega) t ks cs ds (hE.flat _ _ hk) hb.2.1 hb.2.2
          rw [flatV_agg (hE.und _ _ hd) hb.1, flatV_agg (hE.und _ _ hd) hb.1, ← e1, ← e2] at this
          exact this
      · cases h
    · cases h
  · split at h
    · rename_i hu; simp at h; subst h; simp only [VRel] at hx hy; subst hx; subst hy; exact eq_bb 9999 (hE.und _ _ hu) _ _
    · cases h
  · split at h
    · rename_i hu; simp at h; subst h; simp only [VRel] at hx hy; subst hx; subst hy; exact eq_np 9999 (hE.und _ _ hu)
    · cases h
  · split at h
    · rename_i hu; simp at h; subst h; simp only [VRel] at hx hy; subst hx; obtain ⟨r, _, rfl⟩ := hy; exact eq_np1 9999 (hE.und _ _ hu) _
    · cases h
  · split at h
    · rename_i hu; simp at h; subst h; simp only [VRel] at hx hy; subst hy; obtain ⟨r, _, rfl⟩ := hx; exact eq_np2 9999 (hE.und _ _ hu) _
    · cases h
  · split at h
    · rename_i hu; simp at h; subst h; simp only [VRel] at hx hy; subst hx; subst hy; exact eq_ns 9999 (hE.und _ _ hu)
    · cases h
  · split at h
    · rename_i hu; simp at h; subst h; simp only [VRel] at hx hy; subst hx; obtain ⟨r, o', c, sp, rfl, _⟩ := hy; exact eq_ns1 9999 (hE.und _ _ hu) _ _ _
    · cases h
  · split at h
    · rename_i hu; simp at h; subst h; simp only [VRel] at hx hy; subst hy; obtain ⟨r, o', c, sp, rfl, _⟩ := hx; exact eq_ns2 9999 (hE.und _ _ hu) _ _ _
    · cases h
  · cases h

theorem guard_sound (hE : E.Ok) {op : BinOp} {t : TypeId} {x y : LV} {a b : Value} {z : Bool} (h : eqL E t x y = some z) (hx : VRel inj x a) (hy : VRel inj y b) (xo yo : Operand) :
    (eqGuard op t xo yo a b).run E.P w = .ok () w := by
  unfold eqL at h
  split at h
  · rename_i cs ds
    simp only [VRel] at hx hy
    obtain ⟨vs, rfl, h1⟩ := hx
    obtain ⟨us, rfl, h2⟩ := hy
    unfold flatEq at h
    split at h
    · rename_i ks hk
      exact run_eqGuard_agg w op t xo yo _ _ (eqGuard_flat 8 _ hE.depth t ks (hE.flat _ _ hk))
    · cases h
  all_goals first
    | (simp only [VRel] at hx hy; subst hx; subst hy; cases op <;> simp [eqGuard]; done)
    | (simp only [VRel] at hx hy; subst hx; obtain ⟨r, _, rfl⟩ := hy; cases op <;> simp [eqGuard]; done)
    | (simp only [VRel] at hx hy; subst hy; obtain ⟨r, _, rfl⟩ := hx; cases op <;> simp [eqGuard]; done)
    | (simp only [VRel] at hx hy; subst hx; obtain ⟨r, o', c, sp, rfl, _⟩ := hy; cases op <;> simp [eqGuard]; done)
    | (simp only [VRel] at hx hy; subst hy; obtain ⟨r, o', c, sp, rfl, _⟩ := hx; cases op <;> simp [eqGuard]; done)
    | cases h

theorem binOp_eql_of {t : TypeId} {x y : LV} {a b : Value} {z : Bool} (hx : VRel inj x a) (hy : VRel inj y b) (h : eqL E t x y = some z) (P : Program) :
    (binOp .eql t a b).run P w = ((Op.equal t a b).run P w).andThen (fun r w' => .ok (.bool r) w') ∧
    (binOp .neq t a b).run P w = ((Op.equal t a b).run P w).andThen (fun r w' => .ok (.bool (!r)) w') := by
  unfold eqL at h
  split at h
  · simp only [VRel] at hx hy
    obtain ⟨vs, rfl, h1⟩ := hx
    obtain ⟨us, rfl, h2⟩ := hy
    exact ⟨by simp [binOp], by simp [binOp]⟩
  all_goals first
    | (simp only [VRel] at hx hy; subst hx; subst hy; exact ⟨by simp [binOp], by simp [binOp]⟩)
    | (simp only [VRel] at hx hy; subst hx; obtain ⟨r, _, rfl⟩ := hy; exact ⟨by simp [binOp], by simp [binOp]⟩)
    | (simp only [VRel] at hx hy; subst hy; obtain ⟨r, _, rfl⟩ := hx; exact ⟨by simp [binOp], by simp [binOp]⟩)
    | (simp only [VRel] at hx hy; subst hx; obtain ⟨r, o', c, sp, rfl, _⟩ := hy; exact ⟨by simp [binOp], by simp [binOp]⟩)
    | (simp only [VRel] at hx hy; subst hy; obtain ⟨r, o', c, sp, rfl, _⟩ := hx; exact ⟨by simp [binOp], by simp [binOp]⟩)
    | cases h

theorem binL_sound (hE : E.Ok) {op : BinOp} {t : TypeId} {x y z : LV} {a b : Value} (h : binL E op t x y = some z) (hx : VRel inj x a) (hy : VRel inj y b) (xo yo : Operand) :
    ValOut E inj z w (do eqGuard op t xo yo a b; binOp op t a b) := by
  unfold binL at h
  split at h
  · rename_i k m k' n
    simp only [VRel] at hx hy; subst hx; subst hy
    have hg : (eqGuard op t xo yo (.int k m) (.int k' n)).run E.P w = .ok () w := by cases op <;> simp [eqGuard]
    cases hs : isShift op with
    | true =>
      rw [hs] at h; simp only [cond_true] at h
      obtain ⟨u, hu, hr⟩ := shiftOp_sound (E := E) (inj := inj) (w := w) (k' := k') h t
      exact ⟨u, by simp only [Sem.run_bind, hg, Result.andThen_ok, hu], hr⟩
    | false =>
      rw [hs] at h; simp only [cond_false] at h
      split at h
      · rename_i hk; subst hk
        obtain ⟨u, hu, hr⟩ := intOp_sound (E := E) (inj := inj) (w := w) hs h t
        exact ⟨u, by simp only [Sem.run_bind, hg, Result.andThen_ok, hu], hr⟩
      · cases h
  · simp only [VRel] at hx hy; subst hx; subst hy
    rename_i p q
    have hg : (eqGuard op t xo yo (.string p) (.string q)).run E.P w = .ok () w := by cases op <;> simp [eqGuard]
    obtain ⟨u, hu, hr⟩ := strOp_sound (E := E) (inj := inj) (w := w) h t
    exact ⟨u, by simp only [Sem.run_bind, hg, Result.andThen_ok, hu], hr⟩
  · split at h
    · cases he : eqL E t x y with
      | none => simp [he] at h
      | some r =>
        simp [he] at h; subst h
        refine ⟨.bool r, ?_, by simp [VRel]⟩
        simp only [Sem.run_bind, guard_sound hE he hx hy, Result.andThen_ok, (binOp_eql_of hx hy he _).1, eqL_sound hE he hx hy]
    · cases he : eqL E t x y with
      | none => simp [he] at h
      | some r =>
        simp [he] at h; subst h
        refine ⟨.bool (!r), ?_, by simp [VRel]⟩
        simp only [Sem.run_bind, guard_sound hE he hx hy, Result.andThen_ok, (binOp_eql_of hx hy he _).2, eqL_sound hE he hx hy]
    · cases h

theorem unL_sound {op : UnOp} {x z : LV} {a : Value} (h : unL op x = some z) (hx : VRel inj x a) : ValOut E inj z w (Op.unary op a) := by
  unfold unL at h
  split at h
  · simp only [Option.some.injEq] at h; subst h; simp only [VRel] at hx; subst hx
    exact ⟨_, by simp [Op.unary, Op.intArith]; rfl, by simp [VRel]⟩
  · simp only [intOp, Option.some.injEq] at h; subst h; simp only [VRel] at hx; subst hx
    exact ⟨_, by simp [Op.unary, Op.intBits]; rfl, by simp [VRel]⟩
  · simp only [Option.some.injEq] at h; subst h; simp only [VRel] at hx; subst hx
    exact ⟨_, by simp [Op.unary]; rfl, by simp [VRel]⟩
  · cases h

theorem partL_sound (hE : E.Ok) {t : TypeId} {cs : List LV} {vs : List Value} {o : Nat} {z : LV} (h : partL E t cs o = some z) (hc : VRels inj cs vs) :
    ValOut E inj z w (part t vs.toArray o) := by
  unfold partL at h
  split at h
  · rename_i d hd
    cases ha : isAggD d with
    | true =>
      rw [ha] at h; simp only [cond_true] at h
      split at h
      · rename_i n hn
        obtain ⟨i, hi, hs⟩ := hE.size _ _ hn
        cases ht : takeN cs o n with
        | none => simp [ht] at h
        | some r =>
          simp [ht] at h; subst h
          refine ⟨.agg ((vs.drop o).take n).toArray, ?_, ?_⟩
          · simp [part, r_isAgg (hE.und _ _ hd), ha, r_size hi, hs, List.extract_eq_take_drop]
          · simp only [VRel]
            refine ⟨_, rfl, ?_⟩
            rcases takeN_eq ht with ⟨rfl, _, _⟩ | ⟨rfl, rfl⟩
            · simpa using (hc.drop o).take n
            · simpa using VRels.nil
      · cases h
    | false =>
      rw [ha] at h; simp only [cond_false] at h
      obtain ⟨u, hu, hr⟩ := hc.get? h
      exact ⟨u, by simp [part, r_isAgg (hE.und _ _ hd), ha, hu], hr⟩
  · cases h

theorem fieldL_sound (hE : E.Ok) {s : TypeId} {x z : LV} {a : Value} {f : Nat} (h : fieldL E s x f = some z) (hx : VRel inj x a) : ValOut E inj z w (Instr.field s a f) := by
  unfold fieldL at h
  split at h
  · rename_i fs cs hs
    simp only [VRel] at hx
    obtain ⟨vs, rfl, h1⟩ := hx
    split at h
    · rename_i fd hf
      obtain ⟨u, hu, hr⟩ := partL_sound hE (w := w) h h1
      have hf' : fs[f]? = some fd := by simpa using hf
      exact ⟨u, by simpa [Instr.field, r_und (hE.und _ _ hs), hf', asAgg] using hu, hr⟩
    · cases h
  · cases h

theorem fieldAddrL_sound (hE : E.Ok) {s : TypeId} {x z : LV} {a : Value} {f : Nat} (h : fieldAddrL E s x f = some z) (hx : VRel inj x a) : ValOut E inj z w (Instr.fieldAt s a f) := by
  unfold fieldAddrL at h
  split at h
  · rename_i fs b o hs
    simp only [VRel] at hx
    obtain ⟨r, hb, rfl⟩ := hx
    split at h
    · rename_i fd hf
      split at h
      · rename_i n hn
        obtain ⟨i, hi, hz⟩ := hE.size _ _ hn
        cases h0 : Nat.beq n 0 with
        | true => rw [h0] at h; simp at h
        | false =>
          rw [h0] at h; simp at h; subst h
          have hne : n ≠ 0 := by intro e; subst e; simp at h0
          refine ⟨.pointer (some ⟨r, o + fd.offset, none⟩), ?_, by simp only [VRel]; exact ⟨r, hb, rfl⟩⟩
          have hf' : fs[f]? = some fd := by simpa using hf
          simp [Instr.fieldAt, r_und (hE.und _ _ hs), hf', Instr.sureAddr, fieldPlace, r_size hi, hz, hne, add_none]
      · cases h
    · cases h
  · cases h

theorem natOf_eq {x : LV} {n : Nat} {a : Value} (h : natOf x = some n) (hx : VRel inj x a) : ∃ k, a = .int k n := by
  unfold natOf at h
  split at h
  · simp at h; subst h; simp only [VRel] at hx; exact ⟨_, hx⟩
  · cases h

theorem indexAddrL_sound (hE : E.Ok) {t : TypeId} {x y z : LV} {a b : Value} (h : indexAddrL E t x y = some z) (hx : VRel inj x a) (hy : VRel inj y b) : ValOut E inj z w (Instr.indexAt t a b) := by
  unfold indexAddrL at h
  split at h
  · rename_i n hn
    obtain ⟨k, rfl⟩ := natOf_eq hn hy
    split at h
    · rename_i len e blk o hu
      simp only [VRel] at hx
      obtain ⟨r, hb, rfl⟩ := hx
      split at h
      · rename_i sz hsz
        obtain ⟨i, hi, hz⟩ := hE.size _ _ hsz
        cases hlt : Nat.blt n len with
        | false => rw [hlt] at h; simp at h
        | true =>
          rw [hlt] at h; simp at h; subst h
          have hlt := blt_lt hlt
          refine ⟨.pointer (some ⟨r, o + n * sz, none⟩), ?_, by simp only [VRel]; exact ⟨r, hb, rfl⟩⟩
          simp [Instr.indexAt, asIntOf, r_und (hE.und _ _ hu), Instr.sureAddr, r_size hi, hz, add_none, hlt]
      · cases h
    · rename_i e blk o sz len cap ex hu
      simp only [VRel] at hx
      obtain ⟨r, o', c, sp, rfl, hb, ho, hc, hex, hl, _⟩ := hx
      split at h
      · rename_i sz' hsz
        obtain ⟨i, hi, hz⟩ := hE.size _ _ hsz
        cases hlt : (Nat.blt n len && Nat.beq sz' sz) with
        | false => rw [hlt] at h; simp at h
        | true =>
          rw [hlt] at h; simp at h; subst h
          simp only [Bool.and_eq_true] at hlt
          have hlt1 := blt_lt hlt.1
          have hs := Nat.eq_of_beq_eq_true hlt.2
          obtain ⟨rfl, rfl⟩ : o' = o ∧ sp = none := by
            rcases ho with ho | ho
            · exact ho
            · omega
          subst hs
          refine ⟨.pointer (some ⟨r, o' + n * sz', none⟩), ?_, by simp only [VRel]; exact ⟨r, hb, rfl⟩⟩
          simp [Instr.indexAt, asIntOf, r_und (hE.und _ _ hu), r_size hi, hz, add_none, hlt1]
      · cases h
    · cases h
  · cases h

theorem indexL_sound (hE : E.Ok) {t : TypeId} {x y z : LV} {a b : Value} (h : indexL E t x y = some z) (hx : VRel inj x a) (hy : VRel inj y b) : ValOut E inj z w (Instr.index t a b) := by
  unfold indexL at h
  split at h
  · rename_i n hn
    obtain ⟨k, rfl⟩ := natOf_eq hn hy
    split at h
    · rename_i len e cs hu
      simp only [VRel] at hx
      obtain ⟨vs, rfl, h1⟩ := hx
      split at h
      · rename_i sz hsz
        obtain ⟨i, hi, hz⟩ := hE.size _ _ hsz
        cases hlt : Nat.blt n len with
        | false => rw [hlt] at h; simp at h
        | true =>
          rw [hlt] at h; simp only [cond_true] at h
          have hlt := blt_lt hlt
          obtain ⟨u, hu', hr⟩ := partL_sound hE (w := w) h h1
          refine ⟨u, ?_, hr⟩
          simpa [Instr.index, asIntOf, r_und (hE.und _ _ hu), r_size hi, hz, hlt] using hu'
      · cases h
    · rename_i s hu
      simp only [VRel] at hx; subst hx
      split at h
      · rename_i c hc
        simp at h; subst h
        refine ⟨.int .u8 c.toNat, ?_, by simp [VRel]⟩
        have hc' : s[n]? = some c := by
          have h1 : n < s.data.toList.length := (List.getElem?_eq_some_iff.1 hc).1
          have h1' : n < s.size := by simpa using h1
          have h2 := (List.getElem?_eq_some_iff.1 hc).2
          rw [getElem?_pos s n h1']
          simp only [Option.some.injEq]
          rw [ByteArray.getElem_eq_getElem_data]
          simpa using h2
        simp [Instr.index, asIntOf, r_und (hE.und _ _ hu), hc']
      · cases h
    · cases h
  · cases h

end
end Go.Proofs.Ytpkeggejofeeeaa.Lvm

namespace Go.Proofs.Ytpkeggejofeeeaa.Lvm

def XRel (inj : Inj) (fr : LFr) (a : Act) (x : Operand) : Prop := ∀ v, leval fr x = some v → VRel inj v (a.eval x)

section
variable {E : Env} {inj : Inj} {w : World} {fr : LFr} {a : Act}

theorem levals_rel : ∀ {xs : List Operand} {vs : List LV}, (∀ x ∈ xs, XRel inj fr a x) → levals fr xs = some vs → VRels inj vs (xs.map a.eval)
  | [], vs, _, h => by simp [levals] at h; subst h; exact VRels.nil
  | x :: xs, vs, hx, h => by
    simp only [levals] at h
    split at h
    · rename_i v hv
      split at h
      · rename_i us hus
        simp at h; subst h
        exact VRels.cons (hx x (by simp) v hv) (levals_rel (fun y hy => hx y (by simp [hy])) hus)
      · cases h
    · cases h

theorem run_bound {x : LV} {v : Value} {n y : Nat} {code : BoundsCode} (h : natOf x = some n) (hr : VRel inj x v) (hle : n ≤ y) : (Instr.sliceBound v y code).run E.P w = .ok n w := by
  obtain ⟨k, rfl⟩ := natOf_eq h hr
  simp [Instr.sliceBound, asIntOf, hle]

theorem optNat_some {x : Operand} {d n : Nat} (h : optNat fr d (some x) = some n) : ∃ v, leval fr x = some v ∧ natOf v = some n := by
  simp only [optNat] at h
  split at h
  · rename_i v hv; exact ⟨v, hv, h⟩
  · cases h

theorem run_bounds {isSlice : Bool} {len cap c l h m : Nat} {lo hi mx : Option Operand} (hlo : ∀ x, lo = some x → XRel inj fr a x) (hhi : ∀ x, hi = some x → XRel inj fr a x)
    (hmx : ∀ x, mx = some x → XRel inj fr a x) (h1 : optNat fr 0 lo = some l) (h2 : optNat fr len hi = some h) (h3 : optNat fr cap mx = some m)
    (hcap : cap ≤ c) (hlh : l ≤ h) (hhm : h ≤ m) (hmc : m ≤ cap) (hok : (mx.isNone || hi.isSome) = true) :
    (Instr.sliceBounds isSlice len c (lo.map a.eval) (hi.map a.eval) (mx.map a.eval)).run E.P w = .ok (l, h, if mx.isSome then m else c) w := by
  cases mx with
  | none =>
    simp only [optNat, Option.some.injEq] at h3
    cases hi with
    | none =>
      simp only [optNat, Option.some.injEq] at h2
      subst h2
      cases lo with
      | none => simp only [optNat, Option.some.injEq] at h1; subst h1; simp [Instr.sliceBounds]
      | some x =>
        obtain ⟨v, hv, hn⟩ := optNat_some h1
        simp only [Instr.sliceBounds, Option.map_some, Option.map_none, Sem.run_bind, Sem.run_pure, Result.andThen_ok]
        rw [run_bound hn (hlo x rfl v hv) hlh]
        simp
    | some y =>
      obtain ⟨u, hu, hn2⟩ := optNat_some h2
      simp only [Instr.sliceBounds, Option.map_some, Option.map_none, Sem.run_bind, Sem.run_pure, Result.andThen_ok]
      rw [run_bound hn2 (hhi y rfl u hu) (by omega)]
      cases lo with
      | none => simp only [optNat, Option.some.injEq] at h1; subst h1; simp
      | some x =>
        obtain ⟨v, hv, hn⟩ := optNat_some h1
        simp only [Option.map_some, Result.andThen_ok, Sem.run_bind]
        rw [run_bound hn (hlo x rfl v hv) hlh]
        simp
  | some z =>
    obtain ⟨q, hq, hn3⟩ := optNat_some h3
    cases hi with
    | none => simp at hok
    | some y =>
      obtain ⟨u, hu, hn2⟩ := optNat_some h2
      simp only [Instr.sliceBounds, Option.map_some, Sem.run_bind]
      rw [run_bound hn3 (hmx z rfl q hq) (by omega)]
      simp only [Result.andThen_ok]
      rw [run_bound hn2 (hhi y rfl u hu) (by omega)]
      cases lo with
      | none => simp only [optNat, Option.some.injEq] at h1; subst h1; simp
      | some x =>
        obtain ⟨v, hv, hn⟩ := optNat_some h1
        simp only [Option.map_some, Result.andThen_ok, Sem.run_bind]
        rw [run_bound hn (hlo x rfl v hv) hlh]
        simp

theorem sliceL_sound (hE : E.Ok) {t : TypeId} {x z : LV} {v : Value} {lo hi mx : Option Operand} (hlo : ∀ x, lo = some x → XRel inj fr a x) (hhi : ∀ x, hi = some x → XRel inj fr a x)
    (hmx : ∀ x, mx = some x → XRel inj fr a x) (h : sliceL E fr t x lo hi mx = some z) (hx : VRel inj x v) :
    ValOut E inj z w (Instr.sliceAt t v (lo.map a.eval) (hi.map a.eval) (mx.map a.eval)) := by
  unfold sliceL at h
  split at h
  · rename_i s hu
    simp only [VRel] at hx; subst hx
    split at h
    · cases h
    · split at h
      · rename_i l hl
        split at h
        · rename_i e he
          cases hb : (Nat.ble l e && Nat.ble e s.size) with
          | false => rw [hb] at h; simp at h
          | true =>
            rw [hb] at h; simp at h; subst h
            simp only [Bool.and_eq_true] at hb
            have b1 := Nat.le_of_ble_eq_true hb.1
            have b2 := Nat.le_of_ble_eq_true hb.2
            refine ⟨.string (s.extract l e), ?_, by simp [VRel]⟩
            have := run_bounds (E := E) (w := w) (isSlice := false) (mx := none) (cap := s.size) (c := s.size) (m := s.size) hlo hhi (by simp) hl he rfl (Nat.le_refl _) b1 b2 (Nat.le_refl _) rfl
            simp only [Option.map_none, Option.isSome_none, Bool.false_eq_true, if_false] at this
            simp only [Instr.sliceAt, Sem.run_bind, r_und (hE.und _ _ hu), Result.andThen_ok, Instr.slice, Option.map_none, Option.isSome_none, Bool.false_eq_true, if_false, Sem.run_pure, this]
        · cases h
      · cases h
  · rename_i e hu
    simp only [VRel] at hx; subst hx
    split at h
    · rename_i n hn
      obtain ⟨i, hi', hsz⟩ := hE.size _ _ hn
      split at h
      · rename_i l hl
        split at h
        · rename_i hh hhe
          split at h
          · rename_i m hm
            cases hb : (Nat.beq l 0 && (Nat.beq hh 0 && (Nat.beq m 0 && (mx.isNone || hi.isSome)))) with
            | false => rw [hb] at h; simp at h
            | true =>
              rw [hb] at h; simp at h; subst h
              simp only [Bool.and_eq_true] at hb
              obtain ⟨b1, b2, b3, b4⟩ := hb
              have b1 := Nat.eq_of_beq_eq_true b1
              have b2 := Nat.eq_of_beq_eq_true b2
              have b3 := Nat.eq_of_beq_eq_true b3
              subst b1; subst b2; subst b3
              refine ⟨.slice none 0 0, ?_, by simp [VRel]⟩
              have := run_bounds (E := E) (w := w) (isSlice := true) (cap := 0) (c := 0) hlo hhi hmx hl hhe hm (Nat.le_refl _) (Nat.le_refl _) (Nat.le_refl _) (Nat.le_refl _) b4
              simp only [ite_self] at this
              simp only [Instr.sliceAt, Sem.run_bind, r_und (hE.und _ _ hu), Result.andThen_ok, Instr.slice, this, r_size hi']
              simp
          · cases h
        · cases h
      · cases h
    · cases h
  · rename_i e b o sz len cap ex hu
    simp only [VRel] at hx
    obtain ⟨r, o', c, sp, rfl, hb, ho, hc, hex, hlen, hcap⟩ := hx
    split at h
    · rename_i n hn
      obtain ⟨i, hi', hsz⟩ := hE.size _ _ hn
      split at h
      · rename_i l hl
        split at h
        · rename_i hh hhe
          split at h
          · rename_i m hm
            cases hbb : (Nat.beq n sz && (Nat.ble l hh && (Nat.ble hh m && (Nat.ble m cap && (mx.isNone || hi.isSome))))) with
            | false => rw [hbb] at h; simp at h
            | true =>
              rw [hbb] at h; simp only [cond_true, Option.some.injEq] at h; subst h
              simp only [Bool.and_eq_true] at hbb
              obtain ⟨b0, b1, b2, b3, b4⟩ := hbb
              have b0 := Nat.eq_of_beq_eq_true b0
              have b1 := Nat.le_of_ble_eq_true b1
              have b2 := Nat.le_of_ble_eq_true b2
              have b3 := Nat.le_of_ble_eq_true b3
              subst b0
              have hrun := run_bounds (E := E) (w := w) (isSlice := true) hlo hhi hmx hl hhe hm hc b1 b2 b3 b4
              have hzs : i.size = n := hsz
              generalize hM : (if mx.isSome = true then m else c) = M at hrun
              have hMle : M ≤ c := by subst hM; split <;> omega
              have hmM : m ≤ M := by
                subst hM; split
                · exact Nat.le_refl _
                · omega
              have hlM : l ≤ M := by omega
              have hsp : M ≠ l → o' = o ∧ sp = none := fun hne => by
                rcases ho with ho | ho
                · exact ho
                · omega
              refine ⟨.slice (some (if M = l then ⟨r, o', sp⟩ else ⟨r, o' + l * n, sp⟩)) (hh - l) (M - l), ?_, ?_⟩
              · simp only [Instr.sliceAt, Sem.run_bind, r_und (hE.und _ _ hu), Result.andThen_ok, Instr.slice, hrun, r_size hi', hzs, Sem.run_pure, Option.map_some]
                split
                · rfl
                · rename_i hne
                  obtain ⟨_, rfl⟩ := hsp hne
                  rw [add_none]
              · simp only [VRel]
                by_cases hMl : M = l
                · rw [if_pos hMl]
                  refine ⟨r, o', M - l, sp, rfl, hb, Or.inr (by omega), by omega, fun hx => by
                    rcases Bool.or_eq_true _ _ ▸ hx with hx | hx
                    · have := hex hx
                      subst hM
                      cases mx with
                      | none =>
                        simp only [optNat, Option.some.injEq] at hm
                        simp at hMl ⊢; omega
                      | some z => simp
                    · subst hM; rw [if_pos hx], by omega, fun L q hL hq => ?_⟩
                  have := hcap L q hL hq
                  have : (M - l) * n = 0 := by rw [hMl]; simp
                  omega
                · rw [if_neg hMl]
                  refine ⟨r, o' + l * n, M - l, sp, rfl, hb, Or.inl ⟨by rw [(hsp hMl).1], (hsp hMl).2⟩, by omega, fun hx => by
                    rcases Bool.or_eq_true _ _ ▸ hx with hx | hx
                    · have := hex hx
                      subst hM
                      cases mx with
                      | none =>
                        simp only [optNat, Option.some.injEq] at hm
                        simp; omega
                      | some z => simp
                    · subst hM; rw [if_pos hx], by omega, fun L q hL hq => ?_⟩
                  have h1 := hcap L q hL hq
                  have h2 : l * n + (M - l) * n = M * n := by rw [← Nat.add_mul]; congr 1; omega
                  have h3 : M * n ≤ c * n := Nat.mul_le_mul_right _ hMle
                  omega
          · cases h
        · cases h
      · cases h
    · cases h
  · cases h
end
end Go.Proofs.Ytpkeggejofeeeaa.Lvm
