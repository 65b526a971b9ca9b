/- Laws of the small machine and of how it stands to the model; a helper of the statements: no statement is proved here. -/
import Derived.Test.YtpkeggejofeeeaaLv
import Derived.Laws.Sem
import Derived.Below
namespace Go.Proofs.Ytpkeggejofeeeaa.Lvm

abbrev Inj := Nat → Option (Nat × Nat)

def BRel (inj : Inj) : Blk → Nat → Prop
  | .own L, b => ∃ n, inj L = some (b, n)
  | .base r, b => b = r

mutual
def VRel (inj : Inj) : LV → Value → Prop
  | .bool x, v => v = .bool x
  | .int k n, v => v = .int k n
  | .str s, v => v = .string s
  | .flt k b, v => v = .float k b
  | .nilp, v => v = .pointer none
  | .ptr b o, v => ∃ r, BRel inj b r ∧ v = .pointer (some ⟨r, o, none⟩)
  | .nilsl, v => v = .slice none 0 0
  | .sl b o sz len cap ex, v => ∃ r o' c, v = .slice (some ⟨r, o', none⟩) len c ∧ BRel inj b r ∧ (o' = o ∨ c = 0) ∧ cap ≤ c ∧ (ex = true → c = cap) ∧ len ≤ cap ∧
      (∀ L n, b = .own L → inj L = some (r, n) → o' + c * sz ≤ n)
  | .nilmap, v => v = .map none
  | .map m, v => ∃ r n, inj m = some (r, n) ∧ v = .map (some r)
  | .fn f first cap, v => ∃ vs cs, v = .func (.func f) vs cs ∧ VRels inj first vs.toList ∧ VRels inj cap cs.toList
  | .nilfn, v => v = .nilFunc
  | .nilif, v => v = .nilIface
  | .agg cs, v => ∃ vs, v = .agg vs ∧ VRels inj cs vs.toList
  | .tup cs, v => ∃ vs, v = .tuple vs ∧ VRels inj cs vs.toList
def VRels (inj : Inj) : List LV → List Value → Prop
  | [], l => l = []
  | c :: cs, l => ∃ v vs, l = v :: vs ∧ VRel inj c v ∧ VRels inj cs vs
end

def Ext (inj inj' : Inj) : Prop := ∀ L q, inj L = some q → inj' L = some q
theorem Ext.refl (inj : Inj) : Ext inj inj := fun _ _ h => h
theorem Ext.trans {a b c : Inj} (h : Ext a b) (h' : Ext b c) : Ext a c := fun L q e => h' L q (h L q e)

theorem BRel.mono {inj inj' : Inj} (h : Ext inj inj') : ∀ {b r}, BRel inj b r → BRel inj' b r
  | .own _, _, ⟨n, e⟩ => ⟨n, h _ _ e⟩
  | .base _, _, e => e

mutual
theorem VRel.mono {inj inj' : Inj} (h : Ext inj inj') : ∀ {x : LV} {v : Value}, VRel inj x v → VRel inj' x v
  | .bool _, _, e | .int _ _, _, e | .str _, _, e | .flt _ _, _, e | .nilp, _, e | .nilsl, _, e | .nilmap, _, e | .nilfn, _, e | .nilif, _, e => by
    simpa only [VRel] using e
  | .ptr _ _, _, e => by
    simp only [VRel] at e ⊢
    obtain ⟨r, hb, hv⟩ := e
    exact ⟨r, hb.mono h, hv⟩
  | .sl b _ _ _ _ _, _, e => by
    simp only [VRel] at e ⊢
    obtain ⟨r, o', c, hv, hb, ho, hc, hex, hl, hcap⟩ := e
    refine ⟨r, o', c, hv, hb.mono h, ho, hc, hex, hl, fun L n hL hn => ?_⟩
    subst hL
    obtain ⟨n', hn'⟩ := hb
    have := h _ _ hn'
    rw [hn] at this
    simp only [Option.some.injEq, Prod.mk.injEq, true_and] at this
    subst this
    exact hcap L _ rfl hn'
  | .map _, _, e => by
    simp only [VRel] at e ⊢
    obtain ⟨r, n, hb, hv⟩ := e
    exact ⟨r, n, h _ _ hb, hv⟩
  | .fn _ _ _, _, e => by
    simp only [VRel] at e ⊢
    obtain ⟨vs, cs, hv, h1, h2⟩ := e
    exact ⟨vs, cs, hv, VRels.mono h h1, VRels.mono h h2⟩
  | .agg _, _, e => by
    simp only [VRel] at e ⊢
    obtain ⟨vs, hv, h1⟩ := e
    exact ⟨vs, hv, VRels.mono h h1⟩
  | .tup _, _, e => by
    simp only [VRel] at e ⊢
    obtain ⟨vs, hv, h1⟩ := e
    exact ⟨vs, hv, VRels.mono h h1⟩
theorem VRels.mono {inj inj' : Inj} (h : Ext inj inj') : ∀ {xs : List LV} {vs : List Value}, VRels inj xs vs → VRels inj' xs vs
  | [], _, e => by simpa only [VRels] using e
  | _ :: _, _, e => by
    simp only [VRels] at e ⊢
    obtain ⟨v, vs, hl, h1, h2⟩ := e
    exact ⟨v, vs, hl, VRel.mono h h1, VRels.mono h h2⟩
end

section
variable {inj : Inj}
theorem VRels.nil : VRels inj [] [] := by simp [VRels]
theorem VRels.cons {c : LV} {cs : List LV} {v : Value} {vs : List Value} (h : VRel inj c v) (h' : VRels inj cs vs) : VRels inj (c :: cs) (v :: vs) := by
  simp only [VRels]; exact ⟨v, vs, rfl, h, h'⟩

theorem VRels.length : ∀ {xs : List LV} {vs : List Value}, VRels inj xs vs → vs.length = xs.length
  | [], _, e => by simp only [VRels] at e; simp [e]
  | _ :: _, _, e => by
    simp only [VRels] at e
    obtain ⟨v, vs, rfl, _, h2⟩ := e
    simp [h2.length]

theorem VRels.get? : ∀ {xs : List LV} {vs : List Value} (_ : VRels inj xs vs) {i : Nat} {x : LV}, xs[i]? = some x → ∃ v, vs[i]? = some v ∧ VRel inj x v
  | [], _, _, i, x, h => by simp at h
  | c :: cs, _, e, i, x, h => by
    simp only [VRels] at e
    obtain ⟨v, vs, rfl, h1, h2⟩ := e
    cases i with
    | zero => simp at h; subst h; exact ⟨v, by simp, h1⟩
    | succ i => simp at h; obtain ⟨u, hu, hr⟩ := h2.get? h; exact ⟨u, by simpa using hu, hr⟩

theorem VRels.getD {xs : List LV} {vs : List Value} (h : VRels inj xs vs) (i : Nat) {d : LV} {d' : Value} (hd : VRel inj d d') : VRel inj (xs.getD i d) (vs.getD i d') := by
  simp only [List.getD_eq_getElem?_getD]
  cases hx : xs[i]? with
  | none =>
    have : vs[i]? = none := by
      rw [List.getElem?_eq_none_iff] at hx ⊢; rw [h.length]; exact hx
    simpa [this] using hd
  | some x => obtain ⟨v, hv, hr⟩ := h.get? hx; simpa [hv] using hr

theorem VRels.append : ∀ {xs : List LV} {vs : List Value} {ys : List LV} {us : List Value}, VRels inj xs vs → VRels inj ys us → VRels inj (xs ++ ys) (vs ++ us)
  | [], _, _, _, e, h => by simp only [VRels] at e; subst e; simpa using h
  | _ :: _, _, _, _, e, h => by
    simp only [VRels] at e
    obtain ⟨v, vs, rfl, h1, h2⟩ := e
    exact VRels.cons h1 (h2.append h)

theorem VRels.take : ∀ {xs : List LV} {vs : List Value} (n : Nat), VRels inj xs vs → VRels inj (xs.take n) (vs.take n)
  | _, _, 0, _ => by simp [VRels.nil]
  | [], _, _ + 1, e => by simp only [VRels] at e; subst e; simp [VRels.nil]
  | _ :: _, _, n + 1, e => by
    simp only [VRels] at e
    obtain ⟨v, vs, rfl, h1, h2⟩ := e
    simpa using VRels.cons h1 (h2.take n)

theorem VRels.drop : ∀ {xs : List LV} {vs : List Value} (n : Nat), VRels inj xs vs → VRels inj (xs.drop n) (vs.drop n)
  | _, _, 0, h => by simpa using h
  | [], _, _ + 1, e => by simp only [VRels] at e; subst e; simp [VRels.nil]
  | _ :: _, _, n + 1, e => by
    simp only [VRels] at e
    obtain ⟨v, vs, rfl, h1, h2⟩ := e
    simpa using h2.drop n

theorem VRels.set : ∀ {xs : List LV} {vs : List Value} (n : Nat) {x : LV} {v : Value}, VRels inj xs vs → VRel inj x v → VRels inj (xs.set n x) (vs.set n v)
  | [], _, _, _, _, e, _ => by simp only [VRels] at e; subst e; simp [VRels.nil]
  | _ :: _, _, 0, _, _, e, h => by
    simp only [VRels] at e
    obtain ⟨v, vs, rfl, h1, h2⟩ := e
    simpa using VRels.cons h h2
  | _ :: _, _, n + 1, _, _, e, h => by
    simp only [VRels] at e
    obtain ⟨v, vs, rfl, h1, h2⟩ := e
    simpa using VRels.cons h1 (h2.set n h)

theorem VRels.replicate {x : LV} {v : Value} (h : VRel inj x v) : ∀ n, VRels inj (List.replicate n x) (List.replicate n v)
  | 0 => by simp [VRels.nil]
  | n + 1 => by simpa [List.replicate_succ] using VRels.cons h (VRels.replicate h n)

theorem VRel.undef : VRel inj lundef undef := by simp [VRel, lundef, Go.undef, VRels]

theorem VRel.cells {x : LV} {v : Value} (h : VRel inj x v) : VRels inj x.cells v.cells.toList := by
  cases x <;> simp only [VRel] at h
  case agg cs => obtain ⟨vs, rfl, h1⟩ := h; simpa [LV.cells, Value.cells] using h1
  case bool | int | str | flt | nilp | nilsl | nilmap | nilfn | nilif =>
    subst h; simp only [LV.cells, Value.cells]; exact VRels.cons (by simp [VRel]) VRels.nil
  case ptr b o => obtain ⟨r, hb, rfl⟩ := h; simp only [LV.cells, Value.cells]; exact VRels.cons (by simp only [VRel]; exact ⟨r, hb, rfl⟩) VRels.nil
  case sl =>
    obtain ⟨r, o', c, rfl, hr⟩ := h
    simp only [LV.cells, Value.cells]; exact VRels.cons (by simp only [VRel]; exact ⟨r, o', c, rfl, hr⟩) VRels.nil
  case map => obtain ⟨r, n, hb, rfl⟩ := h; simp only [LV.cells, Value.cells]; exact VRels.cons (by simp only [VRel]; exact ⟨r, n, hb, rfl⟩) VRels.nil
  case fn => obtain ⟨vs, cs, rfl, hr⟩ := h; simp only [LV.cells, Value.cells]; exact VRels.cons (by simp only [VRel]; exact ⟨vs, cs, rfl, hr⟩) VRels.nil
  case tup => obtain ⟨vs, rfl, hr⟩ := h; simp only [LV.cells, Value.cells]; exact VRels.cons (by simp only [VRel]; exact ⟨vs, rfl, hr⟩) VRels.nil

theorem VRel.oneCell {x : LV} {v : Value} (h : VRel inj x v) (hs : x.scalar = true) : v.oneCell' = true := by
  cases x <;> simp only [VRel] at h <;> simp only [LV.scalar, Bool.false_eq_true] at hs
  case bool | int | str | flt | nilp | nilsl | nilmap | nilfn | nilif => subst h; rfl
  case ptr => obtain ⟨r, _, rfl⟩ := h; rfl
  case sl => obtain ⟨r, o', c, rfl, hr⟩ := h; rfl
  case map => obtain ⟨r, n, hb, rfl⟩ := h; rfl
  case fn => obtain ⟨vs, cs, rfl, hr⟩ := h; rfl

theorem liftS_rel {v : Value} {x : LV} (h : liftS v = some x) : VRel inj x v := by
  unfold liftS at h
  split at h <;> simp only [Option.some.injEq, reduceCtorEq] at h <;> subst h <;> simp [VRel]

theorem mapM_liftS : ∀ {l : List Value} {r : List LV}, l.mapM liftS = some r → VRels inj r l
  | [], r, h => by simp at h; subst h; exact VRels.nil
  | v :: vs, r, h => by
    simp only [List.mapM_cons, Option.pure_def, Option.bind_eq_bind, Option.bind_eq_some_iff, Option.some.injEq] at h
    obtain ⟨x, hx, xs, hxs, rfl⟩ := h
    exact VRels.cons (liftS_rel hx) (mapM_liftS hxs)

theorem lift_rel {v : Value} {x : LV} (h : lift v = some x) : VRel inj x v := by
  unfold lift at h
  split at h
  · rename_i cs
    cases hm : cs.toList.mapM liftS with
    | none => simp [hm] at h
    | some r => simp [hm] at h; subst h; simp only [VRel]; exact ⟨_, rfl, mapM_liftS hm⟩
  · rename_i vs
    split at h
    · simp at h; subst h; rename_i hn; simp only [VRel]; exact ⟨_, rfl, by rw [hn]; exact VRels.nil⟩
    · cases h
  · exact liftS_rel h
end

/-! ### memory -/
namespace Mem
variable {α : Type}
theorem setF_eq (x : α) : ∀ (f : Nat) (m : Mem α) (n : Nat), n < f → (setF x f m n).get n = some x := by
  intro f
  induction f with
  | zero => intro m n h; omega
  | succ f ih =>
    intro m n h
    by_cases h0 : n = 0
    · subst h0; rfl
    · have e0 : Nat.beq n 0 = false := by cases n <;> first | omega | rfl
      by_cases h1 : n % 2 = 1
      · have e1 : Nat.beq (n % 2) 1 = true := by rw [h1]; rfl
        simp only [setF, e0, e1, cond_false, cond_true, get]
        exact ih _ _ (by omega)
      · have e1 : Nat.beq (n % 2) 1 = false := by have : n % 2 = 0 := by omega
                                                  rw [this]; rfl
        simp only [setF, e0, e1, cond_false, get]
        exact ih _ _ (by omega)
theorem setF_ne (x : α) : ∀ (f : Nat) (m : Mem α) (n k : Nat), n ≠ k → (setF x f m n).get k = m.get k := by
  intro f
  induction f with
  | zero => intro m n k _; rfl
  | succ f ih =>
    intro m n k h
    have hleft : ∀ j, m.left.get j = m.get (2 * j + 1) := by
      intro j; cases m with
      | leaf => rfl
      | node l v r =>
        have e0 : Nat.beq (2 * j + 1) 0 = false := rfl
        have e1 : Nat.beq ((2 * j + 1) % 2) 1 = true := by have : (2 * j + 1) % 2 = 1 := by omega
                                                           rw [this]; rfl
        have e2 : (2 * j + 1) / 2 = j := by omega
        simp only [left, get, e0, e1, cond_false, cond_true, e2]
    have hright : ∀ j, m.right.get j = m.get (2 * j + 2) := by
      intro j; cases m with
      | leaf => rfl
      | node l v r =>
        have e0 : Nat.beq (2 * j + 2) 0 = false := rfl
        have e1 : Nat.beq ((2 * j + 2) % 2) 1 = false := by have : (2 * j + 2) % 2 = 0 := by omega
                                                            rw [this]; rfl
        have e2 : (2 * j + 2) / 2 - 1 = j := by omega
        simp only [right, get, e0, e1, cond_false, e2]
    have hval : m.val = m.get 0 := by cases m <;> rfl
    have key : ∀ (l' r' : Mem α) (v' : Option α), (∀ j, k = 2 * j + 1 → l'.get j = m.get k) → (∀ j, k = 2 * j + 2 → r'.get j = m.get k) → (k = 0 → v' = m.get k) →
        (node l' v' r').get k = m.get k := by
      intro l' r' v' hl hr hv
      by_cases k0 : k = 0
      · subst k0; exact hv rfl
      · have e0 : Nat.beq k 0 = false := by cases k <;> first | omega | rfl
        by_cases k1 : k % 2 = 1
        · have e1 : Nat.beq (k % 2) 1 = true := by rw [k1]; rfl
          simp only [get, e0, e1, cond_false, cond_true]; exact hl _ (by omega)
        · have e1 : Nat.beq (k % 2) 1 = false := by have : k % 2 = 0 := by omega
                                                    rw [this]; rfl
          simp only [get, e0, e1, cond_false]; exact hr _ (by omega)
    by_cases h0 : n = 0
    · subst h0
      have e0 : Nat.beq 0 0 = true := rfl
      simp only [setF, e0, cond_true]
      exact key _ _ _ (fun j hj => by rw [hleft, hj]) (fun j hj => by rw [hright, hj]) (fun hk => absurd hk.symm h)
    · have e0 : Nat.beq n 0 = false := by cases n <;> first | omega | rfl
      by_cases h1 : n % 2 = 1
      · have e1 : Nat.beq (n % 2) 1 = true := by rw [h1]; rfl
        simp only [setF, e0, e1, cond_false, cond_true]
        exact key _ _ _ (fun j hj => by rw [ih _ _ _ (by omega), hleft, hj]) (fun j hj => by rw [hright, hj]) (fun hk => by rw [hval, hk])
      · have e1 : Nat.beq (n % 2) 1 = false := by have : n % 2 = 0 := by omega
                                                  rw [this]; rfl
        simp only [setF, e0, e1, cond_false]
        exact key _ _ _ (fun j hj => by rw [hleft, hj]) (fun j hj => by rw [ih _ _ _ (by omega), hright, hj]) (fun hk => by rw [hval, hk])
theorem get_set_eq (m : Mem α) (n : Nat) (x : α) : (m.set n x).get n = some x := setF_eq x _ m n (Nat.lt_succ_self n)
theorem get_set_ne (m : Mem α) {n k : Nat} (x : α) (h : n ≠ k) : (m.set n x).get k = m.get k := setF_ne x _ m n k h
theorem get_set (m : Mem α) (n k : Nat) (x : α) : (m.set n x).get k = if n = k then some x else m.get k := by
  by_cases h : n = k
  · subst h; simp [get_set_eq]
  · simp [h, get_set_ne m x h]
end Mem

end Go.Proofs.Ytpkeggejofeeeaa.Lvm
