/- Laws of the small machine and of how it stands to the model; a helper of the statements: no statement is proved here. -/
import Derived.Test.YtpkeggejofeeeaaS20
import Derived.Laws.IdiomRangeMap
namespace Go.Proofs.Ytpkeggejofeeeaa.Lvm

theorem Mem.get_del {α : Type} : ∀ (m : Mem α) (n k : Nat), (m.del n).get k = if n = k then none else m.get k
  | .leaf, n, k => by
    show (none : Option α) = _
    split <;> rfl
  | .node l v r, n, k => by
    by_cases h0 : n = 0
    · subst h0
      show (Mem.node l none r).get k = _
      by_cases hk : 0 = k
      · subst hk; rfl
      · rw [if_neg hk]
        cases k with
        | zero => exact absurd rfl hk
        | succ k => rfl
    · have e0 : Nat.beq n 0 = false := by cases n <;> first | omega | rfl
      by_cases h1 : n % 2 = 1
      · have e1 : Nat.beq (n % 2) 1 = true := by rw [h1]; rfl
        have hd : (Mem.node l v r).del n = .node (l.del (n / 2)) v r := by
          simp only [Mem.del, e0, e1, cond_false, cond_true]
        rw [hd]
        by_cases k0 : k = 0
        · subst k0; rw [if_neg h0]; rfl
        · have f0 : Nat.beq k 0 = false := by cases k <;> first | omega | rfl
          by_cases k1 : k % 2 = 1
          · have f1 : Nat.beq (k % 2) 1 = true := by rw [k1]; rfl
            simp only [Mem.get, f0, f1, cond_false, cond_true]
            have := Mem.get_del l (n / 2) (k / 2)
            simp only [Mem.get] at this
            rw [this]
            by_cases e : n = k
            · subst e; simp
            · rw [if_neg e, if_neg (by omega)]
          · have f1 : Nat.beq (k % 2) 1 = false := by have : k % 2 = 0 := by omega
                                                      rw [this]; rfl
            simp only [Mem.get, f0, f1, cond_false]
            rw [if_neg (by omega)]
      · have e1 : Nat.beq (n % 2) 1 = false := by have : n % 2 = 0 := by omega
                                                  rw [this]; rfl
        have hd : (Mem.node l v r).del n = .node l v (r.del (n / 2 - 1)) := by
          simp only [Mem.del, e0, e1, cond_false]
        rw [hd]
        by_cases k0 : k = 0
        · subst k0; rw [if_neg h0]; rfl
        · have f0 : Nat.beq k 0 = false := by cases k <;> first | omega | rfl
          by_cases k1 : k % 2 = 1
          · have f1 : Nat.beq (k % 2) 1 = true := by rw [k1]; rfl
            simp only [Mem.get, f0, f1, cond_false, cond_true]
            rw [if_neg (by omega)]
          · have f1 : Nat.beq (k % 2) 1 = false := by have : k % 2 = 0 := by omega
                                                      rw [this]; rfl
            simp only [Mem.get, f0, f1, cond_false]
            have := Mem.get_del r (n / 2 - 1) (k / 2 - 1)
            simp only [Mem.get] at this
            rw [this]
            by_cases e : n = k
            · subst e; simp
            · rw [if_neg e, if_neg (by omega)]

theorem clearF_n : ∀ (ds : List Nat) (fr : LFr), (clearF fr ds).n = fr.n
  | [], _ => rfl
  | d :: ds, fr => by rw [clearF, clearF_n ds]
theorem clearF_get : ∀ (ds : List Nat) (fr : LFr) {t : Nat} {v : LV}, (clearF fr ds).m.get t = some v → fr.m.get t = some v ∧ t ∉ ds
  | [], _, _, _, h => ⟨h, by simp⟩
  | d :: ds, fr, t, v, h => by
    rw [clearF] at h
    obtain ⟨h1, h2⟩ := clearF_get ds _ h
    simp only [Mem.get_del] at h1
    split at h1
    · cases h1
    · rename_i hne
      exact ⟨h1, by simp only [List.mem_cons, not_or]; exact ⟨Ne.symm hne, h2⟩⟩

theorem alikeF_n : ∀ (ds : List Nat) (fr a b : LFr), (alikeF fr a b ds).n = fr.n
  | [], _, _, _ => rfl
  | d :: ds, fr, a, b => by
    rw [alikeF]
    split
    · rename_i x y _ _
      cases x == y
      · exact alikeF_n ds _ _ _
      · exact alikeF_n ds _ _ _
    · exact alikeF_n ds _ _ _
theorem alikeF_get : ∀ (ds : List Nat) (fr a b : LFr) {t : Nat} {v : LV}, (alikeF fr a b ds).m.get t = some v →
    fr.m.get t = some v ∨ ∃ x, v = .bool x ∧ a.m.get t = some (.bool x) ∧ b.m.get t = some (.bool x)
  | [], _, _, _, _, _, h => Or.inl h
  | d :: ds, fr, a, b, t, v, h => by
    rw [alikeF] at h
    split at h
    · rename_i x y ha hb
      cases hxy : x == y with
      | false => rw [hxy] at h; exact alikeF_get ds fr a b h
      | true =>
        rw [hxy] at h
        simp only [cond_true] at h
        rcases alikeF_get ds _ a b h with e | e
        · simp only [Mem.get_set] at e
          by_cases hd : d = t
          · subst hd
            rw [if_pos rfl] at e
            simp only [Option.some.injEq] at e; subst e
            have : x = y := by simpa using hxy
            subst this
            exact Or.inr ⟨x, rfl, ha, hb⟩
          · rw [if_neg hd] at e; exact Or.inl e
        · exact Or.inr e
    · exact alikeF_get ds fr a b h

mutual
theorem VRel.back {inj inj' : Inj} (h : Ext inj inj') : ∀ {x : LV} {v u : Value}, VRel inj x v → VRel inj' x u → VRel inj x u
  | .bool _, _, _, _, e | .int _ _, _, _, _, e | .str _, _, _, _, e | .flt _ _, _, _, _, e | .nilp, _, _, _, e | .nilsl, _, _, _, e | .nilmap, _, _, _, e | .nilfn, _, _, _, e | .nilif, _, _, _, e => by
    simpa only [VRel] using e
  | .ptr b _, _, _, e0, e => by
    simp only [VRel] at e0 e ⊢
    obtain ⟨r0, hb0, _⟩ := e0
    obtain ⟨r, hb, hv⟩ := e
    refine ⟨r, ?_, hv⟩
    cases b with
    | base b => exact hb
    | own L =>
      obtain ⟨n0, h0⟩ := hb0
      obtain ⟨n, h1⟩ := hb
      have := h _ _ h0
      rw [h1] at this; simp only [Option.some.injEq, Prod.mk.injEq] at this
      obtain ⟨rfl, rfl⟩ := this
      exact ⟨_, h0⟩
  | .sl b _ _ _ _ _, _, _, e0, e => by
    simp only [VRel] at e0 e ⊢
    obtain ⟨r0, _, _, _, hb0, _⟩ := e0
    obtain ⟨r, o', c, hv, hb, ho, hc, hex, hl, hcap⟩ := e
    refine ⟨r, o', c, hv, ?_, ho, hc, hex, hl, fun L n hL hn => hcap L n hL (h _ _ hn)⟩
    cases b with
    | base b => exact hb
    | own L =>
      obtain ⟨n0, h0⟩ := hb0
      obtain ⟨n, h1⟩ := hb
      have := h _ _ h0
      rw [h1] at this; simp only [Option.some.injEq, Prod.mk.injEq] at this
      obtain ⟨rfl, rfl⟩ := this
      exact ⟨_, h0⟩
  | .map _, _, _, e0, e => by
    simp only [VRel] at e0 e ⊢
    obtain ⟨r0, n0, h0, _⟩ := e0
    obtain ⟨r, n, h1, hv⟩ := e
    have := h _ _ h0
    rw [h1] at this; simp only [Option.some.injEq, Prod.mk.injEq] at this
    obtain ⟨rfl, rfl⟩ := this
    exact ⟨_, _, h0, hv⟩
  | .fn _ _ _, _, _, e0, e => by
    simp only [VRel] at e0 e ⊢
    obtain ⟨_, _, _, g1, g2⟩ := e0
    obtain ⟨vs, cs, hv, h1, h2⟩ := e
    exact ⟨vs, cs, hv, VRels.back h g1 h1, VRels.back h g2 h2⟩
  | .agg _, _, _, e0, e => by
    simp only [VRel] at e0 e ⊢
    obtain ⟨_, _, g1⟩ := e0
    obtain ⟨vs, hv, h1⟩ := e
    exact ⟨vs, hv, VRels.back h g1 h1⟩
  | .tup _, _, _, e0, e => by
    simp only [VRel] at e0 e ⊢
    obtain ⟨_, _, g1⟩ := e0
    obtain ⟨vs, hv, h1⟩ := e
    exact ⟨vs, hv, VRels.back h g1 h1⟩
theorem VRels.back {inj inj' : Inj} (h : Ext inj inj') : ∀ {xs : List LV} {vs us : List Value}, VRels inj xs vs → VRels inj' xs us → VRels inj xs us
  | [], _, _, _, e => by simpa only [VRels] using e
  | _ :: _, _, _, e0, e => by
    simp only [VRels] at e0 e ⊢
    obtain ⟨_, _, _, g1, g2⟩ := e0
    obtain ⟨v, vs, hl, h1, h2⟩ := e
    exact ⟨v, vs, hl, VRel.back h g1 h1, VRels.back h g2 h2⟩
end

theorem walkOf_spec {c : Code} {x n t i : Nat} {b : Code} (h : walkOf c = some (x, n, t, i, b)) :
    ∃ rid ops o1 o2, c = .loop (.seq (.region rid ops false) (.seq (.cond (.tmp t) .skip (.exit i)) b)) ∧ ops.toList = [o1, o2] ∧
      o1.dst = some n ∧ o1.op = .next (.tmp x) false ∧ o1.guard = none ∧ o2.dst = some t ∧ o2.op = .extract (.tmp n) 0 ∧ o2.guard = none ∧ x ≠ n ∧ x ≠ t ∧ n ≠ t := by
  unfold walkOf at h
  split at h
  · rename_i rid ops c' i' b'
    split at h
    · rename_i n0 x0 ty p af c0 n' ty' p' af' hops
      cases hb : (Nat.beq c' c0 && (Nat.beq n0 n' && (!Nat.beq x0 n0 && (!Nat.beq x0 c' && !Nat.beq n0 c')))) with
      | false => rw [hb] at h; simp at h
      | true =>
        rw [hb] at h
        simp only [cond_true, Option.some.injEq, Prod.mk.injEq] at h
        obtain ⟨rfl, rfl, rfl, rfl, rfl⟩ := h
        simp only [Bool.and_eq_true, Bool.not_eq_true'] at hb
        obtain ⟨h1, h2, h3, h4, h5⟩ := hb
        have h1 := Nat.eq_of_beq_eq_true h1
        have h2 := Nat.eq_of_beq_eq_true h2
        subst h1; subst h2
        have ne : ∀ {a b : Nat}, Nat.beq a b = false → a ≠ b := fun {a b} h e => by subst e; simp at h
        exact ⟨rid, ops, _, _, rfl, hops, rfl, rfl, rfl, rfl, rfl, rfl, ne h3, ne h4, ne h5⟩
    · cases h
  · cases h
end Go.Proofs.Ytpkeggejofeeeaa.Lvm
