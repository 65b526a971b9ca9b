/- Laws of the small machine, of how it stands to the model, and of what functions come to on it; a helper of the statement: no statement is proved here. -/
import Derived.Test.YtpkeggejofeeeaaE
import Derived.Laws.IdiomRangeMap
import Derived.ChangeSame
set_option linter.unusedVariables false
namespace Go.Proofs.Ytpkeggejofeeeaa.Lvm

theorem Mem.get_del {α : Type} : ∀ (m : Mem α) (n k : Nat), (m.del n).get k = if n = k then none else m.get k
  | .leaf, n, k => by
    show (none : Option α) = _
    split <;> rfl
  | .node l v r, n, k => by
    by_cases h0 : n = 0
    · subst h0
      show (Mem.node l none r).get k = _
      by_cases hk : 0 = k
      · subst hk; rfl
      · rw [if_neg hk]
        cases k with
        | zero => exact absurd rfl hk
        | succ k => rfl
    · have e0 : Nat.beq n 0 = false := by cases n <;> first | omega | rfl
      by_cases h1 : n % 2 = 1
      · have e1 : Nat.beq (n % 2) 1 = true := by rw [h1]; rfl
        have hd : (Mem.node l v r).del n = .node (l.del (n / 2)) v r := by
          simp only [Mem.del, e0, e1, cond_false, cond_true]
        rw [hd]
        by_cases k0 : k = 0
        · subst k0; rw [if_neg h0]; rfl
        · have f0 : Nat.beq k 0 = false := by cases k <;> first | omega | rfl
          by_cases k1 : k % 2 = 1
          · have f1 : Nat.beq (k % 2) 1 = true := by rw [k1]; rfl
            simp only [Mem.get, f0, f1, cond_false, cond_true]
            have := Mem.get_del l (n / 2) (k / 2)
            simp only [Mem.get] at this
            rw [this]
            by_cases e : n = k
            · subst e; simp
            · rw [if_neg e, if_neg (by omega)]
          · have f1 : Nat.beq (k % 2) 1 = false := by have : k % 2 = 0 := by omega
                                                      rw [this]; rfl
            simp only [Mem.get, f0, f1, cond_false]
            rw [if_neg (by omega)]
      · have e1 : Nat.beq (n % 2) 1 = false := by have : n % 2 = 0 := by omega
                                                  rw [this]; rfl
        have hd : (Mem.node l v r).del n = .node l v (r.del (n / 2 - 1)) := by
          simp only [Mem.del, e0, e1, cond_false]
        rw [hd]
        by_cases k0 : k = 0
        · subst k0; rw [if_neg h0]; rfl
        · have f0 : Nat.beq k 0 = false := by cases k <;> first | omega | rfl
          by_cases k1 : k % 2 = 1
          · have f1 : Nat.beq (k % 2) 1 = true := by rw [k1]; rfl
            simp only [Mem.get, f0, f1, cond_false, cond_true]
            rw [if_neg (by omega)]
          · have f1 : Nat.beq (k % 2) 1 = false := by have : k % 2 = 0 := by omega
                                                      rw [this]; rfl
            simp only [Mem.get, f0, f1, cond_false]
            have := Mem.get_del r (n / 2 - 1) (k / 2 - 1)
            simp only [Mem.get] at this
            rw [this]
            by_cases e : n = k
            · subst e; simp
            · rw [if_neg e, if_neg (by omega)]

theorem clearF_n : ∀ (ds : List Nat) (fr : LFr), (clearF fr ds).n = fr.n
  | [], _ => rfl
  | d :: ds, fr => by rw [clearF, clearF_n ds]
theorem clearF_get : ∀ (ds : List Nat) (fr : LFr) {t : Nat} {v : LV}, (clearF fr ds).m.get t = some v → fr.m.get t = some v ∧ t ∉ ds
  | [], _, _, _, h => ⟨h, by simp⟩
  | d :: ds, fr, t, v, h => by
    rw [clearF] at h
    obtain ⟨h1, h2⟩ := clearF_get ds _ h
    simp only [Mem.get_del] at h1
    split at h1
    · cases h1
    · rename_i hne
      exact ⟨h1, by simp only [List.mem_cons, not_or]; exact ⟨Ne.symm hne, h2⟩⟩

theorem alikeF_n : ∀ (ds : List Nat) (fr a b : LFr), (alikeF fr a b ds).n = fr.n
  | [], _, _, _ => rfl
  | d :: ds, fr, a, b => by
    rw [alikeF]
    split
    · rename_i x y _ _
      cases x == y
      · exact alikeF_n ds _ _ _
      · exact alikeF_n ds _ _ _
    · exact alikeF_n ds _ _ _
theorem alikeF_get : ∀ (ds : List Nat) (fr a b : LFr) {t : Nat} {v : LV}, (alikeF fr a b ds).m.get t = some v →
    fr.m.get t = some v ∨ ∃ x, v = .bool x ∧ a.m.get t = some (.bool x) ∧ b.m.get t = some (.bool x)
  | [], _, _, _, _, _, h => Or.inl h
  | d :: ds, fr, a, b, t, v, h => by
    rw [alikeF] at h
    split at h
    · rename_i x y ha hb
      cases hxy : x == y with
      | false => rw [hxy] at h; exact alikeF_get ds fr a b h
      | true =>
        rw [hxy] at h
        simp only [cond_true] at h
        rcases alikeF_get ds _ a b h with e | e
        · simp only [Mem.get_set] at e
          by_cases hd : d = t
          · subst hd
            rw [if_pos rfl] at e
            simp only [Option.some.injEq] at e; subst e
            have : x = y := by simpa using hxy
            subst this
            exact Or.inr ⟨x, rfl, ha, hb⟩
          · rw [if_neg hd] at e; exact Or.inl e
        · exact Or.inr e
    · exact alikeF_get ds fr a b h

mutual
theorem VRel.back {inj inj' : Inj} (h : Ext inj inj') : ∀ {x : LV} {v u : Value}, VRel inj x v → VRel inj' x u → VRel inj x u
  | .bool _, _, _, _, e | .int _ _, _, _, _, e | .str _, _, _, _, e | .flt _ _, _, _, _, e | .nilp, _, _, _, e | .nilsl, _, _, _, e | .nilmap, _, _, _, e | .nilfn, _, _, _, e | .nilif, _, _, _, e => by
    simpa only [VRel] using e
  | .ptr b _, _, _, e0, e => by
    simp only [VRel] at e0 e ⊢
    obtain ⟨r0, hb0, _⟩ := e0
    obtain ⟨r, hb, hv⟩ := e
    refine ⟨r, ?_, hv⟩
    cases b with
    | base b => exact hb
    | own L =>
      obtain ⟨n0, h0⟩ := hb0
      obtain ⟨n, h1⟩ := hb
      have := h _ _ h0
      rw [h1] at this; simp only [Option.some.injEq, Prod.mk.injEq] at this
      obtain ⟨rfl, rfl⟩ := this
      exact ⟨_, h0⟩
  | .sl b _ _ _ _ _, _, _, e0, e => by
    simp only [VRel] at e0 e ⊢
    obtain ⟨r0, _, _, _, _, hb0, _⟩ := e0
    obtain ⟨r, o', c, sp, hv, hb, ho, hc, hex, hl, hcap⟩ := e
    refine ⟨r, o', c, sp, hv, ?_, ho, hc, hex, hl, fun L n hL hn => hcap L n hL (h _ _ hn)⟩
    cases b with
    | base b => exact hb
    | own L =>
      obtain ⟨n0, h0⟩ := hb0
      obtain ⟨n, h1⟩ := hb
      have := h _ _ h0
      rw [h1] at this; simp only [Option.some.injEq, Prod.mk.injEq] at this
      obtain ⟨rfl, rfl⟩ := this
      exact ⟨_, h0⟩
  | .map _, _, _, e0, e => by
    simp only [VRel] at e0 e ⊢
    obtain ⟨r0, n0, h0, _⟩ := e0
    obtain ⟨r, n, h1, hv⟩ := e
    have := h _ _ h0
    rw [h1] at this; simp only [Option.some.injEq, Prod.mk.injEq] at this
    obtain ⟨rfl, rfl⟩ := this
    exact ⟨_, _, h0, hv⟩
  | .fn _ _ _, _, _, e0, e => by
    simp only [VRel] at e0 e ⊢
    obtain ⟨_, _, _, g1, g2⟩ := e0
    obtain ⟨vs, cs, hv, h1, h2⟩ := e
    exact ⟨vs, cs, hv, VRels.back h g1 h1, VRels.back h g2 h2⟩
  | .agg _, _, _, e0, e => by
    simp only [VRel] at e0 e ⊢
    obtain ⟨_, _, g1⟩ := e0
    obtain ⟨vs, hv, h1⟩ := e
    exact ⟨vs, hv, VRels.back h g1 h1⟩
  | .tup _, _, _, e0, e => by
    simp only [VRel] at e0 e ⊢
    obtain ⟨_, _, g1⟩ := e0
    obtain ⟨vs, hv, h1⟩ := e
    exact ⟨vs, hv, VRels.back h g1 h1⟩
theorem VRels.back {inj inj' : Inj} (h : Ext inj inj') : ∀ {xs : List LV} {vs us : List Value}, VRels inj xs vs → VRels inj' xs us → VRels inj xs us
  | [], _, _, _, e => by simpa only [VRels] using e
  | _ :: _, _, _, e0, e => by
    simp only [VRels] at e0 e ⊢
    obtain ⟨_, _, _, g1, g2⟩ := e0
    obtain ⟨v, vs, hl, h1, h2⟩ := e
    exact ⟨v, vs, hl, VRel.back h g1 h1, VRels.back h g2 h2⟩
end

theorem walkOf_spec {c : Code} {x n t i : Nat} {b : Code} (h : walkOf c = some (x, n, t, i, b)) :
    ∃ rid ops o1 o2, c = .loop (.seq (.region rid ops false) (.seq (.cond (.tmp t) .skip (.exit i)) b)) ∧ ops.toList = [o1, o2] ∧
      o1.dst = some n ∧ o1.op = .next (.tmp x) false ∧ o1.guard = none ∧ o2.dst = some t ∧ o2.op = .extract (.tmp n) 0 ∧ o2.guard = none ∧ x ≠ n ∧ x ≠ t ∧ n ≠ t := by
  unfold walkOf at h
  split at h
  · rename_i rid ops c' i' b'
    split at h
    · rename_i n0 x0 ty p af c0 n' ty' p' af' hops
      cases hb : (Nat.beq c' c0 && (Nat.beq n0 n' && (!Nat.beq x0 n0 && (!Nat.beq x0 c' && !Nat.beq n0 c')))) with
      | false => rw [hb] at h; simp at h
      | true =>
        rw [hb] at h
        simp only [cond_true, Option.some.injEq, Prod.mk.injEq] at h
        obtain ⟨rfl, rfl, rfl, rfl, rfl⟩ := h
        simp only [Bool.and_eq_true, Bool.not_eq_true'] at hb
        obtain ⟨h1, h2, h3, h4, h5⟩ := hb
        have h1 := Nat.eq_of_beq_eq_true h1
        have h2 := Nat.eq_of_beq_eq_true h2
        subst h1; subst h2
        have ne : ∀ {a b : Nat}, Nat.beq a b = false → a ≠ b := fun {a b} h e => by subst e; simp at h
        exact ⟨rid, ops, _, _, rfl, hops, rfl, rfl, rfl, rfl, rfl, rfl, ne h3, ne h4, ne h5⟩
    · cases h
  · cases h
end Go.Proofs.Ytpkeggejofeeeaa.Lvm

namespace Go.Proofs.Ytpkeggejofeeeaa.Lvm

/-! ### which slots a code writes -/
def Untouched (ds : List Nat) (fr fr' : LFr) : Prop := fr'.n = fr.n ∧ ∀ t, t ∉ ds → fr'.m.get t = fr.m.get t

section
variable {E : Env} {lo : Nat} {cover : Bool} {st st' : LSt} {fr fr' fr'' : LFr} {v : LV} {call : CallFn} {ds ds' : List Nat}

theorem Untouched.refl : Untouched ds fr fr := ⟨rfl, fun _ _ => rfl⟩
theorem Untouched.trans (h : Untouched ds fr fr') (h' : Untouched ds fr' fr'') : Untouched ds fr fr'' :=
  ⟨h'.1.trans h.1, fun t ht => (h'.2 t ht).trans (h.2 t ht)⟩
theorem Untouched.sub (h : Untouched ds fr fr') (hs : ∀ t, t ∈ ds → t ∈ ds') : Untouched ds' fr fr' := ⟨h.1, fun t ht => h.2 t fun h => ht (hs t h)⟩

theorem dstsO_cons {x : Oper} {l : List Oper} : dstsO (x :: l) = (match x.dst with
    | some d => d :: dstsO l
    | none => dstsO l) := rfl
theorem dstsO_tail {x : Oper} {l : List Oper} {t : Nat} (h : t ∈ dstsO l) : t ∈ dstsO (x :: l) := by
  rw [dstsO_cons]
  cases x.dst with
  | none => exact h
  | some d => exact List.mem_cons_of_mem _ h
theorem dstsO_head {x : Oper} {l : List Oper} {d : Nat} (h : x.dst = some d) : d ∈ dstsO (x :: l) := by
  rw [dstsO_cons, h]; exact List.mem_cons_self ..

theorem vOpers_untouched {ops : List Oper} : ∀ (l : List Oper) (fr : LFr) (st : LSt), vOpers E call lo cover ops l fr st = some (fr', st') → Untouched (dstsO l) fr fr'
  | [], fr, st, h => by
    rw [vOpers_nil] at h; simp only [Option.some.injEq, Prod.mk.injEq] at h; obtain ⟨rfl, rfl⟩ := h; exact .refl
  | o :: os, fr, st, h => by
    rw [vOpers_cons] at h
    split at h
    · rename_i fr1 st1 h1
      have h2 := (vOpers_untouched os fr1 st1 h).sub (ds' := dstsO (o :: os)) fun t ht => dstsO_tail ht
      obtain ⟨v, ⟨_, hf⟩ | ⟨d, hd, _, hf⟩, _⟩ := vOper_tr h1
      · rw [hf] at h2; exact h2
      · have h3 : Untouched (dstsO (o :: os)) fr fr1 := by
          rw [hf]
          refine ⟨rfl, fun t ht => ?_⟩
          simp only [LFr.put, Mem.get_set]
          rw [if_neg]
          intro e
          subst e
          exact ht (dstsO_head hd)
        exact h3.trans h2
    · cases h

theorem lput2 {α : Type} {fr : LFr} {n : Nat} {v : LV} {k : LFr → Option α} {r : α} (h : lputK fr (some n) v k = some r) : n < fr.n ∧ k (fr.put n v) = some r := by
  rw [lputK_eq] at h
  simp only at h
  cases hb : Nat.blt n fr.n with
  | false => rw [hb] at h; simp at h
  | true => rw [hb] at h; exact ⟨blt_lt hb, h⟩

/-- One round's run. -/
def roundAt (rec : RecFn) (n c : Nat) (body : Code) (fr0 : LFr) (st : LSt) (L m len : Nat) (k v : LV) (i : Nat) : Option (LExit × LFr × LSt) :=
  rec st.nxt body ((fr0.put n (.tup [.bool true, k, v])).put c (.bool true)) { st with mem := st.mem.set L (.iter m len (some i)) }

/-- What the rounds of a walk come to. -/
theorem rounds_spec {rec : RecFn} {n c : Nat} {body : Code} {L m len : Nat} {fr0 : LFr} {ds : List Nat} : ∀ (es : List (LV × LV)) (i : Nat) (e r : WEnd), rounds rec n c body fr0 st L m len ds es i e = some r →
    (∀ frB, e = .back frB → ∃ frC, r = .back frC ∧ (frB.n = fr0.n → frC.n = fr0.n) ∧ ∀ t v, frC.m.get t = some v → fr0.m.get t = some v ∨ frB.m.get t = some v) ∧
    (∀ j k v, es[j]? = some (k, v) → ∃ ex fr' st', roundAt rec n c body fr0 st L m len k v (i + j) = some (ex, fr', st') ∧
      (ex = .normal ∨ (ex = .ret ∧ ∃ frC, r = .back frC ∧ frC.n = fr0.n ∧ ∀ t v, frC.m.get t = some v → fr0.m.get t = some v ∨ ∃ b, v = .bool b ∧ fr'.m.get t = some (.bool b)))) ∧
    (∀ frC, r = .back frC → (∃ frB, e = .back frB) ∨ ∃ j k v fr' st', es[j]? = some (k, v) ∧ roundAt rec n c body fr0 st L m len k v (i + j) = some (.ret, fr', st')) := by
  intro es
  induction es with
  | nil =>
    intro i e r h
    simp only [rounds, Option.some.injEq] at h
    subst h
    exact ⟨fun frB he => ⟨frB, he, id, fun t v hv => Or.inr hv⟩, fun j k v hj => by simp at hj, fun frC hr => Or.inl ⟨frC, hr⟩⟩
  | cons p es ih =>
    obtain ⟨k0, v0⟩ := p
    intro i e r h
    rw [rounds] at h
    have hstep : ∀ {y : LExit × LFr × LSt}, (lputK fr0 (some n) (.tup [.bool true, k0, v0]) fun fr1 => lputK fr1 (some c) (.bool true) fun fr2 =>
        match setObjK st L (.iter m len (some i)) with
        | some st1 => rec st.nxt body fr2 st1
        | none => none) = some y → roundAt rec n c body fr0 st L m len k0 v0 i = some y := by
      intro y hy
      obtain ⟨_, hy⟩ := lput2 hy
      obtain ⟨_, hy⟩ := lput2 hy
      simp only [setObjK_eq] at hy
      exact hy
    have tail : ∀ (e' : WEnd), rounds rec n c body fr0 st L m len ds es (i + 1) e' = some r → ∀ (ex : LExit) (fr' : LFr) (st' : LSt), roundAt rec n c body fr0 st L m len k0 v0 i = some (ex, fr', st') →
        (ex = .normal ∨ (ex = .ret ∧ ∃ frC, r = .back frC ∧ frC.n = fr0.n ∧ ∀ t v, frC.m.get t = some v → fr0.m.get t = some v ∨ ∃ b, v = .bool b ∧ fr'.m.get t = some (.bool b))) →
        ∀ j k v, ((k0, v0) :: es)[j]? = some (k, v) → ∃ ex fr' st', roundAt rec n c body fr0 st L m len k v (i + j) = some (ex, fr', st') ∧
          (ex = .normal ∨ (ex = .ret ∧ ∃ frC, r = .back frC ∧ frC.n = fr0.n ∧ ∀ t v, frC.m.get t = some v → fr0.m.get t = some v ∨ ∃ b, v = .bool b ∧ fr'.m.get t = some (.bool b))) := by
      intro e' he' ex fr' st' h0 h1 j k v hj
      cases j with
      | zero =>
        simp only [List.getElem?_cons_zero, Option.some.injEq, Prod.mk.injEq] at hj
        obtain ⟨rfl, rfl⟩ := hj
        exact ⟨ex, fr', st', h0, h1⟩
      | succ j =>
        simp only [List.getElem?_cons_succ] at hj
        obtain ⟨ex, fr', st', g1, g2⟩ := (ih _ _ _ he').2.1 j k v hj
        exact ⟨ex, fr', st', by rw [show i + (j + 1) = i + 1 + j by omega]; exact g1, g2⟩
    split at h
    · rename_i fr1 st1 hx
      have h0 := hstep hx
      have IH := ih _ _ _ h
      refine ⟨IH.1, tail e h _ _ _ h0 (Or.inl rfl), fun frC hr => ?_⟩
      rcases IH.2.2 frC hr with g | ⟨j, k, v, fr', st', g1, g2⟩
      · exact Or.inl g
      · exact Or.inr ⟨j + 1, k, v, fr', st', by simpa using g1, by rw [show i + (j + 1) = i + 1 + j by omega]; exact g2⟩
    · rename_i fr1 st1 hx
      have h0 := hstep hx
      split at h
      · -- the first that ends it
        have IH := ih _ _ _ h
        obtain ⟨frC, hr, hn, hC⟩ := IH.1 _ rfl
        refine ⟨fun frB he => (by cases he), tail _ h _ _ _ h0 (Or.inr ⟨rfl, frC, hr, hn (alikeF_n ..), fun t v hv => ?_⟩), fun _ _ => Or.inr ⟨0, k0, v0, fr1, st1, rfl, h0⟩⟩
        rcases hC t v hv with g | g
        · exact Or.inl g
        · rcases alikeF_get _ _ _ _ g with g | ⟨x, rfl, g1, _⟩
          · exact Or.inl g
          · exact Or.inr ⟨x, rfl, g1⟩
      · rename_i frB0
        have IH := ih _ _ _ h
        obtain ⟨frC, hr, hn, hC⟩ := IH.1 _ rfl
        refine ⟨fun frB he => ?_, tail _ h _ _ _ h0 (Or.inr ⟨rfl, frC, hr, hn (alikeF_n ..), fun t v hv => ?_⟩), fun _ _ => Or.inl ⟨_, rfl⟩⟩
        · simp only [WEnd.back.injEq] at he; subst he
          refine ⟨frC, hr, fun _ => hn (alikeF_n ..), fun t v hv => ?_⟩
          rcases hC t v hv with g | g
          · exact Or.inl g
          · rcases alikeF_get _ _ _ _ g with g | ⟨x, rfl, g1, _⟩
            · exact Or.inl g
            · exact Or.inr g1
        · rcases hC t v hv with g | g
          · exact Or.inl g
          · rcases alikeF_get _ _ _ _ g with g | ⟨x, rfl, _, g1⟩
            · exact Or.inl g
            · exact Or.inr ⟨x, rfl, g1⟩
    · cases h

/-- A walk writes only slots of its own. -/
theorem vwalk_untouched {rec : RecFn} {x n c i : Nat} {body b : Code} {ex : LExit} (hw : walkOf body = some (x, n, c, i, b)) (h : vwalk rec lo x n c b fr st = some (ex, fr', st')) : Untouched (dsts body) fr fr' := by
  obtain ⟨rid, ops, o1, o2, rfl, hops, h1, _, _, h2, _⟩ := walkOf_spec hw
  have hds : ∀ t, t ∈ n :: c :: dsts b → t ∈ dsts (.loop (.seq (.region rid ops false) (.seq (.cond (.tmp c) .skip (.exit i)) b))) := by
    intro t ht
    have e : dsts (.loop (.seq (.region rid ops false) (.seq (.cond (.tmp c) .skip (.exit i)) b))) = dstsO ops.toList ++ (([] ++ []) ++ dsts b) := rfl
    rw [e, hops]
    simp only [List.nil_append, List.mem_append]
    rcases List.mem_cons.1 ht with rfl | ht
    · exact Or.inl (dstsO_head h1)
    · rcases List.mem_cons.1 ht with rfl | ht
      · exact Or.inl (dstsO_tail (dstsO_head h2))
      · exact Or.inr ht
  have hclear : ∀ (ds : List Nat) (fr : LFr) (t : Nat), t ∉ ds → (clearF fr ds).m.get t = fr.m.get t := by
    intro ds
    induction ds with
    | nil => intro fr t _; rfl
    | cons d ds ih =>
      intro fr t ht
      simp only [List.mem_cons, not_or] at ht
      rw [clearF, ih _ _ ht.2]
      simp only [Mem.get_del]; rw [if_neg (Ne.symm ht.1)]
  have halike : ∀ (ds : List Nat) (fr a b : LFr) (t : Nat), t ∉ ds → (alikeF fr a b ds).m.get t = fr.m.get t := by
    intro ds
    induction ds with
    | nil => intro fr a b t _; rfl
    | cons d ds ih =>
      intro fr a b t ht
      simp only [List.mem_cons, not_or] at ht
      rw [alikeF]
      split
      · rename_i x y _ _
        cases x == y
        · exact ih _ _ _ _ ht.2
        · show (alikeF _ a b ds).m.get t = _
          rw [ih _ _ _ _ ht.2]
          simp only [Mem.get_set]; rw [if_neg (Ne.symm ht.1)]
      · exact ih _ _ _ _ ht.2
  have hback : ∀ (ds : List Nat) (fr0 : LFr) (L m len : Nat) (es : List (LV × LV)) (i : Nat) (e r : WEnd), rounds rec n c b fr0 st L m len ds es i e = some r →
      (∀ frB, e = .back frB → frB.n = fr0.n ∧ ∀ t, t ∉ ds → frB.m.get t = fr0.m.get t) → ∀ frB, r = .back frB → frB.n = fr0.n ∧ ∀ t, t ∉ ds → frB.m.get t = fr0.m.get t := by
    intro ds fr0 L m len es
    induction es with
    | nil => intro i e r h he; simp only [rounds, Option.some.injEq] at h; subst h; exact he
    | cons p es ih =>
      obtain ⟨k0, v0⟩ := p
      intro i e r h he
      rw [rounds] at h
      split at h
      · exact ih _ _ _ h he
      · split at h
        · exact ih _ _ _ h fun frB e => by
            simp only [WEnd.back.injEq] at e; subst e
            exact ⟨alikeF_n .., fun t ht => halike _ _ _ _ t ht⟩
        · exact ih _ _ _ h fun frB e => by
            simp only [WEnd.back.injEq] at e; subst e
            exact ⟨alikeF_n .., fun t ht => halike _ _ _ _ t ht⟩
      · cases h
  unfold vwalk at h
  split at h
  · rename_i L _
    generalize Nat.ble lo L = c1 at h
    cases c1 with
    | false => simp at h
    | true =>
      simp only [cond_true] at h
      split at h
      · rename_i m len hit
        split at h
        · rename_i kt es hes
          generalize (Nat.beq _ _ && _) = c0 at h
          cases c0 with
          | false => simp at h
          | true =>
            simp only [cond_true, setObjK_eq] at h
            split at h
            · simp only [Option.some.injEq, Prod.mk.injEq] at h
              obtain ⟨_, rfl, _⟩ := h
              exact Untouched.sub ⟨clearF_n _ _, fun t ht => hclear _ _ t ht⟩ hds
            · rename_i frB hr
              simp only [Option.some.injEq, Prod.mk.injEq] at h
              obtain ⟨_, rfl, _⟩ := h
              obtain ⟨g1, g2⟩ := hback _ _ _ _ _ _ _ _ _ hr (fun frB e => by cases e) frB rfl
              exact Untouched.sub ⟨g1.trans (clearF_n _ _), fun t ht => (g2 t ht).trans (hclear _ _ t ht)⟩ hds
            · cases h
        · cases h
      · cases h
  · cases h

theorem vcode_untouched : ∀ n lo c fr st ex fr' st', vcode E n lo c fr st = some (ex, fr', st') → Untouched (dsts c) fr fr'
  | 0 => by intro lo c fr st ex fr' st' h; change none = some _ at h; cases h
  | n + 1 => by
    have ih := vcode_untouched n
    intro lo c fr st ex fr' st' h
    change vstep E (vcode E n) lo c fr st = _ at h
    cases c <;> simp only [vstep, reduceCtorEq] at h
    case skip => simp only [Option.some.injEq, Prod.mk.injEq] at h; obtain ⟨_, rfl, _⟩ := h; exact .refl
    case label l => simp only [Option.some.injEq, Prod.mk.injEq] at h; obtain ⟨_, rfl, _⟩ := h; exact .refl
    case exit id => simp only [Option.some.injEq, Prod.mk.injEq] at h; obtain ⟨_, rfl, _⟩ := h; exact .refl
    case ret => simp only [Option.some.injEq, Prod.mk.injEq] at h; obtain ⟨_, rfl, _⟩ := h; exact .refl
    case region id ops draw =>
      split at h
      · rename_i fr1 st1 h1
        simp only [Option.some.injEq, Prod.mk.injEq] at h
        obtain ⟨_, rfl, rfl⟩ := h
        unfold vregion at h1
        cases draw with
        | true =>
          simp only [cond_true] at h1
          cases hd : drawOk ops with
          | false => rw [hd] at h1; simp at h1
          | true => rw [hd] at h1; simp only [cond_true] at h1; exact vOpers_untouched _ _ _ h1
        | false => simp only [cond_false] at h1; exact vOpers_untouched _ _ _ h1
      · cases h
    case seq x y =>
      have hx : ∀ t, t ∈ dsts x → t ∈ dsts (.seq x y) := fun t ht => List.mem_append.2 (Or.inl ht)
      have hy : ∀ t, t ∈ dsts y → t ∈ dsts (.seq x y) := fun t ht => List.mem_append.2 (Or.inr ht)
      split at h
      · rename_i fr1 st1 h1
        exact ((ih _ _ _ _ _ _ _ h1).sub hx).trans ((ih _ _ _ _ _ _ _ h).sub hy)
      · exact (ih _ _ _ _ _ _ _ h).sub hx
    case cond x y z =>
      have hy : ∀ t, t ∈ dsts y → t ∈ dsts (.cond x y z) := fun t ht => List.mem_append.2 (Or.inl ht)
      have hz : ∀ t, t ∈ dsts z → t ∈ dsts (.cond x y z) := fun t ht => List.mem_append.2 (Or.inr ht)
      split at h
      · rename_i t _
        cases t with
        | true => exact (ih _ _ _ _ _ _ _ h).sub hy
        | false => exact (ih _ _ _ _ _ _ _ h).sub hz
      · cases h
    case block id body =>
      have hb : ∀ t, t ∈ dsts body → t ∈ dsts (.block id body) := fun t ht => ht
      cases hwk : walkOf body with
      | some p =>
        obtain ⟨x, t, c, i, b⟩ := p
        rw [hwk] at h
        simp only at h
        generalize Nat.beq i id = c0 at h
        cases c0 with
        | false => simp at h
        | true => exact (vwalk_untouched hwk h).sub hb
      | none =>
        rw [hwk] at h
        simp only at h
        split at h
        · rename_i i fr1 st1 h1
          have e := (ih _ _ _ _ _ _ _ h1).sub hb
          cases hb : Nat.beq i id with
          | true => rw [hb] at h; simp only [cond_true, Option.some.injEq, Prod.mk.injEq] at h; obtain ⟨_, rfl, rfl⟩ := h; exact e
          | false => rw [hb] at h; simp only [cond_false, Option.some.injEq, Prod.mk.injEq] at h; obtain ⟨_, rfl, rfl⟩ := h; exact e
        · exact (ih _ _ _ _ _ _ _ h).sub hb
    case loop body =>
      have hb : ∀ t, t ∈ dsts body → t ∈ dsts (.loop body) := fun t ht => ht
      split at h
      · rename_i fr1 st1 h1
        have e := (ih _ _ _ _ _ _ _ h1).sub hb
        exact e.trans (ih _ _ _ _ _ _ _ h)
      · exact (ih _ _ _ _ _ _ _ h).sub hb
end
end Go.Proofs.Ytpkeggejofeeeaa.Lvm

namespace Go.Proofs.Ytpkeggejofeeeaa.Lvm

theorem next_ok {P : Program} {w : World} {ri rm len : Nat} {c : Array MapEntry} {seen : Array Nat} (hi : w.heap[ri]? = some (.mapIter (some rm) len seen len)) (hm : w.heap[rm]? = some (.map c len))
    (hborn : ∀ (i : Nat) (e : MapEntry), c.toList[i]? = some e → e.born = i) (hlen : c.size = len) (ty : TypeId) :
    ((∀ i, i < len → i ∈ seen) ∧ (Instr.next (.pointer (some ⟨ri, 0, none⟩)) false ty).run P w = .ok (.tuple #[.bool false]) w) ∨
    ∃ (i : Nat) (e : MapEntry) (w1 : World), c.toList[i]? = some e ∧ i ∉ seen ∧ w1.heap = w.heap ∧ Alike3 w w1 ∧
      (Instr.next (.pointer (some ⟨ri, 0, none⟩)) false ty).run P w = .ok (.tuple #[.bool true, e.key, e.val]) { w1 with heap := w.heap.setIfInBounds ri (.mapIter (some rm) len (seen.push i) len) } := by
  have hold : ∀ x ∈ c.toList, x.born < len := fun x hx => by
    obtain ⟨i, hlt, hxi⟩ := List.getElem_of_mem hx
    have := hborn i x (by rw [List.getElem?_eq_getElem hlt, hxi])
    simp at hlt
    omega
  have h1 : ∀ {α : Type} (K : Obj → Sem α), (getObj ri >>= K).run P w = (K (.mapIter (some rm) len seen len)).run P w := fun K => by
    simp [getObj, Sem.run_bind, Sem.run, hi, Result.andThen]
  have h2 : ∀ {α : Type} (K : Obj → Sem α), (getObj rm >>= K).run P w = (K (.map c len)).run P w := fun K => by
    simp [getObj, Sem.run_bind, Sem.run, hm, Result.andThen]
  simp only [Instr.next, h1, h2, next_test_false seen c len len hold (Nat.le_refl _), Bool.false_eq_true, if_false]
  have hmem : ∀ x ∈ (Array.filter (fun e => !seen.contains e.born) c).toList, x.born < len := fun x hx => hold x (by simp at hx ⊢; exact hx.1)
  have hin : ∀ x ∈ (Array.filter (fun e => !seen.contains e.born) c).toList, x ∈ c.toList ∧ x.born ∉ seen := fun x hx => by simpa using hx
  have hout : ∀ x ∈ c.toList, x.born ∉ seen → x ∈ (Array.filter (fun e => !seen.contains e.born) c).toList := fun x hx hs => by simpa using ⟨by simpa using hx, hs⟩
  generalize Array.filter (fun e => !seen.contains e.born) c = L at hmem hin hout ⊢
  have e1 : L.filter (fun x => decide (x.born < len)) = L := Array.filter_eq_self.2 (fun x hx => by simpa using hmem x (by simpa using hx))
  have e2 : L.filter (fun x => decide (x.born ≥ len)) = #[] := by
    rw [Array.filter_eq_empty_iff]
    intro x hx
    have := hmem x (by simpa using hx)
    simp
    omega
  simp only [e1, e2, Array.append_empty]
  by_cases h0 : L.size = 0
  · left
    have hL : L = #[] := Array.eq_empty_of_size_eq_zero h0
    refine ⟨fun i hi' => Classical.byContradiction fun hs => ?_, ?_⟩
    · have hlt : i < c.toList.length := by simp; omega
      have hb := hborn i c.toList[i] (List.getElem?_eq_getElem hlt)
      have := hout c.toList[i] (List.getElem_mem hlt) (by rw [hb]; exact hs)
      rw [hL] at this; simp at this
    · subst hL
      simp [choose, Sem.run, Question.forced]
  · right
    have hne : L.isEmpty = false := by simp [Array.isEmpty, h0]
    simp only [hne, Bool.false_eq_true, if_false, Array.empty_append, Array.size_map]
    have hch : ∃ (j : Nat) (w1 : World), j < L.size ∧ w1.heap = w.heap ∧ Alike3 w w1 ∧ (choose (Question.mapNext L.size)).run P w = .ok j w1 := by
      by_cases hf : L.size ≤ 1
      · exact ⟨0, w, by omega, rfl, ⟨rfl, rfl, rfl⟩, by simp [choose, Sem.run, Question.forced, hf]⟩
      · exact ⟨_, w.drew, Nat.mod_lt _ (by omega), rfl, ⟨rfl, rfl, rfl⟩, by
          simp only [choose, Sem.run, Question.forced, decide_eq_true_eq, hf, if_false, Question.cut]
          rfl⟩
    obtain ⟨j, w1, hj, hh, hal, hrun⟩ := hch
    obtain ⟨g1, g2⟩ := hin L[j] (by simp)
    obtain ⟨i, hlt, hxi⟩ := List.getElem_of_mem g1
    have hb := hborn i L[j] (by rw [List.getElem?_eq_getElem hlt, hxi])
    refine ⟨i, L[j], w1, by rw [List.getElem?_eq_getElem hlt, hxi], by rw [← hb]; exact g2, hh, hal, ?_⟩
    have hset : ∀ (o' : Obj), (setObj ri o').run P w1 = .ok () { w1 with heap := w.heap.setIfInBounds ri o' } := fun o' => by
      simp only [setObj, Sem.run, hh, hi]
    simp only [Sem.run_bind, hrun, Result.andThen_ok, Array.getElem?_map, Array.getElem?_eq_getElem hj, Option.map_some, hset, hb]
    rfl

section
variable {E : Env} {B lo : Nat} {inj : Inj} {st : LSt} {w w' : World}

/-- One block's object is another; all else that was there stands. -/
theorem Rel.shift (hr : Rel E B inj st w) {L : Nat} {q : Nat × Nat} {o : LObj} (h2 : inj L = some q) (hl : live st L) (hs : w.heap.size ≤ w'.heap.size)
    (hk : ∀ b, b < w.heap.size → b ≠ q.1 → w'.heap[b]? = w.heap[b]?) (h10 : ORel E inj o w'.heap[q.1]? q.2) : Rel E B inj { st with mem := st.mem.set L o } w' := by
  have hm := hr.toEmb
  have hd := hm.dom L q h2
  have hlv : ∀ {L'}, live { st with mem := st.mem.set L o } L' → live st L' := fun {L'} ⟨x, hx, hxd⟩ => by
    simp only [Mem.get_set] at hx
    by_cases e : L = L'
    · subst e; exact hl
    · rw [if_neg e] at hx; exact ⟨x, hx, hxd⟩
  refine ⟨⟨?_, ?_, ?_, ?_, ?_⟩, fun L' hL' => hr.full L' (hlv hL'), fun A A' p p' a1 a2 => hr.uniq A A' p p' (hlv a1) (hlv a2)⟩
  · intro L' q' hq; have := hm.dom L' q' hq; exact ⟨this.1, this.2.1, by omega⟩
  · intro L' q' o' hq ho'
    simp only [Mem.get_set] at ho'
    by_cases e : L = L'
    · subst e
      rw [if_pos rfl] at ho'
      rw [h2] at hq; simp only [Option.some.injEq] at hq ho'; subst hq; subst ho'
      exact h10
    · rw [if_neg e] at ho'
      by_cases hdd : o' = .dead
      · subst hdd; trivial
      · have hne : q'.1 ≠ q.1 := fun e' => e (hr.uniq L L' q q' hl ⟨o', ho', hdd⟩ h2 hq e'.symm)
        rw [hk _ (hm.dom L' q' hq).2.2 hne]
        exact hm.obj L' q' o' hq ho'
  · intro L' hL'
    have hL' : st.nxt ≤ L' := hL'
    simp only [Mem.get_set]
    rw [if_neg (by omega)]; exact hm.new L' hL'
  · intro r o' v hv
    exact base_keep hm (Ext.refl _) (fun b hb => hk b (by have := hm.low; omega) (by omega)) hv
  · have := hm.low; omega
end
end Go.Proofs.Ytpkeggejofeeeaa.Lvm

namespace Go.Proofs.Ytpkeggejofeeeaa.Lvm

section
variable {E : Env} {B : Nat}

theorem FRel.putNone {inj : Inj} {fr : LFr} {a : Act} (hf : FRel inj fr a.tmps) {d : Nat} (hd : fr.m.get d = none) (u : Value) : FRel inj fr (a.put (some d) u).tmps := by
  refine ⟨by simp [Act.put, hf.1], fun i v hv => ?_⟩
  have hne : d ≠ i := by rintro rfl; rw [hd] at hv; cases hv
  have := hf.2 i v hv
  simpa only [Act.put, Array.getD_eq_getD_getElem?, Array.getElem?_setIfInBounds_ne hne] using this

theorem eval_put {a : Act} {d : Nat} {u : Value} (h : d < a.tmps.size) : (a.put (some d) u).eval (.tmp d) = u := by
  simp [Act.eval, Act.put, h]

theorem put_size {a : Act} {d : Option Tmp} {u : Value} : (a.put d u).tmps.size = a.tmps.size := by cases d <;> simp [Act.put]

theorem walk_sound : WalkSound E B := by
  intro n hrec lo id body x t c b fr st ex fr' st' hw h inj w a hr hlo hf hd Q hQ
  obtain ⟨rid, ops, o1, o2, rfl, hops, hd1, hop1, hg1, hd2, hop2, hg2, hxt, hxc, htc⟩ := walkOf_spec hw
  have hsz : ops.size = 2 := by rw [← Array.length_toList, hops]; rfl
  have ho1 : ops[0]? = some o1 := by rw [← Array.getElem?_toList, hops]; rfl
  have ho2 : ops[1]? = some o2 := by rw [← Array.getElem?_toList, hops]; rfl
  unfold vwalk at h
  have hfr0 : FRel inj (clearF fr (t :: c :: dsts b)) a.tmps := ⟨by rw [clearF_n]; exact hf.1, fun i v hv => hf.2 i v (clearF_get _ _ hv).1⟩
  have hcl : ∀ d, d ∈ t :: c :: dsts b → (clearF fr (t :: c :: dsts b)).m.get d = none := fun d hd => by
    cases hg : (clearF fr (t :: c :: dsts b)).m.get d with
    | none => rfl
    | some v => exact absurd hd (clearF_get _ _ hg).2
  have hfn : (clearF fr (t :: c :: dsts b)).n = fr.n := clearF_n _ _
  split at h
  · rename_i L hxg
    cases hLo : Nat.ble lo L with
    | false => rw [hLo] at h; simp at h
    | true =>
      rw [hLo] at h; simp only [cond_true] at h
      have hLo := Nat.le_of_ble_eq_true hLo
      split at h
      · rename_i m len hit
        split at h
        · rename_i kt es hes
          cases hc0 : (Nat.beq es.length len && (Nat.blt t fr.n && Nat.blt c fr.n)) with
          | false => rw [hc0] at h; simp at h
          | true =>
            rw [hc0] at h
            simp only [cond_true, setObjK_eq] at h
            simp only [Bool.and_eq_true] at hc0
            have hlen := Nat.eq_of_beq_eq_true hc0.1
            have htn := blt_lt hc0.2.1
            have hcn := blt_lt hc0.2.2
            generalize hF : clearF fr (t :: c :: dsts b) = fr0 at *
            -- the iterator and the map, in the model
            have hxv := hfr0.2 x _ hxg
            simp only [VRel] at hxv
            obtain ⟨ri, ⟨n0, hqL⟩, _⟩ := hxv
            obtain ⟨rm, cm, seen0, hqm, hiw, hs0⟩ := hr.obj _ _ _ hqL hit
            simp only at hs0 hiw
            subst hs0
            obtain ⟨cc, clk, hmw, hers, hkeys, hclk, hborn⟩ := hr.obj _ _ _ hqm hes
            simp only at hmw
            have hcl2 := hers.length
            simp only [Array.length_toList] at hcl2
            have hlv : live st L := ⟨_, hit, by simp⟩
            have hrim : ri ≠ rm := by rintro rfl; rw [hiw] at hmw; cases hmw
            have hrisz : ri < w.heap.size := (hr.dom L _ hqL).2.2
            have hrmsz : rm < w.heap.size := (hr.dom m _ hqm).2.2
            cases hR : rounds (vcode E n) t c b fr0 st L m len (t :: c :: dsts b) es 0 .on with
            | none => rw [hR] at h; cases h
            | some r =>
              obtain ⟨_, hB, hC⟩ := rounds_spec es 0 .on r hR
              have hres : (r = .on → ex = .normal ∧ fr' = fr0 ∧ st' = { st with mem := st.mem.set L .dead }) ∧ (∀ frC, r = .back frC → ex = .ret ∧ fr' = frC ∧ st' = { st with mem := st.mem.set L .dead }) := by
                rw [hR] at h
                cases r with
                | on =>
                  simp only [Option.some.injEq, Prod.mk.injEq] at h
                  obtain ⟨rfl, rfl, rfl⟩ := h
                  exact ⟨fun _ => ⟨rfl, rfl, rfl⟩, fun _ h => (by cases h)⟩
                | back frC =>
                  simp only [Option.some.injEq, Prod.mk.injEq] at h
                  obtain ⟨rfl, rfl, rfl⟩ := h
                  exact ⟨fun h => (by cases h), fun _ h => (by cases h; exact ⟨rfl, rfl, rfl⟩)⟩
              -- the ending
              have hend : ∀ (w1 : World), w.heap.size ≤ w1.heap.size → (∀ b, b < w.heap.size → b ≠ ri → w1.heap[b]? = w.heap[b]?) → Alike3 w w1 →
                  Step lo inj st w inj { st with mem := st.mem.set L .dead } w1 ∧ Rel E B inj { st with mem := st.mem.set L .dead } w1 := fun w1 h1 h2 h3 => by
                refine ⟨⟨fun _ _ => rfl, Nat.le_refl _, h1, fun b hb hp => h2 b hb fun e => hp L _ hLo hlv hqL e.symm, fun L' q' hL' hl' hq' => Or.inr ⟨L', q', hL', ?_, hq', rfl⟩, fun L' hL' => ?_, h3⟩, hr.shift hqL hlv h1 h2 trivial⟩
                · obtain ⟨y, hy, hyd⟩ := hl'
                  simp only [Mem.get_set] at hy
                  by_cases e : L = L'
                  · subst e; exact hlv
                  · rw [if_neg e] at hy; exact ⟨y, hy, hyd⟩
                · simp only [Mem.get_set]; rw [if_neg (by omega)]
              refine wp_block (wp_loop_rounds (len + 1) ?_)
              have round : ∀ (next : Act → World → Prop) (left : List Nat) (seen : Array Nat) (w1 : World) (a1 : Act), (∀ i, i < len → i ∉ seen → i ∈ left) →
                  w.heap.size ≤ w1.heap.size → (∀ b, b < w.heap.size → b ≠ ri → w1.heap[b]? = w.heap[b]?) → w1.heap[ri]? = some (.mapIter (some rm) len seen len) → Alike3 w w1 →
                  FRel inj fr0 a1.tmps → a1.defers = [] →
                  (∀ i, i ∈ seen → ∃ k v fr' st', es[i]? = some (k, v) ∧ roundAt (vcode E n) t c b fr0 st L m len k v i = some (.normal, fr', st')) →
                  (∀ (i : Nat) (w2 : World) (a2 : Act), i ∈ left → i < len → w.heap.size ≤ w2.heap.size → (∀ b, b < w.heap.size → b ≠ ri → w2.heap[b]? = w.heap[b]?) → w2.heap[ri]? = some (.mapIter (some rm) len (seen.push i) len) → Alike3 w w2 →
                    FRel inj fr0 a2.tmps → a2.defers = [] → (∃ k v fr' st', es[i]? = some (k, v) ∧ roundAt (vcode E n) t c b fr0 st L m len k v i = some (.normal, fr', st')) → next a2 w2) →
                  (Code.seq (.region rid ops false) (.seq (.cond (.tmp c) .skip (.exit id)) b)).wp E.P (Exit.then next (Exit.inBlock id Q)) a1 w1 := by
                intro next left seen w1 a1 hleft hsz1 hk1 hit1 hal1 hF1 hd1' hseen hnext
                have hts : a1.tmps.size = fr.n := by rw [hF1.1, hfn]
                have hx1 : a1.eval (.tmp x) = .pointer (some ⟨ri, 0, none⟩) := by
                  have := hF1.2 x _ hxg
                  simp only [VRel] at this
                  obtain ⟨r', ⟨n', hq'⟩, hv'⟩ := this
                  rw [hqL] at hq'
                  simp only [Option.some.injEq, Prod.mk.injEq] at hq'
                  obtain ⟨rfl, _⟩ := hq'
                  exact hv'
                have hm1 : w1.heap[rm]? = some (.map cc len) := by rw [hk1 rm hrmsz (Ne.symm hrim), hmw, hclk, hlen]
                refine wp_seq (wp_region ?_)
                have hrange : List.range ops.size = [0, 1] := by rw [hsz]; rfl
                rw [hrange, wpOps_cons]
                have go : ∀ (u : Value) (b0 : Bool) (w2 : World), (Instr.next (.pointer (some ⟨ri, 0, none⟩)) false o1.type).run E.P w1 = .ok u w2 → (∃ vs : Array Value, u = .tuple vs ∧ vs[0]? = some (.bool b0)) →
                    (Code.seq (.cond (.tmp c) .skip (.exit id)) b).wp E.P (Exit.then next (Exit.inBlock id Q)) ((a1.put (some t) u).put (some c) (.bool b0)) w2 →
                    wpOp E.P ops (Exit.then ((Code.seq (.cond (.tmp c) .skip (.exit id)) b).wp E.P (Exit.then next (Exit.inBlock id Q))) (Exit.then next (Exit.inBlock id Q))) 0
                      (wpOps E.P ops (Exit.then ((Code.seq (.cond (.tmp c) .skip (.exit id)) b).wp E.P (Exit.then next (Exit.inBlock id Q))) (Exit.then next (Exit.inBlock id Q))) [1]) a1 w1 := by
                  intro u b0 w2 hrun ⟨vs, hu, hvs⟩ hK
                  subst hu
                  unfold wpOp
                  simp only [ho1, Region.wanted, hg1, if_true]
                  left
                  refine wp_next (n := .value (.tuple vs)) (u := .tuple vs) (Or.inl rfl) (w' := w2) ?_ ?_
                  · simp only [execOp, hop1, hx1, Sem.run_bind, hrun, Result.andThen_ok, Sem.run_pure]
                  · rw [wpOps_cons]
                    unfold wpOp
                    simp only [ho2, Region.wanted, hg2, if_true]
                    left
                    rw [hd1]
                    have he : (a1.put (some t) (.tuple vs)).eval (.tmp t) = .tuple vs := eval_put (by rw [hts]; exact htn)
                    refine wp_next (n := .value (.bool b0)) (u := .bool b0) (Or.inl rfl) (w' := w2) ?_ ?_
                    · simp only [execOp, hop2, he, Instr.extract, hvs, Sem.run_bind, Sem.run_pure, Result.andThen_ok]
                    · rw [hd2]; exact hK
                have hcs : ∀ (u : Value) (b0 : Bool), ((a1.put (some t) u).put (some c) (.bool b0)).eval (.tmp c) = .bool b0 := fun u b0 => eval_put (by rw [put_size, hts]; exact hcn)
                rcases next_ok (P := E.P) hit1 hm1 hborn (by omega) o1.type with ⟨hall, hrun⟩ | ⟨i, e, w2, he, hni, hh2, hal2, hrun⟩
                · -- over
                  refine go _ false w1 hrun ⟨_, rfl, rfl⟩ (wp_seq (wp_cond_false (hcs _ _) (wp_exit ?_)))
                  have hr_on : r = .on := by
                    cases r with
                    | on => rfl
                    | back frC =>
                      rcases hC frC rfl with ⟨_, hbad⟩ | ⟨j, k, v, fr1, st1, g1, g2⟩
                      · cases hbad
                      · have hj : j < len := by
                          have := (List.getElem?_eq_some_iff.1 g1).1; omega
                        obtain ⟨k', v', fr1', st1', g3, g4⟩ := hseen j (hall j hj)
                        rw [g1] at g3; simp only [Option.some.injEq, Prod.mk.injEq] at g3
                        obtain ⟨rfl, rfl⟩ := g3
                        rw [Nat.zero_add] at g2
                        rw [g2] at g4; simp at g4
                  obtain ⟨rfl, rfl, rfl⟩ := hres.1 hr_on
                  obtain ⟨k1, k2⟩ := hend w1 hsz1 hk1 hal1
                  have := hQ inj ((a1.put (some t) (.tuple #[.bool false])).put (some c) (.bool false)) w1 k1 k2 ((hF1.putNone (hcl t (by simp)) _).putNone (hcl c (by simp)) _) (by rw [put_defers, put_defers]; exact hd1')
                  simpa [Exit.then, Exit.inBlock, LExit.to] using this
                · -- one more
                  have hilt : i < len := by
                    have := (List.getElem?_eq_some_iff.1 he).1
                    simp at this; omega
                  obtain ⟨⟨k, v⟩, hkv⟩ : ∃ p, es[i]? = some p := ⟨es[i]'(by omega), List.getElem?_eq_getElem _⟩
                  obtain ⟨e', he', hke, hve⟩ := hers.get? hkv
                  rw [he] at he'; simp only [Option.some.injEq] at he'; subst he'
                  refine go _ true _ hrun ⟨_, rfl, rfl⟩ (wp_seq (wp_cond_true (hcs _ _) (wp_skip ?_)))
                  show b.wp E.P (Exit.then next (Exit.inBlock id Q)) _ _
                  generalize hw3 : ({ w2 with heap := w1.heap.setIfInBounds ri (.mapIter (some rm) len (seen.push i) len) } : World) = w3
                  have hh3 : w3.heap = w1.heap.setIfInBounds ri (.mapIter (some rm) len (seen.push i) len) := by rw [← hw3]
                  have hal3 : Alike3 w w3 := by rw [← hw3]; exact ⟨hal2.os.trans hal1.os, hal2.tape.trans hal1.tape, hal2.output.trans hal1.output⟩
                  have hsz3 : w3.heap.size = w1.heap.size := by rw [hh3]; simp
                  have hit3 : w3.heap[ri]? = some (.mapIter (some rm) len (seen.push i) len) := set_new hh3 (by omega)
                  have hk3 : ∀ b, b < w.heap.size → b ≠ ri → w3.heap[b]? = w.heap[b]? := fun b hb hne => by rw [set_old hh3 (Ne.symm hne)]; exact hk1 b hb hne
                  have hrel := hr.shift (w' := w3) (o := .iter m len (some i)) hqL hlv (by omega) hk3 ⟨rm, cm, seen.push i, hqm, hit3, by simp⟩
                  obtain ⟨exi, fri, sti, hround, hor⟩ := hB i k v hkv
                  rw [Nat.zero_add] at hround
                  have hfr2 : FRel inj ((fr0.put t (.tup [.bool true, k, v])).put c (.bool true)) ((a1.put (some t) (.tuple #[.bool true, e.key, e.val])).put (some c) (.bool true)).tmps := by
                    refine FRel.put (FRel.put hF1 ?_ t (by rw [hfn]; exact htn)) (by simp only [VRel]) c (by simp only [LFr.put]; rw [hfn]; exact hcn)
                    simp only [VRel]
                    exact ⟨_, rfl, by simpa using VRels.cons (by simp only [VRel]) (VRels.cons hke (VRels.cons hve VRels.nil))⟩
                  have hunt := vcode_untouched n _ _ _ _ _ _ _ hround
                  refine hrec st.nxt b _ _ exi fri sti hround inj w3 _ hrel (Nat.le_refl _) hfr2 (by rw [put_defers, put_defers]; exact hd1') _ fun inj' a' w' hs' hr' hf' hd' => ?_
                  have hkeep : ∀ b, b < w3.heap.size → w'.heap[b]? = w3.heap[b]? := fun b hb => hs'.keep b hb fun L' q' hL' hl' hq' => by
                    obtain ⟨y, hy, hyd⟩ := hl'
                    have := hrel.new L' hL'
                    rw [this] at hy; cases hy
                  have hx' : Ext inj inj' := hs'.toExt hrel.toEmb
                  have hsz' : w.heap.size ≤ w'.heap.size := by have := hs'.size; omega
                  have hk' : ∀ b, b < w.heap.size → b ≠ ri → w'.heap[b]? = w.heap[b]? := fun b hb hne => by rw [hkeep b (by omega)]; exact hk3 b hb hne
                  have hal' : Alike3 w w' := ⟨hs'.al.os.trans hal3.os, hs'.al.tape.trans hal3.tape, hs'.al.output.trans hal3.output⟩
                  have hF' : FRel inj fr0 a'.tmps := by
                    refine ⟨by rw [hf'.1, hunt.1]; rfl, fun d y hy => ?_⟩
                    have hnd : d ∉ t :: c :: dsts b := fun hmem => by rw [hcl d hmem] at hy; cases hy
                    simp only [List.mem_cons, not_or] at hnd
                    have h1 : fri.m.get d = some y := by
                      rw [hunt.2 d hnd.2.2]
                      simp only [LFr.put, Mem.get_set]
                      rw [if_neg (Ne.symm hnd.2.1), if_neg (Ne.symm hnd.1)]
                      exact hy
                    exact VRel.back hx' (hF1.2 d y hy) (hf'.2 d y h1)
                  rcases hor with rfl | ⟨rfl, frC, hrC, hnC, hC'⟩
                  · exact hnext i w' a' (hleft i hilt hni) hilt hsz' hk' (by rw [hkeep ri (by omega)]; exact hit3) hal' hF' hd' ⟨k, v, fri, sti, hkv, hround⟩
                  · obtain ⟨rfl, rfl, rfl⟩ := hres.2 frC hrC
                    obtain ⟨k1, k2⟩ := hend w' hsz' hk' hal'
                    have hfin : FRel inj fr' a'.tmps := by
                      refine ⟨by rw [hF'.1, hnC], fun d y hy => ?_⟩
                      rcases hC' d y hy with g | ⟨b0, rfl, g⟩
                      · exact hF'.2 d y g
                      · have := hf'.2 d _ g
                        simp only [VRel] at this ⊢
                        exact this
                    have := hQ inj a' w' k1 k2 hfin hd'
                    simpa [Exit.then, Exit.inBlock, LExit.to] using this
              have key : ∀ (k : Nat) (left : List Nat) (seen : Array Nat) (w1 : World) (a1 : Act), left.length ≤ k → (∀ i, i < len → i ∉ seen → i ∈ left) →
                  w.heap.size ≤ w1.heap.size → (∀ b, b < w.heap.size → b ≠ ri → w1.heap[b]? = w.heap[b]?) → w1.heap[ri]? = some (.mapIter (some rm) len seen len) → Alike3 w w1 →
                  FRel inj fr0 a1.tmps → a1.defers = [] →
                  (∀ i, i ∈ seen → ∃ k v fr' st', es[i]? = some (k, v) ∧ roundAt (vcode E n) t c b fr0 st L m len k v i = some (.normal, fr', st')) →
                  Code.rounds E.P (.seq (.region rid ops false) (.seq (.cond (.tmp c) .skip (.exit id)) b)) (Exit.inBlock id Q) (k + 1) a1 w1 := by
                intro k
                induction k with
                | zero =>
                  intro left seen w1 a1 hll h1 h2 h3 h4 h5 h6 h7 h8
                  rw [rounds_succ]
                  refine round _ left seen w1 a1 h1 h2 h3 h4 h5 h6 h7 h8 fun i w2 a2 hmem => ?_
                  simp at hll; subst hll; cases hmem
                | succ k ih =>
                  intro left seen w1 a1 hll h1 h2 h3 h4 h5 h6 h7 h8
                  rw [rounds_succ]
                  refine round _ left seen w1 a1 h1 h2 h3 h4 h5 h6 h7 h8 fun i w2 a2 hmem hi g2 g3 g4 g5 g6 g7 g8 => ?_
                  refine ih (left.erase i) (seen.push i) w2 a2 (by rw [List.length_erase_of_mem hmem]; omega) (fun j hj hnj => ?_) g2 g3 g4 g5 g6 g7 (fun j hj => ?_)
                  · simp only [Array.mem_push, not_or] at hnj
                    exact (List.mem_erase_of_ne hnj.2).2 (h1 j hj hnj.1)
                  · rcases Array.mem_push.1 hj with hj | rfl
                    · exact h8 j hj
                    · exact g8
              exact key len (List.range len) #[] w a (by simp) (fun i hi _ => by simpa using hi) (Nat.le_refl _) (fun _ _ _ => rfl) hiw ⟨rfl, rfl, rfl⟩ hfr0 hd (fun i hi => by simp at hi)
        · cases h
      · cases h
  · cases h
end
end Go.Proofs.Ytpkeggejofeeeaa.Lvm

namespace Go.Proofs.Ytpkeggejofeeeaa.Lvm
open Go.RowKit (Below)

/-- The environment of a program: its own tables, nothing in memory yet, nothing taken by a contract. -/
noncomputable def plainEnv (P : Program) : Env :=
  { P := P, und := fun t => P.underlying t, size := fun t => (P.info? t).map (·.size), bytes := fun t => (P.info? t).map (·.bytes),
    zero := fun t => (P.info? t).bind fun i => i.zero.bind lift, flat := fun t => flatB P 8 t, code := fun f => P.funcs[f]?, bm := fun _ _ => none, ext := fun _ => none }

theorem plainEnv_ok {P : Program} (h1 : Nat.ble 8 P.depth = true) (h2 : P.follows .mixedOrders = true) (h3 : P.funcs.toList.all (fun fn => fn.name != "runtime.NumGoroutine") = true) : (plainEnv P).Ok where
  und := fun _ _ h => h
  size := fun t n h => by
    simp only [plainEnv, Option.map_eq_some_iff] at h; exact h
  bytes := fun t n h => by
    simp only [plainEnv, Option.map_eq_some_iff] at h; exact h
  zero := fun t z h => by
    simp only [plainEnv, Option.bind_eq_some_iff] at h
    obtain ⟨i, h1, v, h2, h3⟩ := h
    exact ⟨i, v, h1, h2, h3⟩
  flat := fun _ _ h => h
  depth := Nat.le_of_ble_eq_true h1
  code := fun f fn h => by
    refine ⟨h, ?_⟩
    have hm : fn ∈ P.funcs := Array.mem_of_getElem? h
    have := List.all_eq_true.1 h3 fn (by simpa using hm)
    simpa using this
  mixed := h2
  base := fun r o v h => by cases h

def isTrue : Option (LV × LSt) → Bool
  | some (.bool true, _) => true
  | _ => false

/-- A closed call that answers true on the small machine answers true on the model's, and leaves what was there. -/
theorem closed_true {P : Program} (hE : (plainEnv P).Ok) {n : Nat} {f : FuncId} (h : isTrue (vrun (plainEnv P) n 0 f [] { mem := .leaf, nxt := 0 }) = true) (w : World) :
    Calls P f #[] w fun e w' => e = .returned (.bool true) ∧ Below w.heap.size w w' := by
  cases hr : vrun (plainEnv P) n 0 f [] { mem := .leaf, nxt := 0 } with
  | none => rw [hr] at h; cases h
  | some p =>
    obtain ⟨r, st'⟩ := p
    rw [hr] at h
    cases r <;> try (exact absurd h Bool.false_ne_true)
    rename_i b
    cases b with
    | false => exact absurd h Bool.false_ne_true
    | true =>
      have hrel : Rel (plainEnv P) w.heap.size (fun _ => none) { mem := .leaf, nxt := 0 } w := by
        refine ⟨⟨fun L q h => (by cases h), fun L q o h => (by cases h), fun _ _ => rfl, fun r o v h => (by cases h), Nat.le_refl _⟩, fun L h => ?_, fun L L' q q' h => ?_⟩
        · obtain ⟨x, hx, _⟩ := h; cases hx
        · obtain ⟨x, hx, _⟩ := h; cases hx
      obtain ⟨_, hc⟩ := vrun_sound hE (B := w.heap.size) (fun f g h => (by cases h)) (fun f g h => (by cases h)) walk_sound n 0 f [] { mem := .leaf, nxt := 0 } (.bool true) st' hr _ w #[] hrel (Nat.le_refl _) (by simpa using VRels.nil)
      refine hc.mono fun e w' he => ?_
      obtain ⟨u, inj', rfl, hv, hr', hs⟩ := he
      refine ⟨by rw [rel_of_bool hv], ⟨hs.al.os, hs.al.tape, hs.al.output, hs.size, fun k hk => hs.keep k hk fun L q _ _ h => by cases h⟩⟩
end Go.Proofs.Ytpkeggejofeeeaa.Lvm

namespace Go.Proofs.Ytpkeggejofeeeaa.Lvm
open Go.ChangeShapes Go.WideShapes

/-- The ending of a function that takes nothing and reads no variable: what it leaves below the old memory's end is as it was. -/
theorem post_of_closed {H : Type} {enc : TypeId × Value → H} {P : Program} {f : Func} {s : ChangeSpec} {apart fresh handsOn again : Bool} {W W' : World} {args : Array Value} {v : Value} {ds gs : List (DataW H)}
    (hW : DataW.Whole enc P f.params.toList s.vars apart W args.toList ds gs [])
    (hres : ∀ (b : Nat) (sp : Nat → Bool) (hd : Bool), DataW.TrodAll enc P W' b sp hd f.resultTypes.toList (v.resultList f.resultTypes.size) (s.fn H (ds ++ gs)).results [])
    (hargs : ∀ sp : Nat → Bool, DataW.TrodAll enc P W' 0 sp true f.params.toList args.toList (s.fn H (ds ++ gs)).args [])
    (hvars : ∀ sp : Nat → Bool, DataW.TrodVars enc P W' sp s.vars (s.fn H (ds ++ gs)).vars [])
    (hb : RowKit.Below W.heap.size W W')
    (hok : ∀ (j : Nat) (t : TypeId) (r : Value), f.resultTypes[j]? = some t → (v.resultList f.resultTypes.size)[j]? = some r → Value.okWide P W' .any 0 t r) :
    s.post enc P f apart fresh handsOn again W args v W' := by
  have hall := trodAll_append (hargs fun _ => true) (hres 0 (fun _ => true) true)
  refine ⟨ds, gs, [], [], [], [], hW, hres _ _ _, hargs _, hvars _, hb.frame _, fun _ => ⟨hok, _, _, [], ⟨[], [], hall, hvars _, rfl, ?_, ?_⟩, ?_⟩⟩
  · intro b off hp; cases hp
  · intro _; simp
  · intro p hp; cases hp
end Go.Proofs.Ytpkeggejofeeeaa.Lvm

namespace Go.Proofs.Ytpkeggejofeeeaa.Lvm

/-! ### an environment by tables -/
noncomputable def mkT {α : Type} (f : Nat → Option α) : List Nat → Mem α
  | [] => .leaf
  | t :: ts => match f t with
    | some x => (mkT f ts).set t x
    | none => mkT f ts
theorem mkT_get {α : Type} {f : Nat → Option α} : ∀ {ts : List Nat} {t : Nat} {d : α}, (mkT f ts).get t = some d → f t = some d
  | [], _, _, h => by cases h
  | u :: ts, t, d, h => by
    rw [mkT] at h
    cases hu : f u with
    | none => rw [hu] at h; exact mkT_get h
    | some x =>
      rw [hu] at h
      simp only [Mem.get_set] at h
      by_cases e : u = t
      · subst e; rw [if_pos rfl] at h; rw [hu]; exact h
      · rw [if_neg e] at h; exact mkT_get h
structure Tabs where
  und : Mem TypeDesc
  size : Mem Nat
  bytes : Mem Nat
  zero : Mem LV
  flat : Mem (List CK)
  code : Mem Func
noncomputable def tabEnv (P : Program) (T : Tabs) (bm : Nat → Nat → Option LV) (ext : FuncId → Option (List LV → LSt → Option (LV × LSt))) : Env :=
  { P := P, und := fun t => T.und.get t, size := fun t => T.size.get t, bytes := fun t => T.bytes.get t, zero := fun t => T.zero.get t, flat := fun t => T.flat.get t, code := fun f => T.code.get f, bm := bm, ext := ext }
/-- Tables that say what the program's own say. -/
structure Tabs.Ok (P : Program) (T : Tabs) (ts fs : List Nat) : Prop where
  und : T.und = mkT (fun t => P.underlying t) ts
  size : T.size = mkT (fun t => (P.info? t).map (·.size)) ts
  bytes : T.bytes = mkT (fun t => (P.info? t).map (·.bytes)) ts
  zero : T.zero = mkT (fun t => (P.info? t).bind fun i => i.zero.bind lift) ts
  flat : T.flat = mkT (fun t => flatB P 8 t) ts
  code : T.code = mkT (fun f => P.funcs[f]?) fs
theorem tabEnv_ok {P : Program} {T : Tabs} {ts fs : List Nat} (hT : T.Ok P ts fs) (bm : Nat → Nat → Option LV) (ext : FuncId → Option (List LV → LSt → Option (LV × LSt))) (hbm : ∀ r o v, bm r o = some v → ∀ (i j : Inj) u, VRel i v u → VRel j v u)
    (h1 : Nat.ble 8 P.depth = true) (h2 : P.follows .mixedOrders = true) (h3 : P.funcs.toList.all (fun fn => fn.name != "runtime.NumGoroutine") = true) : (tabEnv P T bm ext).Ok where
  und := fun t d h => by
    have h : T.und.get t = some d := h
    rw [hT.und] at h; exact mkT_get h
  size := fun t n h => by
    have h : T.size.get t = some n := h
    rw [hT.size] at h
    have := mkT_get h
    simp only [Option.map_eq_some_iff] at this; exact this
  bytes := fun t n h => by
    have h : T.bytes.get t = some n := h
    rw [hT.bytes] at h
    have := mkT_get h
    simp only [Option.map_eq_some_iff] at this; exact this
  zero := fun t z h => by
    have h : T.zero.get t = some z := h
    rw [hT.zero] at h
    have := mkT_get h
    simp only [Option.bind_eq_some_iff] at this
    obtain ⟨i, h1, v, h2, h3⟩ := this
    exact ⟨i, v, h1, h2, h3⟩
  flat := fun t ks h => by
    have h : T.flat.get t = some ks := h
    rw [hT.flat] at h; exact mkT_get h
  depth := Nat.le_of_ble_eq_true h1
  code := fun f fn h => by
    have h : T.code.get f = some fn := h
    rw [hT.code] at h
    have h := mkT_get h
    refine ⟨h, ?_⟩
    have hm : fn ∈ P.funcs := Array.mem_of_getElem? h
    have := List.all_eq_true.1 h3 fn (by simpa using hm)
    simpa using this
  mixed := h2
  base := hbm
end Go.Proofs.Ytpkeggejofeeeaa.Lvm
