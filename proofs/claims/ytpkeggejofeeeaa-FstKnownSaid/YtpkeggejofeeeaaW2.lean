/- Laws of the small machine and of how it stands to the model; a helper of the statements: no statement is proved here. -/
import Derived.Test.YtpkeggejofeeeaaW1
namespace Go.Proofs.Ytpkeggejofeeeaa.Lvm

/-! ### which slots a code writes -/
def Untouched (ds : List Nat) (fr fr' : LFr) : Prop := fr'.n = fr.n ∧ ∀ t, t ∉ ds → fr'.m.get t = fr.m.get t

section
variable {E : Env} {lo : Nat} {cover : Bool} {st st' : LSt} {fr fr' fr'' : LFr} {v : LV} {call : CallFn} {ds ds' : List Nat}

theorem Untouched.refl : Untouched ds fr fr := ⟨rfl, fun _ _ => rfl⟩
theorem Untouched.trans (h : Untouched ds fr fr') (h' : Untouched ds fr' fr'') : Untouched ds fr fr'' :=
  ⟨h'.1.trans h.1, fun t ht => (h'.2 t ht).trans (h.2 t ht)⟩
theorem Untouched.sub (h : Untouched ds fr fr') (hs : ∀ t, t ∈ ds → t ∈ ds') : Untouched ds' fr fr' := ⟨h.1, fun t ht => h.2 t fun h => ht (hs t h)⟩

theorem dstsO_cons {x : Oper} {l : List Oper} : dstsO (x :: l) = (match x.dst with
    | some d => d :: dstsO l
    | none => dstsO l) := rfl
theorem dstsO_tail {x : Oper} {l : List Oper} {t : Nat} (h : t ∈ dstsO l) : t ∈ dstsO (x :: l) := by
  rw [dstsO_cons]
  cases x.dst with
  | none => exact h
  | some d => exact List.mem_cons_of_mem _ h
theorem dstsO_head {x : Oper} {l : List Oper} {d : Nat} (h : x.dst = some d) : d ∈ dstsO (x :: l) := by
  rw [dstsO_cons, h]; exact List.mem_cons_self ..

theorem vOpers_untouched {ops : List Oper} : ∀ (l : List Oper) (fr : LFr) (st : LSt), vOpers E call lo cover ops l fr st = some (fr', st') → Untouched (dstsO l) fr fr'
  | [], fr, st, h => by
    rw [vOpers_nil] at h; simp only [Option.some.injEq, Prod.mk.injEq] at h; obtain ⟨rfl, rfl⟩ := h; exact .refl
  | o :: os, fr, st, h => by
    rw [vOpers_cons] at h
    split at h
    · rename_i fr1 st1 h1
      have h2 := (vOpers_untouched os fr1 st1 h).sub (ds' := dstsO (o :: os)) fun t ht => dstsO_tail ht
      obtain ⟨v, ⟨_, hf⟩ | ⟨d, hd, _, hf⟩, _⟩ := vOper_tr h1
      · rw [hf] at h2; exact h2
      · have h3 : Untouched (dstsO (o :: os)) fr fr1 := by
          rw [hf]
          refine ⟨rfl, fun t ht => ?_⟩
          simp only [LFr.put, Mem.get_set]
          rw [if_neg]
          intro e
          subst e
          exact ht (dstsO_head hd)
        exact h3.trans h2
    · cases h

theorem lput2 {α : Type} {fr : LFr} {n : Nat} {v : LV} {k : LFr → Option α} {r : α} (h : lputK fr (some n) v k = some r) : n < fr.n ∧ k (fr.put n v) = some r := by
  rw [lputK_eq] at h
  simp only at h
  cases hb : Nat.blt n fr.n with
  | false => rw [hb] at h; simp at h
  | true => rw [hb] at h; exact ⟨blt_lt hb, h⟩

/-- One round's run. -/
def roundAt (rec : RecFn) (n c : Nat) (body : Code) (fr0 : LFr) (st : LSt) (L m len : Nat) (k v : LV) (i : Nat) : Option (LExit × LFr × LSt) :=
  rec st.nxt body ((fr0.put n (.tup [.bool true, k, v])).put c (.bool true)) { st with mem := st.mem.set L (.iter m len (some i)) }

/-- What the rounds of a walk come to. -/
theorem rounds_spec {rec : RecFn} {n c : Nat} {body : Code} {L m len : Nat} {fr0 : LFr} {ds : List Nat} : ∀ (es : List (LV × LV)) (i : Nat) (e r : WEnd), rounds rec n c body fr0 st L m len ds es i e = some r →
    (∀ frB, e = .back frB → ∃ frC, r = .back frC ∧ (frB.n = fr0.n → frC.n = fr0.n) ∧ ∀ t v, frC.m.get t = some v → fr0.m.get t = some v ∨ frB.m.get t = some v) ∧
    (∀ j k v, es[j]? = some (k, v) → ∃ ex fr' st', roundAt rec n c body fr0 st L m len k v (i + j) = some (ex, fr', st') ∧
      (ex = .normal ∨ (ex = .ret ∧ ∃ frC, r = .back frC ∧ frC.n = fr0.n ∧ ∀ t v, frC.m.get t = some v → fr0.m.get t = some v ∨ ∃ b, v = .bool b ∧ fr'.m.get t = some (.bool b)))) ∧
    (∀ frC, r = .back frC → (∃ frB, e = .back frB) ∨ ∃ j k v fr' st', es[j]? = some (k, v) ∧ roundAt rec n c body fr0 st L m len k v (i + j) = some (.ret, fr', st')) := by
  intro es
  induction es with
  | nil =>
    intro i e r h
    simp only [rounds, Option.some.injEq] at h
    subst h
    exact ⟨fun frB he => ⟨frB, he, id, fun t v hv => Or.inr hv⟩, fun j k v hj => by simp at hj, fun frC hr => Or.inl ⟨frC, hr⟩⟩
  | cons p es ih =>
    obtain ⟨k0, v0⟩ := p
    intro i e r h
    rw [rounds] at h
    have hstep : ∀ {y : LExit × LFr × LSt}, (lputK fr0 (some n) (.tup [.bool true, k0, v0]) fun fr1 => lputK fr1 (some c) (.bool true) fun fr2 =>
        match setObjK st L (.iter m len (some i)) with
        | some st1 => rec st.nxt body fr2 st1
        | none => none) = some y → roundAt rec n c body fr0 st L m len k0 v0 i = some y := by
      intro y hy
      obtain ⟨_, hy⟩ := lput2 hy
      obtain ⟨_, hy⟩ := lput2 hy
      simp only [setObjK_eq] at hy
      exact hy
    have tail : ∀ (e' : WEnd), rounds rec n c body fr0 st L m len ds es (i + 1) e' = some r → ∀ (ex : LExit) (fr' : LFr) (st' : LSt), roundAt rec n c body fr0 st L m len k0 v0 i = some (ex, fr', st') →
        (ex = .normal ∨ (ex = .ret ∧ ∃ frC, r = .back frC ∧ frC.n = fr0.n ∧ ∀ t v, frC.m.get t = some v → fr0.m.get t = some v ∨ ∃ b, v = .bool b ∧ fr'.m.get t = some (.bool b))) →
        ∀ j k v, ((k0, v0) :: es)[j]? = some (k, v) → ∃ ex fr' st', roundAt rec n c body fr0 st L m len k v (i + j) = some (ex, fr', st') ∧
          (ex = .normal ∨ (ex = .ret ∧ ∃ frC, r = .back frC ∧ frC.n = fr0.n ∧ ∀ t v, frC.m.get t = some v → fr0.m.get t = some v ∨ ∃ b, v = .bool b ∧ fr'.m.get t = some (.bool b))) := by
      intro e' he' ex fr' st' h0 h1 j k v hj
      cases j with
      | zero =>
        simp only [List.getElem?_cons_zero, Option.some.injEq, Prod.mk.injEq] at hj
        obtain ⟨rfl, rfl⟩ := hj
        exact ⟨ex, fr', st', h0, h1⟩
      | succ j =>
        simp only [List.getElem?_cons_succ] at hj
        obtain ⟨ex, fr', st', g1, g2⟩ := (ih _ _ _ he').2.1 j k v hj
        exact ⟨ex, fr', st', by rw [show i + (j + 1) = i + 1 + j by omega]; exact g1, g2⟩
    split at h
    · rename_i fr1 st1 hx
      have h0 := hstep hx
      have IH := ih _ _ _ h
      refine ⟨IH.1, tail e h _ _ _ h0 (Or.inl rfl), fun frC hr => ?_⟩
      rcases IH.2.2 frC hr with g | ⟨j, k, v, fr', st', g1, g2⟩
      · exact Or.inl g
      · exact Or.inr ⟨j + 1, k, v, fr', st', by simpa using g1, by rw [show i + (j + 1) = i + 1 + j by omega]; exact g2⟩
    · rename_i fr1 st1 hx
      have h0 := hstep hx
      split at h
      · -- the first that ends it
        have IH := ih _ _ _ h
        obtain ⟨frC, hr, hn, hC⟩ := IH.1 _ rfl
        refine ⟨fun frB he => (by cases he), tail _ h _ _ _ h0 (Or.inr ⟨rfl, frC, hr, hn (alikeF_n ..), fun t v hv => ?_⟩), fun _ _ => Or.inr ⟨0, k0, v0, fr1, st1, rfl, h0⟩⟩
        rcases hC t v hv with g | g
        · exact Or.inl g
        · rcases alikeF_get _ _ _ _ g with g | ⟨x, rfl, g1, _⟩
          · exact Or.inl g
          · exact Or.inr ⟨x, rfl, g1⟩
      · rename_i frB0
        have IH := ih _ _ _ h
        obtain ⟨frC, hr, hn, hC⟩ := IH.1 _ rfl
        refine ⟨fun frB he => ?_, tail _ h _ _ _ h0 (Or.inr ⟨rfl, frC, hr, hn (alikeF_n ..), fun t v hv => ?_⟩), fun _ _ => Or.inl ⟨_, rfl⟩⟩
        · simp only [WEnd.back.injEq] at he; subst he
          refine ⟨frC, hr, fun _ => hn (alikeF_n ..), fun t v hv => ?_⟩
          rcases hC t v hv with g | g
          · exact Or.inl g
          · rcases alikeF_get _ _ _ _ g with g | ⟨x, rfl, g1, _⟩
            · exact Or.inl g
            · exact Or.inr g1
        · rcases hC t v hv with g | g
          · exact Or.inl g
          · rcases alikeF_get _ _ _ _ g with g | ⟨x, rfl, _, g1⟩
            · exact Or.inl g
            · exact Or.inr ⟨x, rfl, g1⟩
    · cases h

/-- A walk writes only slots of its own. -/
theorem vwalk_untouched {rec : RecFn} {x n c i : Nat} {body b : Code} {ex : LExit} (hw : walkOf body = some (x, n, c, i, b)) (h : vwalk rec lo x n c b fr st = some (ex, fr', st')) : Untouched (dsts body) fr fr' := by
  obtain ⟨rid, ops, o1, o2, rfl, hops, h1, _, _, h2, _⟩ := walkOf_spec hw
  have hds : ∀ t, t ∈ n :: c :: dsts b → t ∈ dsts (.loop (.seq (.region rid ops false) (.seq (.cond (.tmp c) .skip (.exit i)) b))) := by
    intro t ht
    have e : dsts (.loop (.seq (.region rid ops false) (.seq (.cond (.tmp c) .skip (.exit i)) b))) = dstsO ops.toList ++ (([] ++ []) ++ dsts b) := rfl
    rw [e, hops]
    simp only [List.nil_append, List.mem_append]
    rcases List.mem_cons.1 ht with rfl | ht
    · exact Or.inl (dstsO_head h1)
    · rcases List.mem_cons.1 ht with rfl | ht
      · exact Or.inl (dstsO_tail (dstsO_head h2))
      · exact Or.inr ht
  have hclear : ∀ (ds : List Nat) (fr : LFr) (t : Nat), t ∉ ds → (clearF fr ds).m.get t = fr.m.get t := by
    intro ds
    induction ds with
    | nil => intro fr t _; rfl
    | cons d ds ih =>
      intro fr t ht
      simp only [List.mem_cons, not_or] at ht
      rw [clearF, ih _ _ ht.2]
      simp only [Mem.get_del]; rw [if_neg (Ne.symm ht.1)]
  have halike : ∀ (ds : List Nat) (fr a b : LFr) (t : Nat), t ∉ ds → (alikeF fr a b ds).m.get t = fr.m.get t := by
    intro ds
    induction ds with
    | nil => intro fr a b t _; rfl
    | cons d ds ih =>
      intro fr a b t ht
      simp only [List.mem_cons, not_or] at ht
      rw [alikeF]
      split
      · rename_i x y _ _
        cases x == y
        · exact ih _ _ _ _ ht.2
        · show (alikeF _ a b ds).m.get t = _
          rw [ih _ _ _ _ ht.2]
          simp only [Mem.get_set]; rw [if_neg (Ne.symm ht.1)]
      · exact ih _ _ _ _ ht.2
  have hback : ∀ (ds : List Nat) (fr0 : LFr) (L m len : Nat) (es : List (LV × LV)) (i : Nat) (e r : WEnd), rounds rec n c b fr0 st L m len ds es i e = some r →
      (∀ frB, e = .back frB → frB.n = fr0.n ∧ ∀ t, t ∉ ds → frB.m.get t = fr0.m.get t) → ∀ frB, r = .back frB → frB.n = fr0.n ∧ ∀ t, t ∉ ds → frB.m.get t = fr0.m.get t := by
    intro ds fr0 L m len es
    induction es with
    | nil => intro i e r h he; simp only [rounds, Option.some.injEq] at h; subst h; exact he
    | cons p es ih =>
      obtain ⟨k0, v0⟩ := p
      intro i e r h he
      rw [rounds] at h
      split at h
      · exact ih _ _ _ h he
      · split at h
        · exact ih _ _ _ h fun frB e => by
            simp only [WEnd.back.injEq] at e; subst e
            exact ⟨alikeF_n .., fun t ht => halike _ _ _ _ t ht⟩
        · exact ih _ _ _ h fun frB e => by
            simp only [WEnd.back.injEq] at e; subst e
            exact ⟨alikeF_n .., fun t ht => halike _ _ _ _ t ht⟩
      · cases h
  unfold vwalk at h
  split at h
  · rename_i L _
    generalize Nat.ble lo L = c1 at h
    cases c1 with
    | false => simp at h
    | true =>
      simp only [cond_true] at h
      split at h
      · rename_i m len hit
        split at h
        · rename_i kt es hes
          generalize (Nat.beq _ _ && _) = c0 at h
          cases c0 with
          | false => simp at h
          | true =>
            simp only [cond_true, setObjK_eq] at h
            split at h
            · simp only [Option.some.injEq, Prod.mk.injEq] at h
              obtain ⟨_, rfl, _⟩ := h
              exact Untouched.sub ⟨clearF_n _ _, fun t ht => hclear _ _ t ht⟩ hds
            · rename_i frB hr
              simp only [Option.some.injEq, Prod.mk.injEq] at h
              obtain ⟨_, rfl, _⟩ := h
              obtain ⟨g1, g2⟩ := hback _ _ _ _ _ _ _ _ _ hr (fun frB e => by cases e) frB rfl
              exact Untouched.sub ⟨g1.trans (clearF_n _ _), fun t ht => (g2 t ht).trans (hclear _ _ t ht)⟩ hds
            · cases h
        · cases h
      · cases h
  · cases h

theorem vcode_untouched : ∀ n lo c fr st ex fr' st', vcode E n lo c fr st = some (ex, fr', st') → Untouched (dsts c) fr fr'
  | 0 => by intro lo c fr st ex fr' st' h; change none = some _ at h; cases h
  | n + 1 => by
    have ih := vcode_untouched n
    intro lo c fr st ex fr' st' h
    change vstep E (vcode E n) lo c fr st = _ at h
    cases c <;> simp only [vstep, reduceCtorEq] at h
    case skip => simp only [Option.some.injEq, Prod.mk.injEq] at h; obtain ⟨_, rfl, _⟩ := h; exact .refl
    case label l => simp only [Option.some.injEq, Prod.mk.injEq] at h; obtain ⟨_, rfl, _⟩ := h; exact .refl
    case exit id => simp only [Option.some.injEq, Prod.mk.injEq] at h; obtain ⟨_, rfl, _⟩ := h; exact .refl
    case ret => simp only [Option.some.injEq, Prod.mk.injEq] at h; obtain ⟨_, rfl, _⟩ := h; exact .refl
    case region id ops draw =>
      split at h
      · rename_i fr1 st1 h1
        simp only [Option.some.injEq, Prod.mk.injEq] at h
        obtain ⟨_, rfl, rfl⟩ := h
        unfold vregion at h1
        cases draw with
        | true =>
          simp only [cond_true] at h1
          cases hd : drawOk ops with
          | false => rw [hd] at h1; simp at h1
          | true => rw [hd] at h1; simp only [cond_true] at h1; exact vOpers_untouched _ _ _ h1
        | false => simp only [cond_false] at h1; exact vOpers_untouched _ _ _ h1
      · cases h
    case seq x y =>
      have hx : ∀ t, t ∈ dsts x → t ∈ dsts (.seq x y) := fun t ht => List.mem_append.2 (Or.inl ht)
      have hy : ∀ t, t ∈ dsts y → t ∈ dsts (.seq x y) := fun t ht => List.mem_append.2 (Or.inr ht)
      split at h
      · rename_i fr1 st1 h1
        exact ((ih _ _ _ _ _ _ _ h1).sub hx).trans ((ih _ _ _ _ _ _ _ h).sub hy)
      · exact (ih _ _ _ _ _ _ _ h).sub hx
    case cond x y z =>
      have hy : ∀ t, t ∈ dsts y → t ∈ dsts (.cond x y z) := fun t ht => List.mem_append.2 (Or.inl ht)
      have hz : ∀ t, t ∈ dsts z → t ∈ dsts (.cond x y z) := fun t ht => List.mem_append.2 (Or.inr ht)
      split at h
      · rename_i t _
        cases t with
        | true => exact (ih _ _ _ _ _ _ _ h).sub hy
        | false => exact (ih _ _ _ _ _ _ _ h).sub hz
      · cases h
    case block id body =>
      have hb : ∀ t, t ∈ dsts body → t ∈ dsts (.block id body) := fun t ht => ht
      cases hwk : walkOf body with
      | some p =>
        obtain ⟨x, t, c, i, b⟩ := p
        rw [hwk] at h
        simp only at h
        generalize Nat.beq i id = c0 at h
        cases c0 with
        | false => simp at h
        | true => exact (vwalk_untouched hwk h).sub hb
      | none =>
        rw [hwk] at h
        simp only at h
        split at h
        · rename_i i fr1 st1 h1
          have e := (ih _ _ _ _ _ _ _ h1).sub hb
          cases hb : Nat.beq i id with
          | true => rw [hb] at h; simp only [cond_true, Option.some.injEq, Prod.mk.injEq] at h; obtain ⟨_, rfl, rfl⟩ := h; exact e
          | false => rw [hb] at h; simp only [cond_false, Option.some.injEq, Prod.mk.injEq] at h; obtain ⟨_, rfl, rfl⟩ := h; exact e
        · exact (ih _ _ _ _ _ _ _ h).sub hb
    case loop body =>
      have hb : ∀ t, t ∈ dsts body → t ∈ dsts (.loop body) := fun t ht => ht
      split at h
      · rename_i fr1 st1 h1
        have e := (ih _ _ _ _ _ _ _ h1).sub hb
        exact e.trans (ih _ _ _ _ _ _ _ h)
      · exact (ih _ _ _ _ _ _ _ h).sub hb
end
end Go.Proofs.Ytpkeggejofeeeaa.Lvm
