/- Laws of the small machine and of how it stands to the model; a helper of the statements: no statement is proved here. -/
import Derived.Test.YtpkeggejofeeeaaS13
namespace Go.Proofs.Ytpkeggejofeeeaa.Lvm

/-! ### what an operation does to the small machine's memory -/
inductive Eff (lo : Nat) (st st' : LSt) : Prop where
  | same (h : st' = st)
  | fresh (o : LObj) (h : st' = newB st o)
  | store (L : Nat) (old o : LObj) (h1 : lo ≤ L) (h3 : st.mem.get L = some old) (h4 : old ≠ .dead) (h5 : o ≠ .dead) (h : st' = { st with mem := st.mem.set L o })
  | grow (L : Nat) (cs cs' : List LV) (h1 : lo ≤ L) (h3 : st.mem.get L = some (.cells cs)) (h : st' = newB { st with mem := st.mem.set L .dead } (.cells cs'))

section
variable {E : Env} {lo : Nat} {cover : Bool} {st st' : LSt} {fr : LFr} {v : LV} {call : CallFn}

theorem newK_eff {x : LV} {o : LObj} (h : newK x st o = some (v, st')) : Eff lo st st' := by
  rw [newK_eq] at h; simp only [Option.some.injEq, Prod.mk.injEq] at h; exact .fresh o h.2.symm

theorem storeN_eff {b : Blk} {o : Nat} {us : List LV} (h : storeN lo st b o us = some st') : ∃ L old o', lo ≤ L ∧ st.mem.get L = some old ∧ old ≠ .dead ∧ o' ≠ .dead ∧ st' = { st with mem := st.mem.set L o' } := by
  cases b with
  | base _ => simp [storeN] at h
  | own L =>
    simp only [storeN] at h
    cases hlo : Nat.ble lo L with
    | false => rw [hlo] at h; simp at h
    | true =>
      rw [hlo] at h; simp only [cond_true] at h
      split at h
      · rename_i cs hcs
        cases hc : (Nat.ble (o + us.length) cs.length && us.all LV.scalar) with
        | false => rw [hc] at h; simp at h
        | true =>
          rw [hc] at h; simp only [cond_true, setObjK_eq, Option.some.injEq] at h
          exact ⟨L, _, _, Nat.le_of_ble_eq_true hlo, hcs, by simp, by simp, h.symm⟩
      · cases h

/-- The kinds of effect, by class. -/
def EffOf (lo : Nat) (cover : Bool) (st st' : LSt) : Cl → Prop
  | .pure => st' = st
  | .read => st' = st
  | .fresh => st' = st ∨ ∃ o, st' = newB st o
  | .grow => (st' = st ∨ ∃ o, st' = newB st o) ∨ (cover = false ∧ ∃ L old o, lo ≤ L ∧ st.mem.get L = some old ∧ old ≠ .dead ∧ o ≠ .dead ∧ st' = { st with mem := st.mem.set L o }) ∨
      ∃ L cs cs', lo ≤ L ∧ st.mem.get L = some (.cells cs) ∧ st' = newB { st with mem := st.mem.set L .dead } (.cells cs')
  | .call => True
  | .write => ∃ L old o, lo ≤ L ∧ st.mem.get L = some old ∧ old ≠ .dead ∧ o ≠ .dead ∧ st' = { st with mem := st.mem.set L o }

theorem fresh_of {x : LV} {o : LObj} (h : newK x st o = some (v, st')) : st' = st ∨ ∃ o, st' = newB st o := by
  rw [newK_eq] at h; simp only [Option.some.injEq, Prod.mk.injEq] at h; exact Or.inr ⟨o, h.2.symm⟩

theorem mapSet_eff {t : TypeId} {x k y : LV} (h : mapSetL E lo st t x k y = some st') : EffOf lo cover st st' .write := by
  unfold mapSetL at h
  split at h
  · split at h
    · split at h
      · rename_i m
        cases hlo : Nat.ble lo m with
        | false => rw [hlo] at h; simp at h
        | true =>
          rw [hlo] at h; simp only [cond_true] at h
          split at h
          · rename_i kt' es hes
            generalize Nat.beq _ _ = c0 at h
            cases c0 with
            | false => simp at h
            | true =>
              simp only [cond_true] at h
              split at h
              · simp only [setObjK_eq, Option.some.injEq] at h
                exact ⟨m, _, _, Nat.le_of_ble_eq_true hlo, hes, by simp, by simp, h.symm⟩
              · simp only [setObjK_eq, Option.some.injEq] at h
                exact ⟨m, _, _, Nat.le_of_ble_eq_true hlo, hes, by simp, by simp, h.symm⟩
          · cases h
      · cases h
    · cases h
  · cases h

theorem mapEntry_eff {t : TypeId} {x k : LV} (h : mapEntryL E lo st t x k = some (v, st')) : EffOf lo cover st st' .write := by
  unfold mapEntryL at h
  split at h
  · split at h
    · split at h
      · rename_i m
        cases hlo : Nat.ble lo m with
        | false => rw [hlo] at h; simp at h
        | true =>
          rw [hlo] at h; simp only [cond_true] at h
          split at h
          · rename_i kt' es hes
            generalize Nat.beq _ _ = c0 at h
            cases c0 with
            | false => simp at h
            | true =>
              simp only [cond_true] at h
              split at h
              · simp only [setObjK_eq, Option.some.injEq, Prod.mk.injEq] at h
                exact ⟨m, _, _, Nat.le_of_ble_eq_true hlo, hes, by simp, by simp, h.2.symm⟩
              · split at h
                · simp only [setObjK_eq, Option.some.injEq, Prod.mk.injEq] at h
                  exact ⟨m, _, _, Nat.le_of_ble_eq_true hlo, hes, by simp, by simp, h.2.symm⟩
                · cases h
          · cases h
      · cases h
    · cases h
  · cases h

theorem entryStore_eff {x p y : LV} (h : entryStoreL lo st x p y = some st') : EffOf lo cover st st' .write := by
  unfold entryStoreL at h
  split at h
  · rename_i m
    split at h
    · cases hlo : Nat.ble lo m with
      | false => rw [hlo] at h; simp at h
      | true =>
        rw [hlo] at h; simp only [cond_true] at h
        split at h
        · rename_i kt es hes
          split at h
          · simp only [setObjK_eq, Option.some.injEq] at h
            exact ⟨m, _, _, Nat.le_of_ble_eq_true hlo, hes, by simp, by simp, h.symm⟩
          · cases h
        · cases h
    · cases h
  · cases h

theorem range_eff {t : TypeId} {x : LV} (h : rangeL E st t x = some (v, st')) : EffOf lo cover st st' .fresh := by
  unfold rangeL at h
  split at h
  · split at h
    · split at h
      · exact fresh_of h
      · cases h
    · cases h
  · cases h

theorem append_eff {sType : TypeId} {s x : LV} (h : appendL E lo cover st sType s x = some (v, st')) : EffOf lo cover st st' .grow := by
  unfold appendL at h
  split at h
  · split at h
    · rename_i sz _
      split at h
      · rename_i by_ _
        split at h
        · rename_i n _
          split at h
          · rename_i new _
            generalize (new.all LV.scalar && _) = c0 at h
            cases c0 with
            | false => simp at h
            | true =>
              simp only [cond_true] at h
              generalize Nat.beq n 0 = c1 at h
              cases c1 with
              | true =>
                simp only [cond_true] at h
                unfold sameSl at h
                split at h
                · simp only [Option.some.injEq, Prod.mk.injEq] at h; exact Or.inl (Or.inl h.2.symm)
                · generalize Nat.beq _ _ = c2 at h
                  cases c2 with
                  | false => simp at h
                  | true => simp only [cond_true, Option.some.injEq, Prod.mk.injEq] at h; exact Or.inl (Or.inl h.2.symm)
                · cases h
              | false =>
                simp only [cond_false] at h
                split at h
                · generalize roomFor _ _ = c2 at h
                  cases c2 with
                  | false => simp at h
                  | true => simp only [cond_true] at h; exact Or.inl (fresh_of h)
                · rename_i b o sz' len cap ex
                  generalize Nat.beq sz' sz = c2 at h
                  cases c2 with
                  | false => simp at h
                  | true =>
                    simp only [cond_true] at h
                    cases ex with
                    | true =>
                      simp only [cond_true] at h
                      generalize Nat.ble (len + n) cap = c3 at h
                      cases c3 with
                      | true =>
                        simp only [cond_true] at h
                        cases cover with
                        | true => simp at h
                        | false =>
                          simp only [cond_false] at h
                          split at h
                          · rename_i st2 hst
                            simp only [Option.some.injEq, Prod.mk.injEq] at h
                            obtain ⟨_, rfl⟩ := h
                            exact Or.inr (Or.inl ⟨rfl, storeN_eff hst⟩)
                          · cases h
                      | false =>
                        simp only [cond_false] at h
                        generalize roomFor _ _ = c4 at h
                        cases c4 with
                        | false => simp at h
                        | true =>
                          simp only [cond_true] at h
                          split at h
                          · exact Or.inl (fresh_of h)
                          · cases h
                    | false =>
                      simp only [cond_false] at h
                      split at h
                      · rename_i L
                        cases hc1 : (Nat.ble lo L && (Nat.beq o 0 && roomFor (len + n) by_)) with
                        | false => rw [hc1] at h; simp at h
                        | true =>
                          rw [hc1] at h; simp only [cond_true] at h
                          simp only [Bool.and_eq_true] at hc1
                          split at h
                          · rename_i cs hcs
                            generalize (Nat.ble (len * sz) cs.length && _) = c5 at h
                            cases c5 with
                            | false => simp at h
                            | true =>
                              simp only [cond_true, Mem.setFK_eq, newK_eq, Option.some.injEq, Prod.mk.injEq] at h
                              exact Or.inr (Or.inr ⟨L, cs, _, Nat.le_of_ble_eq_true hc1.1, hcs, h.2.symm⟩)
                          · cases h
                      · cases h
                · cases h
          · cases h
        · cases h
      · cases h
    · cases h
  · cases h

theorem vop_eff {op : Op} {c : Cl} (hc : clOf op = some c) (h : vop E call lo cover fr st op = some (v, st')) : EffOf lo cover st st' c := by
  cases op <;> simp only [clOf, Option.some.injEq, reduceCtorEq] at hc
  case call k =>
    obtain ⟨callee, args, argTypes⟩ := k
    cases callee with
    | value f => simp only [Option.some.injEq] at hc; subst hc; trivial
    | invoke r m => simp at hc
    | builtin b =>
      simp only [vop, opCall] at h
      split at h
      · unfold builtinL at h
        split at h
        · simp only [Option.some.injEq] at hc; subst hc
          simp only [Option.map_eq_some_iff, Prod.mk.injEq] at h
          obtain ⟨_, _, _, h⟩ := h; exact h.symm
        · simp only [Option.some.injEq] at hc; subst hc
          split at h
          · exact append_eff h
          · exact append_eff h
          · cases h
        · simp only [Option.some.injEq] at hc; subst hc
          simp only [Option.map_eq_some_iff, Prod.mk.injEq] at h
          obtain ⟨_, _, _, h⟩ := h; exact h.symm
        · simp only [Option.some.injEq] at hc; subst hc
          simp only [Option.map_eq_some_iff, Prod.mk.injEq] at h
          obtain ⟨_, _, _, h⟩ := h; exact h.symm
        · cases h
      · cases h
  all_goals subst hc
  all_goals simp only [vop] at h
  case alloc t =>
    unfold opAlloc at h; split at h
    · generalize List.all _ _ = c0 at h; cases c0 with
      | false => simp at h
      | true => exact fresh_of h
    · cases h
  case box t x =>
    unfold opBox at h; split at h
    · generalize List.all _ _ = c0 at h; cases c0 with
      | false => simp at h
      | true => exact fresh_of h
    · cases h
  case buildSlice t n ps =>
    unfold opBuildSlice at h
    repeat' split at h
    all_goals first | (cases h; done) | skip
    generalize (List.all _ _ && _) = c0 at h; cases c0 with
    | false => simp at h
    | true => exact fresh_of h
  case makeMap t r =>
    unfold opMakeMap at h
    repeat' split at h
    all_goals first | exact fresh_of h | cases h
  case makeSlice t l c =>
    unfold opMakeSlice at h
    repeat' split at h
    all_goals first | (cases h; done) | skip
    generalize (Nat.ble _ _ && _) = c0 at h; cases c0 with
    | false => simp at h
    | true => exact fresh_of h
  case convert s d x =>
    unfold opConv convL at h
    repeat' split at h
    all_goals first
      | (cases h; done)
      | exact fresh_of h
      | (simp only [Option.some.injEq, Prod.mk.injEq] at h; exact Or.inl h.2.symm)
      | skip
    all_goals
      generalize Nat.beq _ _ = c0 at h
      cases c0 with
      | false => simp at h
      | true =>
        simp only [cond_true] at h
        repeat' split at h
        all_goals first
          | (cases h; done)
          | (simp only [Option.some.injEq, Prod.mk.injEq] at h; exact Or.inl h.2.symm)
  case mapEntry t m k =>
    unfold opMapEntry at h
    repeat' split at h
    all_goals first | exact mapEntry_eff (cover := cover) h | cases h
  case entryStore t m k x =>
    unfold opEntryStore at h
    repeat' split at h
    all_goals first | (cases h; done) | skip
    rename_i hst
    simp only [Option.some.injEq, Prod.mk.injEq] at h
    obtain ⟨_, rfl⟩ := h
    exact entryStore_eff (cover := cover) hst
  case range t x =>
    unfold opRange at h
    repeat' split at h
    all_goals first | exact range_eff (lo := lo) (cover := cover) h | cases h
  case store t p x =>
    unfold opStore storeV at h
    split at h
    · split at h
      · split at h
        · rename_i st2 hst
          simp only [Option.some.injEq, Prod.mk.injEq] at h
          obtain ⟨_, rfl⟩ := h
          split at hst
          · generalize Nat.beq _ _ = c0 at hst
            cases c0 with
            | false => simp at hst
            | true => simp only [cond_true] at hst; exact storeN_eff hst
          · cases hst
        · cases h
      · cases h
    · cases h
  case mapUpdate t m k x =>
    unfold opMapUpdate at h
    repeat' split at h
    all_goals first | (cases h; done) | skip
    rename_i hst
    simp only [Option.some.injEq, Prod.mk.injEq] at h
    obtain ⟨_, rfl⟩ := h
    exact mapSet_eff (cover := cover) hst
  all_goals
    first
      | unfold opMove at h
      | (unfold opPick opMove at h)
      | unfold opBuild at h
      | unfold opLoad at h
      | unfold opNil at h
      | unfold opBin at h
      | unfold opUn at h
      | unfold opFunc at h
      | unfold opSlice at h
      | unfold opFieldAddr at h
      | unfold opField at h
      | unfold opIndexAddr at h
      | unfold opIndex at h
      | unfold opLookup at h
      | unfold opExtract at h
      | unfold opEntry at h
    (repeat' split at h)
    all_goals first
      | (cases h; done)
      | (simp only [Option.some.injEq, Prod.mk.injEq] at h; exact h.2.symm)

theorem vop_pure {op : Op} (hc : clOf op = some .pure) (h : vop E call lo cover fr st op = some (v, st')) (st2 : LSt) : vop E call lo cover fr st2 op = some (v, st2) := by
  cases op <;> simp only [clOf, Option.some.injEq, reduceCtorEq] at hc
  case call k =>
    obtain ⟨callee, args, argTypes⟩ := k
    cases callee with
    | value f => simp at hc
    | invoke r m => simp at hc
    | builtin b =>
      simp only [vop, opCall] at h ⊢
      split at h
      · rename_i vs hvs
        unfold builtinL at h ⊢
        split at h
        · simp at hc
        · simp at hc
        · simp only [Option.map_eq_some_iff, Prod.mk.injEq] at h ⊢
          obtain ⟨z, h1, h2, _⟩ := h; exact ⟨z, h1, h2, trivial⟩
        · simp only [Option.map_eq_some_iff, Prod.mk.injEq] at h ⊢
          obtain ⟨z, h1, h2, _⟩ := h; exact ⟨z, h1, h2, trivial⟩
        · cases h
      · cases h
  all_goals simp only [vop] at h ⊢
  all_goals
    first
      | unfold opMove at h ⊢
      | (unfold opPick opMove at h ⊢)
      | unfold opBuild at h ⊢
      | unfold opNil at h ⊢
      | unfold opBin at h ⊢
      | unfold opUn at h ⊢
      | unfold opFunc at h ⊢
      | unfold opSlice at h ⊢
      | unfold opFieldAddr at h ⊢
      | unfold opField at h ⊢
      | unfold opIndexAddr at h ⊢
      | unfold opIndex at h ⊢
      | unfold opExtract at h ⊢
    (repeat' split at h)
    all_goals first
      | (cases h; done)
      | (simp only [Option.some.injEq, Prod.mk.injEq] at h; simp_all)
end
end Go.Proofs.Ytpkeggejofeeeaa.Lvm
