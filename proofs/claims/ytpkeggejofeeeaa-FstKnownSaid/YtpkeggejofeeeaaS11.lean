/- Laws of the small machine and of how it stands to the model; a helper of the statements: no statement is proved here. -/
import Derived.Test.YtpkeggejofeeeaaS10b
namespace Go.Proofs.Ytpkeggejofeeeaa.Lvm

def NextIs (n : Next) (u : Value) : Prop := n = .value u ∨ (n = .skip ∧ u = undef)

inductive LOut (E : Env) (inj : Inj) (lo : Nat) (cover wr : Bool) (st : LSt) (w : World) (v : LV) (st' : LSt) (s : Sem Next) : Prop where
  | same (h : st' = st) (n : Next) (u : Value) (hn : NextIs n u) (hr : s.run E.P w = .ok n w) (hv : VRel inj v u)
  | fresh (o : LObj) (ob : Obj) (cnt : Nat) (n : Next) (u : Value) (w' : World) (hn : NextIs n u) (h1 : st' = newB st o) (hr : s.run E.P w = .ok n w') (h8 : w'.heap = w.heap.push ob) (h9 : Alike3 w w')
      (h10 : ∀ inj', Ext inj inj' → inj' st.nxt = some (w.heap.size, cnt) → VRel inj' v u ∧ ORel E inj' o (some ob) cnt)
  | store (hc : cover = true → wr = true) (L : Nat) (q : Nat × Nat) (old o : LObj) (ob : Obj) (n : Next) (u : Value) (w' : World) (hn : NextIs n u) (h1 : lo ≤ L) (h2 : inj L = some q) (h3 : st.mem.get L = some old) (h4 : old ≠ .dead) (h5 : o ≠ .dead)
      (h6 : st' = { st with mem := st.mem.set L o }) (hr : s.run E.P w = .ok n w') (h8 : w'.heap = w.heap.setIfInBounds q.1 ob) (h9 : Alike3 w w') (h10 : ORel E inj o (some ob) q.2) (h11 : VRel inj v u)
  | grow (L : Nat) (q : Nat × Nat) (cs cs' : List LV) (n : Next) (u : Value) (w' : World) (hn : NextIs n u) (h1 : lo ≤ L) (h2 : inj L = some q) (h3 : st.mem.get L = some (.cells cs))
      (h6 : st' = newB { st with mem := st.mem.set L .dead } (.cells cs')) (hr : s.run E.P w = .ok n w') (h9 : Alike3 w w')
      (h8 : (∃ ob cnt, w'.heap = w.heap.push ob ∧ ∀ inj', Ext inj inj' → inj' st.nxt = some (w.heap.size, cnt) → VRel inj' v u ∧ ORel E inj' (.cells cs') (some ob) cnt) ∨
        (∃ ob, w'.heap = w.heap.setIfInBounds q.1 ob ∧ (cover = true → ORel E inj (.cells cs) (some ob) q.2) ∧
          ∀ inj', Ext inj inj' → inj' st.nxt = some q → VRel inj' v u ∧ ORel E inj' (.cells cs') (some ob) q.2))

section
variable {E : Env} {B : Nat} {inj : Inj} {st st' : LSt} {w : World} {fr : LFr} {a : Act} {lo : Nat} {cover wr : Bool} {v : LV}

theorem LOut.of_val {s : Sem Value} (h : st' = st) (hv : ValOut E inj v w s) : LOut E inj lo cover wr st w v st' (do pure (.value (← s))) := by
  obtain ⟨u, hu, hr⟩ := hv
  exact .same h _ u (Or.inl rfl) (by simp [hu]) hr

theorem LOut.of_fresh {s : Sem Value} (h : FreshOut E inj st w v st' s) : LOut E inj lo cover wr st w v st' (do pure (.value (← s))) := by
  obtain ⟨o, ob, n, u, w', h1, h2, h3, h4, h5⟩ := h
  exact .fresh o ob n _ u w' (Or.inl rfl) h1 (by simp [h2]) h3 h4 h5

theorem LOut.of_store {s : Sem Unit} (hc : cover = true → wr = true) (h : StoreOut E inj lo st w st' s) : LOut E inj lo cover wr st w lundef st' (do s; pure .skip) := by
  obtain ⟨L, q, old, o, ob, w', h1, h2, h3, h4, h5, h6, h7, h8, h9, h10⟩ := h
  exact .store hc L q old o ob _ undef w' (Or.inr ⟨rfl, rfl⟩) h1 h2 h3 h4 h5 h6 (by simp [h7]) h8 h9 h10 VRel.undef

theorem LOut.of_storeV {s : Sem Value} (hc : cover = true → wr = true) (h : StoreVOut E inj lo st w v st' s) : LOut E inj lo cover wr st w v st' (do pure (.value (← s))) := by
  obtain ⟨L, q, old, o, ob, w', u, h1, h2, h3, h4, h5, h6, h7, h8, h9, h10, h11⟩ := h
  exact .store hc L q old o ob _ u w' (Or.inl rfl) h1 h2 h3 h4 h5 h6 (by simp [h7]) h8 h9 h10 h11

theorem LOut.of_app {s : Sem Value} (h : AppOut E inj lo cover st w v st' s) : LOut E inj lo cover wr st w v st' (do pure (.value (← s))) := by
  cases h with
  | same h hv => exact .of_val h hv
  | fresh h => exact .of_fresh h
  | store hc L q old o ob u w' h1 h2 h3 h4 h5 h6 h7 h8 h9 h10 h11 =>
    exact .store (fun e => by rw [hc] at e; cases e) L q old o ob _ u w' (Or.inl rfl) h1 h2 h3 h4 h5 h6 (by simp [h7]) h8 h9 h10 h11
  | grow L q cs cs' u w' h1 h2 h3 h6 h7 h9 h8 => exact .grow L q cs cs' _ u w' (Or.inl rfl) h1 h2 h3 h6 (by simp [h7]) h9 h8

theorem LOut.of_conv {s : Sem Value} (h : ConvOut E inj st w v st' s) : LOut E inj lo cover wr st w v st' (do pure (.value (← s))) := by
  rcases h with ⟨h, hv⟩ | h
  · exact .of_val h hv
  · exact .of_fresh h

def isCallV : Op → Bool
  | .call c => match c.callee with
    | .value _ => true
    | _ => false
  | _ => false

def isWrite : Op → Bool
  | .store .. => true
  | .mapUpdate .. => true
  | .mapEntry .. => true
  | .entryStore .. => true
  | _ => false

theorem vop_light (hE : E.Ok) (hm : Emb E B inj st w) {call : CallFn} {o : Oper} (hx : ∀ x ∈ o.op.operands, XRel inj fr a x) (hc : isCallV o.op = false)
    (h : vop E call lo cover fr st o.op = some (v, st')) : LOut E inj lo cover (isWrite o.op) st w v st' (execOp a.eval o) := by
  obtain ⟨dst, op, ty, pos, after, guard⟩ := o
  cases op <;> simp only [vop, reduceCtorEq] at h <;> simp only [Op.operands] at hx
  case move x =>
    unfold opMove at h; split at h
    · rename_i y hy; simp only [Option.some.injEq, Prod.mk.injEq] at h; obtain ⟨rfl, rfl⟩ := h
      exact .same rfl _ _ (Or.inl rfl) (by simp [execOp]) (hx x (by simp) _ hy)
    · cases h
  case assign x =>
    unfold opMove at h; split at h
    · rename_i y hy; simp only [Option.some.injEq, Prod.mk.injEq] at h; obtain ⟨rfl, rfl⟩ := h
      exact .same rfl _ _ (Or.inl rfl) (by simp [execOp]) (hx x (by simp) _ hy)
    · cases h
  case pick c p q =>
    unfold opPick at h; split at h
    · rename_i t ht
      have h0 := hx c (by simp) _ ht
      simp only [VRel] at h0
      unfold opMove at h; split at h
      · rename_i y hy; simp only [Option.some.injEq, Prod.mk.injEq] at h; obtain ⟨rfl, rfl⟩ := h
        cases t with
        | true => exact .same rfl _ _ (Or.inl rfl) (by simp [execOp, h0, asBool]) (hx p (by simp) _ hy)
        | false => exact .same rfl _ _ (Or.inl rfl) (by simp [execOp, h0, asBool]) (hx q (by simp) _ hy)
      · cases h
    · cases h
  case alloc t => exact .of_fresh (opAlloc_sound hE h)
  case box t x => exact .of_fresh (opBox_sound (hx x (by simp)) h)
  case build t ps =>
    unfold opBuild at h; split at h
    · rename_i l hl
      split at h
      · rename_i z hz; simp only [Option.some.injEq, Prod.mk.injEq] at h; obtain ⟨rfl, rfl⟩ := h
        exact .of_val rfl (buildL_sound hE (fun x hx' => hx x (by simpa using hx')) hl hz)
      · cases h
    · cases h
  case buildSlice t n ps => exact .of_fresh (opBuildSlice_sound hE (fun x hx' => hx x (by simpa using hx')) h)
  case load t x =>
    unfold opLoad at h; split at h
    · rename_i b o hb
      split at h
      · rename_i z hz; simp only [Option.some.injEq, Prod.mk.injEq] at h; obtain ⟨rfl, rfl⟩ := h
        have h0 := hx x (by simp) _ hb
        simp only [VRel] at h0
        obtain ⟨r, hr, hv⟩ := h0
        obtain ⟨u, hu, hr'⟩ := loadV_sound hE hm hz hr
        exact .of_val rfl ⟨u, by simp only [Instr.loadAt, hv, Instr.sureAddr, Sem.run_bind, Sem.run_pure, Result.andThen_ok, hu], hr'⟩
      · cases h
    · cases h
  case store t p x =>
    unfold opStore at h; split at h
    · rename_i b o hb
      split at h
      · rename_i z hz
        split at h
        · rename_i st2 hst
          simp only [Option.some.injEq, Prod.mk.injEq] at h; obtain ⟨rfl, rfl⟩ := h
          have h0 := hx p (by simp) _ hb
          simp only [VRel] at h0
          obtain ⟨r, hr, hv⟩ := h0
          have h1 := hx x (by simp) _ hz
          unfold storeV at hst
          split at hst
          · rename_i n hn
            obtain ⟨i, hi, hs⟩ := hE.size _ _ hn
            cases hb : Nat.beq z.cells.length n with
            | false => rw [hb] at hst; simp at hst
            | true =>
              rw [hb] at hst; simp only [cond_true] at hst
              have hb := Nat.eq_of_beq_eq_true hb
              have hl := h1.cells.length
              simp only [Array.length_toList] at hl
              obtain ⟨L, q, old, o', ob, w', g1, g2, g3, g4, g5, g6, g7, g8, g9, g10⟩ := storeN_sound (w := w) hm hr h1.cells hst
              refine .of_store (fun _ => rfl) ⟨L, q, old, o', ob, w', g1, g2, g3, g4, g5, g6, ?_, g8, g9, g10⟩
              simp only [Instr.storeAt, hv, Instr.sureAddr, Sem.run_bind, Sem.run_pure, Result.andThen_ok, storeVar, r_size hi]
              rw [if_neg (by simp; omega)]
              exact g7
          · cases hst
        · cases h
      · cases h
    · cases h
  case nilCheck x =>
    unfold opNil at h; split at h
    · rename_i b o hb
      simp only [Option.some.injEq, Prod.mk.injEq] at h; obtain ⟨rfl, rfl⟩ := h
      have h0 := hx x (by simp) _ hb
      have h1 := h0
      simp only [VRel] at h1
      obtain ⟨r, hr, hv⟩ := h1
      exact .same rfl _ _ (Or.inl rfl) (by simp [execOp, hv]; rfl) (by rw [← hv]; exact h0)
    · cases h
  case binOp op t x y t' =>
    unfold opBin at h; split at h
    · rename_i p hp
      split at h
      · rename_i q hq
        split at h
        · rename_i z hz; simp only [Option.some.injEq, Prod.mk.injEq] at h; obtain ⟨rfl, rfl⟩ := h
          exact .of_val rfl (binL_sound hE hz (hx x (by simp) _ hp) (hx y (by simp) _ hq) x y)
        · cases h
      · cases h
    · cases h
  case unOp op t x =>
    unfold opUn at h; split at h
    · rename_i p hp
      split at h
      · rename_i z hz; simp only [Option.some.injEq, Prod.mk.injEq] at h; obtain ⟨rfl, rfl⟩ := h
        exact .of_val rfl (unL_sound hz (hx x (by simp) _ hp))
      · cases h
    · cases h
  case convert s d x =>
    unfold opConv at h; split at h
    · rename_i p hp
      exact .of_conv (convL_sound hE hm (hx x (by simp) _ hp) h)
    · cases h
  case makeFunc fn first cap =>
    unfold opFunc at h; split at h
    · split at h
      · rename_i f1 hf1
        split at h
        · rename_i c1 hc1
          simp only [Option.some.injEq, Prod.mk.injEq] at h; obtain ⟨rfl, rfl⟩ := h
          have r1 := levals_rel (fun x hx' => hx x (by simp at hx' ⊢; exact Or.inl hx')) hf1
          have r2 := levals_rel (fun x hx' => hx x (by simp at hx' ⊢; exact Or.inr hx')) hc1
          refine .of_val rfl ⟨_, by simp [Instr.makeFunc]; rfl, ?_⟩
          simp only [VRel]
          exact ⟨_, _, rfl, by simpa using r1, by simpa using r2⟩
        · cases h
      · cases h
    · cases h
  case makeMap t r => exact .of_fresh (opMakeMap_sound h)
  case makeSlice t l c => exact .of_fresh (opMakeSlice_sound hE (hx l (by simp)) (hx c (by simp)) h)
  case slice t x l hh m =>
    unfold opSlice at h; split at h
    · rename_i p hp
      split at h
      · rename_i z hz; simp only [Option.some.injEq, Prod.mk.injEq] at h; obtain ⟨rfl, rfl⟩ := h
        exact .of_val rfl (sliceL_sound hE (fun y hy => hx y (by simp [hy])) (fun y hy => hx y (by simp [hy])) (fun y hy => hx y (by simp [hy])) hz (hx x (by simp) _ hp))
      · cases h
    · cases h
  case fieldAddr s x f =>
    unfold opFieldAddr at h; split at h
    · rename_i p hp
      split at h
      · rename_i z hz; simp only [Option.some.injEq, Prod.mk.injEq] at h; obtain ⟨rfl, rfl⟩ := h
        exact .of_val rfl (fieldAddrL_sound hE hz (hx x (by simp) _ hp))
      · cases h
    · cases h
  case field s x f =>
    unfold opField at h; split at h
    · rename_i p hp
      split at h
      · rename_i z hz; simp only [Option.some.injEq, Prod.mk.injEq] at h; obtain ⟨rfl, rfl⟩ := h
        exact .of_val rfl (fieldL_sound hE hz (hx x (by simp) _ hp))
      · cases h
    · cases h
  case indexAddr t x i =>
    unfold opIndexAddr at h; split at h
    · rename_i p hp
      split at h
      · rename_i q hq
        split at h
        · rename_i z hz; simp only [Option.some.injEq, Prod.mk.injEq] at h; obtain ⟨rfl, rfl⟩ := h
          exact .of_val rfl (indexAddrL_sound hE hz (hx x (by simp) _ hp) (hx i (by simp) _ hq))
        · cases h
      · cases h
    · cases h
  case index t x i =>
    unfold opIndex at h; split at h
    · rename_i p hp
      split at h
      · rename_i q hq
        split at h
        · rename_i z hz; simp only [Option.some.injEq, Prod.mk.injEq] at h; obtain ⟨rfl, rfl⟩ := h
          exact .of_val rfl (indexL_sound hE hz (hx x (by simp) _ hp) (hx i (by simp) _ hq))
        · cases h
      · cases h
    · cases h
  case lookup t x i ok =>
    unfold opLookup at h; split at h
    · rename_i p hp
      split at h
      · rename_i q hq
        split at h
        · rename_i z hz; simp only [Option.some.injEq, Prod.mk.injEq] at h; obtain ⟨rfl, rfl⟩ := h
          exact .of_val rfl (lookupL_sound hE hm hz (hx x (by simp) _ hp) (hx i (by simp) _ hq))
        · cases h
      · cases h
    · cases h
  case mapUpdate t m k x =>
    unfold opMapUpdate at h; split at h
    · rename_i p hp
      split at h
      · rename_i q hq
        split at h
        · rename_i y hy
          split at h
          · rename_i st2 hst; simp only [Option.some.injEq, Prod.mk.injEq] at h; obtain ⟨rfl, rfl⟩ := h
            exact .of_store (fun _ => rfl) (mapSetL_sound hE hm hst (hx m (by simp) _ hp) (hx k (by simp) _ hq) (hx x (by simp) _ hy))
          · cases h
        · cases h
      · cases h
    · cases h
  case mapEntry t m k =>
    unfold opMapEntry at h; split at h
    · rename_i p hp
      split at h
      · rename_i q hq
        exact .of_storeV (fun _ => rfl) (mapEntryL_sound hE hm h (hx m (by simp) _ hp) (hx k (by simp) _ hq))
      · cases h
    · cases h
  case entryStore t m k x =>
    unfold opEntryStore at h; split at h
    · rename_i p hp
      split at h
      · rename_i q hq
        split at h
        · rename_i y hy
          split at h
          · rename_i st2 hst; simp only [Option.some.injEq, Prod.mk.injEq] at h; obtain ⟨rfl, rfl⟩ := h
            exact .of_store (fun _ => rfl) (entryStoreL_sound hm hst (hx m (by simp) _ hp) (hx k (by simp) _ hq) (hx x (by simp) _ hy))
          · cases h
        · cases h
      · cases h
    · cases h
  case range t x =>
    unfold opRange at h; split at h
    · rename_i p hp
      exact .of_fresh (rangeL_sound hE hm h (hx x (by simp) _ hp))
    · cases h
  case entry x =>
    unfold opEntry at h; split at h
    · rename_i p hp
      split at h
      · rename_i z hz; simp only [Option.some.injEq, Prod.mk.injEq] at h; obtain ⟨rfl, rfl⟩ := h
        exact .of_val rfl (entryL_sound hm hz (hx x (by simp) _ hp))
      · cases h
    · cases h
  case extract t i =>
    unfold opExtract at h; split at h
    · rename_i vs hvs
      split at h
      · rename_i z hz; simp only [Option.some.injEq, Prod.mk.injEq] at h; obtain ⟨rfl, rfl⟩ := h
        have h0 := hx t (by simp) _ hvs
        simp only [VRel] at h0
        obtain ⟨us, hu, hr⟩ := h0
        obtain ⟨u, hu', hr'⟩ := hr.get? hz
        exact .of_val rfl ⟨u, by simp [Instr.extract, hu, show us[i]? = some u by simpa using hu'], hr'⟩
      · cases h
    · cases h
  case call c =>
    obtain ⟨callee, args, argTypes⟩ := c
    unfold opCall at h; split at h
    · rename_i vs hvs
      cases callee with
      | value f => simp [isCallV] at hc
      | invoke r m => simp at h
      | builtin b =>
        simp only at h
        have hr := levals_rel (fun x hx' => hx x (show x ∈ (#[] : Array Operand) ++ args from Array.mem_append.2 (Or.inr (Array.mem_toList_iff.1 hx')))) hvs
        have hr' : (args.map a.eval) = (args.toList.map a.eval).toArray := by rw [← Array.toList_map]
        unfold builtinL at h
        split at h
        · -- len
          rename_i x t ts hts
          cases hz : lenB E st t x with
          | none => simp [hz] at h
          | some z =>
            simp [hz] at h; obtain ⟨rfl, rfl⟩ := h
            simp only [VRels] at hr
            obtain ⟨u, _, hu, hr0, rfl⟩ := hr
            obtain ⟨y, hy, hy'⟩ := lenB_sound hE hm (u := u) (ts := argTypes) (by rw [← Array.getElem?_toList, hts]; rfl) hr0 hz ty
            have := LOut.of_val (lo := lo) (cover := cover) (wr := false) (st := st) (st' := st) rfl ⟨y, hy, hy'⟩
            simpa only [execOp, resolve, Sem.run_bind, invoke, builtin, hr', hu, pure_bind, isWrite] using this
        · -- append
          rename_i s x t t' hts
          split at h
          · rename_i e he
            simp only [VRels] at hr
            obtain ⟨u, _, hu, hr0, u', _, hu', hr1, rfl⟩ := hr
            subst hu'
            have := LOut.of_app (wr := false) (appendL_sound hE hm (ts := argTypes) (ty := ty) (by rw [← Array.getElem?_toList, hts]; rfl) (by rw [← Array.getElem?_toList, hts]; rfl) ⟨_, hE.und _ _ he, Or.inl ⟨_, rfl⟩⟩ hr0 hr1 h)
            simpa only [execOp, resolve, Sem.run_bind, invoke, builtin, hr', hu, pure_bind, isWrite] using this
          · rename_i he
            simp only [VRels] at hr
            obtain ⟨u, _, hu, hr0, u', _, hu', hr1, rfl⟩ := hr
            subst hu'
            have := LOut.of_app (wr := false) (appendL_sound hE hm (ts := argTypes) (ty := ty) (by rw [← Array.getElem?_toList, hts]; rfl) (by rw [← Array.getElem?_toList, hts]; rfl) ⟨_, hE.und _ _ he, Or.inr rfl⟩ hr0 hr1 h)
            simpa only [execOp, resolve, Sem.run_bind, invoke, builtin, hr', hu, pure_bind, isWrite] using this
          · cases h
        · -- min
          simp only [Option.map_eq_some_iff] at h
          obtain ⟨z, hz, he⟩ := h
          simp only [Prod.mk.injEq] at he
          obtain ⟨rfl, rfl⟩ := he
          have := LOut.of_val (E := E) (lo := lo) (cover := cover) (wr := false) (st := st) (st' := st) rfl (minL_sound (w := w) hz hr argTypes ty)
          simpa only [execOp, resolve, Sem.run_bind, invoke, builtin, hr', pure_bind, isWrite] using this
        · simp only [Option.map_eq_some_iff] at h
          obtain ⟨z, hz, he⟩ := h
          simp only [Prod.mk.injEq] at he
          obtain ⟨rfl, rfl⟩ := he
          have := LOut.of_val (E := E) (lo := lo) (cover := cover) (wr := false) (st := st) (st' := st) rfl (maxL_sound (w := w) hz hr argTypes ty)
          simpa only [execOp, resolve, Sem.run_bind, invoke, builtin, hr', pure_bind, isWrite] using this
        · cases h
    · cases h
end
end Go.Proofs.Ytpkeggejofeeeaa.Lvm
