/- Laws of the small machine and of how it stands to the model; a helper of the statements: no statement is proved here. -/
import Derived.Test.YtpkeggejofeeeaaS12
namespace Go.Proofs.Ytpkeggejofeeeaa.Lvm

def CallSound (E : Env) (B : Nat) (call : CallFn) : Prop := ∀ lo f args st r st', call lo f args st = some (r, st') →
  ∀ (inj : Inj) (w : World) (args' : Array Value), Rel E B inj st w → lo ≤ st.nxt → VRels inj args args'.toList →
    (callFunc f args').run E.P w = .ok (.enter f args') w ∧
    Calls E.P f args' w fun e w' => ∃ u inj', e = .returned u ∧ VRel inj' r u ∧ Rel E B inj' st' w' ∧ Step lo inj st w inj' st' w'

section
variable {E : Env} {B lo : Nat} {inj : Inj} {st st' : LSt} {w : World} {fr fr' : LFr} {a : Act} {cover wr : Bool} {v : LV}

theorem LOut.step {s : Sem Next} (hr : Rel E B inj st w) (hlo : lo ≤ st.nxt) (h : LOut E inj lo cover wr st w v st' s) :
    ∃ n u w' inj', NextIs n u ∧ s.run E.P w = .ok n w' ∧ VRel inj' v u ∧ Rel E B inj' st' w' ∧ Step lo inj st w inj' st' w' := by
  cases h with
  | same h n u hn hrun hv => subst h; exact ⟨n, u, w, inj, hn, hrun, hv, hr, Step.refl⟩
  | fresh o ob cnt n u w' hn h1 hrun h8 h9 h10 =>
    subst h1
    have hx := injAt_ext hr.toEmb (w.heap.size, cnt)
    obtain ⟨k1, k2⟩ := h10 (injAt inj st.nxt (w.heap.size, cnt)) hx (by simp [injAt])
    obtain ⟨g1, g2⟩ := fresh_step hr hlo h8 h9 k2
    exact ⟨n, u, w', _, hn, hrun, k1, g1, g2⟩
  | store hc L q old o ob n u w' hn h1 h2 h3 h4 h5 h6 hrun h8 h9 h10 h11 =>
    subst h6
    obtain ⟨g1, g2⟩ := store_step hr hlo h1 h2 h3 h4 h5 h8 h9 h10
    exact ⟨n, u, w', _, hn, hrun, h11, g1, g2⟩
  | grow L q cs cs' n u w' hn h1 h2 h3 h6 hrun h9 h8 =>
    subst h6
    rcases h8 with ⟨ob, cnt, h8, h10⟩ | ⟨ob, h8, _, h10⟩
    · have hk := kill_step hr h2
      have hx := injAt_ext hr.toEmb (w.heap.size, cnt)
      obtain ⟨k1, k2⟩ := h10 (injAt inj st.nxt (w.heap.size, cnt)) hx (by simp [injAt])
      obtain ⟨g1, g2⟩ := fresh_step (st := { st with mem := st.mem.set L .dead }) (lo := lo) hk hlo h8 h9 k2
      refine ⟨n, u, w', _, hn, hrun, k1, g1, ⟨g2.ext, g2.nxt, g2.size, ?_, ?_, ?_, h9⟩⟩
      · intro b hb _; exact push_old h8 hb
      · intro A p hA hl hp
        rcases g2.orig A p hA hl hp with e | ⟨A0, p0, e1, e2, e3, e4⟩
        · exact Or.inl e
        · refine Or.inr ⟨A0, p0, e1, ?_, e3, e4⟩
          obtain ⟨x, hx1, hx2⟩ := e2
          simp only [Mem.get_set] at hx1
          by_cases e : L = A0
          · subst e; exact ⟨_, h3, by simp⟩
          · rw [if_neg e] at hx1; exact ⟨x, hx1, hx2⟩
      · intro A hA
        rw [g2.old A hA]; simp only [Mem.get_set]; rw [if_neg (by omega)]
    · have hx := injAt_ext hr.toEmb q
      obtain ⟨k1, k2⟩ := h10 (injAt inj st.nxt q) hx (by simp [injAt])
      obtain ⟨g1, g2⟩ := grow_step hr hlo h1 h2 h3 h8 h9 k2
      exact ⟨n, u, w', _, hn, hrun, k1, g1, g2⟩

theorem lput_rel {dst : Option Tmp} {u : Value} {o : Oper} (ho : o.dst = dst) (hf : FRel inj fr a.tmps) (hv : VRel inj v u) (h : lputK fr dst v (fun f => some (f, st)) = some (fr', st')) :
    st' = st ∧ FRel inj fr' (a.put o.dst u).tmps := by
  rw [lputK_eq] at h
  subst ho
  cases hd : o.dst with
  | none =>
    rw [hd] at h
    simp only [Option.some.injEq, Prod.mk.injEq] at h
    obtain ⟨rfl, rfl⟩ := h
    exact ⟨rfl, hf⟩
  | some d =>
    rw [hd] at h
    simp only at h
    cases hb : Nat.blt d fr.n with
    | false => rw [hb] at h; simp at h
    | true =>
      rw [hb] at h
      simp only [cond_true, Option.some.injEq, Prod.mk.injEq] at h
      obtain ⟨rfl, rfl⟩ := h
      exact ⟨rfl, hf.put hv d (blt_lt hb)⟩

theorem put_defers (a : Act) (d : Option Tmp) (u : Value) : (a.put d u).defers = a.defers := by cases d <;> rfl

/-- The call's own operands. -/
theorem opCall_value {call : CallFn} {c : Call} {f : Operand} {r : LV} (hcv : c.callee = .value f) (h : opCall E call lo cover fr st c = some (r, st')) :
    ∃ vs g first cap, levals fr c.args.toList = some vs ∧ leval fr f = some (.fn g first cap) ∧ call lo g ((first ++ vs) ++ cap) st = some (r, st') := by
  unfold opCall at h
  split at h
  · rename_i vs hvs
    rw [hcv] at h
    simp only at h
    split at h
    · rename_i g first cap hg; exact ⟨vs, g, first, cap, hvs, hg, h⟩
    · cases h
  · cases h

theorem oper_seq (hE : E.Ok) {call : CallFn} (hcall : CallSound E B call) {ops : Array Oper} {i : Nat} {o : Oper} (ho : ops[i]? = some o) (hr : Rel E B inj st w) (hlo : lo ≤ st.nxt) (hf : FRel inj fr a.tmps)
    (hd : a.defers = []) (h : vOper E call lo cover ops.toList o fr st = some (fr', st')) {K : Act → World → Prop} {Q : Exit → Act → World → Prop}
    (hK : ∀ inj' a' w', Step lo inj st w inj' st' w' → Rel E B inj' st' w' → FRel inj' fr' a'.tmps → a'.defers = [] → K a' w') :
    wpOp E.P ops Q i K a w := by
  unfold wpOp
  simp only [ho]
  unfold vOper at h
  cases hw : lwanted ops.toList fr o with
  | none => rw [hw] at h; cases h
  | some bw =>
  rw [hw] at h
  rw [wanted_eq hf hw]
  cases bw with
  | false =>
    simp only at h
    obtain ⟨rfl, hf'⟩ := lput_rel rfl hf VRel.undef h
    simp only [Bool.false_eq_true, if_false]
    exact hK inj _ w Step.refl hr hf' (by rw [put_defers]; exact hd)
  | true =>
    simp only at h
    simp only [if_true]
    left
    split at h
    · rename_i v st2 hv
      cases hcv : isCallV o.op with
      | false =>
        obtain ⟨n, u, w', inj', hn, hrun, hvr, hr', hs'⟩ := (vop_light hE hr.toEmb (fun x _ => XRel.of_frame hf x) hcv hv).step hr hlo
        obtain ⟨rfl, hf'⟩ := lput_rel rfl (hf.mono (hs'.toExt hr.toEmb)) hvr h
        unfold Oper.wp
        rw [hrun]
        rcases hn with rfl | ⟨rfl, rfl⟩
        · exact hK inj' _ w' hs' hr' hf' (by rw [put_defers]; exact hd)
        · exact hK inj' _ w' hs' hr' hf' (by rw [put_defers]; exact hd)
      | true =>
        obtain ⟨dst, op, ty, pos, after, guard⟩ := o
        cases op <;> simp only [isCallV, Bool.false_eq_true] at hcv
        rename_i c
        cases hcc : c.callee with
        | builtin b => rw [hcc] at hcv; simp at hcv
        | invoke r m => rw [hcc] at hcv; simp at hcv
        | value f =>
          simp only [vop] at hv
          obtain ⟨vs, g, first, cap, hvs, hg, hcl⟩ := opCall_value hcc hv
          have hxf := XRel.of_frame (a := a) hf f _ hg
          simp only [VRel] at hxf
          obtain ⟨fs, cs, hfe, hr1, hr2⟩ := hxf
          have hargs := levals_rel (a := a) (fun x _ => XRel.of_frame hf x) hvs
          have hall : VRels inj ((first ++ vs) ++ cap) ((fs ++ c.args.map a.eval) ++ cs).toList := by
            simpa using (hr1.append hargs).append hr2
          obtain ⟨hcf, hcalls⟩ := hcall lo g _ st v st2 hcl inj w _ hr hlo hall
          have hrun : (execOp a.eval ⟨dst, .call c, ty, pos, after, guard⟩).run E.P w = .ok (.enter g ((fs ++ c.args.map a.eval) ++ cs)) w := by
            simp only [execOp, resolve, hcc, hfe, Deferred.ofValue, pure_bind, invoke]
            exact hcf
          unfold Oper.wp
          rw [hrun, Oper.upon_enter]
          refine hcalls.mono fun e w' he => ?_
          obtain ⟨u, inj', rfl, hvr, hr', hs'⟩ := he
          obtain ⟨rfl, hf'⟩ := lput_rel (o := ⟨dst, .call c, ty, pos, after, guard⟩) rfl (hf.mono (hs'.toExt hr.toEmb)) hvr h
          exact hK inj' _ w' hs' hr' hf' (by rw [put_defers]; exact hd)
    · cases h

theorem vOpers_nil {call : CallFn} {ops : List Oper} : vOpers E call lo cover ops [] fr st = some (fr, st) := rfl
theorem vOpers_cons {call : CallFn} {ops os : List Oper} {o : Oper} : vOpers E call lo cover ops (o :: os) fr st = match vOper E call lo cover ops o fr st with
    | some (fr', st') => vOpers E call lo cover ops os fr' st'
    | none => none := rfl

theorem opers_seq (hE : E.Ok) {call : CallFn} (hcall : CallSound E B call) {ops : Array Oper} {Q : Exit → Act → World → Prop} : ∀ (os : List Oper) (k : Nat) (inj : Inj) (st : LSt) (w : World) (fr : LFr) (a : Act),
    (∀ j o, os[j]? = some o → ops[k + j]? = some o) → Rel E B inj st w → lo ≤ st.nxt → FRel inj fr a.tmps → a.defers = [] → vOpers E call lo cover ops.toList os fr st = some (fr', st') →
    (∀ inj' a' w', Step lo inj st w inj' st' w' → Rel E B inj' st' w' → FRel inj' fr' a'.tmps → a'.defers = [] → Q .normal a' w') →
    wpOps E.P ops Q (List.range' k os.length) a w
  | [], k, inj, st, w, fr, a, _, hr, hlo, hf, hd, h, hQ => by
    rw [vOpers_nil] at h
    simp only [Option.some.injEq, Prod.mk.injEq] at h
    obtain ⟨rfl, rfl⟩ := h
    simp only [List.length_nil, List.range'_zero, wpOps]
    exact hQ inj a w Step.refl hr hf hd
  | o :: os, k, inj, st, w, fr, a, hos, hr, hlo, hf, hd, h, hQ => by
    rw [vOpers_cons] at h
    split at h
    · rename_i fr1 st1 h1
      rw [List.length_cons, List.range'_succ, wpOps_cons]
      refine oper_seq hE hcall (by simpa using hos 0 o rfl) hr hlo hf hd h1 fun inj1 a1 w1 hs1 hr1 hf1 hd1 => ?_
      exact opers_seq hE hcall os (k + 1) inj1 st1 w1 fr1 a1 (fun j x hj => by rw [← hos (j + 1) x (by simpa using hj)]; congr 1; omega) hr1 (Nat.le_trans hlo hs1.nxt) hf1 hd1 h
        fun inj' a' w' hs' => hQ inj' a' w' (hs1.trans hs')
    · cases h

def LExit.to : LExit → Exit
  | .normal => .normal
  | .exit id => .exit id
  | .ret => .ret

def RecSound (E : Env) (B : Nat) (rec : RecFn) : Prop := ∀ lo c fr st ex fr' st', rec lo c fr st = some (ex, fr', st') →
  ∀ (inj : Inj) (w : World) (a : Act), Rel E B inj st w → lo ≤ st.nxt → FRel inj fr a.tmps → a.defers = [] → ∀ (Q : Exit → Act → World → Prop),
    (∀ inj' a' w', Step lo inj st w inj' st' w' → Rel E B inj' st' w' → FRel inj' fr' a'.tmps → a'.defers = [] → Q ex.to a' w') → c.wp E.P Q a w

/-- A region that draws its order. -/
def DrawSound (E : Env) (B : Nat) : Prop := ∀ (n : Nat), CallSound E B (vcall E (vcode E n)) → ∀ lo ops fr st fr' st', vregion E (vcode E n) lo ops true fr st = some (fr', st') →
  ∀ (id : Nat) (inj : Inj) (w : World) (a : Act), Rel E B inj st w → lo ≤ st.nxt → FRel inj fr a.tmps → a.defers = [] → ∀ (Q : Exit → Act → World → Prop),
    (∀ inj' a' w', Step lo inj st w inj' st' w' → Rel E B inj' st' w' → FRel inj' fr' a'.tmps → a'.defers = [] → Q .normal a' w') → (Code.region id ops true).wp E.P Q a w

/-- A loop over a map. -/
def WalkSound (E : Env) (B : Nat) : Prop := ∀ (n : Nat), RecSound E B (vcode E n) → ∀ lo id body x t c b fr st ex fr' st', walkOf body = some (x, t, c, id, b) → vwalk (vcode E n) lo x t c b fr st = some (ex, fr', st') →
  ∀ (inj : Inj) (w : World) (a : Act), Rel E B inj st w → lo ≤ st.nxt → FRel inj fr a.tmps → a.defers = [] → ∀ (Q : Exit → Act → World → Prop),
    (∀ inj' a' w', Step lo inj st w inj' st' w' → Rel E B inj' st' w' → FRel inj' fr' a'.tmps → a'.defers = [] → Q ex.to a' w') → (Code.block id body).wp E.P Q a w

/-- What stands for functions that are taken by a contract. -/
def ExtSound (E : Env) (B : Nat) : Prop := ∀ f g, E.ext f = some g → ∀ lo args st r st', g args st = some (r, st') →
  ∀ (inj : Inj) (w : World) (args' : Array Value), Rel E B inj st w → lo ≤ st.nxt → VRels inj args args'.toList →
    (callFunc f args').run E.P w = .ok (.enter f args') w ∧
    Calls E.P f args' w fun e w' => ∃ u inj', e = .returned u ∧ VRel inj' r u ∧ Rel E B inj' st' w' ∧ Step lo inj st w inj' st' w'

theorem argsF_cons {α : Type} (x : LV) (xs : List LV) (i : Nat) (m : Mem LV) (k : Mem LV → Option α) : argsF (x :: xs) i m k = argsF xs (i + 1) (m.set i x) k := by
  show Mem.setFK x (i + 1) m i (fun m => frcNat (i + 1) fun i => argsF xs i m k) = _
  rw [Mem.setFK_eq, frcNat_eq]; rfl

theorem argsF_eq {α : Type} : ∀ (l : List LV) (i : Nat) (m : Mem LV) (k : Mem LV → Option α),
    ∃ m', argsF l i m k = k m' ∧ ∀ j, m'.get j = if i ≤ j ∧ j < i + l.length then l[j - i]? else m.get j
  | [], i, m, k => ⟨m, rfl, fun j => by rw [if_neg (by simp)]⟩
  | x :: xs, i, m, k => by
    obtain ⟨m', h1, h2⟩ := argsF_eq xs (i + 1) (m.set i x) k
    refine ⟨m', by rw [argsF_cons]; exact h1, fun j => ?_⟩
    rw [h2, Mem.get_set]
    by_cases e : i = j
    · subst e
      rw [if_neg (by omega), if_pos rfl, if_pos (by simp)]; simp
    · rw [if_neg e]
      by_cases hj : i + 1 ≤ j ∧ j < i + 1 + xs.length
      · rw [if_pos hj, if_pos (by simp; omega)]
        rw [show j - i = (j - (i + 1)) + 1 by omega]; simp
      · rw [if_neg hj, if_neg (by simp; omega)]

theorem VRels.getD' {xs : List LV} {vs : Array Value} (h : VRels inj xs vs.toList) {i : Nat} {x : LV} (hx : xs[i]? = some x) : VRel inj x (vs.getD i undef) := by
  obtain ⟨v, hv, hr⟩ := h.get? hx
  have : vs[i]? = some v := by simpa using hv
  simpa [Array.getD_eq_getD_getElem?, this] using hr

theorem frame_args {args : List LV} {args' : Array Value} (h : VRels inj args args'.toList) {m : Mem LV} (hm : ∀ j, m.get j = if 0 ≤ j ∧ j < 0 + args.length then args[j - 0]? else (Mem.leaf : Mem LV).get j)
    {n : Nat} (hn : args.length ≤ n) : FRel inj { m := m, n := n } (args' ++ Array.replicate (n - args'.size) undef) := by
  have hl := h.length
  simp only [Array.length_toList] at hl
  refine ⟨by simp; omega, fun i v hv => ?_⟩
  simp only [hm] at hv
  by_cases hi : i < args.length
  · rw [if_pos (by omega)] at hv
    simp only [Nat.sub_zero] at hv
    have := h.getD' hv
    have e : (args' ++ Array.replicate (n - args'.size) undef).getD i undef = args'.getD i undef := by
      simp only [Array.getD_eq_getD_getElem?]
      rw [Array.getElem?_append_left (by omega)]
    rw [e]; exact this
  · rw [if_neg (by omega)] at hv
    cases hv

def resSem (a : Act) : ResultVar → Sem Value
  | .tmp t => pure (a.tmps.getD t undef)
  | .cell p t => do loadVar t (← asAddr (a.tmps.getD p undef))

theorem vresult_sound (hE : E.Ok) (hm : Emb E B inj st w) (hf : FRel inj fr a.tmps) {r : ResultVar} {x : LV} (h : vresult E fr st r = some x) :
    ∃ u, (resSem a r).run E.P w = .ok u w ∧ VRel inj x u := by
  cases r with
  | tmp t => simp only [vresult] at h; exact ⟨_, rfl, hf.2 t x h⟩
  | cell p t =>
    simp only [vresult] at h
    split at h
    · rename_i b o hb
      have hp := hf.2 p _ hb
      simp only [VRel] at hp
      obtain ⟨q, hq, hv⟩ := hp
      obtain ⟨u, hu, hr⟩ := loadV_sound hE hm h hq
      exact ⟨u, by simp only [resSem, hv, asAddr, Sem.run_bind, Sem.run_pure, Result.andThen_ok, hu], hr⟩
    · cases h

theorem vresultsL_sound (hE : E.Ok) (hm : Emb E B inj st w) (hf : FRel inj fr a.tmps) : ∀ {rs : List ResultVar} {xs : List LV}, vresultsL E fr st rs = some xs →
    ∃ us : List Value, (rs.mapM (resSem a)).run E.P w = .ok us w ∧ VRels inj xs us
  | [], xs, h => by simp [vresultsL] at h; subst h; exact ⟨[], by simp, VRels.nil⟩
  | r :: rs, xs, h => by
    simp only [vresultsL] at h
    split at h
    · rename_i v hv
      split at h
      · rename_i vs hvs
        simp at h; subst h
        obtain ⟨u, hu, h1⟩ := vresult_sound hE hm hf hv
        obtain ⟨us, hus, h2⟩ := vresultsL_sound hE hm hf hvs
        exact ⟨u :: us, by simp only [List.mapM_cons, Sem.run_bind, hu, Result.andThen_ok, hus, Sem.run_pure], VRels.cons h1 h2⟩
      · cases h
    · cases h

theorem vresults_sound (hE : E.Ok) (hm : Emb E B inj st w) (hf : FRel inj fr a.tmps) {fn : Func} {x : LV} (h : vresults E fn fr st = some x) : ∃ u, (results fn a.tmps).run E.P w = .ok u w ∧ VRel inj x u := by
  unfold vresults at h
  have key : ∀ xs, vresultsL E fr st fn.results.toList = some xs → ∃ us : List Value, (results fn a.tmps).run E.P w = .ok (if h : us.toArray.size = 1 then us.toArray[0] else .tuple us.toArray) w ∧ VRels inj xs us := by
    intro xs hxs
    obtain ⟨us, h1, h2⟩ := vresultsL_sound hE hm hf hxs
    refine ⟨us, ?_, h2⟩
    have hfun : results fn a.tmps = ((fn.results.mapM (resSem a)) >>= fun vs => pure (if h : vs.size = 1 then vs[0] else .tuple vs)) := by
      unfold results
      congr 2
    simp only [hfun, Sem.run_bind, Array.mapM_eq_mapM_toList, Sem.run_map]
    rw [h1]
    rfl
  split at h
  · rename_i v hv
    simp at h; subst h
    obtain ⟨us, h1, h2⟩ := key _ hv
    simp only [VRels] at h2
    obtain ⟨u, _, rfl, hr, rfl⟩ := h2
    exact ⟨u, by simpa using h1, hr⟩
  · rename_i vs hn hv
    simp at h; subst h
    obtain ⟨us, h1, h2⟩ := key _ hv
    have hl := h2.length
    refine ⟨.tuple us.toArray, ?_, by simp only [VRel]; exact ⟨_, rfl, by simpa using h2⟩⟩
    rw [h1]
    have : us.toArray.size ≠ 1 := by
      intro e
      simp only [List.size_toArray] at e
      rw [hl] at e
      match vs, e, hn with
      | [x], _, hn => exact hn x rfl
    rw [dif_neg this]
  · cases h

theorem vcall_sound (hE : E.Ok) {rec : RecFn} (hrec : RecSound E B rec) (hext : ExtSound E B) : CallSound E B (vcall E rec) := by
  intro lo f args st r st' h inj w args' hr hlo hv
  unfold vcall at h
  split at h
  · rename_i g hg; exact hext f g hg lo args st r st' h inj w args' hr hlo hv
  · split at h
    · rename_i fn hfn
      obtain ⟨hP, hname⟩ := hE.code f fn hfn
      split at h
      · rename_i c hc
        have hcf : (callFunc f args').run E.P w = .ok (.enter f args') w := by
          simp only [callFunc, Sem.run_bind, run_program, Result.andThen_ok, hP]
          rw [if_neg (by simpa using hname), if_neg (by simp [hc])]
          rfl
        refine ⟨hcf, ?_⟩
        cases hb : Nat.ble args.length fn.ntmps with
        | false => rw [hb] at h; simp at h
        | true =>
          rw [hb] at h; simp only [cond_true] at h
          have hle := Nat.le_of_ble_eq_true hb
          obtain ⟨m', h1, h2⟩ := argsF_eq args 0 .leaf (fun m => rec lo c { m := m, n := fn.ntmps } st)
          rw [h1] at h
          have hf := frame_args hv h2 hle
          have hl := hv.length
          simp only [Array.length_toList] at hl
          refine calls_of_wp hP hc ?_
          split at h
          · rename_i fr st2 hex
            refine hrec lo c _ st .normal fr st2 hex inj w { tmps := args' ++ Array.replicate (fn.ntmps - args'.size) undef, defers := [] } hr hlo hf rfl _ fun inj' a' w' hs' hr' hf' hd' => ?_
            cases hres : vresults E fn fr st2 with
            | none => rw [hres] at h; simp at h
            | some x =>
              rw [hres] at h; simp at h
              obtain ⟨rfl, rfl⟩ := h
              obtain ⟨u, hu, hru⟩ := vresults_sound hE hr'.toEmb hf' hres
              exact ⟨hd', u, hu, u, inj', rfl, hru, hr', hs'⟩
          · rename_i fr st2 hex
            refine hrec lo c _ st .ret fr st2 hex inj w { tmps := args' ++ Array.replicate (fn.ntmps - args'.size) undef, defers := [] } hr hlo hf rfl _ fun inj' a' w' hs' hr' hf' hd' => ?_
            cases hres : vresults E fn fr st2 with
            | none => rw [hres] at h; simp at h
            | some x =>
              rw [hres] at h; simp at h
              obtain ⟨rfl, rfl⟩ := h
              obtain ⟨u, hu, hru⟩ := vresults_sound hE hr'.toEmb hf' hres
              exact ⟨hd', u, hu, u, inj', rfl, hru, hr', hs'⟩
          · cases h
      · cases h
    · cases h

/-- The rounds of a loop. -/
def LoopSound (E : Env) (B : Nat) (n : Nat) : Prop := ∀ lo body fr st ex fr' st', vcode E n lo (.loop body) fr st = some (ex, fr', st') →
  ∀ (inj : Inj) (w : World) (a : Act), Rel E B inj st w → lo ≤ st.nxt → FRel inj fr a.tmps → a.defers = [] → ∀ (Q : Exit → Act → World → Prop),
    (∀ inj' a' w', Step lo inj st w inj' st' w' → Rel E B inj' st' w' → FRel inj' fr' a'.tmps → a'.defers = [] → Q ex.to a' w') → Code.rounds E.P body Q n a w

theorem vcode_sound (hE : E.Ok) (hext : ExtSound E B) (hdraw : DrawSound E B) (hwalk : WalkSound E B) : ∀ n, RecSound E B (vcode E n) ∧ LoopSound E B n
  | 0 => by
    refine ⟨?_, ?_⟩
    · intro lo c fr st ex fr' st' h
      change none = some _ at h; cases h
    · intro lo body fr st ex fr' st' h
      change none = some _ at h; cases h
  | n + 1 => by
    obtain ⟨ih, ihl⟩ := vcode_sound hE hext hdraw hwalk n
    have hcall := vcall_sound hE ih hext
    have hloop : LoopSound E B (n + 1) := by
      intro lo body fr st ex fr' st' h inj w a hr hlo hf hd Q hQ
      rw [rounds_succ]
      change (match vcode E n lo body fr st with
        | some (.normal, fr', st') => vcode E n lo (.loop body) fr' st'
        | r => r) = _ at h
      split at h
      · rename_i fr1 st1 h1
        refine ih lo body fr st _ fr1 st1 h1 inj w a hr hlo hf hd _ fun inj1 a1 w1 hs1 hr1 hf1 hd1 => ?_
        exact ihl lo body fr1 st1 ex fr' st' h inj1 w1 a1 hr1 (Nat.le_trans hlo hs1.nxt) hf1 hd1 Q fun inj' a' w' hs' => hQ inj' a' w' (hs1.trans hs')
      · rename_i hne
        refine ih lo body fr st ex fr' st' h inj w a hr hlo hf hd _ fun inj1 a1 w1 hs1 hr1 hf1 hd1 => ?_
        have hq := hQ inj1 a1 w1 hs1 hr1 hf1 hd1
        cases ex with
        | normal => exact absurd h (hne fr' st')
        | exit id => exact hq
        | ret => exact hq
    refine ⟨?_, hloop⟩
    intro lo c fr st ex fr' st' h inj w a hr hlo hf hd Q hQ
    change vstep E (vcode E n) lo c fr st = _ at h
    cases c <;> simp only [vstep, reduceCtorEq] at h
    case skip =>
      simp only [Option.some.injEq, Prod.mk.injEq] at h
      obtain ⟨rfl, rfl, rfl⟩ := h
      exact wp_skip (hQ inj a w Step.refl hr hf hd)
    case label l =>
      simp only [Option.some.injEq, Prod.mk.injEq] at h
      obtain ⟨rfl, rfl, rfl⟩ := h
      exact wp_label (hQ inj a w Step.refl hr hf hd)
    case exit id =>
      simp only [Option.some.injEq, Prod.mk.injEq] at h
      obtain ⟨rfl, rfl, rfl⟩ := h
      exact wp_exit (hQ inj a w Step.refl hr hf hd)
    case ret =>
      simp only [Option.some.injEq, Prod.mk.injEq] at h
      obtain ⟨rfl, rfl, rfl⟩ := h
      exact wp_ret (hQ inj a w Step.refl hr hf hd)
    case region id ops draw =>
      split at h
      · rename_i fr1 st1 h1
        simp only [Option.some.injEq, Prod.mk.injEq] at h
        obtain ⟨rfl, rfl, rfl⟩ := h
        cases draw with
        | true => exact hdraw n hcall lo ops fr st fr1 st1 h1 id inj w a hr hlo hf hd Q hQ
        | false =>
          unfold vregion at h1
          simp only [cond_false] at h1
          have := opers_seq hE hcall (ops := ops) (Q := Q) ops.toList 0 inj st w fr a (fun j o hj => by simpa using hj) hr hlo hf hd h1 hQ
          refine wp_region ?_
          rw [List.range_eq_range']
          simpa using this
      · cases h
    case seq x y =>
      refine wp_seq ?_
      split at h
      · rename_i fr1 st1 h1
        refine ih lo x fr st _ fr1 st1 h1 inj w a hr hlo hf hd _ fun inj1 a1 w1 hs1 hr1 hf1 hd1 => ?_
        exact ih lo y fr1 st1 ex fr' st' h inj1 w1 a1 hr1 (Nat.le_trans hlo hs1.nxt) hf1 hd1 Q fun inj' a' w' hs' => hQ inj' a' w' (hs1.trans hs')
      · rename_i hne
        refine ih lo x fr st ex fr' st' h inj w a hr hlo hf hd _ fun inj1 a1 w1 hs1 hr1 hf1 hd1 => ?_
        have hq := hQ inj1 a1 w1 hs1 hr1 hf1 hd1
        cases ex with
        | normal => exact absurd h (hne fr' st')
        | exit id => exact hq
        | ret => exact hq
    case cond x y z =>
      split at h
      · rename_i t ht
        have hx := XRel.of_frame (a := a) hf x _ ht
        refine wp_cond (t := t) (by simpa only [VRel] using hx) ?_
        exact ih lo _ fr st ex fr' st' h inj w a hr hlo hf hd Q hQ
      · cases h
    case block id body =>
      cases hwk : walkOf body with
      | some p =>
        obtain ⟨x, t, c, i, b⟩ := p
        rw [hwk] at h
        simp only at h
        cases hb : Nat.beq i id with
        | false => rw [hb] at h; simp at h
        | true =>
          rw [hb] at h; simp only [cond_true] at h
          have hb := Nat.eq_of_beq_eq_true hb
          subst hb
          exact hwalk n ih lo i body x t c b fr st ex fr' st' hwk h inj w a hr hlo hf hd Q hQ
      | none =>
        rw [hwk] at h
        simp only at h
        refine wp_block ?_
        split at h
        · rename_i i fr1 st1 h1
          refine ih lo body fr st _ fr1 st1 h1 inj w a hr hlo hf hd _ fun inj1 a1 w1 hs1 hr1 hf1 hd1 => ?_
          cases hb : Nat.beq i id with
          | true =>
            rw [hb] at h
            simp only [cond_true, Option.some.injEq, Prod.mk.injEq] at h
            obtain ⟨rfl, rfl, rfl⟩ := h
            have hb := Nat.eq_of_beq_eq_true hb
            subst hb
            have := hQ inj1 a1 w1 hs1 hr1 hf1 hd1
            simpa [LExit.to, Exit.inBlock] using this
          | false =>
            rw [hb] at h
            simp only [cond_false, Option.some.injEq, Prod.mk.injEq] at h
            obtain ⟨rfl, rfl, rfl⟩ := h
            have hne : i ≠ id := by intro e; subst e; simp at hb
            have := hQ inj1 a1 w1 hs1 hr1 hf1 hd1
            simpa [LExit.to, Exit.inBlock, hne] using this
        · rename_i hne
          refine ih lo body fr st ex fr' st' h inj w a hr hlo hf hd _ fun inj1 a1 w1 hs1 hr1 hf1 hd1 => ?_
          have hq := hQ inj1 a1 w1 hs1 hr1 hf1 hd1
          cases ex with
          | normal => exact hq
          | exit id' => exact absurd h (hne id' fr' st')
          | ret => exact hq
    case loop body =>
      exact wp_loop_rounds (n + 1) (hloop lo body fr st ex fr' st' h inj w a hr hlo hf hd Q hQ)
end
end Go.Proofs.Ytpkeggejofeeeaa.Lvm
