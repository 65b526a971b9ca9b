/- Laws of the small machine and of how it stands to the model; a helper of the statements: no statement is proved here. -/
import Derived.Test.YtpkeggejofeeeaaS14
namespace Go.Proofs.Ytpkeggejofeeeaa.Lvm

/-! ### the small machine's own memory, under a barrier -/
def NewOk (st : LSt) : Prop := ∀ L, st.nxt ≤ L → st.mem.get L = none
structure CEff (lo : Nat) (st st' : LSt) : Prop where
  nxt : st.nxt ≤ st'.nxt
  old : ∀ L, L < lo → st'.mem.get L = st.mem.get L
  new : NewOk st'

def CallEff (call : CallFn) : Prop := ∀ lo f args st r st', call lo f args st = some (r, st') → lo ≤ st.nxt → NewOk st → CEff lo st st'
def RecEff (rec : RecFn) : Prop := ∀ lo c fr st ex fr' st', rec lo c fr st = some (ex, fr', st') → lo ≤ st.nxt → NewOk st → CEff lo st st'
def ExtEff (E : Env) : Prop := ∀ f g, E.ext f = some g → ∀ args st r st', g args st = some (r, st') → NewOk st → CEff st.nxt st st'

section
variable {E : Env} {lo lo' : Nat} {cover : Bool} {st st' st'' : LSt} {fr fr' : LFr} {v : LV} {call : CallFn}

theorem CEff.refl (h : NewOk st) : CEff lo st st := ⟨Nat.le_refl _, fun _ _ => rfl, h⟩
theorem CEff.trans (h : CEff lo st st') (h' : CEff lo st' st'') : CEff lo st st'' :=
  ⟨Nat.le_trans h.nxt h'.nxt, fun L hL => (h'.old L hL).trans (h.old L hL), h'.new⟩
theorem CEff.weak (h : CEff lo st st') (hl : lo' ≤ lo) : CEff lo' st st' := ⟨h.nxt, fun L hL => h.old L (by omega), h.new⟩

theorem newB_eff (hn : NewOk st) (hlo : lo ≤ st.nxt) (o : LObj) : CEff lo st (newB st o) where
  nxt := by simp [newB]
  old := fun L hL => by simp only [newB, Mem.get_set]; rw [if_neg (by omega)]
  new := fun L hL => by
    simp only [newB] at hL ⊢
    rw [Mem.get_set, if_neg (by omega)]; exact hn L (by omega)

theorem set_eff (hn : NewOk st) {L : Nat} {old o : LObj} (h1 : lo ≤ L) (h3 : st.mem.get L = some old) : CEff lo st { st with mem := st.mem.set L o } where
  nxt := Nat.le_refl _
  old := fun A hA => by simp only [Mem.get_set]; rw [if_neg (by omega)]
  new := fun A hA => by
    simp only [Mem.get_set] at hA ⊢
    by_cases e : L = A
    · subst e; rw [hn L hA] at h3; cases h3
    · rw [if_neg e]; exact hn A hA

theorem EffOf.ceff {c : Cl} (hc : c ≠ .call) (hn : NewOk st) (hlo : lo ≤ st.nxt) (h : EffOf lo cover st st' c) : CEff lo st st' := by
  cases c with
  | pure => cases (show st' = st from h); exact .refl hn
  | read => cases (show st' = st from h); exact .refl hn
  | fresh => rcases h with rfl | ⟨o, rfl⟩; exact .refl hn; exact newB_eff hn hlo o
  | call => exact absurd rfl hc
  | write => obtain ⟨L, old, o, h1, h3, _, _, rfl⟩ := h; exact set_eff hn h1 h3
  | grow =>
    rcases h with (rfl | ⟨o, rfl⟩) | ⟨_, L, old, o, h1, h3, _, _, rfl⟩ | ⟨L, cs, cs', h1, h3, rfl⟩
    · exact .refl hn
    · exact newB_eff hn hlo o
    · exact set_eff hn h1 h3
    · have h := set_eff (o := .dead) hn h1 h3
      exact h.trans (newB_eff h.new hlo _)

theorem clOf_none {op : Op} (hc : clOf op = none) : vop E call lo cover fr st op = none := by
  cases op <;> simp only [clOf, reduceCtorEq] at hc <;> try rfl
  rename_i c
  obtain ⟨callee, args, argTypes⟩ := c
  cases callee with
  | value f => simp at hc
  | invoke r m => simp only [vop, opCall]; split <;> rfl
  | builtin b =>
    simp only [vop, opCall]
    split
    · unfold builtinL
      split <;> first | rfl | (simp at hc)
    · rfl

theorem clOf_call {op : Op} (hc : clOf op = some .call) : ∃ k f, op = .call k ∧ k.callee = .value f := by
  cases op <;> simp only [clOf, Option.some.injEq, reduceCtorEq] at hc
  rename_i c
  obtain ⟨callee, args, argTypes⟩ := c
  cases callee with
  | value f => exact ⟨_, f, rfl, rfl⟩
  | invoke r m => simp at hc
  | builtin b => simp only at hc; split at hc <;> first | (simp at hc; done) | (rename_i e; cases e)

theorem vop_ceff (hcall : CallEff call) (hn : NewOk st) (hlo : lo ≤ st.nxt) {op : Op} (h : vop E call lo cover fr st op = some (v, st')) : CEff lo st st' := by
  cases hc : clOf op with
  | none => rw [clOf_none hc] at h; cases h
  | some c =>
    by_cases hcc : c = .call
    · subst hcc
      obtain ⟨k, f, rfl, hk⟩ := clOf_call hc
      simp only [vop] at h
      obtain ⟨vs, g, first, cap, _, _, hcl⟩ := opCall_value hk h
      exact hcall lo g _ st v st' hcl hlo hn
    · exact EffOf.ceff hcc hn hlo (vop_eff hc h)

theorem lput_st {dst : Option Tmp} (h : lputK fr dst v (fun f => some (f, st)) = some (fr', st')) : st' = st ∧ ((dst = none ∧ fr' = fr) ∨ ∃ d, dst = some d ∧ d < fr.n ∧ fr' = fr.put d v) := by
  rw [lputK_eq] at h
  cases dst with
  | none => simp only [Option.some.injEq, Prod.mk.injEq] at h; exact ⟨h.2.symm, Or.inl ⟨rfl, h.1.symm⟩⟩
  | some d =>
    simp only at h
    cases hb : Nat.blt d fr.n with
    | false => rw [hb] at h; simp at h
    | true => rw [hb] at h; simp only [cond_true, Option.some.injEq, Prod.mk.injEq] at h; exact ⟨h.2.symm, Or.inr ⟨d, rfl, blt_lt hb, h.1.symm⟩⟩

/-- What one operation did, in its region. -/
def Tr (E : Env) (call : CallFn) (lo : Nat) (cover : Bool) (ops : List Oper) (o : Oper) (fr : LFr) (st : LSt) (fr' : LFr) (st' : LSt) : Prop :=
  ∃ v, ((o.dst = none ∧ fr' = fr) ∨ ∃ d, o.dst = some d ∧ d < fr.n ∧ fr' = fr.put d v) ∧
    ((lwanted ops fr o = some true ∧ vop E call lo cover fr st o.op = some (v, st')) ∨ (lwanted ops fr o = some false ∧ v = lundef ∧ st' = st))

theorem vOper_tr {ops : List Oper} {o : Oper} (h : vOper E call lo cover ops o fr st = some (fr', st')) : Tr E call lo cover ops o fr st fr' st' := by
  unfold vOper at h
  split at h
  · rename_i hw
    split at h
    · rename_i x st2 hv
      obtain ⟨rfl, h2⟩ := lput_st h
      exact ⟨x, h2, Or.inl ⟨hw, hv⟩⟩
    · cases h
  · rename_i hw
    obtain ⟨rfl, h2⟩ := lput_st h
    exact ⟨lundef, h2, Or.inr ⟨hw, rfl, rfl⟩⟩
  · cases h

theorem Tr.ceff (hcall : CallEff call) (hn : NewOk st) (hlo : lo ≤ st.nxt) {ops : List Oper} {o : Oper} (h : Tr E call lo cover ops o fr st fr' st') : CEff lo st st' := by
  obtain ⟨v, _, ⟨_, h⟩ | ⟨_, _, rfl⟩⟩ := h
  · exact vop_ceff hcall hn hlo h
  · exact .refl hn

theorem vOpers_eff (hcall : CallEff call) {ops : List Oper} : ∀ (l : List Oper) (fr : LFr) (st : LSt), lo ≤ st.nxt → NewOk st → vOpers E call lo cover ops l fr st = some (fr', st') → CEff lo st st'
  | [], fr, st, _, hn, h => by
    rw [vOpers_nil] at h; simp only [Option.some.injEq, Prod.mk.injEq] at h; obtain ⟨rfl, rfl⟩ := h; exact .refl hn
  | o :: os, fr, st, hlo, hn, h => by
    rw [vOpers_cons] at h
    split at h
    · rename_i fr1 st1 h1
      have e := (vOper_tr h1).ceff hcall hn hlo
      exact e.trans (vOpers_eff hcall os fr1 st1 (Nat.le_trans hlo e.nxt) e.new h)
    · cases h

theorem vcall_eff {rec : RecFn} (hrec : RecEff rec) (hext : ExtEff E) : CallEff (vcall E rec) := by
  intro lo f args st r st' h hlo hn
  unfold vcall at h
  split at h
  · rename_i g hg; exact (hext f g hg args st r st' h hn).weak hlo
  · split at h
    · rename_i fn hfn
      split at h
      · rename_i c hc
        cases hb : Nat.ble args.length fn.ntmps with
        | false => rw [hb] at h; simp at h
        | true =>
          rw [hb] at h; simp only [cond_true] at h
          obtain ⟨m', h1, h2⟩ := argsF_eq args 0 .leaf (fun m => rec lo c { m := m, n := fn.ntmps } st)
          rw [h1] at h
          split at h
          · rename_i fr st2 hex
            simp only [Option.map_eq_some_iff, Prod.mk.injEq] at h
            obtain ⟨_, _, _, rfl⟩ := h
            exact hrec _ _ _ _ _ _ _ hex hlo hn
          · rename_i fr st2 hex
            simp only [Option.map_eq_some_iff, Prod.mk.injEq] at h
            obtain ⟨_, _, _, rfl⟩ := h
            exact hrec _ _ _ _ _ _ _ hex hlo hn
          · cases h
      · cases h
    · cases h

theorem CallEff.drawn {call : CallFn} (h : CallEff call) : CallEff (fun _ f args st => call st.nxt f args st) :=
  fun _lo f args st r st' hc hlo hn => (h st.nxt f args st r st' hc (Nat.le_refl _) hn).weak hlo

theorem vwalk_eff {rec : RecFn} {x t c : Nat} {b : Code} {ex : LExit} (hn : NewOk st) (h : vwalk rec lo x t c b fr st = some (ex, fr', st')) : CEff lo st st' := by
  unfold vwalk at h
  split at h
  · rename_i L _
    cases hlo : Nat.ble lo L with
    | false => rw [hlo] at h; simp at h
    | true =>
      rw [hlo] at h; simp only [cond_true] at h
      split at h
      · rename_i m len hit
        split at h
        · rename_i kt es hes
          generalize (Nat.beq _ _ && _) = c0 at h
          cases c0 with
          | false => simp at h
          | true =>
            simp only [cond_true, setObjK_eq] at h
            split at h
            · simp only [Option.some.injEq, Prod.mk.injEq] at h
              obtain ⟨_, _, rfl⟩ := h
              exact set_eff hn (Nat.le_of_ble_eq_true hlo) hit
            · simp only [Option.some.injEq, Prod.mk.injEq] at h
              obtain ⟨_, _, rfl⟩ := h
              exact set_eff hn (Nat.le_of_ble_eq_true hlo) hit
            · cases h
        · cases h
      · cases h
  · cases h

theorem vcode_eff (hext : ExtEff E) : ∀ n, RecEff (vcode E n)
  | 0 => by intro lo c fr st ex fr' st' h; change none = some _ at h; cases h
  | n + 1 => by
    have ih := vcode_eff hext n
    have hcall := vcall_eff ih hext
    intro lo c fr st ex fr' st' h hlo hn
    change vstep E (vcode E n) lo c fr st = _ at h
    cases c <;> simp only [vstep, reduceCtorEq] at h
    case skip => simp only [Option.some.injEq, Prod.mk.injEq] at h; obtain ⟨_, _, rfl⟩ := h; exact .refl hn
    case label l => simp only [Option.some.injEq, Prod.mk.injEq] at h; obtain ⟨_, _, rfl⟩ := h; exact .refl hn
    case exit id => simp only [Option.some.injEq, Prod.mk.injEq] at h; obtain ⟨_, _, rfl⟩ := h; exact .refl hn
    case ret => simp only [Option.some.injEq, Prod.mk.injEq] at h; obtain ⟨_, _, rfl⟩ := h; exact .refl hn
    case region id ops draw =>
      split at h
      · rename_i fr1 st1 h1
        simp only [Option.some.injEq, Prod.mk.injEq] at h
        obtain ⟨_, rfl, rfl⟩ := h
        unfold vregion at h1
        cases draw with
        | true =>
          simp only [cond_true] at h1
          cases hd : drawOk ops with
          | false => rw [hd] at h1; simp at h1
          | true => rw [hd] at h1; simp only [cond_true] at h1; exact vOpers_eff hcall.drawn _ _ _ hlo hn h1
        | false => simp only [cond_false] at h1; exact vOpers_eff hcall _ _ _ hlo hn h1
      · cases h
    case seq x y =>
      split at h
      · rename_i fr1 st1 h1
        have e := ih _ _ _ _ _ _ _ h1 hlo hn
        exact e.trans (ih _ _ _ _ _ _ _ h (Nat.le_trans hlo e.nxt) e.new)
      · exact ih _ _ _ _ _ _ _ h hlo hn
    case cond x y z =>
      split at h
      · exact ih _ _ _ _ _ _ _ h hlo hn
      · cases h
    case block id body =>
      cases hwk : walkOf body with
      | some p =>
        obtain ⟨x, t, c, i, b⟩ := p
        rw [hwk] at h
        simp only at h
        generalize Nat.beq i id = c0 at h
        cases c0 with
        | false => simp at h
        | true => exact vwalk_eff hn h
      | none =>
        rw [hwk] at h
        simp only at h
        split at h
        · rename_i i fr1 st1 h1
          have e := ih _ _ _ _ _ _ _ h1 hlo hn
          cases hb : Nat.beq i id with
          | true => rw [hb] at h; simp only [cond_true, Option.some.injEq, Prod.mk.injEq] at h; obtain ⟨_, _, rfl⟩ := h; exact e
          | false => rw [hb] at h; simp only [cond_false, Option.some.injEq, Prod.mk.injEq] at h; obtain ⟨_, _, rfl⟩ := h; exact e
        · exact ih _ _ _ _ _ _ _ h hlo hn
    case loop body =>
      split at h
      · rename_i fr1 st1 h1
        have e := ih _ _ _ _ _ _ _ h1 hlo hn
        exact e.trans (ih _ _ _ _ _ _ _ h (Nat.le_trans hlo e.nxt) e.new)
      · exact ih _ _ _ _ _ _ _ h hlo hn
end

/-! ### what 'drawOk' says -/
theorem before_spec {ops : Array Oper} {X : Nat → Prop} (hX : ∀ j o, ops[j]? = some o → X j → ∀ e ∈ o.after, Region.binds .any e = true → X e.on) {j : Nat} {o : Oper} (ho : ops[j]? = some o)
    (hj : ∀ e ∈ o.after, Region.binds .any e = true → X e.on) {i : Nat} (hi : ((Region.before ops).getD j 0).testBit i = true) : X i := by
  have inner : ∀ (acc : Array Nat), (∀ k o, ops[k]? = some o → X k → ∀ i, (acc.getD k 0).testBit i = true → X i) → (∀ k, ops.size ≤ k → acc.getD k 0 = 0) →
      ∀ (l : List Edge) (s : Nat), (∀ e ∈ l, Region.binds .any e = true → X e.on) → (∀ i, s.testBit i = true → X i) →
        ∀ i, (l.foldl (fun s e => if Region.binds .any e then s ||| 2 ^ e.on ||| acc.getD e.on 0 else s) s).testBit i = true → X i := by
    intro acc hacc hbig l
    induction l with
    | nil => intro s _ hs i h; exact hs i h
    | cons e l ih =>
      intro s hl hs i h
      rw [List.foldl_cons] at h
      refine ih _ (fun e' he' => hl e' (List.mem_cons_of_mem _ he')) ?_ i h
      intro i hi
      split at hi
      · rename_i hb
        have hon := hl e (List.mem_cons_self ..) hb
        rw [Nat.testBit_or, Nat.testBit_or] at hi
        simp only [Bool.or_eq_true] at hi
        rcases hi with (hi | hi) | hi
        · exact hs i hi
        · rw [Nat.testBit_two_pow] at hi
          simp only [decide_eq_true_eq] at hi
          subst hi; exact hon
        · cases hoo : ops[e.on]? with
          | none =>
            rw [hbig e.on (by simpa using hoo)] at hi; simp at hi
          | some oo => exact hacc e.on oo hoo hon i hi
      · exact hs i hi
  have outer : ∀ (l : List Oper) (acc : Array Nat), (∀ k o, l[k]? = some o → ops[acc.size + k]? = some o) → acc.size + l.length ≤ ops.size →
      (∀ k o, ops[k]? = some o → (∀ e ∈ o.after, Region.binds .any e = true → X e.on) → ∀ i, (acc.getD k 0).testBit i = true → X i) →
      ∀ k o, ops[k]? = some o → (∀ e ∈ o.after, Region.binds .any e = true → X e.on) → ∀ i,
        ((l.foldl (fun acc o => acc.push (o.after.foldl (fun s e => if Region.binds .any e then s ||| 2 ^ e.on ||| acc.getD e.on 0 else s) 0)) acc).getD k 0).testBit i = true → X i := by
    intro l
    induction l with
    | nil => intro acc _ _ h k o hk he i hi; exact h k o hk he i hi
    | cons x l ih =>
      intro acc hl hsz h k o hk he i hi
      rw [List.foldl_cons] at hi
      refine ih _ ?_ (by simp at hsz ⊢; omega) ?_ k o hk he i hi
      · intro k' o' hk'
        rw [← hl (k' + 1) o' (by simpa using hk')]
        congr 1; simp; omega
      · intro k' o' hk' he' i' hi'
        have hx := hl 0 x rfl
        by_cases hlt : k' < acc.size
        · refine h k' o' hk' he' i' ?_
          have e : (acc.push (x.after.foldl (fun s e => if Region.binds .any e then s ||| 2 ^ e.on ||| acc.getD e.on 0 else s) 0)).getD k' 0 = acc.getD k' 0 := by
            simp only [Array.getD_eq_getD_getElem?, Array.getElem?_push]; rw [if_neg (by omega)]
          rw [e] at hi'; exact hi'
        · by_cases heq : k' = acc.size
          · subst heq
            simp only [Nat.add_zero] at hx
            rw [hx] at hk'
            simp only [Option.some.injEq] at hk'; subst hk'
            have e : (acc.push (x.after.foldl (fun s e => if Region.binds .any e then s ||| 2 ^ e.on ||| acc.getD e.on 0 else s) 0)).getD acc.size 0 =
                x.after.foldl (fun s e => if Region.binds .any e then s ||| 2 ^ e.on ||| acc.getD e.on 0 else s) 0 := by
              simp
            rw [e, ← Array.foldl_toList] at hi'
            refine inner acc (fun k o hk hXk => h k o hk (hX k o hk hXk)) (fun k hk => ?_) _ 0 (fun e he => he' e (by simpa using he)) (fun i h0 => by simp at h0) i' hi'
            simp only [List.length_cons] at hsz
            simp only [Array.getD_eq_getD_getElem?]
            rw [Array.getElem?_eq_none (by omega)]; rfl
          · have e : (acc.push (x.after.foldl (fun s e => if Region.binds .any e then s ||| 2 ^ e.on ||| acc.getD e.on 0 else s) 0)).getD k' 0 = 0 := by
              simp only [Array.getD_eq_getD_getElem?]
              rw [Array.getElem?_eq_none (by simp; omega)]; rfl
            rw [e] at hi'; simp at hi'
  unfold Region.before at hi
  rw [← Array.foldl_toList] at hi
  exact outer ops.toList #[] (fun k o h => by simpa using h) (by simp) (fun k o _ _ i h => by simp at h) j o ho hj i hi

structure DOk (ops : Array Oper) : Prop where
  cls : ∀ (j : Nat) (o : Oper), ops[j]? = some o → ∃ c, clOf o.op = some c
  back : ∀ (j : Nat) (o : Oper), ops[j]? = some o → ∀ e ∈ o.after, Region.binds .any e = true → e.on < j
  dsts : ∀ (i j : Nat) (oi oj : Oper), ops[i]? = some oi → ops[j]? = some oj → i < j → ∀ d, oi.dst = some d → oj.dst ≠ some d
  late : ∀ (i j : Nat) (oi oj : Oper), ops[i]? = some oi → ops[j]? = some oj → i < j → clOf oi.op = some .write → clOf oj.op = some .pure ∨ clOf oj.op = some .write
  pair : ∀ (i j : Nat) (oi oj : Oper), ops[i]? = some oi → ops[j]? = some oj → i < j →
    ((Region.before ops).getD j 0).testBit i = true ∨ (oi.apart ops oj = true ∧ ∀ ci cj, clOf oi.op = some ci → clOf oj.op = some cj → mustWait ci cj = false)

theorem drawOk_spec {ops : Array Oper} (h : drawOk ops = true) : DOk ops := by
  unfold drawOk at h
  simp only [List.all_eq_true, Bool.and_eq_true] at h
  have mem : ∀ {j o}, ops[j]? = some o → (o, j) ∈ ops.toList.zipIdx := fun {j o} hj => by
    rw [List.mem_zipIdx_iff_getElem?]; simpa using hj
  have two : ∀ (i j : Nat) (oi oj : Oper), ops[i]? = some oi → ops[j]? = some oj → i < j → ((oi.dst.isNone = true ∨ oi.dst ≠ oj.dst) ∧ lateB (clOf oi.op) (clOf oj.op) = true) ∧
      (((Region.before ops).getD j 0).testBit i = true ∨ (oi.apart ops oj = true ∧ waitB (clOf oi.op) (clOf oj.op) = false)) := by
    intro i j oi oj hi hj hlt
    have := (h _ (mem hj)).2.2 _ (mem hi)
    have hb : Nat.blt i j = true := by rw [Nat.blt_eq]; exact hlt
    simp only [hb, Bool.not_true, Bool.false_or, Bool.and_eq_true, Bool.or_eq_true, bne_iff_ne, ne_eq, Bool.not_eq_true'] at this
    exact this
  refine ⟨fun j o hj => ?_, fun j o hj e he hb => ?_, fun i j oi oj hi hj hlt d hd hd' => ?_, fun i j oi oj hi hj hlt hw => ?_, fun i j oi oj hi hj hlt => ?_⟩
  · exact Option.isSome_iff_exists.1 (h _ (mem hj)).1
  · have := (h _ (mem hj)).2.1 e (by simpa using he)
    rw [hb] at this
    simpa using this
  · rcases (two i j oi oj hi hj hlt).1.1 with h0 | h0
    · rw [hd] at h0; simp at h0
    · exact h0 (hd.trans hd'.symm)
  · have := (two i j oi oj hi hj hlt).1.2
    rw [hw] at this
    cases hc : clOf oj.op with
    | none => rw [hc] at this; simp [lateB] at this
    | some c => rw [hc] at this; cases c <;> simp [lateB] at this ⊢
  · rcases (two i j oi oj hi hj hlt).2 with h0 | ⟨h0, h1⟩
    · exact Or.inl h0
    · exact Or.inr ⟨h0, fun ci cj e1 e2 => by rw [e1, e2] at h1; exact h1⟩
end Go.Proofs.Ytpkeggejofeeeaa.Lvm
