/- Laws of the small machine, of how it stands to the model, and of what functions come to on it; a helper of the statement: no statement is proved here. -/
import Derived.Test.YtpkeggejofeeeaaF
set_option linter.unusedVariables false
namespace Go.Proofs.Ytpkeggejofeeeaa.Lvm

/-! ### more fuel, the same answer -/
def RLe (r r' : RecFn) : Prop := ∀ lo c fr st y, r lo c fr st = some y → r' lo c fr st = some y
def CLe (c c' : CallFn) : Prop := ∀ lo f args st y, c lo f args st = some y → c' lo f args st = some y

def argsM : List LV → Nat → Mem LV → Mem LV
  | [], _, m => m
  | x :: xs, i, m => argsM xs (i + 1) (m.set i x)
theorem argsF_k {α : Type} : ∀ (l : List LV) (i : Nat) (m : Mem LV) (k : Mem LV → Option α), argsF l i m k = k (argsM l i m)
  | [], _, _, _ => rfl
  | x :: xs, i, m, k => by rw [argsF_cons, argsF_k xs]; rfl

section
variable {E : Env} {lo : Nat} {cover : Bool} {call call' : CallFn} {rec rec' : RecFn}

theorem vcall_mono (h : RLe rec rec') : CLe (vcall E rec) (vcall E rec') := by
  intro lo f args st y hy
  unfold vcall at hy ⊢
  cases he : E.ext f with
  | some g => rw [he] at hy; exact hy
  | none =>
    rw [he] at hy
    simp only at hy ⊢
    cases hf : E.code f with
    | none => rw [hf] at hy; cases hy
    | some fn =>
      rw [hf] at hy
      simp only at hy ⊢
      cases hc : fn.body with
      | none => rw [hc] at hy; cases hy
      | some c =>
        rw [hc] at hy
        simp only [argsF_k] at hy ⊢
        cases hb : Nat.ble args.length fn.ntmps with
        | false => rw [hb] at hy; simp at hy
        | true =>
          rw [hb] at hy
          simp only [cond_true] at hy ⊢
          cases hr : rec lo c { m := argsM args 0 .leaf, n := fn.ntmps } st with
          | none => rw [hr] at hy; cases hy
          | some z => rw [hr] at hy; rw [h _ _ _ _ _ hr]; exact hy

theorem vop_mono (h : CLe call call') {fr : LFr} {st : LSt} {op : Op} {y : LV × LSt} (hy : vop E call lo cover fr st op = some y) : vop E call' lo cover fr st op = some y := by
  cases op <;> try exact hy
  rename_i c
  simp only [vop] at hy ⊢
  unfold opCall at hy ⊢
  split at hy
  · split at hy
    · split at hy
      · exact h _ _ _ _ _ hy
      · cases hy
    · exact hy
    · cases hy
  · cases hy

theorem vOper_mono (h : CLe call call') {ops : List Oper} {o : Oper} {fr : LFr} {st : LSt} {y : LFr × LSt} (hy : vOper E call lo cover ops o fr st = some y) : vOper E call' lo cover ops o fr st = some y := by
  unfold vOper at hy ⊢
  split at hy
  · cases hv : vop E call lo cover fr st o.op with
    | none => rw [hv] at hy; cases hy
    | some z => rw [hv] at hy; rw [vop_mono h hv]; exact hy
  · exact hy
  · cases hy

theorem vOpers_mono (h : CLe call call') {ops : List Oper} : ∀ (l : List Oper) (fr : LFr) (st : LSt) (y : LFr × LSt), vOpers E call lo cover ops l fr st = some y → vOpers E call' lo cover ops l fr st = some y
  | [], _, _, _, hy => hy
  | o :: os, fr, st, y, hy => by
    rw [vOpers_cons] at hy ⊢
    cases hv : vOper E call lo cover ops o fr st with
    | none => rw [hv] at hy; cases hy
    | some z =>
      rw [hv] at hy; rw [vOper_mono h hv]
      exact vOpers_mono h os z.1 z.2 y hy
theorem vregion_mono (h : RLe rec rec') {ops : Array Oper} {draw : Bool} {fr : LFr} {st : LSt} {y : LFr × LSt} (hy : vregion E rec lo ops draw fr st = some y) : vregion E rec' lo ops draw fr st = some y := by
  unfold vregion at hy ⊢
  cases draw with
  | false => simp only [cond_false] at hy ⊢; exact vOpers_mono (vcall_mono h) _ _ _ _ hy
  | true =>
    simp only [cond_true] at hy ⊢
    cases hd : drawOk ops with
    | false => rw [hd] at hy; simp at hy
    | true =>
      rw [hd] at hy
      simp only [cond_true] at hy ⊢
      exact vOpers_mono (fun _ f args st y hy => vcall_mono h _ f args st y hy) _ _ _ _ hy

theorem rounds_mono (h : RLe rec rec') {n c : Nat} {body : Code} {fr : LFr} {st : LSt} {L m len : Nat} {ds : List Nat} : ∀ (es : List (LV × LV)) (i : Nat) (e r : WEnd),
    rounds rec n c body fr st L m len ds es i e = some r → rounds rec' n c body fr st L m len ds es i e = some r
  | [], _, _, _, hy => hy
  | (k, v) :: es, i, e, r, hy => by
    rw [rounds] at hy ⊢
    simp only [lputK_eq, setObjK_eq] at hy ⊢
    cases h1 : Nat.blt n fr.n with
    | false => rw [h1] at hy; simp at hy
    | true =>
      rw [h1] at hy
      simp only [cond_true] at hy ⊢
      cases h2 : Nat.blt c (fr.put n (.tup [.bool true, k, v])).n with
      | false => rw [h2] at hy; simp at hy
      | true =>
        rw [h2] at hy
        simp only [cond_true] at hy ⊢
        cases hr : rec st.nxt body ((fr.put n (.tup [.bool true, k, v])).put c (.bool true)) { st with mem := st.mem.set L (.iter m len (some i)) } with
        | none => rw [hr] at hy; cases hy
        | some z =>
          rw [hr] at hy; rw [h _ _ _ _ _ hr]
          obtain ⟨ex, fr1, st1⟩ := z
          cases ex with
          | normal => exact rounds_mono h _ _ _ _ hy
          | exit id => cases hy
          | ret =>
            cases e with
            | on => exact rounds_mono h _ _ _ _ hy
            | back fr0 => exact rounds_mono h _ _ _ _ hy

theorem vwalk_mono (h : RLe rec rec') {x n c : Nat} {body : Code} {fr : LFr} {st : LSt} {y : LExit × LFr × LSt} (hy : vwalk rec lo x n c body fr st = some y) : vwalk rec' lo x n c body fr st = some y := by
  unfold vwalk at hy ⊢
  split at hy
  · rename_i L hL
    generalize Nat.ble lo L = c1 at hy ⊢
    cases c1 with
    | false => simp at hy
    | true =>
      simp only [cond_true] at hy ⊢
      split at hy
      · rename_i m len _
        split at hy
        · rename_i kt es _
          generalize (Nat.beq _ _ && _) = c0 at hy ⊢
          cases c0 with
          | false => simp at hy
          | true =>
            simp only [cond_true] at hy ⊢
            cases hr : rounds rec n c body (clearF fr (n :: c :: dsts body)) st L m len (n :: c :: dsts body) es 0 .on with
            | none => rw [hr] at hy; cases hy
            | some r => rw [hr] at hy; rw [rounds_mono h _ _ _ _ hr]; exact hy
        · cases hy
      · cases hy
  · cases hy

theorem vstep_mono (h : RLe rec rec') : RLe (vstep E rec) (vstep E rec') := by
  intro lo c fr st y hy
  cases c <;> simp only [vstep, reduceCtorEq] at hy ⊢
  case skip => exact hy
  case label l => exact hy
  case exit id => exact hy
  case ret => exact hy
  case region id ops draw =>
    cases hv : vregion E rec lo ops draw fr st with
    | none => rw [hv] at hy; cases hy
    | some z => rw [hv] at hy; rw [vregion_mono h hv]; exact hy
  case seq a b =>
    cases hv : rec lo a fr st with
    | none => rw [hv] at hy; cases hy
    | some z =>
      rw [hv] at hy; rw [h _ _ _ _ _ hv]
      obtain ⟨ex, fr1, st1⟩ := z
      cases ex with
      | normal => exact h _ _ _ _ _ hy
      | exit i => exact hy
      | ret => exact hy
  case cond c a b =>
    split at hy
    · exact h _ _ _ _ _ hy
    · cases hy
  case block id body =>
    cases hw : walkOf body with
    | some p =>
      obtain ⟨x, t, c, i, b⟩ := p
      rw [hw] at hy
      simp only at hy ⊢
      generalize Nat.beq i id = c0 at hy ⊢
      cases c0 with
      | false => simp at hy
      | true => exact vwalk_mono h hy
    | none =>
      rw [hw] at hy
      simp only at hy ⊢
      cases hv : rec lo body fr st with
      | none => rw [hv] at hy; cases hy
      | some z => rw [hv] at hy; rw [h _ _ _ _ _ hv]; exact hy
  case loop body =>
    cases hv : rec lo body fr st with
    | none => rw [hv] at hy; cases hy
    | some z =>
      rw [hv] at hy; rw [h _ _ _ _ _ hv]
      obtain ⟨ex, fr1, st1⟩ := z
      cases ex with
      | normal => exact h _ _ _ _ _ hy
      | exit i => exact hy
      | ret => exact hy

theorem vcode_mono1 : ∀ n, RLe (vcode E n) (vcode E (n + 1))
  | 0 => fun lo c fr st y hy => by change none = some _ at hy; cases hy
  | n + 1 => vstep_mono (vcode_mono1 n)

theorem vcode_mono {n m : Nat} (h : n ≤ m) : RLe (vcode E n) (vcode E m) := by
  induction h with
  | refl => exact fun _ _ _ _ _ hy => hy
  | step _ ih => exact fun lo c fr st y hy => vcode_mono1 _ lo c fr st y (ih lo c fr st y hy)

theorem vrun_mono {n m : Nat} (h : n ≤ m) : CLe (vrun E n) (vrun E m) := vcall_mono (vcode_mono h)
end
end Go.Proofs.Ytpkeggejofeeeaa.Lvm

namespace Go.Proofs.Ytpkeggejofeeeaa.Lvm

/-! ### what a code, a row of operations, a function comes to, with fuel enough -/
def Ends (E : Env) (lo : Nat) (c : Code) (fr : LFr) (st : LSt) (ex : LExit) (fr' : LFr) (st' : LSt) : Prop := ∃ n, vcode E n lo c fr st = some (ex, fr', st')
def Gives (E : Env) (lo : Nat) (f : FuncId) (args : List LV) (st : LSt) (v : LV) (st' : LSt) : Prop := ∃ n, vrun E n lo f args st = some (v, st')
def LExit.out (id : Nat) : LExit → LExit
  | .exit i => bif Nat.beq i id then .normal else .exit i
  | ex => ex
/-- The calls of a region: under the barrier, or under their own in one that draws its order. -/
noncomputable def callsOf (E : Env) (draw : Bool) (n : Nat) : CallFn := cond draw (fun _ f args st => vcall E (vcode E n) st.nxt f args st) (vcall E (vcode E n))
def Runs (E : Env) (lo : Nat) (draw : Bool) (ops l : List Oper) (fr : LFr) (st : LSt) (fr' : LFr) (st' : LSt) : Prop := ∃ n, vOpers E (callsOf E draw n) lo draw ops l fr st = some (fr', st')

section
variable {E : Env} {lo : Nat} {fr fr' fr1 : LFr} {st st' st1 : LSt} {ex : LExit}

theorem vcode_succ {n : Nat} {c : Code} : vcode E (n + 1) lo c fr st = vstep E (vcode E n) lo c fr st := rfl

theorem callsOf_mono {draw : Bool} {n m : Nat} (h : n ≤ m) : CLe (callsOf E draw n) (callsOf E draw m) := by
  cases draw with
  | false => exact vcall_mono (vcode_mono h)
  | true => exact fun _ f args st y hy => vcall_mono (vcode_mono h) _ f args st y hy

theorem Ends.skip : Ends E lo .skip fr st .normal fr st := ⟨1, rfl⟩
theorem Ends.label {l : Nat} : Ends E lo (.label l) fr st .normal fr st := ⟨1, rfl⟩
theorem Ends.exit {i : Nat} : Ends E lo (.exit i) fr st (.exit i) fr st := ⟨1, rfl⟩
theorem Ends.ret : Ends E lo .ret fr st .ret fr st := ⟨1, rfl⟩

theorem Ends.region {id : Nat} {ops : Array Oper} (h : Runs E lo false ops.toList ops.toList fr st fr' st') : Ends E lo (.region id ops false) fr st .normal fr' st' := by
  obtain ⟨n, h⟩ := h
  refine ⟨n + 1, ?_⟩
  rw [vcode_succ]
  simp only [vstep, vregion, cond_false]
  simp only [callsOf, cond_false] at h
  rw [h]
theorem Ends.drawn {id : Nat} {ops : Array Oper} (hd : drawOk ops = true) (h : Runs E lo true ops.toList ops.toList fr st fr' st') : Ends E lo (.region id ops true) fr st .normal fr' st' := by
  obtain ⟨n, h⟩ := h
  refine ⟨n + 1, ?_⟩
  rw [vcode_succ]
  simp only [vstep, vregion, cond_true, hd]
  simp only [callsOf, cond_true] at h
  rw [h]

theorem Ends.seq {a b : Code} (h : Ends E lo a fr st .normal fr1 st1) (h' : Ends E lo b fr1 st1 ex fr' st') : Ends E lo (.seq a b) fr st ex fr' st' := by
  obtain ⟨n, h⟩ := h
  obtain ⟨m, h'⟩ := h'
  refine ⟨max n m + 1, ?_⟩
  rw [vcode_succ]
  simp only [vstep]
  rw [vcode_mono (Nat.le_max_left n m) _ _ _ _ _ h]
  exact vcode_mono (Nat.le_max_right n m) _ _ _ _ _ h'
theorem Ends.seq_out {a b : Code} (h : Ends E lo a fr st ex fr' st') (hx : ex ≠ .normal) : Ends E lo (.seq a b) fr st ex fr' st' := by
  obtain ⟨n, h⟩ := h
  refine ⟨n + 1, ?_⟩
  rw [vcode_succ]
  simp only [vstep]
  rw [h]
  cases ex <;> first | exact absurd rfl hx | rfl
theorem Ends.cond {c : Operand} {a b : Code} {t : Bool} (hc : leval fr c = some (.bool t)) (h : Ends E lo (if t then a else b) fr st ex fr' st') : Ends E lo (.cond c a b) fr st ex fr' st' := by
  obtain ⟨n, h⟩ := h
  refine ⟨n + 1, ?_⟩
  rw [vcode_succ]
  simp only [vstep]
  rw [hc]; exact h
theorem Ends.block {id : Nat} {body : Code} (hw : walkOf body = none) (h : Ends E lo body fr st ex fr' st') :
    Ends E lo (.block id body) fr st (ex.out id) fr' st' := by
  obtain ⟨n, h⟩ := h
  refine ⟨n + 1, ?_⟩
  rw [vcode_succ]
  simp only [vstep, hw]
  rw [h]
  cases ex with
  | exit i => simp only [LExit.out]; cases Nat.beq i id <;> rfl
  | normal => rfl
  | ret => rfl
theorem Ends.loop_on {body : Code} (h : Ends E lo body fr st .normal fr1 st1) (h' : Ends E lo (.loop body) fr1 st1 ex fr' st') : Ends E lo (.loop body) fr st ex fr' st' := by
  obtain ⟨n, h⟩ := h
  obtain ⟨m, h'⟩ := h'
  refine ⟨max n m + 1, ?_⟩
  rw [vcode_succ]
  simp only [vstep]
  rw [vcode_mono (Nat.le_max_left n m) _ _ _ _ _ h]
  exact vcode_mono (Nat.le_max_right n m) _ _ _ _ _ h'
theorem Ends.loop_out {body : Code} (h : Ends E lo body fr st ex fr' st') (hx : ex ≠ .normal) : Ends E lo (.loop body) fr st ex fr' st' := by
  obtain ⟨n, h⟩ := h
  refine ⟨n + 1, ?_⟩
  rw [vcode_succ]
  simp only [vstep]
  rw [h]
  cases ex <;> first | exact absurd rfl hx | rfl

theorem Runs.nil {draw : Bool} {ops : List Oper} : Runs E lo draw ops [] fr st fr st := ⟨0, rfl⟩
theorem Runs.cons {draw : Bool} {ops l : List Oper} {o : Oper} (h : ∃ n, vOper E (callsOf E draw n) lo draw ops o fr st = some (fr1, st1)) (h' : Runs E lo draw ops l fr1 st1 fr' st') : Runs E lo draw ops (o :: l) fr st fr' st' := by
  obtain ⟨n, h⟩ := h
  obtain ⟨m, h'⟩ := h'
  refine ⟨max n m, ?_⟩
  rw [vOpers_cons, vOper_mono (callsOf_mono (Nat.le_max_left n m)) h]
  exact vOpers_mono (callsOf_mono (Nat.le_max_right n m)) _ _ _ _ h'

/-- A light operation that nothing guards. -/
theorem Runs.op {draw : Bool} {ops l : List Oper} {o : Oper} {v : LV} {d : Nat} (hg : o.guard = none) (hd : o.dst = some d) (hn : d < fr.n) (h : ∃ n, vop E (callsOf E draw n) lo draw fr st o.op = some (v, st1))
    (h' : Runs E lo draw ops l (fr.put d v) st1 fr' st') : Runs E lo draw ops (o :: l) fr st fr' st' := by
  obtain ⟨n, h⟩ := h
  refine Runs.cons ⟨n, ?_⟩ h'
  have hb : Nat.blt d fr.n = true := by rw [Nat.blt_eq]; exact hn
  simp only [vOper, lwanted, hg, h, hd, lputK_eq, hb, cond_true]
theorem Runs.op0 {draw : Bool} {ops l : List Oper} {o : Oper} {v : LV} (hg : o.guard = none) (hd : o.dst = none) (h : ∃ n, vop E (callsOf E draw n) lo draw fr st o.op = some (v, st1))
    (h' : Runs E lo draw ops l fr st1 fr' st') : Runs E lo draw ops (o :: l) fr st fr' st' := by
  obtain ⟨n, h⟩ := h
  refine Runs.cons ⟨n, ?_⟩ h'
  simp only [vOper, lwanted, hg, h, hd, lputK_eq]

theorem Gives.of_body {f : FuncId} {args : List LV} {fn : Func} {c : Code} {v : LV} (he : E.ext f = none) (hf : E.code f = some fn) (hc : fn.body = some c) (hn : args.length ≤ fn.ntmps)
    (h : Ends E lo c { m := argsM args 0 .leaf, n := fn.ntmps } st ex fr' st') (hx : ex = .normal ∨ ex = .ret) (hv : vresults E fn fr' st' = some v) : Gives E lo f args st v st' := by
  obtain ⟨n, h⟩ := h
  refine ⟨n, ?_⟩
  unfold vrun vcall
  have hb : Nat.ble args.length fn.ntmps = true := Nat.ble_eq_true_of_le hn
  simp only [he, hf, hc, argsF_k, hb, cond_true, h]
  rcases hx with rfl | rfl <;> simp [hv]
end
end Go.Proofs.Ytpkeggejofeeeaa.Lvm

namespace Go.Proofs.Ytpkeggejofeeeaa.Lvm

/-! ### more known slots, the same run -/
def FrLe (fr fr' : LFr) : Prop := fr'.n = fr.n ∧ ∀ t v, fr.m.get t = some v → fr'.m.get t = some v

section
variable {E : Env} {lo : Nat} {cover : Bool} {call : CallFn} {fr fr' : LFr} {st : LSt}

theorem FrLe.refl : FrLe fr fr := ⟨rfl, fun _ _ h => h⟩
theorem FrLe.put (h : FrLe fr fr') (d : Nat) (v : LV) : FrLe (fr.put d v) (fr'.put d v) := ⟨h.1, fun t x hx => by
  simp only [LFr.put, Mem.get_set] at hx ⊢
  by_cases e : d = t
  · rw [if_pos e] at hx ⊢; exact hx
  · rw [if_neg e] at hx ⊢; exact h.2 t x hx⟩

theorem leval_fr (h : FrLe fr fr') {x : Operand} (hs : (leval fr x).isSome = true) : leval fr' x = leval fr x := by
  cases x with
  | tmp t =>
    simp only [leval] at hs ⊢
    obtain ⟨v, hv⟩ := Option.isSome_iff_exists.1 hs
    rw [hv]; exact h.2 t v hv
  | const c => rfl
  | global g => rfl
  | func f => rfl

theorem levals_fr (h : FrLe fr fr') : ∀ {xs : List Operand}, (levals fr xs).isSome = true → levals fr' xs = levals fr xs
  | [], _ => rfl
  | x :: xs, hs => by
    simp only [levals] at hs ⊢
    cases h1 : leval fr x with
    | none => rw [h1] at hs; cases hs
    | some v =>
      rw [leval_fr h (by rw [h1]; rfl), h1]
      rw [h1] at hs
      simp only at hs ⊢
      cases h2 : levals fr xs with
      | none => rw [h2] at hs; cases hs
      | some vs => rw [levals_fr h (by rw [h2]; rfl), h2]

theorem evalParts_fr (h : FrLe fr fr') : ∀ {xs : List (Nat × Operand)}, (evalParts fr xs).isSome = true → evalParts fr' xs = evalParts fr xs
  | [], _ => rfl
  | (i, x) :: xs, hs => by
    simp only [evalParts] at hs ⊢
    cases h1 : leval fr x with
    | none => rw [h1] at hs; cases hs
    | some v =>
      rw [leval_fr h (by rw [h1]; rfl), h1]
      rw [h1] at hs
      simp only at hs ⊢
      cases h2 : evalParts fr xs with
      | none => rw [h2] at hs; cases hs
      | some vs => rw [evalParts_fr h (by rw [h2]; rfl), h2]

theorem optNat_fr (h : FrLe fr fr') {d : Nat} {x : Option Operand} (hs : (optNat fr d x).isSome = true) : optNat fr' d x = optNat fr d x := by
  cases x with
  | none => rfl
  | some x =>
    simp only [optNat] at hs ⊢
    cases h1 : leval fr x with
    | none => rw [h1] at hs; cases hs
    | some v => rw [leval_fr h (by rw [h1]; rfl), h1]

theorem sliceL_fr (h : FrLe fr fr') {t : TypeId} {x y : LV} {l hh m : Option Operand} (hs : sliceL E fr t x l hh m = some y) : sliceL E fr' t x l hh m = some y := by
  unfold sliceL at hs ⊢
  split at hs
  · rename_i s _
    split at hs
    · cases hs
    · cases h1 : optNat fr 0 l with
      | none => rw [h1] at hs; cases hs
      | some a =>
        rw [h1] at hs
        simp only at hs
        rw [optNat_fr h (by rw [h1]; rfl), h1]
        simp only
        cases h2 : optNat fr s.size hh with
        | none => rw [h2] at hs; cases hs
        | some b => rw [h2] at hs; rw [optNat_fr h (by rw [h2]; rfl), h2]; exact hs
  · split at hs
    · cases h1 : optNat fr 0 l with
      | none => rw [h1] at hs; cases hs
      | some a =>
        rw [h1] at hs; rw [optNat_fr h (by rw [h1]; rfl), h1]
        simp only at hs ⊢
        cases h2 : optNat fr 0 hh with
        | none => rw [h2] at hs; cases hs
        | some b =>
          rw [h2] at hs; rw [optNat_fr h (by rw [h2]; rfl), h2]
          simp only at hs ⊢
          cases h3 : optNat fr 0 m with
          | none => rw [h3] at hs; cases hs
          | some c => rw [h3] at hs; rw [optNat_fr h (by rw [h3]; rfl), h3]; exact hs
    · cases hs
  · rename_i b o sz len cap ex _
    split at hs
    · cases h1 : optNat fr 0 l with
      | none => rw [h1] at hs; cases hs
      | some a =>
        rw [h1] at hs; rw [optNat_fr h (by rw [h1]; rfl), h1]
        simp only at hs ⊢
        cases h2 : optNat fr len hh with
        | none => rw [h2] at hs; cases hs
        | some b =>
          rw [h2] at hs; rw [optNat_fr h (by rw [h2]; rfl), h2]
          simp only at hs ⊢
          cases h3 : optNat fr cap m with
          | none => rw [h3] at hs; cases hs
          | some c => rw [h3] at hs; rw [optNat_fr h (by rw [h3]; rfl), h3]; exact hs
    · cases hs
  · cases hs
theorem vop_fr (h : FrLe fr fr') {op : Op} {y : LV × LSt} (hy : vop E call lo cover fr st op = some y) : vop E call lo cover fr' st op = some y := by
  have one : ∀ {x : Operand} {v : LV}, leval fr x = some v → leval fr' x = some v := fun {x v} hx => by rw [leval_fr h (by rw [hx]; rfl), hx]
  have many : ∀ {xs : List Operand} {vs : List LV}, levals fr xs = some vs → levals fr' xs = some vs := fun {xs vs} hx => by rw [levals_fr h (by rw [hx]; rfl), hx]
  have parts : ∀ {xs : List (Nat × Operand)} {vs : List (Nat × LV)}, evalParts fr xs = some vs → evalParts fr' xs = some vs := fun {xs vs} hx => by rw [evalParts_fr h (by rw [hx]; rfl), hx]
  have t1 : ∀ {α : Type} {x : Operand} {f : LV → Option α} {z : α}, (match leval fr x with | some v => f v | none => none) = some z → ∃ v, leval fr x = some v ∧ leval fr' x = some v ∧ f v = some z := by
    intro α x f z hz
    cases hx : leval fr x with
    | none => rw [hx] at hz; cases hz
    | some v => rw [hx] at hz; exact ⟨v, rfl, one hx, hz⟩
  cases op <;> simp only [vop, reduceCtorEq] at hy ⊢
  all_goals try exact hy
  case call c =>
    unfold opCall at hy ⊢
    cases h1 : levals fr c.args.toList with
    | none => rw [h1] at hy; cases hy
    | some vs =>
      rw [h1] at hy; rw [many h1]
      simp only at hy ⊢
      split at hy
      · rename_i f hf
        cases h2 : leval fr f with
        | none => rw [h2] at hy; cases hy
        | some g => rw [h2] at hy; rw [one h2]; exact hy
      · exact hy
      · cases hy
  case slice t x l hh m =>
    unfold opSlice at hy ⊢
    obtain ⟨v, hx, hx', hy⟩ := t1 hy
    rw [hx']
    simp only
    cases h2 : sliceL E fr t v l hh m with
    | none => rw [h2] at hy; cases hy
    | some u => rw [h2] at hy; rw [sliceL_fr h h2]; exact hy
  all_goals
    first
      | unfold opMove at hy ⊢
      | (unfold opPick opMove at hy ⊢)
      | unfold opBox at hy ⊢
      | unfold opBuild at hy ⊢
      | unfold opBuildSlice at hy ⊢
      | unfold opLoad at hy ⊢
      | unfold opStore at hy ⊢
      | unfold opNil at hy ⊢
      | unfold opBin at hy ⊢
      | unfold opUn at hy ⊢
      | unfold opConv at hy ⊢
      | unfold opFunc at hy ⊢
      | unfold opMakeSlice at hy ⊢
      | unfold opFieldAddr at hy ⊢
      | unfold opField at hy ⊢
      | unfold opIndexAddr at hy ⊢
      | unfold opIndex at hy ⊢
      | unfold opLookup at hy ⊢
      | unfold opMapUpdate at hy ⊢
      | unfold opExtract at hy ⊢
      | unfold opMapEntry at hy ⊢
      | unfold opEntryStore at hy ⊢
      | unfold opRange at hy ⊢
      | unfold opEntry at hy ⊢
    (repeat' split at hy)
    all_goals first
      | (cases hy; done)
      | (simp only [leval_fr h, evalParts_fr h, levals_fr h, Option.isSome_some, *]; done)
      | (simp only [leval_fr h, evalParts_fr h, levals_fr h, Option.isSome_some, *]; exact hy)
      | (simp_all [leval_fr h, evalParts_fr h, levals_fr h]; done)
end
end Go.Proofs.Ytpkeggejofeeeaa.Lvm

namespace Go.Proofs.Ytpkeggejofeeeaa.Lvm
section
variable {E : Env} {lo : Nat} {cover : Bool} {call : CallFn} {fr fr' : LFr} {st : LSt}

theorem lwanted_fr (h : FrLe fr fr') {ops : List Oper} {o : Oper} {b : Bool} (hs : lwanted ops fr o = some b) : lwanted ops fr' o = some b := by
  unfold lwanted at hs ⊢
  split at hs
  · exact hs
  · split at hs
    · split at hs
      · rename_i d _
        cases hv : fr.m.get d with
        | none => rw [hv] at hs; cases hs
        | some v => rw [hv] at hs; rw [h.2 d v hv]; exact hs
      · exact hs
    · exact hs

theorem vOper_fr (h : FrLe fr fr') {ops : List Oper} {o : Oper} {fr1 : LFr} {st1 : LSt} (hy : vOper E call lo cover ops o fr st = some (fr1, st1)) : ∃ fr1', vOper E call lo cover ops o fr' st = some (fr1', st1) ∧ FrLe fr1 fr1' := by
  have hput : ∀ {dst : Option Tmp} {v : LV} {st2 : LSt}, lputK fr dst v (fun f => some (f, st2)) = some (fr1, st1) → ∃ fr1', lputK fr' dst v (fun f => some (f, st2)) = some (fr1', st1) ∧ FrLe fr1 fr1' := by
    intro dst v st2 hp
    rw [lputK_eq] at hp ⊢
    cases dst with
    | none => simp only [Option.some.injEq, Prod.mk.injEq] at hp ⊢; obtain ⟨rfl, rfl⟩ := hp; exact ⟨fr', ⟨rfl, rfl⟩, h⟩
    | some d =>
      simp only at hp ⊢
      rw [h.1]
      cases hb : Nat.blt d fr.n with
      | false => rw [hb] at hp; simp at hp
      | true =>
        rw [hb] at hp
        simp only [cond_true, Option.some.injEq, Prod.mk.injEq] at hp ⊢
        obtain ⟨rfl, rfl⟩ := hp
        exact ⟨_, ⟨rfl, rfl⟩, h.put d v⟩
  unfold vOper at hy ⊢
  split at hy
  · rename_i hw
    rw [lwanted_fr h hw]
    simp only
    cases hv : vop E call lo cover fr st o.op with
    | none => rw [hv] at hy; cases hy
    | some z =>
      obtain ⟨v, st2⟩ := z
      rw [hv] at hy; rw [vop_fr h hv]
      exact hput hy
  · rename_i hw
    rw [lwanted_fr h hw]
    exact hput hy
  · cases hy

theorem vOpers_fr {ops : List Oper} : ∀ (l : List Oper) {fr fr' : LFr} {st : LSt} {fr1 : LFr} {st1 : LSt}, FrLe fr fr' → vOpers E call lo cover ops l fr st = some (fr1, st1) →
    ∃ fr1', vOpers E call lo cover ops l fr' st = some (fr1', st1) ∧ FrLe fr1 fr1'
  | [], fr, fr', st, fr1, st1, h, hy => by
    rw [vOpers_nil] at hy; simp only [Option.some.injEq, Prod.mk.injEq] at hy; obtain ⟨rfl, rfl⟩ := hy; exact ⟨fr', vOpers_nil, h⟩
  | o :: os, fr, fr', st, fr1, st1, h, hy => by
    rw [vOpers_cons] at hy
    cases hv : vOper E call lo cover ops o fr st with
    | none => rw [hv] at hy; cases hy
    | some z =>
      obtain ⟨fr2, st2⟩ := z
      rw [hv] at hy
      obtain ⟨fr2', h1, h2⟩ := vOper_fr h hv
      obtain ⟨fr3', h3, h4⟩ := vOpers_fr os h2 hy
      exact ⟨fr3', by rw [vOpers_cons, h1]; exact h3, h4⟩

theorem vregion_fr {rec : RecFn} (h : FrLe fr fr') {ops : Array Oper} {draw : Bool} {fr1 : LFr} {st1 : LSt} (hy : vregion E rec lo ops draw fr st = some (fr1, st1)) :
    ∃ fr1', vregion E rec lo ops draw fr' st = some (fr1', st1) ∧ FrLe fr1 fr1' := by
  unfold vregion at hy ⊢
  cases draw with
  | false => exact vOpers_fr _ h hy
  | true =>
    simp only [cond_true] at hy ⊢
    cases hd : drawOk ops with
    | false => rw [hd] at hy; simp at hy
    | true =>
      rw [hd] at hy
      simp only [cond_true] at hy ⊢
      exact vOpers_fr _ h hy
end
end Go.Proofs.Ytpkeggejofeeeaa.Lvm

namespace Go.Proofs.Ytpkeggejofeeeaa.Lvm
section
variable {E : Env} {lo : Nat} {fr fr' : LFr} {st : LSt}

theorem clearF_keep : ∀ (ds : List Nat) (fr : LFr) (t : Nat), t ∉ ds → (clearF fr ds).m.get t = fr.m.get t
  | [], _, _, _ => rfl
  | d :: ds, fr, t, ht => by
    simp only [List.mem_cons, not_or] at ht
    rw [clearF, clearF_keep ds _ t ht.2]
    simp only [Mem.get_del]; rw [if_neg (Ne.symm ht.1)]

theorem clearF_fr (h : FrLe fr fr') (ds : List Nat) : FrLe (clearF fr ds) (clearF fr' ds) := ⟨by rw [clearF_n, clearF_n]; exact h.1, fun t v hv => by
  obtain ⟨h1, h2⟩ := clearF_get _ _ hv
  rw [clearF_keep _ _ _ h2]; exact h.2 t v h1⟩

theorem alikeF_fr : ∀ (ds : List Nat) {fr fr' a a' b b' : LFr}, FrLe fr fr' → FrLe a a' → FrLe b b' →
    (∀ d, d ∈ ds → ∀ v, fr.m.get d = some v → ∃ x, v = .bool x ∧ a.m.get d = some (.bool x) ∧ b.m.get d = some (.bool x)) → FrLe (alikeF fr a b ds) (alikeF fr' a' b' ds)
  | [], _, _, _, _, _, _, h, _, _, _ => h
  | d :: ds, fr, fr', a, a', b, b', h, ha, hb, hd => by
    have htail : ∀ e, e ∈ ds → ∀ v, fr.m.get e = some v → ∃ x, v = .bool x ∧ a.m.get e = some (.bool x) ∧ b.m.get e = some (.bool x) := fun e he => hd e (List.mem_cons_of_mem _ he)
    -- the big side may set d where the small one does not
    have big : fr.m.get d = none → FrLe fr (match a'.m.get d, b'.m.get d with
        | some (.bool x), some (.bool y) => cond (x == y) { m := fr'.m.set d (.bool x), n := fr'.n } fr'
        | _, _ => fr') := by
      intro hn
      split
      · rename_i x y _ _
        cases x == y with
        | false => exact h
        | true => exact ⟨h.1, fun t v hv => by
            simp only [cond_true, Mem.get_set]
            have : d ≠ t := by rintro rfl; rw [hn] at hv; cases hv
            rw [if_neg this]; exact h.2 t v hv⟩
      · exact h
    have hbig : alikeF fr' a' b' (d :: ds) = alikeF (match a'.m.get d, b'.m.get d with
        | some (.bool x), some (.bool y) => cond (x == y) { m := fr'.m.set d (.bool x), n := fr'.n } fr'
        | _, _ => fr') a' b' ds := by
      rw [alikeF]
      split
      · rename_i x y h1 h2
        rw [h1, h2]
        cases hxy : x == y <;> simp [hxy]
      · rename_i hne
        split
        · rename_i x y h1 h2; exact absurd h2 (hne x y h1)
        · rfl
    by_cases hx : ∃ x, a.m.get d = some (.bool x) ∧ b.m.get d = some (.bool x)
    · obtain ⟨x, h1, h2⟩ := hx
      have h1' := ha.2 d _ h1
      have h2' := hb.2 d _ h2
      rw [alikeF, alikeF, h1, h2, h1', h2']
      simp only [beq_self_eq_true, cond_true]
      refine alikeF_fr ds (h.put d (.bool x)) ha hb fun e he v hv => ?_
      simp only [Mem.get_set] at hv
      by_cases ed : d = e
      · subst ed
        rw [if_pos rfl] at hv
        simp only [Option.some.injEq] at hv
        exact ⟨x, hv.symm, h1, h2⟩
      · rw [if_neg ed] at hv; exact htail e he v hv
    · have hn : fr.m.get d = none := by
        cases hg : fr.m.get d with
        | none => rfl
        | some v =>
          obtain ⟨x, _, h1, h2⟩ := hd d (List.mem_cons_self ..) v hg
          exact absurd ⟨x, h1, h2⟩ hx
      have hsmall : alikeF fr a b (d :: ds) = alikeF fr a b ds := by
        rw [alikeF]
        split
        · rename_i x y h1 h2
          cases hxy : x == y with
          | false => rfl
          | true =>
            have : x = y := by simpa using hxy
            subst this
            exact absurd ⟨x, h1, h2⟩ hx
        · rfl
      rw [hsmall, hbig]
      exact alikeF_fr ds (big hn) ha hb htail
end
end Go.Proofs.Ytpkeggejofeeeaa.Lvm

namespace Go.Proofs.Ytpkeggejofeeeaa.Lvm

def RFr (rec : RecFn) : Prop := ∀ lo c fr fr' st ex fr1 st1, FrLe fr fr' → rec lo c fr st = some (ex, fr1, st1) → ∃ fr1', rec lo c fr' st = some (ex, fr1', st1) ∧ FrLe fr1 fr1'

inductive WLe : WEnd → WEnd → Prop where
  | on : WLe .on .on
  | back {a b : LFr} (h : FrLe a b) : WLe (.back a) (.back b)

section
variable {E : Env} {lo : Nat} {fr fr' : LFr} {st : LSt}

theorem rounds_fr {rec : RecFn} (hrec : RFr rec) {n c : Nat} {body : Code} {L m len : Nat} {ds : List Nat} (h : FrLe fr fr') (hcl : ∀ d, d ∈ ds → fr.m.get d = none) :
    ∀ (es : List (LV × LV)) (i : Nat) (e e' r : WEnd), WLe e e' → rounds rec n c body fr st L m len ds es i e = some r → ∃ r', rounds rec n c body fr' st L m len ds es i e' = some r' ∧ WLe r r'
  | [], _, e, e', r, he, hy => by
    simp only [rounds, Option.some.injEq] at hy; subst hy; exact ⟨e', rfl, he⟩
  | (k, v) :: es, i, e, e', r, he, hy => by
    have hno : ∀ d, d ∈ ds → ∀ v, fr.m.get d = some v → ∀ (a b : LFr), ∃ x, v = .bool x ∧ a.m.get d = some (.bool x) ∧ b.m.get d = some (.bool x) := fun d hd v hv => by rw [hcl d hd] at hv; cases hv
    rw [rounds] at hy ⊢
    simp only [lputK_eq, setObjK_eq] at hy ⊢
    rw [h.1]
    cases h1 : Nat.blt n fr.n with
    | false => rw [h1] at hy; simp at hy
    | true =>
      rw [h1] at hy
      simp only [cond_true] at hy ⊢
      have hp := (h.put n (.tup [.bool true, k, v]))
      rw [hp.1]
      cases h2 : Nat.blt c (fr.put n (.tup [.bool true, k, v])).n with
      | false => rw [h2] at hy; simp at hy
      | true =>
        rw [h2] at hy
        simp only [cond_true] at hy ⊢
        cases hr : rec st.nxt body ((fr.put n (.tup [.bool true, k, v])).put c (.bool true)) { st with mem := st.mem.set L (.iter m len (some i)) } with
        | none => rw [hr] at hy; cases hy
        | some z =>
          obtain ⟨ex, fr1, st1⟩ := z
          obtain ⟨fr1', hr', hle⟩ := hrec _ _ _ _ _ _ _ _ (hp.put c (.bool true)) hr
          rw [hr] at hy; rw [hr']
          cases ex with
          | normal => exact rounds_fr hrec h hcl _ _ _ _ _ he hy
          | exit id => cases hy
          | ret =>
            cases he with
            | on => exact rounds_fr hrec h hcl _ _ _ _ _ (.back (alikeF_fr ds h hle hle fun d hd v hv => hno d hd v hv _ _)) hy
            | back hb => exact rounds_fr hrec h hcl _ _ _ _ _ (.back (alikeF_fr ds h hb hle fun d hd v hv => hno d hd v hv _ _)) hy

theorem vwalk_fr {rec : RecFn} (hrec : RFr rec) (h : FrLe fr fr') {x n c : Nat} {body : Code} {ex : LExit} {fr1 : LFr} {st1 : LSt} (hy : vwalk rec lo x n c body fr st = some (ex, fr1, st1)) :
    ∃ fr1', vwalk rec lo x n c body fr' st = some (ex, fr1', st1) ∧ FrLe fr1 fr1' := by
  unfold vwalk at hy ⊢
  have hc := clearF_fr h (n :: c :: dsts body)
  have hcl : ∀ d, d ∈ n :: c :: dsts body → (clearF fr (n :: c :: dsts body)).m.get d = none := fun d hd => by
    cases hg : (clearF fr (n :: c :: dsts body)).m.get d with
    | none => rfl
    | some v => exact absurd hd (clearF_get _ _ hg).2
  split at hy
  · rename_i L hL
    rw [hc.2 _ _ hL]
    simp only
    generalize Nat.ble lo L = c1 at hy ⊢
    cases c1 with
    | false => simp at hy
    | true =>
      simp only [cond_true] at hy ⊢
      split at hy
      · rename_i m len _
        split at hy
        · rename_i kt es _
          rw [h.1]
          generalize (Nat.beq _ _ && _) = c0 at hy ⊢
          cases c0 with
          | false => simp at hy
          | true =>
            simp only [cond_true, setObjK_eq] at hy ⊢
            cases hr : rounds rec n c body (clearF fr (n :: c :: dsts body)) st L m len (n :: c :: dsts body) es 0 .on with
            | none => rw [hr] at hy; cases hy
            | some r =>
              obtain ⟨r', hr', hle⟩ := rounds_fr hrec hc hcl es 0 .on .on r .on hr
              rw [hr] at hy; rw [hr']
              cases hle with
              | on =>
                simp only [Option.some.injEq, Prod.mk.injEq] at hy ⊢
                obtain ⟨rfl, rfl, rfl⟩ := hy
                exact ⟨_, ⟨rfl, rfl, rfl⟩, hc⟩
              | back hb =>
                simp only [Option.some.injEq, Prod.mk.injEq] at hy ⊢
                obtain ⟨rfl, rfl, rfl⟩ := hy
                exact ⟨_, ⟨rfl, rfl, rfl⟩, hb⟩
        · cases hy
      · cases hy
  · cases hy

theorem vcode_fr : ∀ n, RFr (vcode E n)
  | 0 => fun lo c fr fr' st ex fr1 st1 _ hy => by change none = some _ at hy; cases hy
  | n + 1 => by
    have ih := vcode_fr n
    intro lo c fr fr' st ex fr1 st1 h hy
    rw [vcode_succ] at hy ⊢
    cases c <;> simp only [vstep, reduceCtorEq] at hy ⊢
    case skip => simp only [Option.some.injEq, Prod.mk.injEq] at hy ⊢; obtain ⟨rfl, rfl, rfl⟩ := hy; exact ⟨fr', ⟨rfl, rfl, rfl⟩, h⟩
    case label l => simp only [Option.some.injEq, Prod.mk.injEq] at hy ⊢; obtain ⟨rfl, rfl, rfl⟩ := hy; exact ⟨fr', ⟨rfl, rfl, rfl⟩, h⟩
    case exit id => simp only [Option.some.injEq, Prod.mk.injEq] at hy ⊢; obtain ⟨rfl, rfl, rfl⟩ := hy; exact ⟨fr', ⟨rfl, rfl, rfl⟩, h⟩
    case ret => simp only [Option.some.injEq, Prod.mk.injEq] at hy ⊢; obtain ⟨rfl, rfl, rfl⟩ := hy; exact ⟨fr', ⟨rfl, rfl, rfl⟩, h⟩
    case region id ops draw =>
      cases hv : vregion E (vcode E n) lo ops draw fr st with
      | none => rw [hv] at hy; cases hy
      | some z =>
        obtain ⟨fr2, st2⟩ := z
        rw [hv] at hy
        obtain ⟨fr2', h1, h2⟩ := vregion_fr h hv
        rw [h1]
        simp only [Option.some.injEq, Prod.mk.injEq] at hy ⊢
        obtain ⟨rfl, rfl, rfl⟩ := hy
        exact ⟨_, ⟨rfl, rfl, rfl⟩, h2⟩
    case seq a b =>
      cases hv : vcode E n lo a fr st with
      | none => rw [hv] at hy; cases hy
      | some z =>
        obtain ⟨ex1, fr2, st2⟩ := z
        rw [hv] at hy
        obtain ⟨fr2', h1, h2⟩ := ih _ _ _ _ _ _ _ _ h hv
        rw [h1]
        cases ex1 with
        | normal => exact ih _ _ _ _ _ _ _ _ h2 hy
        | exit i => simp only [Option.some.injEq, Prod.mk.injEq] at hy ⊢; obtain ⟨rfl, rfl, rfl⟩ := hy; exact ⟨_, ⟨rfl, rfl, rfl⟩, h2⟩
        | ret => simp only [Option.some.injEq, Prod.mk.injEq] at hy ⊢; obtain ⟨rfl, rfl, rfl⟩ := hy; exact ⟨_, ⟨rfl, rfl, rfl⟩, h2⟩
    case cond c a b =>
      split at hy
      · rename_i t ht
        rw [leval_fr h (by rw [ht]; rfl), ht]
        exact ih _ _ _ _ _ _ _ _ h hy
      · cases hy
    case block id body =>
      cases hw : walkOf body with
      | some p =>
        obtain ⟨x, t, c, i, b⟩ := p
        rw [hw] at hy
        simp only at hy ⊢
        generalize Nat.beq i id = c0 at hy ⊢
        cases c0 with
        | false => simp at hy
        | true => exact vwalk_fr ih h hy
      | none =>
        rw [hw] at hy
        simp only at hy ⊢
        cases hv : vcode E n lo body fr st with
        | none => rw [hv] at hy; cases hy
        | some z =>
          obtain ⟨ex1, fr2, st2⟩ := z
          rw [hv] at hy
          obtain ⟨fr2', h1, h2⟩ := ih _ _ _ _ _ _ _ _ h hv
          rw [h1]
          cases ex1 with
          | normal => simp only [Option.some.injEq, Prod.mk.injEq] at hy ⊢; obtain ⟨rfl, rfl, rfl⟩ := hy; exact ⟨_, ⟨rfl, rfl, rfl⟩, h2⟩
          | ret => simp only [Option.some.injEq, Prod.mk.injEq] at hy ⊢; obtain ⟨rfl, rfl, rfl⟩ := hy; exact ⟨_, ⟨rfl, rfl, rfl⟩, h2⟩
          | exit i =>
            simp only at hy ⊢
            cases hb : Nat.beq i id with
            | true => rw [hb] at hy; simp only [cond_true, Option.some.injEq, Prod.mk.injEq] at hy ⊢; obtain ⟨rfl, rfl, rfl⟩ := hy; exact ⟨_, ⟨rfl, rfl, rfl⟩, h2⟩
            | false => rw [hb] at hy; simp only [cond_false, Option.some.injEq, Prod.mk.injEq] at hy ⊢; obtain ⟨rfl, rfl, rfl⟩ := hy; exact ⟨_, ⟨rfl, rfl, rfl⟩, h2⟩
    case loop body =>
      cases hv : vcode E n lo body fr st with
      | none => rw [hv] at hy; cases hy
      | some z =>
        obtain ⟨ex1, fr2, st2⟩ := z
        rw [hv] at hy
        obtain ⟨fr2', h1, h2⟩ := ih _ _ _ _ _ _ _ _ h hv
        rw [h1]
        cases ex1 with
        | normal => exact ih _ _ _ _ _ _ _ _ h2 hy
        | exit i => simp only [Option.some.injEq, Prod.mk.injEq] at hy ⊢; obtain ⟨rfl, rfl, rfl⟩ := hy; exact ⟨_, ⟨rfl, rfl, rfl⟩, h2⟩
        | ret => simp only [Option.some.injEq, Prod.mk.injEq] at hy ⊢; obtain ⟨rfl, rfl, rfl⟩ := hy; exact ⟨_, ⟨rfl, rfl, rfl⟩, h2⟩

theorem Ends.weak {c : Code} {ex : LExit} {fr1 : LFr} {st1 : LSt} (h : FrLe fr fr') (hy : Ends E lo c fr st ex fr1 st1) : ∃ fr1', Ends E lo c fr' st ex fr1' st1 ∧ FrLe fr1 fr1' := by
  obtain ⟨n, hy⟩ := hy
  obtain ⟨fr1', h1, h2⟩ := vcode_fr n _ _ _ _ _ _ _ _ h hy
  exact ⟨fr1', ⟨n, h1⟩, h2⟩
end
end Go.Proofs.Ytpkeggejofeeeaa.Lvm

namespace Go.Proofs.Ytpkeggejofeeeaa.Lvm

/-! ### the same with a claim about the end -/
def EndsQ (E : Env) (lo : Nat) (c : Code) (fr : LFr) (st : LSt) (Q : LExit → LFr → LSt → Prop) : Prop := ∃ ex fr' st', Ends E lo c fr st ex fr' st' ∧ Q ex fr' st'

section
variable {E : Env} {lo : Nat} {fr fr' fr1 : LFr} {st st1 : LSt} {Q Q' : LExit → LFr → LSt → Prop}

theorem EndsQ.mono {c : Code} (h : EndsQ E lo c fr st Q) (hq : ∀ ex fr' st', Q ex fr' st' → Q' ex fr' st') : EndsQ E lo c fr st Q' := by
  obtain ⟨ex, f, s, h1, h2⟩ := h
  exact ⟨ex, f, s, h1, hq _ _ _ h2⟩
theorem EndsQ.skip (h : Q .normal fr st) : EndsQ E lo .skip fr st Q := ⟨_, _, _, Ends.skip, h⟩
theorem EndsQ.exit {i : Nat} (h : Q (.exit i) fr st) : EndsQ E lo (.exit i) fr st Q := ⟨_, _, _, Ends.exit, h⟩
theorem EndsQ.ret (h : Q .ret fr st) : EndsQ E lo .ret fr st Q := ⟨_, _, _, Ends.ret, h⟩
theorem EndsQ.region {id : Nat} {ops : Array Oper} (h : Runs E lo false ops.toList ops.toList fr st fr1 st1) (hq : Q .normal fr1 st1) : EndsQ E lo (.region id ops false) fr st Q := ⟨_, _, _, Ends.region h, hq⟩
theorem EndsQ.drawn {id : Nat} {ops : Array Oper} (hd : drawOk ops = true) (h : Runs E lo true ops.toList ops.toList fr st fr1 st1) (hq : Q .normal fr1 st1) : EndsQ E lo (.region id ops true) fr st Q := ⟨_, _, _, Ends.drawn hd h, hq⟩

/-- What follows, where a code has ended. -/
def thenQ (E : Env) (lo : Nat) (b : Code) (Q : LExit → LFr → LSt → Prop) : LExit → LFr → LSt → Prop
  | .normal, fr, st => EndsQ E lo b fr st Q
  | ex, fr, st => Q ex fr st

theorem EndsQ.seq {a b : Code} (h : EndsQ E lo a fr st (thenQ E lo b Q)) : EndsQ E lo (.seq a b) fr st Q := by
  obtain ⟨ex, f, s, h1, h2⟩ := h
  cases ex with
  | normal =>
    obtain ⟨ex2, f2, s2, h3, h4⟩ := h2
    exact ⟨ex2, f2, s2, Ends.seq h1 h3, h4⟩
  | exit i => exact ⟨_, _, _, Ends.seq_out h1 (by simp), h2⟩
  | ret => exact ⟨_, _, _, Ends.seq_out h1 (by simp), h2⟩
theorem EndsQ.cond {c : Operand} {a b : Code} {t : Bool} (hc : leval fr c = some (.bool t)) (h : EndsQ E lo (if t then a else b) fr st Q) : EndsQ E lo (.cond c a b) fr st Q := by
  obtain ⟨ex, f, s, h1, h2⟩ := h
  exact ⟨ex, f, s, Ends.cond hc h1, h2⟩
theorem EndsQ.block {id : Nat} {body : Code} (hw : walkOf body = none) (h : EndsQ E lo body fr st (fun ex fr st => Q (ex.out id) fr st)) : EndsQ E lo (.block id body) fr st Q := by
  obtain ⟨ex, f, s, h1, h2⟩ := h
  exact ⟨_, f, s, Ends.block hw h1, h2⟩

/-- A loop: what holds at its head, with a measure that falls. -/
theorem EndsQ.loop {body : Code} (I : Nat → LFr → LSt → Prop) (hI : ∀ k fr st, I k fr st → EndsQ E lo body fr st (fun ex fr' st' => match ex with
      | .normal => ∃ k', k' < k ∧ I k' fr' st'
      | ex => Q ex fr' st')) : ∀ (k : Nat) (fr : LFr) (st : LSt), I k fr st → EndsQ E lo (.loop body) fr st Q := by
  intro k
  induction k using Nat.strongRecOn with
  | _ k ih =>
    intro fr st h
    obtain ⟨ex, f, s, h1, h2⟩ := hI k fr st h
    cases ex with
    | normal =>
      obtain ⟨k', hk, hi⟩ := h2
      obtain ⟨ex2, f2, s2, h3, h4⟩ := ih k' hk f s hi
      exact ⟨ex2, f2, s2, Ends.loop_on h1 h3, h4⟩
    | exit i => exact ⟨_, _, _, Ends.loop_out h1 (by simp), h2⟩
    | ret => exact ⟨_, _, _, Ends.loop_out h1 (by simp), h2⟩

/-- From a frame that knows less. -/
theorem EndsQ.weak {c : Code} (h : FrLe fr fr') (hy : EndsQ E lo c fr st Q) (hq : ∀ ex f f' s, Q ex f s → FrLe f f' → Q' ex f' s) : EndsQ E lo c fr' st Q' := by
  obtain ⟨ex, f, s, h1, h2⟩ := hy
  obtain ⟨f', h3, h4⟩ := h1.weak h
  exact ⟨ex, f', s, h3, hq _ _ _ _ h2 h4⟩
end
end Go.Proofs.Ytpkeggejofeeeaa.Lvm

namespace Go.Proofs.Ytpkeggejofeeeaa.Lvm

/-! ### operations under a guard -/
theorem Runs.opw {E : Env} {lo : Nat} {draw : Bool} {ops l : List Oper} {o : Oper} {fr fr' : LFr} {st st1 st' : LSt} {v : LV} {d : Nat} (hw : lwanted ops fr o = some true) (hd : o.dst = some d) (hn : d < fr.n)
    (h : ∃ n, vop E (callsOf E draw n) lo draw fr st o.op = some (v, st1)) (h' : Runs E lo draw ops l (fr.put d v) st1 fr' st') : Runs E lo draw ops (o :: l) fr st fr' st' := by
  obtain ⟨n, h⟩ := h
  refine Runs.cons ⟨n, ?_⟩ h'
  have hb : Nat.blt d fr.n = true := by rw [Nat.blt_eq]; exact hn
  simp only [vOper, hw, h, hd, lputK_eq, hb, cond_true]
theorem Runs.opu {E : Env} {lo : Nat} {draw : Bool} {ops l : List Oper} {o : Oper} {fr fr' : LFr} {st st' : LSt} {d : Nat} (hw : lwanted ops fr o = some false) (hd : o.dst = some d) (hn : d < fr.n)
    (h' : Runs E lo draw ops l (fr.put d lundef) st fr' st') : Runs E lo draw ops (o :: l) fr st fr' st' := by
  refine Runs.cons ⟨0, ?_⟩ h'
  have hb : Nat.blt d fr.n = true := by rw [Nat.blt_eq]; exact hn
  simp only [vOper, hw, hd, lputK_eq, hb, cond_true]

/-! ### a frame that knows little -/
theorem FrLe.leaf {fr : LFr} {n : Nat} (h : fr.n = n) : FrLe { m := .leaf, n := n } fr := ⟨h, fun _ _ hv => by cases hv⟩
theorem FrLe.add {fr fr' : LFr} {d : Nat} {v : LV} (h : FrLe fr fr') (hd : fr'.m.get d = some v) : FrLe (fr.put d v) fr' := ⟨h.1, fun t x hx => by
  simp only [LFr.put, Mem.get_set] at hx
  by_cases e : d = t
  · subst e; rw [if_pos rfl] at hx; rw [hd]; exact hx
  · rw [if_neg e] at hx; exact h.2 t x hx⟩
theorem FrLe.trans {fr fr' fr2 : LFr} (h : FrLe fr fr') (h' : FrLe fr' fr2) : FrLe fr fr2 := ⟨h'.1.trans h.1, fun t v hv => h'.2 t v (h.2 t v hv)⟩
theorem FrLe.get {fr fr' : LFr} (h : FrLe fr fr') {d : Nat} {v : LV} (hd : fr.m.get d = some v) : fr'.m.get d = some v := h.2 d v hd

/-! ### operations with a condition on their values -/
section
variable {E : Env} {call : CallFn} {lo : Nat} {cover : Bool} {fr : LFr} {st : LSt} {t ty e : TypeId} {x y : Operand} {k k' : IntKind} {a b : Int}

theorem vop_shl (hx : leval fr x = some (.int k a)) (hy : leval fr y = some (.int k' b)) (hb : 0 ≤ b) :
    vop E call lo cover fr st (.binOp .shl t x y ty) = some (.int k (k.wrap (a * 2 ^ (min b.toNat k.bits))), st) := by
  have h : ¬ b < 0 := by omega
  simp only [vop, opBin, hx, hy, binL, isShift, shiftOp, h, if_false, cond_true]
theorem vop_shr (hx : leval fr x = some (.int k a)) (hy : leval fr y = some (.int k' b)) (hb : 0 ≤ b) :
    vop E call lo cover fr st (.binOp .shr t x y ty) = some (.int k (a.fdiv (2 ^ (min b.toNat k.bits))), st) := by
  have h : ¬ b < 0 := by omega
  simp only [vop, opBin, hx, hy, binL, isShift, shiftOp, h, if_false, cond_true]
theorem vop_quo (hx : leval fr x = some (.int k a)) (hy : leval fr y = some (.int k b)) (hb : b ≠ 0) :
    vop E call lo cover fr st (.binOp .quo t x y ty) = some (.int k (k.wrap (a.tdiv b)), st) := by
  simp only [vop, opBin, hx, hy, binL, isShift, intOp, hb, if_false, if_true, cond_false]
theorem vop_rem (hx : leval fr x = some (.int k a)) (hy : leval fr y = some (.int k b)) (hb : b ≠ 0) :
    vop E call lo cover fr st (.binOp .rem t x y ty) = some (.int k (a.tmod b), st) := by
  simp only [vop, opBin, hx, hy, binL, isShift, intOp, hb, if_false, if_true, cond_false]

theorem vop_at {bl : Blk} {o sz len cap i : Nat} {ex : Bool} (hx : leval fr x = some (.sl bl o sz len cap ex)) (hy : leval fr y = some (.int k (Int.ofNat i))) (hu : E.und t = some (.slice e)) (hs : E.size e = some sz) (hi : i < len) :
    vop E call lo cover fr st (.indexAddr t x y) = some (.ptr bl (o + i * sz), st) := by
  have h1 : Nat.blt i len = true := by rw [Nat.blt_eq]; exact hi
  simp [vop, opIndexAddr, hx, hy, indexAddrL, natOf, hu, hs, h1]
theorem vop_load1 {bl : Blk} {o : Nat} {d : TypeDesc} {v : LV} (hx : leval fr x = some (.ptr bl o)) (hu : E.und t = some d) (hd : isAggD d = false) (hl : load1 E st bl o = some v) :
    vop E call lo cover fr st (.load t x) = some (v, st) := by
  simp only [vop, opLoad, hx, loadV, hu, hd, cond_false, hl]
theorem vop_loadN {bl : Blk} {o n : Nat} {d : TypeDesc} {vs : List LV} (hx : leval fr x = some (.ptr bl o)) (hu : E.und t = some d) (hd : isAggD d = true) (hs : E.size t = some n) (hl : loadN E st bl o n = some vs) :
    vop E call lo cover fr st (.load t x) = some (.agg vs, st) := by
  simp only [vop, opLoad, hx, loadV, hu, hd, cond_true, hs, hl, Option.map_some]
end
end Go.Proofs.Ytpkeggejofeeeaa.Lvm
