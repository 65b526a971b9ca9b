/- Laws of the small machine and of how it stands to the model; a helper of the statements: no statement is proved here. -/
import Derived.Test.YtpkeggejofeeeaaS19
namespace Go.Proofs.Ytpkeggejofeeeaa.Lvm

theorem isCallV_of {op : Op} {c : Cl} (h : clOf op = some c) (hc : c ≠ .call) : isCallV op = false := by
  cases op <;> try rfl
  rename_i k
  obtain ⟨callee, args, argTypes⟩ := k
  cases callee with
  | value f => simp only [clOf, Option.some.injEq] at h; exact absurd h.symm hc
  | invoke r m => rfl
  | builtin b => rfl

theorem isWrite_of {op : Op} {c : Cl} (h : clOf op = some c) (hc : c ≠ .write) : isWrite op = false := by
  cases op <;> first | rfl | (simp only [clOf, Option.some.injEq] at h; exact absurd h.symm hc)

section
variable {E : Env} {B lo : Nat} {call : CallFn} {ops : Array Oper} {F : Nat → LFr} {S : Nat → LSt} {inj0 inj inj' : Inj} {w0 w w' : World} {X : Nat → Prop} {a : Act}

/-- A call under its own barrier. -/
def CallHere (E : Env) (B : Nat) (call : CallFn) : Prop := ∀ lo f args st r st', call lo f args st = some (r, st') →
  ∀ (inj : Inj) (w : World) (args' : Array Value), Rel E B inj st w → VRels inj args args'.toList →
    (callFunc f args').run E.P w = .ok (.enter f args') w ∧
    Calls E.P f args' w fun e w' => ∃ u inj', e = .returned u ∧ VRel inj' r u ∧ Rel E B inj' st' w' ∧ Step st.nxt inj st w inj' st' w'

theorem wp_next {o : Oper} {K : Act → World → Prop} {Q : Exit → Act → World → Prop} {n : Next} {u : Value} (hn : NextIs n u) (hrun : (execOp a.eval o).run E.P w = .ok n w')
    (h : K (a.put o.dst u) w') : o.wp E.P a w K Q := by
  unfold Oper.wp
  rw [hrun]
  rcases hn with rfl | ⟨rfl, rfl⟩ <;> exact h

variable {j : Nat} {o : Oper}

/-- A call has come back. -/
theorem MInv.called (D : DRun E call lo ops F S) (hcl : Closed ops X) (hj : Ready ops X j o) (h : MInv E B lo ops S inj0 w0 X inj w) (hc : cl ops j = some .call)
    (hs : Step (S j).nxt (cut inj (S j).nxt) (S j) w inj' (S (j + 1)) w') (hr' : Rel E B inj' (S (j + 1)) w') :
    ∃ inj2, Ext inj inj2 ∧ cut inj2 (S (j + 1)).nxt = inj' ∧ MInv E B lo ops S inj0 w0 (also X j) inj2 w' := by
  have hjs := lt_of_cl hc
  have hp := no_write_before D hcl hj hc (by simp) (by simp)
  have hg : ∀ g, X g → cl ops g = some .grow → g < j := fun g => grows_before D hcl hj hc (by simp)
  obtain ⟨I, hnw⟩ := h.early D hcl hj hc (by simp) (by simp)
  have hnw' : ∀ i, also X j i → cl ops i ≠ some .write := fun i hi => by
    rcases hi with hi | rfl
    · exact hnw i hi
    · rw [hc]; simp
  have hS := D.nxt_le (i := j) (k := j + 1) (by omega) (by omega)
  let inj2 : Inj := fun L => if (S j).nxt ≤ L ∧ L < (S (j + 1)).nxt then inj' L else inj L
  have hb : ∀ L, ¬((S j).nxt ≤ L ∧ L < (S (j + 1)).nxt) → inj2 L = inj L := fun L hL => if_neg hL
  have hn : ∀ L, (S j).nxt ≤ L → L < (S (j + 1)).nxt → inj2 L = inj' L := fun L h1 h2 => if_pos ⟨h1, h2⟩
  have hcut : cut inj2 (S (j + 1)).nxt = inj' := by
    funext L
    by_cases h1 : L < (S (j + 1)).nxt
    · rw [cut_lt h1]
      by_cases h2 : (S j).nxt ≤ L
      · exact hn L h2 h1
      · rw [hb L (by omega), hs.ext L (by omega), cut_lt (by omega)]
    · simp only [cut]; rw [if_neg h1]
      cases hq : inj' L with
      | none => rfl
      | some q => exact absurd (hr'.dom L q hq).1 h1
  have hlt : ∀ {L}, live (S (j + 1)) L → L < (S (j + 1)).nxt := fun hl => D.live_lt (by omega) hl
  refine ⟨inj2, I.inj_ext D hjs hj.un hb, hcut, Or.inl ⟨?_, hnw'⟩⟩
  refine I.adv D hjs hp hj.un hg hb (by rw [hcut]; exact hr'.toEmb) (fun b hb' => Or.inl (hs.keep b hb' fun L q hL hl _ => ?_)) hs.size ?_ ?_ ?_ hs.al
  · have := D.live_lt (k := j) (by omega) hl; omega
  · intro L q hL hl hq
    rw [hn L hL (hlt hl)] at hq
    rcases hs.orig L q hL hl hq with e | ⟨L0, q0, g1, g2, _⟩
    · exact Or.inl e
    · have := D.live_lt (k := j) (by omega) g2; omega
  · intro L hL hl
    rw [hn L hL (hlt hl)]; exact hr'.full L hl
  · intro L L' q q' hL hL' hl hl' hq hq' he
    rw [hn L hL (hlt hl)] at hq; rw [hn L' hL' (hlt hl')] at hq'
    exact hr'.uniq L L' q q' hl hl' hq hq' he

theorem oper_draw (hE : E.Ok) (D : DRun E call lo ops F S) (hcl : Closed ops X) (hj : Ready ops X j o) (hcall : CallHere E B call) (hM : MInv E B lo ops S inj0 w0 X inj w) (hf : FInv ops F S X inj a) (hd : a.defers = []) {K : Act → World → Prop} {Q : Exit → Act → World → Prop}
    (hK : ∀ inj' a' w', MInv E B lo ops S inj0 w0 (also X j) inj' w' → FInv ops F S (also X j) inj' a' → a'.defers = [] → K a' w') : wpOp E.P ops Q j K a w := by
  have hjs := (Array.getElem?_eq_some_iff.1 hj.op).1
  have hS := D.nxt_le (i := j) (k := j + 1) (by omega) (by omega)
  have hs : ∀ t ∈ o.looksAt ops, ∀ v, (F j).m.get t = some v → VRel (cut inj (S j).nxt) v (a.tmps.getD t undef) := fun t ht => hf.slots D hcl hj ht
  have hxr : ∀ x ∈ o.op.operands, XRel (cut inj (S j).nxt) (F j) a x := fun x hx => XRel.of_slots hs hx
  unfold wpOp
  simp only [hj.op]
  obtain ⟨v, ht, ⟨hw, hv⟩ | ⟨hw, rfl, hsame⟩⟩ := D.tr j o hj.op
  · rw [wanted_slots hs hw]
    simp only [if_true]
    left
    obtain ⟨c, hc⟩ := D.ok.cls j o hj.op
    have hc' : cl ops j = some c := by simp [cl, hj.op, hc]
    by_cases hpure : c = .pure
    · subst hpure
      have hsame := D.pure_same hjs hc'
      have hv2 := vop_pure hc hv { mem := .leaf, nxt := (S j).nxt }
      have hl := vop_light hE (hM.leaf hE (S j).nxt) hxr (isCallV_of hc (by simp)) hv2
      cases hl with
      | same _ n u hn hrun hvr =>
        exact wp_next hn hrun (hK inj _ w (hM.same D hcl hj hsame) (hf.put D hj (Ext.refl _) ht (hvr.mono (cut_mono (Ext.refl _) hS))) (by rw [put_defers]; exact hd))
      | fresh o' ob cnt n u w' hn h1 => have := congrArg LSt.nxt h1; simp [newB] at this
      | store hcc => have := hcc rfl; rw [isWrite_of hc (by simp)] at this; cases this
      | grow L0 q0 cs cs' n u w' hn g1 g2 g3 g6 => have := congrArg LSt.nxt g6; simp [newB] at this
    · by_cases hwr : c = .write
      · subst hwr
        have A := hM.at_write D hcl hj hc'
        have hl := vop_light hE (A.rel.toEmb) (fun x hx y hy => (hxr x hx y hy).mono (cut_ext _ _)) (isCallV_of hc (by simp)) hv
        obtain ⟨n, u, w', inj', hn, hrun, hvr, hr', hs'⟩ := hl.step A.rel (D.both j (by omega)).2.2.1
        refine wp_next hn hrun (hK inj' _ w' (Or.inr ⟨j + 1, A.next D hcl hj hjs hr' hs'⟩) (hf.put D hj (hs'.toExt A.rel.toEmb) ht (hvr.mono fun L q hq => ?_)) (by rw [put_defers]; exact hd))
        rw [cut_lt (hr'.dom L q hq).1]; exact hq
      · have hp := no_write_before D hcl hj hc' hpure hwr
        have hg : ∀ g, X g → cl ops g = some .grow → g < j := fun g => grows_before D hcl hj hc' hpure
        obtain ⟨I, hnw⟩ := hM.early D hcl hj hc' hpure hwr
        have hnp : ∀ i, i < j → (S i).nxt < (S (i + 1)).nxt → ∃ ci, cl ops i = some ci ∧ ci ≠ .pure ∧ ci ≠ .read := fun i hi hlt => by
          obtain ⟨ci, hci⟩ := cl_get D.ok (j := i) (by omega)
          refine ⟨ci, hci, fun e => ?_, fun e => ?_⟩
          · subst e; rw [D.pure_same (by omega) hci] at hlt; omega
          · subst e
            obtain ⟨oi, hoi⟩ := DRun.getop (j := i) (ops := ops) (by omega)
            rw [DRun.cl_some hoi] at hci
            obtain ⟨v', _, ⟨_, h'⟩ | ⟨_, _, h'⟩⟩ := D.tr i oi hoi
            · rw [show S (i + 1) = S i from vop_eff hci h'] at hlt; omega
            · rw [h'] at hlt; omega
        by_cases hcc : c = .call
        · subst hcc
          have hrel := I.relCut D hcl hj hjs (fun i hi => hp i (by omega)) hg fun i hi hlt => by
            obtain ⟨ci, hci, h1, h2⟩ := hnp i hi hlt
            refine hj.waits D.ok hcl hi hci hc' ?_
            cases ci <;> first | exact absurd rfl h1 | exact absurd rfl h2 | rfl
          obtain ⟨k, f, hk, hkf⟩ := clOf_call hc
          have hv' := hv
          rw [hk] at hv'
          simp only [vop] at hv'
          obtain ⟨vs, g, first, cap, hvs, hgf, hcl'⟩ := opCall_value hkf hv'
          have hops : ∀ x, x ∈ k.operands → XRel (cut inj (S j).nxt) (F j) a x := fun x hx => hxr x (by rw [hk]; exact hx)
          have hxf := hops f (by simp [Call.operands, hkf]) _ hgf
          simp only [VRel] at hxf
          obtain ⟨fs, cs, hfe, hr1, hr2⟩ := hxf
          have hargs := levals_rel (a := a) (fun x hx => hops x (by simp only [Call.operands, Array.mem_append]; exact Or.inr (by simpa using hx))) hvs
          have hall : VRels (cut inj (S j).nxt) ((first ++ vs) ++ cap) ((fs ++ k.args.map a.eval) ++ cs).toList := by
            simpa using (hr1.append hargs).append hr2
          obtain ⟨hcf, hcalls⟩ := hcall lo g _ (S j) v (S (j + 1)) hcl' _ w _ hrel hall
          have hrun : (execOp a.eval o).run E.P w = .ok (.enter g ((fs ++ k.args.map a.eval) ++ cs)) w := by
            simp only [execOp, hk, resolve, hkf, hfe, Deferred.ofValue, pure_bind, invoke]
            exact hcf
          unfold Oper.wp
          rw [hrun, Oper.upon_enter]
          refine hcalls.mono fun e w' he => ?_
          obtain ⟨u, inj', rfl, hvr, hr', hs'⟩ := he
          obtain ⟨inj2, hx2, hcut, hM'⟩ := hM.called D hcl hj hc' hs' hr'
          exact hK inj2 _ w' hM' (hf.put D hj hx2 ht (by rw [hcut]; exact hvr)) (by rw [put_defers]; exact hd)
        · have hl := vop_light hE (I.emb D (k := j) (by omega) (fun i hi => hp i (by omega)) hg) hxr (isCallV_of hc hcc) hv
          rw [isWrite_of hc hwr] at hl
          obtain ⟨n, u, w', inj', hn, hrun, hx, hvr, hM'⟩ := hM.light D hcl hj hc' hpure hwr hcc (fun i hi hcg hlt => by
            subst hcg
            obtain ⟨ci, hci, h1, h2⟩ := hnp i hi hlt
            refine hj.waits D.ok hcl hi hci hc' ?_
            cases ci <;> first | exact absurd rfl h1 | rfl) hl
          exact wp_next hn hrun (hK inj' _ w' hM' (hf.put D hj hx ht hvr) (by rw [put_defers]; exact hd))
  · rw [wanted_slots hs hw]
    simp only [Bool.false_eq_true, if_false]
    exact hK inj _ w (hM.same D hcl hj hsame) (hf.put D hj (Ext.refl _) ht VRel.undef) (by rw [put_defers]; exact hd)
end

section
variable {E : Env} {B lo : Nat} {call : CallFn} {ops : Array Oper} {F : Nat → LFr} {S : Nat → LSt} {inj0 : Inj} {w0 : World}

theorem any_draw (hE : E.Ok) (D : DRun E call lo ops F S) (hcall : CallHere E B call) {Q : Exit → Act → World → Prop}
    (hQ : ∀ inj' a' w', Step lo inj0 (S 0) w0 inj' (S ops.size) w' → Rel E B inj' (S ops.size) w' → FRel inj' (F ops.size) a'.tmps → a'.defers = [] → Q .normal a' w') :
    ∀ (fuel : Nat) (listed : Array Bool) (l : List Nat) (inj : Inj) (w : World) (a : Act), l.length ≤ fuel → (∀ i, i < ops.size → listed.getD i true = false → i ∈ l) → listed.size = ops.size →
      Closed ops (fun i => listed.getD i false = true) → MInv E B lo ops S inj0 w0 (fun i => listed.getD i false = true) inj w → FInv ops F S (fun i => listed.getD i false = true) inj a → a.defers = [] →
      wpAny E.P .any ops Q fuel listed a w := by
  have fin : ∀ (listed : Array Bool) (inj : Inj) (w : World) (a : Act), listed.size = ops.size → Region.ready .any ops listed = [] →
      MInv E B lo ops S inj0 w0 (fun i => listed.getD i false = true) inj w → FInv ops F S (fun i => listed.getD i false = true) inj a → a.defers = [] → Q .normal a w := by
    intro listed inj w a hsz hr hM hf hd
    have hall : ∀ i, i < ops.size → listed.getD i false = true := by
      intro i
      induction i using Nat.strongRecOn with
      | _ i ih =>
        intro hi
        refine Classical.byContradiction fun hn => ?_
        obtain ⟨o, ho⟩ := DRun.getop hi
        have : i ∈ Region.ready .any ops listed := mem_ready.2 ⟨by
          have hlt : i < listed.size := by omega
          simp only [Array.getD_eq_getD_getElem?, Array.getElem?_eq_getElem hlt, Option.getD_some] at hn ⊢
          simpa using hn, o, ho, fun e he hb => ih e.on (D.ok.back i o ho e he hb) (by have := D.ok.back i o ho e he hb; omega)⟩
        rw [hr] at this; cases this
    have hR : Rel E B inj (S ops.size) w ∧ Step lo inj0 (S 0) w0 inj (S ops.size) w := by
      rcases hM with ⟨I, hnw⟩ | ⟨m, A⟩
      · exact I.toRel D (Nat.le_refl _) (fun i hi => hnw i (hall i hi)) (fun i hi _ => hall i hi) (fun i h1 h2 => by omega)
      · have : S ops.size = S m := D.pure_run A.le (Nat.le_refl _) fun i h1 h2 => A.not i h1 h2 (hall i h2)
        rw [this]; exact ⟨A.rel, A.step⟩
    refine hQ inj a w hR.2 hR.1 ⟨by rw [hf.size, D.frn (Nat.le_refl _)], fun t v hv => ?_⟩ hd
    rcases D.slot t (k := ops.size) (Nat.le_refl _) with ⟨h1, h2⟩ | ⟨i, oi, h1, h2, h3, h4⟩
    · rw [h2] at hv
      exact (hf.rest t (fun i oi hi _ => h1 i oi (Array.getElem?_eq_some_iff.1 hi).1 hi) v hv).mono (cut_ext _ _)
    · rw [h4] at hv; exact (hf.done i oi t h2 (hall i h1) h3 v hv).mono (cut_ext _ _)
  intro fuel
  induction fuel with
  | zero =>
    intro listed l inj w a hl hmem hsz hcl hM hf hd
    have hr : Region.ready .any ops listed = [] := by
      refine List.eq_nil_iff_forall_not_mem.2 fun i hi => ?_
      obtain ⟨h0, o, ho, _⟩ := mem_ready.1 hi
      have := hmem i (Array.getElem?_eq_some_iff.1 ho).1 h0
      simp at hl; subst hl; cases this
    exact ⟨hr, fin listed inj w a hsz hr hM hf hd⟩
  | succ fuel ih =>
    intro listed l inj w a hl hmem hsz hcl hM hf hd
    refine ⟨fun hr => fin listed inj w a hsz hr hM hf hd, fun j hj => ?_⟩
    obtain ⟨h0, o, ho, hall⟩ := mem_ready.1 hj
    have hjs := (Array.getElem?_eq_some_iff.1 ho).1
    have hun : ¬ listed.getD j false = true := by
      have hlt : j < listed.size := by omega
      simp only [Array.getD_eq_getD_getElem?, Array.getElem?_eq_getElem hlt, Option.getD_some] at h0 ⊢
      simp [h0]
    have hready : Ready ops (fun i => listed.getD i false = true) j o := ⟨ho, hun, hall⟩
    have hX : (fun i => (listed.setIfInBounds j true).getD i false = true) = also (fun i => listed.getD i false = true) j := by
      funext i
      simp only [also, eq_iff_iff]
      by_cases e : j = i
      · subst e
        have hlt : j < listed.size := by omega
        simp [hlt]
      · rw [getD_set_ne false e]
        exact ⟨Or.inl, fun h => h.resolve_right fun e' => e e'.symm⟩
    refine oper_draw hE D hcl hready hcall hM hf hd fun inj' a' w' hM' hf' hd' => ?_
    refine ih (listed.setIfInBounds j true) (l.erase j) inj' w' a' ?_ ?_ (by simpa using hsz) ?_ (by rw [hX]; exact hM') (by rw [hX]; exact hf') hd'
    · rw [List.length_erase_of_mem (hmem j hjs h0)]; omega
    · intro i hi hun'
      by_cases e : j = i
      · subst e
        have hlt : j < listed.size := by omega
        simp [hlt] at hun'
      · rw [getD_set_ne true e] at hun'
        exact (List.mem_erase_of_ne (Ne.symm e)).2 (hmem i hi hun')
    · rw [hX]
      intro i oi hi hXi e he hb
      rcases hXi with hXi | rfl
      · exact Or.inl (hcl i oi hi hXi e he hb)
      · rw [ho] at hi; simp only [Option.some.injEq] at hi; subst hi
        exact Or.inl (hall e he hb)

theorem draw_sound (hE : E.Ok) (hext : ExtEff E) : DrawSound E B := by
  intro n hcall lo ops fr st fr' st' h id inj w a hr hlo hf hd Q hQ
  have hce := vcall_eff (vcode_eff hext n) hext
  unfold vregion at h
  simp only [cond_true] at h
  cases hdo : drawOk ops with
  | false => rw [hdo] at h; simp at h
  | true =>
    rw [hdo] at h; simp only [cond_true] at h
    obtain ⟨F, S, rfl, rfl, hF, hS, htr⟩ := vOpers_run _ _ _ _ _ h
    simp only [Array.length_toList] at hF hS
    have D : DRun E (fun _ f args st => vcall E (vcode E n) st.nxt f args st) lo ops F S :=
      ⟨fun j o ho => htr j o (by simpa using ho), drawOk_spec hdo, hce.drawn, fun _ f args st r st' hc hn => hce st.nxt f args st r st' hc (Nat.le_refl _) hn, hr.new, hlo⟩
    have hch : CallHere E B (fun _ f args st => vcall E (vcode E n) st.nxt f args st) := fun _ f args st r st' hc inj w args' hr' hv =>
      hcall st.nxt f args st r st' hc inj w args' hr' (Nat.le_refl _) hv
    refine wp_region_any hE.mixed ?_
    have hr1 : Rel E B inj (S 0) { w with drawn := w.drawn + 1 } := hr.heap rfl
    refine any_draw hE (inj0 := inj) (w0 := { w with drawn := w.drawn + 1 }) (B := B) D hch (fun inj' a' w' hs' hr' hf' hd' => ?_) ops.size _ (List.range ops.size) inj _ a (by simp) (fun i hi _ => by simpa using hi) (by simp) ?_ (Or.inl ⟨?_, ?_⟩) ?_ hd
    · refine hQ inj' a' w' ?_ (by rw [← hS]; exact hr') (by rw [← hF]; exact hf') hd'
      rw [← hS]
      exact ⟨hs'.ext, hs'.nxt, hs'.size, hs'.keep, hs'.orig, hs'.old, ⟨hs'.al.os, hs'.al.tape, hs'.al.output⟩⟩
    · intro j o _ hX
      simp only [Array.getD_eq_getD_getElem?, Array.getElem?_replicate] at hX
      split at hX <;> simp at hX
    · have := DInv.start hE D hr1
      have e : (fun i => (Array.replicate ops.size false).getD i false = true) = (fun _ : Nat => False) := by
        funext i
        simp only [Array.getD_eq_getD_getElem?, Array.getElem?_replicate, eq_iff_iff, iff_false]
        split <;> simp
      rw [e]; exact this
    · intro i hX
      simp only [Array.getD_eq_getD_getElem?, Array.getElem?_replicate] at hX
      split at hX <;> simp at hX
    · refine ⟨hf.1, fun i o t _ hX => ?_, fun t _ => ?_⟩
      · simp only [Array.getD_eq_getD_getElem?, Array.getElem?_replicate] at hX
        split at hX <;> simp at hX
      · intro v hv
        refine (hf.2 t v hv).mono fun L q hq => ?_
        rw [cut_lt (hr.dom L q hq).1]; exact hq

/-- The small machine's calls are the model's. -/
theorem vrun_sound (hE : E.Ok) (hx1 : ExtSound E B) (hx2 : ExtEff E) (hw : WalkSound E B) (n : Nat) : CallSound E B (vrun E n) :=
  vcall_sound hE (vcode_sound hE hx1 (draw_sound hE hx2) hw n).1 hx1
end
end Go.Proofs.Ytpkeggejofeeeaa.Lvm
