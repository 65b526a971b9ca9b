/- Laws of the small machine and of how it stands to the model; a helper of the statements: no statement is proved here. -/
import Derived.Test.YtpkeggejofeeeaaW3
namespace Go.Proofs.Ytpkeggejofeeeaa.Lvm

section
variable {E : Env} {B : Nat}

theorem FRel.putNone {inj : Inj} {fr : LFr} {a : Act} (hf : FRel inj fr a.tmps) {d : Nat} (hd : fr.m.get d = none) (u : Value) : FRel inj fr (a.put (some d) u).tmps := by
  refine ⟨by simp [Act.put, hf.1], fun i v hv => ?_⟩
  have hne : d ≠ i := by rintro rfl; rw [hd] at hv; cases hv
  have := hf.2 i v hv
  simpa only [Act.put, Array.getD_eq_getD_getElem?, Array.getElem?_setIfInBounds_ne hne] using this

theorem eval_put {a : Act} {d : Nat} {u : Value} (h : d < a.tmps.size) : (a.put (some d) u).eval (.tmp d) = u := by
  simp [Act.eval, Act.put, h]

theorem put_size {a : Act} {d : Option Tmp} {u : Value} : (a.put d u).tmps.size = a.tmps.size := by cases d <;> simp [Act.put]

theorem walk_sound : WalkSound E B := by
  intro n hrec lo id body x t c b fr st ex fr' st' hw h inj w a hr hlo hf hd Q hQ
  obtain ⟨rid, ops, o1, o2, rfl, hops, hd1, hop1, hg1, hd2, hop2, hg2, hxt, hxc, htc⟩ := walkOf_spec hw
  have hsz : ops.size = 2 := by rw [← Array.length_toList, hops]; rfl
  have ho1 : ops[0]? = some o1 := by rw [← Array.getElem?_toList, hops]; rfl
  have ho2 : ops[1]? = some o2 := by rw [← Array.getElem?_toList, hops]; rfl
  unfold vwalk at h
  have hfr0 : FRel inj (clearF fr (t :: c :: dsts b)) a.tmps := ⟨by rw [clearF_n]; exact hf.1, fun i v hv => hf.2 i v (clearF_get _ _ hv).1⟩
  have hcl : ∀ d, d ∈ t :: c :: dsts b → (clearF fr (t :: c :: dsts b)).m.get d = none := fun d hd => by
    cases hg : (clearF fr (t :: c :: dsts b)).m.get d with
    | none => rfl
    | some v => exact absurd hd (clearF_get _ _ hg).2
  have hfn : (clearF fr (t :: c :: dsts b)).n = fr.n := clearF_n _ _
  split at h
  · rename_i L hxg
    cases hLo : Nat.ble lo L with
    | false => rw [hLo] at h; simp at h
    | true =>
      rw [hLo] at h; simp only [cond_true] at h
      have hLo := Nat.le_of_ble_eq_true hLo
      split at h
      · rename_i m len hit
        split at h
        · rename_i kt es hes
          cases hc0 : (Nat.beq es.length len && (Nat.blt t fr.n && Nat.blt c fr.n)) with
          | false => rw [hc0] at h; simp at h
          | true =>
            rw [hc0] at h
            simp only [cond_true, setObjK_eq] at h
            simp only [Bool.and_eq_true] at hc0
            have hlen := Nat.eq_of_beq_eq_true hc0.1
            have htn := blt_lt hc0.2.1
            have hcn := blt_lt hc0.2.2
            generalize hF : clearF fr (t :: c :: dsts b) = fr0 at *
            -- the iterator and the map, in the model
            have hxv := hfr0.2 x _ hxg
            simp only [VRel] at hxv
            obtain ⟨ri, ⟨n0, hqL⟩, _⟩ := hxv
            obtain ⟨rm, cm, seen0, hqm, hiw, hs0⟩ := hr.obj _ _ _ hqL hit
            simp only at hs0 hiw
            subst hs0
            obtain ⟨cc, clk, hmw, hers, hkeys, hclk, hborn⟩ := hr.obj _ _ _ hqm hes
            simp only at hmw
            have hcl2 := hers.length
            simp only [Array.length_toList] at hcl2
            have hlv : live st L := ⟨_, hit, by simp⟩
            have hrim : ri ≠ rm := by rintro rfl; rw [hiw] at hmw; cases hmw
            have hrisz : ri < w.heap.size := (hr.dom L _ hqL).2.2
            have hrmsz : rm < w.heap.size := (hr.dom m _ hqm).2.2
            cases hR : rounds (vcode E n) t c b fr0 st L m len (t :: c :: dsts b) es 0 .on with
            | none => rw [hR] at h; cases h
            | some r =>
              obtain ⟨_, hB, hC⟩ := rounds_spec es 0 .on r hR
              have hres : (r = .on → ex = .normal ∧ fr' = fr0 ∧ st' = { st with mem := st.mem.set L .dead }) ∧ (∀ frC, r = .back frC → ex = .ret ∧ fr' = frC ∧ st' = { st with mem := st.mem.set L .dead }) := by
                rw [hR] at h
                cases r with
                | on =>
                  simp only [Option.some.injEq, Prod.mk.injEq] at h
                  obtain ⟨rfl, rfl, rfl⟩ := h
                  exact ⟨fun _ => ⟨rfl, rfl, rfl⟩, fun _ h => (by cases h)⟩
                | back frC =>
                  simp only [Option.some.injEq, Prod.mk.injEq] at h
                  obtain ⟨rfl, rfl, rfl⟩ := h
                  exact ⟨fun h => (by cases h), fun _ h => (by cases h; exact ⟨rfl, rfl, rfl⟩)⟩
              -- the ending
              have hend : ∀ (w1 : World), w.heap.size ≤ w1.heap.size → (∀ b, b < w.heap.size → b ≠ ri → w1.heap[b]? = w.heap[b]?) → Alike3 w w1 →
                  Step lo inj st w inj { st with mem := st.mem.set L .dead } w1 ∧ Rel E B inj { st with mem := st.mem.set L .dead } w1 := fun w1 h1 h2 h3 => by
                refine ⟨⟨fun _ _ => rfl, Nat.le_refl _, h1, fun b hb hp => h2 b hb fun e => hp L _ hLo hlv hqL e.symm, fun L' q' hL' hl' hq' => Or.inr ⟨L', q', hL', ?_, hq', rfl⟩, fun L' hL' => ?_, h3⟩, hr.shift hqL hlv h1 h2 trivial⟩
                · obtain ⟨y, hy, hyd⟩ := hl'
                  simp only [Mem.get_set] at hy
                  by_cases e : L = L'
                  · subst e; exact hlv
                  · rw [if_neg e] at hy; exact ⟨y, hy, hyd⟩
                · simp only [Mem.get_set]; rw [if_neg (by omega)]
              refine wp_block (wp_loop_rounds (len + 1) ?_)
              have round : ∀ (next : Act → World → Prop) (left : List Nat) (seen : Array Nat) (w1 : World) (a1 : Act), (∀ i, i < len → i ∉ seen → i ∈ left) →
                  w.heap.size ≤ w1.heap.size → (∀ b, b < w.heap.size → b ≠ ri → w1.heap[b]? = w.heap[b]?) → w1.heap[ri]? = some (.mapIter (some rm) len seen len) → Alike3 w w1 →
                  FRel inj fr0 a1.tmps → a1.defers = [] →
                  (∀ i, i ∈ seen → ∃ k v fr' st', es[i]? = some (k, v) ∧ roundAt (vcode E n) t c b fr0 st L m len k v i = some (.normal, fr', st')) →
                  (∀ (i : Nat) (w2 : World) (a2 : Act), i ∈ left → i < len → w.heap.size ≤ w2.heap.size → (∀ b, b < w.heap.size → b ≠ ri → w2.heap[b]? = w.heap[b]?) → w2.heap[ri]? = some (.mapIter (some rm) len (seen.push i) len) → Alike3 w w2 →
                    FRel inj fr0 a2.tmps → a2.defers = [] → (∃ k v fr' st', es[i]? = some (k, v) ∧ roundAt (vcode E n) t c b fr0 st L m len k v i = some (.normal, fr', st')) → next a2 w2) →
                  (Code.seq (.region rid ops false) (.seq (.cond (.tmp c) .skip (.exit id)) b)).wp E.P (Exit.then next (Exit.inBlock id Q)) a1 w1 := by
                intro next left seen w1 a1 hleft hsz1 hk1 hit1 hal1 hF1 hd1' hseen hnext
                have hts : a1.tmps.size = fr.n := by rw [hF1.1, hfn]
                have hx1 : a1.eval (.tmp x) = .pointer (some ⟨ri, 0, none⟩) := by
                  have := hF1.2 x _ hxg
                  simp only [VRel] at this
                  obtain ⟨r', ⟨n', hq'⟩, hv'⟩ := this
                  rw [hqL] at hq'
                  simp only [Option.some.injEq, Prod.mk.injEq] at hq'
                  obtain ⟨rfl, _⟩ := hq'
                  exact hv'
                have hm1 : w1.heap[rm]? = some (.map cc len) := by rw [hk1 rm hrmsz (Ne.symm hrim), hmw, hclk, hlen]
                refine wp_seq (wp_region ?_)
                have hrange : List.range ops.size = [0, 1] := by rw [hsz]; rfl
                rw [hrange, wpOps_cons]
                have go : ∀ (u : Value) (b0 : Bool) (w2 : World), (Instr.next (.pointer (some ⟨ri, 0, none⟩)) false o1.type).run E.P w1 = .ok u w2 → (∃ vs : Array Value, u = .tuple vs ∧ vs[0]? = some (.bool b0)) →
                    (Code.seq (.cond (.tmp c) .skip (.exit id)) b).wp E.P (Exit.then next (Exit.inBlock id Q)) ((a1.put (some t) u).put (some c) (.bool b0)) w2 →
                    wpOp E.P ops (Exit.then ((Code.seq (.cond (.tmp c) .skip (.exit id)) b).wp E.P (Exit.then next (Exit.inBlock id Q))) (Exit.then next (Exit.inBlock id Q))) 0
                      (wpOps E.P ops (Exit.then ((Code.seq (.cond (.tmp c) .skip (.exit id)) b).wp E.P (Exit.then next (Exit.inBlock id Q))) (Exit.then next (Exit.inBlock id Q))) [1]) a1 w1 := by
                  intro u b0 w2 hrun ⟨vs, hu, hvs⟩ hK
                  subst hu
                  unfold wpOp
                  simp only [ho1, Region.wanted, hg1, if_true]
                  left
                  refine wp_next (n := .value (.tuple vs)) (u := .tuple vs) (Or.inl rfl) (w' := w2) ?_ ?_
                  · simp only [execOp, hop1, hx1, Sem.run_bind, hrun, Result.andThen_ok, Sem.run_pure]
                  · rw [wpOps_cons]
                    unfold wpOp
                    simp only [ho2, Region.wanted, hg2, if_true]
                    left
                    rw [hd1]
                    have he : (a1.put (some t) (.tuple vs)).eval (.tmp t) = .tuple vs := eval_put (by rw [hts]; exact htn)
                    refine wp_next (n := .value (.bool b0)) (u := .bool b0) (Or.inl rfl) (w' := w2) ?_ ?_
                    · simp only [execOp, hop2, he, Instr.extract, hvs, Sem.run_bind, Sem.run_pure, Result.andThen_ok]
                    · rw [hd2]; exact hK
                have hcs : ∀ (u : Value) (b0 : Bool), ((a1.put (some t) u).put (some c) (.bool b0)).eval (.tmp c) = .bool b0 := fun u b0 => eval_put (by rw [put_size, hts]; exact hcn)
                rcases next_ok (P := E.P) hit1 hm1 hborn (by omega) o1.type with ⟨hall, hrun⟩ | ⟨i, e, w2, he, hni, hh2, hal2, hrun⟩
                · -- over
                  refine go _ false w1 hrun ⟨_, rfl, rfl⟩ (wp_seq (wp_cond_false (hcs _ _) (wp_exit ?_)))
                  have hr_on : r = .on := by
                    cases r with
                    | on => rfl
                    | back frC =>
                      rcases hC frC rfl with ⟨_, hbad⟩ | ⟨j, k, v, fr1, st1, g1, g2⟩
                      · cases hbad
                      · have hj : j < len := by
                          have := (List.getElem?_eq_some_iff.1 g1).1; omega
                        obtain ⟨k', v', fr1', st1', g3, g4⟩ := hseen j (hall j hj)
                        rw [g1] at g3; simp only [Option.some.injEq, Prod.mk.injEq] at g3
                        obtain ⟨rfl, rfl⟩ := g3
                        rw [Nat.zero_add] at g2
                        rw [g2] at g4; simp at g4
                  obtain ⟨rfl, rfl, rfl⟩ := hres.1 hr_on
                  obtain ⟨k1, k2⟩ := hend w1 hsz1 hk1 hal1
                  have := hQ inj ((a1.put (some t) (.tuple #[.bool false])).put (some c) (.bool false)) w1 k1 k2 ((hF1.putNone (hcl t (by simp)) _).putNone (hcl c (by simp)) _) (by rw [put_defers, put_defers]; exact hd1')
                  simpa [Exit.then, Exit.inBlock, LExit.to] using this
                · -- one more
                  have hilt : i < len := by
                    have := (List.getElem?_eq_some_iff.1 he).1
                    simp at this; omega
                  obtain ⟨⟨k, v⟩, hkv⟩ : ∃ p, es[i]? = some p := ⟨es[i]'(by omega), List.getElem?_eq_getElem _⟩
                  obtain ⟨e', he', hke, hve⟩ := hers.get? hkv
                  rw [he] at he'; simp only [Option.some.injEq] at he'; subst he'
                  refine go _ true _ hrun ⟨_, rfl, rfl⟩ (wp_seq (wp_cond_true (hcs _ _) (wp_skip ?_)))
                  show b.wp E.P (Exit.then next (Exit.inBlock id Q)) _ _
                  generalize hw3 : ({ w2 with heap := w1.heap.setIfInBounds ri (.mapIter (some rm) len (seen.push i) len) } : World) = w3
                  have hh3 : w3.heap = w1.heap.setIfInBounds ri (.mapIter (some rm) len (seen.push i) len) := by rw [← hw3]
                  have hal3 : Alike3 w w3 := by rw [← hw3]; exact ⟨hal2.os.trans hal1.os, hal2.tape.trans hal1.tape, hal2.output.trans hal1.output⟩
                  have hsz3 : w3.heap.size = w1.heap.size := by rw [hh3]; simp
                  have hit3 : w3.heap[ri]? = some (.mapIter (some rm) len (seen.push i) len) := set_new hh3 (by omega)
                  have hk3 : ∀ b, b < w.heap.size → b ≠ ri → w3.heap[b]? = w.heap[b]? := fun b hb hne => by rw [set_old hh3 (Ne.symm hne)]; exact hk1 b hb hne
                  have hrel := hr.shift (w' := w3) (o := .iter m len (some i)) hqL hlv (by omega) hk3 ⟨rm, cm, seen.push i, hqm, hit3, by simp⟩
                  obtain ⟨exi, fri, sti, hround, hor⟩ := hB i k v hkv
                  rw [Nat.zero_add] at hround
                  have hfr2 : FRel inj ((fr0.put t (.tup [.bool true, k, v])).put c (.bool true)) ((a1.put (some t) (.tuple #[.bool true, e.key, e.val])).put (some c) (.bool true)).tmps := by
                    refine FRel.put (FRel.put hF1 ?_ t (by rw [hfn]; exact htn)) (by simp only [VRel]) c (by simp only [LFr.put]; rw [hfn]; exact hcn)
                    simp only [VRel]
                    exact ⟨_, rfl, by simpa using VRels.cons (by simp only [VRel]) (VRels.cons hke (VRels.cons hve VRels.nil))⟩
                  have hunt := vcode_untouched n _ _ _ _ _ _ _ hround
                  refine hrec st.nxt b _ _ exi fri sti hround inj w3 _ hrel (Nat.le_refl _) hfr2 (by rw [put_defers, put_defers]; exact hd1') _ fun inj' a' w' hs' hr' hf' hd' => ?_
                  have hkeep : ∀ b, b < w3.heap.size → w'.heap[b]? = w3.heap[b]? := fun b hb => hs'.keep b hb fun L' q' hL' hl' hq' => by
                    obtain ⟨y, hy, hyd⟩ := hl'
                    have := hrel.new L' hL'
                    rw [this] at hy; cases hy
                  have hx' : Ext inj inj' := hs'.toExt hrel.toEmb
                  have hsz' : w.heap.size ≤ w'.heap.size := by have := hs'.size; omega
                  have hk' : ∀ b, b < w.heap.size → b ≠ ri → w'.heap[b]? = w.heap[b]? := fun b hb hne => by rw [hkeep b (by omega)]; exact hk3 b hb hne
                  have hal' : Alike3 w w' := ⟨hs'.al.os.trans hal3.os, hs'.al.tape.trans hal3.tape, hs'.al.output.trans hal3.output⟩
                  have hF' : FRel inj fr0 a'.tmps := by
                    refine ⟨by rw [hf'.1, hunt.1]; rfl, fun d y hy => ?_⟩
                    have hnd : d ∉ t :: c :: dsts b := fun hmem => by rw [hcl d hmem] at hy; cases hy
                    simp only [List.mem_cons, not_or] at hnd
                    have h1 : fri.m.get d = some y := by
                      rw [hunt.2 d hnd.2.2]
                      simp only [LFr.put, Mem.get_set]
                      rw [if_neg (Ne.symm hnd.2.1), if_neg (Ne.symm hnd.1)]
                      exact hy
                    exact VRel.back hx' (hF1.2 d y hy) (hf'.2 d y h1)
                  rcases hor with rfl | ⟨rfl, frC, hrC, hnC, hC'⟩
                  · exact hnext i w' a' (hleft i hilt hni) hilt hsz' hk' (by rw [hkeep ri (by omega)]; exact hit3) hal' hF' hd' ⟨k, v, fri, sti, hkv, hround⟩
                  · obtain ⟨rfl, rfl, rfl⟩ := hres.2 frC hrC
                    obtain ⟨k1, k2⟩ := hend w' hsz' hk' hal'
                    have hfin : FRel inj fr' a'.tmps := by
                      refine ⟨by rw [hF'.1, hnC], fun d y hy => ?_⟩
                      rcases hC' d y hy with g | ⟨b0, rfl, g⟩
                      · exact hF'.2 d y g
                      · have := hf'.2 d _ g
                        simp only [VRel] at this ⊢
                        exact this
                    have := hQ inj a' w' k1 k2 hfin hd'
                    simpa [Exit.then, Exit.inBlock, LExit.to] using this
              have key : ∀ (k : Nat) (left : List Nat) (seen : Array Nat) (w1 : World) (a1 : Act), left.length ≤ k → (∀ i, i < len → i ∉ seen → i ∈ left) →
                  w.heap.size ≤ w1.heap.size → (∀ b, b < w.heap.size → b ≠ ri → w1.heap[b]? = w.heap[b]?) → w1.heap[ri]? = some (.mapIter (some rm) len seen len) → Alike3 w w1 →
                  FRel inj fr0 a1.tmps → a1.defers = [] →
                  (∀ i, i ∈ seen → ∃ k v fr' st', es[i]? = some (k, v) ∧ roundAt (vcode E n) t c b fr0 st L m len k v i = some (.normal, fr', st')) →
                  Code.rounds E.P (.seq (.region rid ops false) (.seq (.cond (.tmp c) .skip (.exit id)) b)) (Exit.inBlock id Q) (k + 1) a1 w1 := by
                intro k
                induction k with
                | zero =>
                  intro left seen w1 a1 hll h1 h2 h3 h4 h5 h6 h7 h8
                  rw [rounds_succ]
                  refine round _ left seen w1 a1 h1 h2 h3 h4 h5 h6 h7 h8 fun i w2 a2 hmem => ?_
                  simp at hll; subst hll; cases hmem
                | succ k ih =>
                  intro left seen w1 a1 hll h1 h2 h3 h4 h5 h6 h7 h8
                  rw [rounds_succ]
                  refine round _ left seen w1 a1 h1 h2 h3 h4 h5 h6 h7 h8 fun i w2 a2 hmem hi g2 g3 g4 g5 g6 g7 g8 => ?_
                  refine ih (left.erase i) (seen.push i) w2 a2 (by rw [List.length_erase_of_mem hmem]; omega) (fun j hj hnj => ?_) g2 g3 g4 g5 g6 g7 (fun j hj => ?_)
                  · simp only [Array.mem_push, not_or] at hnj
                    exact (List.mem_erase_of_ne hnj.2).2 (h1 j hj hnj.1)
                  · rcases Array.mem_push.1 hj with hj | rfl
                    · exact h8 j hj
                    · exact g8
              exact key len (List.range len) #[] w a (by simp) (fun i hi _ => by simpa using hi) (Nat.le_refl _) (fun _ _ _ => rfl) hiw ⟨rfl, rfl, rfl⟩ hfr0 hd (fun i hi => by simp at hi)
        · cases h
      · cases h
  · cases h
end
end Go.Proofs.Ytpkeggejofeeeaa.Lvm
