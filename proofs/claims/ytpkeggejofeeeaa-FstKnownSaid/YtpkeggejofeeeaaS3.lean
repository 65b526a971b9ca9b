/- Laws of the small machine and of how it stands to the model; a helper of the statements: no statement is proved here. -/
import Derived.Test.YtpkeggejofeeeaaS2b
namespace Go.Proofs.Ytpkeggejofeeeaa.Lvm

/-- The run gives a value that stands to v, and leaves the world. -/
def ValOut (E : Env) (inj : Inj) (v : LV) (w : World) (s : Sem Value) : Prop := ∃ u, s.run E.P w = .ok u w ∧ VRel inj v u

section
variable {E : Env} {inj : Inj} {w : World}

theorem toList_beq (a b : ByteArray) : (a == b) = (a.toList == b.toList) := beq_toListBytes a b

theorem intOp_sound {op : BinOp} {k : IntKind} {a b : Int} {z : LV} (hs : isShift op = false) (h : intOp op k a b = some z) (t : TypeId) :
    ValOut E inj z w (binOp op t (.int k a) (.int k b)) := by
  cases op <;> simp only [isShift, Bool.true_eq_false] at hs <;> simp only [intOp] at h
  case quo =>
    split at h
    · cases h
    · rename_i hb; simp at h; subst h; exact ⟨_, by simp [binOp, Op.intDiv, hb]; rfl, by simp [VRel]⟩
  case rem =>
    split at h
    · cases h
    · rename_i hb; simp at h; subst h; exact ⟨_, by simp [binOp, Op.intDiv, hb]; rfl, by simp [VRel]⟩
  all_goals
    simp only [Option.some.injEq] at h; subst h
    first
      | exact ⟨_, by simp [binOp, Op.intArith]; rfl, by simp [VRel]⟩
      | exact ⟨_, by simp [binOp, Op.intBits]; rfl, by simp [VRel]⟩
      | exact ⟨_, by simp [binOp, Op.intCmp]; rfl, by simp [VRel]⟩

theorem shiftOp_sound {op : BinOp} {k k' : IntKind} {a b : Int} {z : LV} (h : shiftOp op k a b = some z) (t : TypeId) :
    ValOut E inj z w (binOp op t (.int k a) (.int k' b)) := by
  unfold shiftOp at h
  split at h
  · cases h
  · rename_i hb
    cases op <;> simp only [Option.some.injEq, reduceCtorEq] at h
    · subst h; exact ⟨_, by simp [binOp, Op.shift, hb]; rfl, by simp [VRel]⟩
    · subst h; exact ⟨_, by simp [binOp, Op.shift, hb]; rfl, by simp [VRel]⟩

theorem strOp_sound {op : BinOp} {x y : ByteArray} {z : LV} (h : strOp op x y = some z) (t : TypeId) : ValOut E inj z w (binOp op t (.string x) (.string y)) := by
  cases op <;> simp only [strOp, Option.some.injEq, reduceCtorEq] at h
  case add =>
    split at h
    · rename_i hle
      simp at h; subst h
      have hb : ¬ (((x.size + y.size : Nat) : Int) > IntKind.i64.max) := by
        have : IntKind.i64.max = 9223372036854775807 := by decide
        rw [this]; omega
      exact ⟨_, by simp only [binOp, Op.stringOp]; rw [if_neg hb]; rfl, by simp [VRel]⟩
    · cases h
  all_goals subst h; exact ⟨_, by simp [binOp, Op.stringOp]; rfl, by simp [VRel]⟩

theorem blt_lt {a b : Nat} (h : Nat.blt a b = true) : a < b := by rw [Nat.blt_eq] at h; exact h

section
variable {P : Program} {t e : TypeId} (d : Nat)
theorem eq_np (h : P.underlying t = some (.pointer e)) : (Op.equalIn (d + 1) t (.pointer none) (.pointer none)).run P w = .ok true w := by simp [Op.equalIn, r_und h]
theorem eq_np1 (h : P.underlying t = some (.pointer e)) (a : Addr) : (Op.equalIn (d + 1) t (.pointer none) (.pointer (some a))).run P w = .ok false w := by simp [Op.equalIn, r_und h]
theorem eq_np2 (h : P.underlying t = some (.pointer e)) (a : Addr) : (Op.equalIn (d + 1) t (.pointer (some a)) (.pointer none)).run P w = .ok false w := by simp [Op.equalIn, r_und h]
theorem eq_ns (h : P.underlying t = some (.slice e)) : (Op.equalIn (d + 1) t (.slice none 0 0) (.slice none 0 0)).run P w = .ok true w := by simp [Op.equalIn, r_und h]
theorem eq_ns1 (h : P.underlying t = some (.slice e)) (a : Addr) (n c : Nat) : (Op.equalIn (d + 1) t (.slice none 0 0) (.slice (some a) n c)).run P w = .ok false w := by simp [Op.equalIn, r_und h]
theorem eq_ns2 (h : P.underlying t = some (.slice e)) (a : Addr) (n c : Nat) : (Op.equalIn (d + 1) t (.slice (some a) n c) (.slice none 0 0)).run P w = .ok false w := by simp [Op.equalIn, r_und h]
theorem eq_bb (h : P.underlying t = some .bool) (a b : Bool) : (Op.equalIn (d + 1) t (.bool a) (.bool b)).run P w = .ok (a == b) w := by simp [Op.equalIn, r_und h]
end

theorem flatV_agg {P : Program} {t : TypeId} {d : TypeDesc} (hu : P.underlying t = some d) (ha : isAggD d = true) (cs : List LV) : flatV P t cs = .agg (cs.map fv).toArray := by
  simp [flatV, hu, ha]

theorem eqL_sound (hE : E.Ok) {t : TypeId} {x y : LV} {a b : Value} {z : Bool} (h : eqL E t x y = some z) (hx : VRel inj x a) (hy : VRel inj y b) :
    (Op.equal t a b).run E.P w = .ok z w := by
  unfold eqL at h
  split at h
  · rename_i cs ds
    simp only [VRel] at hx hy
    obtain ⟨vs, rfl, h1⟩ := hx
    obtain ⟨us, rfl, h2⟩ := hy
    unfold flatEq at h
    split at h
    · rename_i ks hk
      split at h
      · rename_i d hd
        cases hb : (isAggD d && (ckFit ks cs && ckFit ks ds)) with
        | false => rw [hb] at h; simp at h
        | true =>
          rw [hb] at h; simp at h; subst h
          simp only [Bool.and_eq_true] at hb
          have e1 := fit_vals hb.2.1 h1
          have e2 := fit_vals hb.2.2 h2
          have := run_equalIn_flat (P := E.P) (w := w) 8 10000 (by omega) t ks cs ds (hE.flat _ _ hk) hb.2.1 hb.2.2
          rw [flatV_agg (hE.und _ _ hd) hb.1, flatV_agg (hE.und _ _ hd) hb.1, ← e1, ← e2] at this
          exact this
      · cases h
    · cases h
  · split at h
    · rename_i hu; simp at h; subst h; simp only [VRel] at hx hy; subst hx; subst hy; exact eq_bb 9999 (hE.und _ _ hu) _ _
    · cases h
  · split at h
    · rename_i hu; simp at h; subst h; simp only [VRel] at hx hy; subst hx; subst hy; exact eq_np 9999 (hE.und _ _ hu)
    · cases h
  · split at h
    · rename_i hu; simp at h; subst h; simp only [VRel] at hx hy; subst hx; obtain ⟨r, _, rfl⟩ := hy; exact eq_np1 9999 (hE.und _ _ hu) _
    · cases h
  · split at h
    · rename_i hu; simp at h; subst h; simp only [VRel] at hx hy; subst hy; obtain ⟨r, _, rfl⟩ := hx; exact eq_np2 9999 (hE.und _ _ hu) _
    · cases h
  · split at h
    · rename_i hu; simp at h; subst h; simp only [VRel] at hx hy; subst hx; subst hy; exact eq_ns 9999 (hE.und _ _ hu)
    · cases h
  · split at h
    · rename_i hu; simp at h; subst h; simp only [VRel] at hx hy; subst hx; obtain ⟨r, o', c, rfl, _⟩ := hy; exact eq_ns1 9999 (hE.und _ _ hu) _ _ _
    · cases h
  · split at h
    · rename_i hu; simp at h; subst h; simp only [VRel] at hx hy; subst hy; obtain ⟨r, o', c, rfl, _⟩ := hx; exact eq_ns2 9999 (hE.und _ _ hu) _ _ _
    · cases h
  · cases h

theorem guard_sound (hE : E.Ok) {op : BinOp} {t : TypeId} {x y : LV} {a b : Value} {z : Bool} (h : eqL E t x y = some z) (hx : VRel inj x a) (hy : VRel inj y b) (xo yo : Operand) :
    (eqGuard op t xo yo a b).run E.P w = .ok () w := by
  unfold eqL at h
  split at h
  · rename_i cs ds
    simp only [VRel] at hx hy
    obtain ⟨vs, rfl, h1⟩ := hx
    obtain ⟨us, rfl, h2⟩ := hy
    unfold flatEq at h
    split at h
    · rename_i ks hk
      exact run_eqGuard_agg w op t xo yo _ _ (eqGuard_flat 8 _ hE.depth t ks (hE.flat _ _ hk))
    · cases h
  all_goals first
    | (simp only [VRel] at hx hy; subst hx; subst hy; cases op <;> simp [eqGuard]; done)
    | (simp only [VRel] at hx hy; subst hx; obtain ⟨r, _, rfl⟩ := hy; cases op <;> simp [eqGuard]; done)
    | (simp only [VRel] at hx hy; subst hy; obtain ⟨r, _, rfl⟩ := hx; cases op <;> simp [eqGuard]; done)
    | (simp only [VRel] at hx hy; subst hx; obtain ⟨r, o', c, rfl, _⟩ := hy; cases op <;> simp [eqGuard]; done)
    | (simp only [VRel] at hx hy; subst hy; obtain ⟨r, o', c, rfl, _⟩ := hx; cases op <;> simp [eqGuard]; done)
    | cases h

theorem binOp_eql_of {t : TypeId} {x y : LV} {a b : Value} {z : Bool} (hx : VRel inj x a) (hy : VRel inj y b) (h : eqL E t x y = some z) (P : Program) :
    (binOp .eql t a b).run P w = ((Op.equal t a b).run P w).andThen (fun r w' => .ok (.bool r) w') ∧
    (binOp .neq t a b).run P w = ((Op.equal t a b).run P w).andThen (fun r w' => .ok (.bool (!r)) w') := by
  unfold eqL at h
  split at h
  · simp only [VRel] at hx hy
    obtain ⟨vs, rfl, h1⟩ := hx
    obtain ⟨us, rfl, h2⟩ := hy
    exact ⟨by simp [binOp], by simp [binOp]⟩
  all_goals first
    | (simp only [VRel] at hx hy; subst hx; subst hy; exact ⟨by simp [binOp], by simp [binOp]⟩)
    | (simp only [VRel] at hx hy; subst hx; obtain ⟨r, _, rfl⟩ := hy; exact ⟨by simp [binOp], by simp [binOp]⟩)
    | (simp only [VRel] at hx hy; subst hy; obtain ⟨r, _, rfl⟩ := hx; exact ⟨by simp [binOp], by simp [binOp]⟩)
    | (simp only [VRel] at hx hy; subst hx; obtain ⟨r, o', c, rfl, _⟩ := hy; exact ⟨by simp [binOp], by simp [binOp]⟩)
    | (simp only [VRel] at hx hy; subst hy; obtain ⟨r, o', c, rfl, _⟩ := hx; exact ⟨by simp [binOp], by simp [binOp]⟩)
    | cases h

theorem binL_sound (hE : E.Ok) {op : BinOp} {t : TypeId} {x y z : LV} {a b : Value} (h : binL E op t x y = some z) (hx : VRel inj x a) (hy : VRel inj y b) (xo yo : Operand) :
    ValOut E inj z w (do eqGuard op t xo yo a b; binOp op t a b) := by
  unfold binL at h
  split at h
  · rename_i k m k' n
    simp only [VRel] at hx hy; subst hx; subst hy
    have hg : (eqGuard op t xo yo (.int k m) (.int k' n)).run E.P w = .ok () w := by cases op <;> simp [eqGuard]
    cases hs : isShift op with
    | true =>
      rw [hs] at h; simp only [cond_true] at h
      obtain ⟨u, hu, hr⟩ := shiftOp_sound (E := E) (inj := inj) (w := w) (k' := k') h t
      exact ⟨u, by simp only [Sem.run_bind, hg, Result.andThen_ok, hu], hr⟩
    | false =>
      rw [hs] at h; simp only [cond_false] at h
      split at h
      · rename_i hk; subst hk
        obtain ⟨u, hu, hr⟩ := intOp_sound (E := E) (inj := inj) (w := w) hs h t
        exact ⟨u, by simp only [Sem.run_bind, hg, Result.andThen_ok, hu], hr⟩
      · cases h
  · simp only [VRel] at hx hy; subst hx; subst hy
    rename_i p q
    have hg : (eqGuard op t xo yo (.string p) (.string q)).run E.P w = .ok () w := by cases op <;> simp [eqGuard]
    obtain ⟨u, hu, hr⟩ := strOp_sound (E := E) (inj := inj) (w := w) h t
    exact ⟨u, by simp only [Sem.run_bind, hg, Result.andThen_ok, hu], hr⟩
  · split at h
    · cases he : eqL E t x y with
      | none => simp [he] at h
      | some r =>
        simp [he] at h; subst h
        refine ⟨.bool r, ?_, by simp [VRel]⟩
        simp only [Sem.run_bind, guard_sound hE he hx hy, Result.andThen_ok, (binOp_eql_of hx hy he _).1, eqL_sound hE he hx hy]
    · cases he : eqL E t x y with
      | none => simp [he] at h
      | some r =>
        simp [he] at h; subst h
        refine ⟨.bool (!r), ?_, by simp [VRel]⟩
        simp only [Sem.run_bind, guard_sound hE he hx hy, Result.andThen_ok, (binOp_eql_of hx hy he _).2, eqL_sound hE he hx hy]
    · cases h

theorem unL_sound {op : UnOp} {x z : LV} {a : Value} (h : unL op x = some z) (hx : VRel inj x a) : ValOut E inj z w (Op.unary op a) := by
  unfold unL at h
  split at h
  · simp only [Option.some.injEq] at h; subst h; simp only [VRel] at hx; subst hx
    exact ⟨_, by simp [Op.unary, Op.intArith]; rfl, by simp [VRel]⟩
  · simp only [intOp, Option.some.injEq] at h; subst h; simp only [VRel] at hx; subst hx
    exact ⟨_, by simp [Op.unary, Op.intBits]; rfl, by simp [VRel]⟩
  · simp only [Option.some.injEq] at h; subst h; simp only [VRel] at hx; subst hx
    exact ⟨_, by simp [Op.unary]; rfl, by simp [VRel]⟩
  · cases h

theorem partL_sound (hE : E.Ok) {t : TypeId} {cs : List LV} {vs : List Value} {o : Nat} {z : LV} (h : partL E t cs o = some z) (hc : VRels inj cs vs) :
    ValOut E inj z w (part t vs.toArray o) := by
  unfold partL at h
  split at h
  · rename_i d hd
    cases ha : isAggD d with
    | true =>
      rw [ha] at h; simp only [cond_true] at h
      split at h
      · rename_i n hn
        obtain ⟨i, hi, hs⟩ := hE.size _ _ hn
        cases ht : takeN cs o n with
        | none => simp [ht] at h
        | some r =>
          simp [ht] at h; subst h
          refine ⟨.agg ((vs.drop o).take n).toArray, ?_, ?_⟩
          · simp [part, r_isAgg (hE.und _ _ hd), ha, r_size hi, hs, List.extract_eq_take_drop]
          · simp only [VRel]
            refine ⟨_, rfl, ?_⟩
            rcases takeN_eq ht with ⟨rfl, _, _⟩ | ⟨rfl, rfl⟩
            · simpa using (hc.drop o).take n
            · simpa using VRels.nil
      · cases h
    | false =>
      rw [ha] at h; simp only [cond_false] at h
      obtain ⟨u, hu, hr⟩ := hc.get? h
      exact ⟨u, by simp [part, r_isAgg (hE.und _ _ hd), ha, hu], hr⟩
  · cases h

theorem fieldL_sound (hE : E.Ok) {s : TypeId} {x z : LV} {a : Value} {f : Nat} (h : fieldL E s x f = some z) (hx : VRel inj x a) : ValOut E inj z w (Instr.field s a f) := by
  unfold fieldL at h
  split at h
  · rename_i fs cs hs
    simp only [VRel] at hx
    obtain ⟨vs, rfl, h1⟩ := hx
    split at h
    · rename_i fd hf
      obtain ⟨u, hu, hr⟩ := partL_sound hE (w := w) h h1
      have hf' : fs[f]? = some fd := by simpa using hf
      exact ⟨u, by simpa [Instr.field, r_und (hE.und _ _ hs), hf', asAgg] using hu, hr⟩
    · cases h
  · cases h

theorem fieldAddrL_sound (hE : E.Ok) {s : TypeId} {x z : LV} {a : Value} {f : Nat} (h : fieldAddrL E s x f = some z) (hx : VRel inj x a) : ValOut E inj z w (Instr.fieldAt s a f) := by
  unfold fieldAddrL at h
  split at h
  · rename_i fs b o hs
    simp only [VRel] at hx
    obtain ⟨r, hb, rfl⟩ := hx
    split at h
    · rename_i fd hf
      split at h
      · rename_i n hn
        obtain ⟨i, hi, hz⟩ := hE.size _ _ hn
        cases h0 : Nat.beq n 0 with
        | true => rw [h0] at h; simp at h
        | false =>
          rw [h0] at h; simp at h; subst h
          have hne : n ≠ 0 := by intro e; subst e; simp at h0
          refine ⟨.pointer (some ⟨r, o + fd.offset, none⟩), ?_, by simp only [VRel]; exact ⟨r, hb, rfl⟩⟩
          have hf' : fs[f]? = some fd := by simpa using hf
          simp [Instr.fieldAt, r_und (hE.und _ _ hs), hf', Instr.sureAddr, fieldPlace, r_size hi, hz, hne, add_none]
      · cases h
    · cases h
  · cases h

theorem natOf_eq {x : LV} {n : Nat} {a : Value} (h : natOf x = some n) (hx : VRel inj x a) : ∃ k, a = .int k n := by
  unfold natOf at h
  split at h
  · simp at h; subst h; simp only [VRel] at hx; exact ⟨_, hx⟩
  · cases h

theorem indexAddrL_sound (hE : E.Ok) {t : TypeId} {x y z : LV} {a b : Value} (h : indexAddrL E t x y = some z) (hx : VRel inj x a) (hy : VRel inj y b) : ValOut E inj z w (Instr.indexAt t a b) := by
  unfold indexAddrL at h
  split at h
  · rename_i n hn
    obtain ⟨k, rfl⟩ := natOf_eq hn hy
    split at h
    · rename_i len e blk o hu
      simp only [VRel] at hx
      obtain ⟨r, hb, rfl⟩ := hx
      split at h
      · rename_i sz hsz
        obtain ⟨i, hi, hz⟩ := hE.size _ _ hsz
        cases hlt : Nat.blt n len with
        | false => rw [hlt] at h; simp at h
        | true =>
          rw [hlt] at h; simp at h; subst h
          have hlt := blt_lt hlt
          refine ⟨.pointer (some ⟨r, o + n * sz, none⟩), ?_, by simp only [VRel]; exact ⟨r, hb, rfl⟩⟩
          simp [Instr.indexAt, asIntOf, r_und (hE.und _ _ hu), Instr.sureAddr, r_size hi, hz, add_none, hlt]
      · cases h
    · rename_i e blk o sz len cap ex hu
      simp only [VRel] at hx
      obtain ⟨r, o', c, rfl, hb, ho, hc, hex, hl, _⟩ := hx
      split at h
      · rename_i sz' hsz
        obtain ⟨i, hi, hz⟩ := hE.size _ _ hsz
        cases hlt : (Nat.blt n len && Nat.beq sz' sz) with
        | false => rw [hlt] at h; simp at h
        | true =>
          rw [hlt] at h; simp at h; subst h
          simp only [Bool.and_eq_true] at hlt
          have hlt1 := blt_lt hlt.1
          have hs := Nat.eq_of_beq_eq_true hlt.2
          have ho : o' = o := by rcases ho with ho | ho <;> omega
          subst ho; subst hs
          refine ⟨.pointer (some ⟨r, o' + n * sz', none⟩), ?_, by simp only [VRel]; exact ⟨r, hb, rfl⟩⟩
          simp [Instr.indexAt, asIntOf, r_und (hE.und _ _ hu), r_size hi, hz, add_none, hlt1]
      · cases h
    · cases h
  · cases h

theorem indexL_sound (hE : E.Ok) {t : TypeId} {x y z : LV} {a b : Value} (h : indexL E t x y = some z) (hx : VRel inj x a) (hy : VRel inj y b) : ValOut E inj z w (Instr.index t a b) := by
  unfold indexL at h
  split at h
  · rename_i n hn
    obtain ⟨k, rfl⟩ := natOf_eq hn hy
    split at h
    · rename_i len e cs hu
      simp only [VRel] at hx
      obtain ⟨vs, rfl, h1⟩ := hx
      split at h
      · rename_i sz hsz
        obtain ⟨i, hi, hz⟩ := hE.size _ _ hsz
        cases hlt : Nat.blt n len with
        | false => rw [hlt] at h; simp at h
        | true =>
          rw [hlt] at h; simp only [cond_true] at h
          have hlt := blt_lt hlt
          obtain ⟨u, hu', hr⟩ := partL_sound hE (w := w) h h1
          refine ⟨u, ?_, hr⟩
          simpa [Instr.index, asIntOf, r_und (hE.und _ _ hu), r_size hi, hz, hlt] using hu'
      · cases h
    · rename_i s hu
      simp only [VRel] at hx; subst hx
      split at h
      · rename_i c hc
        simp at h; subst h
        refine ⟨.int .u8 c.toNat, ?_, by simp [VRel]⟩
        have hc' : s[n]? = some c := by
          have h1 : n < s.data.toList.length := (List.getElem?_eq_some_iff.1 hc).1
          have h1' : n < s.size := by simpa using h1
          have h2 := (List.getElem?_eq_some_iff.1 hc).2
          rw [getElem?_pos s n h1']
          simp only [Option.some.injEq]
          rw [ByteArray.getElem_eq_getElem_data]
          simpa using h2
        simp [Instr.index, asIntOf, r_und (hE.und _ _ hu), hc']
      · cases h
    · cases h
  · cases h

end
end Go.Proofs.Ytpkeggejofeeeaa.Lvm
