/- Laws of the small machine and of how it stands to the model; a helper of the statements: no statement is proved here. -/
import Derived.Test.YtpkeggejofeeeaaS9
namespace Go.Proofs.Ytpkeggejofeeeaa.Lvm

theorem chkArr {P : Program} {w : World} {d D : Nat} {b : Bool} {e : TypeId} {ks : List CK} {i : TypeInfo}
    (ih : ∀ (xs : List LV), ckFit ks xs = true → (Instr.checkKey b D e (flatV P e xs)).run P w = .ok () w)
    (hk : flatB P d e = some ks) (hi : P.info? e = some i) (hs : i.size = ks.length) (xs : List LV) (n : Nat)
    (hx : ckFit (List.replicate n ks).flatten xs = true) :
    ∀ (m s : Nat), s + m = n →
      (ForIn.forIn (List.range' s m) () (fun j (_ : Unit) => (do
        let z ← sizeOf e
        let a ← part e (xs.map fv).toArray (j * z)
        Instr.checkKey b D e a
        pure (ForInStep.yield ()) : Sem _))).run P w = .ok () w
  | 0, s, h => by simp
  | m + 1, s, h => by
    have hsplit : (List.replicate n ks).flatten = (List.replicate s ks).flatten ++ (ks ++ (List.replicate m ks).flatten) := by
      subst h
      rw [show s + (m + 1) = s + 1 + m by omega, ← List.replicate_append_replicate, List.flatten_append, ← List.replicate_append_replicate, List.flatten_append, List.append_assoc]
      simp
    have hlen : (List.replicate s ks).flatten.length = s * ks.length := length_rep s ks
    have gx := (ckFit_split (hsplit ▸ hx)).2
    rw [hlen] at gx
    obtain ⟨x1, _⟩ := ckFit_split gx
    simp only [List.range'_succ, List.forIn_cons, Sem.run_bind, r_size hi, Result.andThen_ok]
    rw [hs, part_flat hk hi hs xs _ x1, Result.andThen_ok, ih _ x1, Result.andThen_ok]
    simp only [Sem.run_pure, Result.andThen_ok]
    have := chkArr ih hk hi hs xs n hx m (s + 1) (by omega)
    simpa only [Sem.run_bind] using this

theorem chkFields {P : Program} {w : World} {d D : Nat} {b : Bool}
    (ih : ∀ (t : TypeId) (ks : List CK) (xs : List LV), flatB P d t = some ks → ckFit ks xs = true → (Instr.checkKey b D t (flatV P t xs)).run P w = .ok () w) (xs : List LV) :
    ∀ (fs : List Field) (l : List (Field × List CK)) (o : Nat), mapO (fun f => match flatB P d f.type with
        | some l => cond (P.info? f.type).isSome (some (f, l)) none
        | none => none) fs = some l → offsOk P o l = true → ckFit (l.map (·.2)).flatten (xs.drop o) = true →
      (ForIn.forIn fs () (fun f (_ : Unit) => (do
        if f.name ≠ "_" then do
          let a ← part f.type (xs.map fv).toArray f.offset
          Instr.checkKey b D f.type a
          pure (ForInStep.yield ())
        else pure (ForInStep.yield ()) : Sem _))).run P w = .ok () w
  | [], l, o, hm, _, hx => by simp
  | f :: fs, l, o, hm, ho, hx => by
    obtain ⟨p, ps, rfl, hp, hps⟩ := mapO_cons hm
    split at hp
    · rename_i ks hks
      cases hi : P.info? f.type with
      | none => rw [hi] at hp; simp at hp
      | some i =>
        rw [hi] at hp
        simp at hp
        subst hp
        simp only [offsOk, Bool.and_eq_true, bne_iff_ne, ne_eq] at ho
        obtain ⟨hn, hoff, hsz, hrest⟩ := ho
        have hoff := Nat.eq_of_beq_eq_true hoff
        have hsz := Nat.eq_of_beq_eq_true hsz
        rw [cellsOf_size hi] at hsz
        simp only [List.map_cons, List.flatten_cons] at hx
        obtain ⟨x1, x2⟩ := ckFit_split hx
        simp only [List.forIn_cons, Sem.run_bind]
        rw [if_pos hn]
        simp only [Sem.run_bind, hoff]
        rw [part_flat hks hi hsz xs o x1, Result.andThen_ok, ih _ _ _ hks x1, Result.andThen_ok]
        simp only [Sem.run_pure, Result.andThen_ok]
        rw [List.drop_drop] at x2
        have := chkFields ih xs fs ps (o + ks.length) hps hrest x2
        simpa only [Sem.run_bind] using this
    · cases hp

theorem chkKey {P : Program} {w : World} {b : Bool} : ∀ (d D : Nat), d ≤ D → ∀ (t : TypeId) (ks : List CK) (xs : List LV), flatB P d t = some ks → ckFit ks xs = true →
    (Instr.checkKey b D t (flatV P t xs)).run P w = .ok () w
  | 0, _, _, _, _, _, h, _ => by simp [flatB] at h
  | d + 1, 0, hd, _, _, _, _, _ => by omega
  | d + 1, D + 1, hd, t, ks, xs, h, hx => by
    have h' := h
    simp only [flatB] at h
    split at h
    · rename_i hu; simp at h; subst h
      obtain ⟨_, _, rfl, h1, h2⟩ := ckFit_cons hx
      have e1 := List.eq_nil_of_length_eq_zero (ckFit_length h2)
      subst e1
      cases h1
      simp [flatV, hu, isAggD, fv, Instr.checkKey, r_und hu]
    · rename_i hu; simp at h; subst h
      obtain ⟨_, _, rfl, h1, h2⟩ := ckFit_cons hx
      have e1 := List.eq_nil_of_length_eq_zero (ckFit_length h2)
      subst e1
      cases h1
      simp [flatV, hu, isAggD, fv, Instr.checkKey, r_und hu]
    · rename_i k hu; simp at h; subst h
      obtain ⟨_, _, rfl, h1, h2⟩ := ckFit_cons hx
      have e1 := List.eq_nil_of_length_eq_zero (ckFit_length h2)
      subst e1
      cases h1
      simp [flatV, hu, isAggD, fv, Instr.checkKey, r_und hu]
    · rename_i n e hu
      split at h
      · rename_i l hl
        cases hi : P.info? e with
        | none => rw [hi] at h; simp at h
        | some i =>
          rw [hi] at h
          cases hb : Nat.beq (P.cellsOf e) l.length with
          | false => rw [hb] at h; simp at h
          | true =>
            rw [hb] at h; simp at h; subst h
            have hs := Nat.eq_of_beq_eq_true hb
            rw [cellsOf_size hi] at hs
            have key := chkArr (w := w) (D := D) (b := b) (fun xs a => chkKey d D (by omega) e l xs hl a) hl hi hs xs n hx n 0 (by omega)
            simp only [flatV, hu, isAggD, cond_true, Instr.checkKey, Sem.run_bind, r_und hu, Result.andThen_ok]
            simp only [Std.Legacy.Range.forIn_eq_forIn_range', Std.Legacy.Range.size, Nat.sub_zero, Nat.add_sub_cancel, Nat.div_one]
            exact (congrArg (fun r => Result.andThen r fun _ w' => Sem.run P (pure ()) w') key).trans (by simp)
      · cases h
    · rename_i fs hu
      have hst := stood_of h' hu
      rw [hst] at h
      simp only [cond_false] at h
      split at h
      · rename_i l hl
        cases ho : offsOk P 0 l with
        | false => rw [ho] at h; simp at h
        | true =>
          rw [ho] at h; simp at h; subst h
          have := chkFields (w := w) (D := D) (b := b) (fun t ks xs a c => chkKey d D (by omega) t ks xs a c) xs fs.toList l 0 hl ho (by simpa using hx)
          simp only [flatV, hu, isAggD, cond_true, Instr.checkKey, Sem.run_bind, r_und hu, Result.andThen_ok]
          rw [← Array.forIn_toList]
          exact (congrArg (fun r => Result.andThen r fun _ w' => Sem.run P (pure ()) w') this).trans (by simp)
      · cases h
    · cases h

theorem key_val {E : Env} (hE : E.Ok) {inj : Inj} {kt : TypeId} {k : LV} {kv : Value} (h : keyOk E kt k = some true) (hk : VRel inj k kv) :
    ∃ ks D, flatB E.P 8 kt = some ks ∧ E.P.underlying kt = some D ∧ isAggD D = k.isAgg ∧ ckFit ks k.cells = true ∧ kv = flatV E.P kt k.cells := by
  unfold keyOk at h
  split at h
  · rename_i ks hks
    split at h
    · rename_i D hD
      simp only [Option.some.injEq, Bool.and_eq_true, beq_iff_eq] at h
      have hu := hE.und _ _ hD
      refine ⟨ks, D, hE.flat _ _ hks, hu, h.2, h.1, ?_⟩
      have hv := fit_vals h.1 hk.cells
      simp only [flatV, hu]
      cases ha : k.isAgg with
      | true =>
        rw [h.2, ha]
        cases k <;> simp only [LV.isAgg, Bool.false_eq_true] at ha
        rename_i cs
        simp only [VRel] at hk
        obtain ⟨vs, rfl, _⟩ := hk
        simp only [LV.cells, Value.cells] at hv ⊢
        simp [← hv]
      | false =>
        rw [h.2, ha]
        cases k <;> simp only [LV.isAgg, Bool.true_eq_false] at ha <;> simp only [VRel] at hk
        case bool | int | str => subst hk; simp [LV.cells, fv]
        all_goals
          exfalso
          have := h.1
          simp only [LV.cells] at this
          revert this
          cases ks with
          | nil => simp [ckFit]
          | cons c cs => cases c <;> simp [ckFit]
    · cases h
  · cases h
end Go.Proofs.Ytpkeggejofeeeaa.Lvm
