/- Laws of the small machine and of how it stands to the model; a helper of the statements: no statement is proved here. -/
import Derived.Test.YtpkeggejofeeeaaS2
namespace Go.Proofs.Ytpkeggejofeeeaa.Lvm

theorem length_rep {α : Type} (n : Nat) (l : List α) : (List.replicate n l).flatten.length = n * l.length := by
  induction n with
  | zero => simp
  | succ n ih => simp [List.replicate_succ, ih, Nat.succ_mul]; omega

theorem run_eqArr {P : Program} {w : World} {d D : Nat} {e : TypeId} {ks : List CK} {i : TypeInfo}
    (ih : ∀ (xs ys : List LV), ckFit ks xs = true → ckFit ks ys = true → (Op.equalIn D e (flatV P e xs) (flatV P e ys)).run P w = .ok (cellsEq xs ys) w)
    (hk : flatB P d e = some ks) (hi : P.info? e = some i) (hs : i.size = ks.length) (xs ys : List LV) (n : Nat)
    (hx : ckFit (List.replicate n ks).flatten xs = true) (hy : ckFit (List.replicate n ks).flatten ys = true) :
    ∀ (m s : Nat), s + m = n →
      (ForIn.forIn (List.range' s m) ((none, ()) : Option Bool × Unit) (fun j (_ : Option Bool × Unit) => (do
        let a ← part e (xs.map fv).toArray (j * i.size)
        let b ← part e (ys.map fv).toArray (j * i.size)
        let r ← Op.equalIn D e a b
        if (!r) = true then pure (ForInStep.done (some false, ())) else pure (ForInStep.yield (none, ())) : Sem _))).run P w
        = .ok (if cellsEq (xs.drop (s * ks.length)) (ys.drop (s * ks.length)) then (none, ()) else (some false, ())) w
  | 0, s, h => by
    have h1 := ckFit_length hx
    have h2 := ckFit_length hy
    rw [length_rep] at h1 h2
    simp only [Nat.add_zero] at h
    subst h
    have e1 : xs.drop (s * ks.length) = [] := List.drop_eq_nil_of_le (by omega)
    have e2 : ys.drop (s * ks.length) = [] := List.drop_eq_nil_of_le (by omega)
    simp [e1, e2, cellsEq]
  | m + 1, s, h => by
    have hsplit : (List.replicate n ks).flatten = (List.replicate s ks).flatten ++ (ks ++ (List.replicate m ks).flatten) := by
      subst h
      rw [show s + (m + 1) = s + 1 + m by omega, ← List.replicate_append_replicate, List.flatten_append, ← List.replicate_append_replicate, List.flatten_append, List.append_assoc]
      simp
    have hlen : (List.replicate s ks).flatten.length = s * ks.length := length_rep s ks
    have gx := (ckFit_split (hsplit ▸ hx)).2
    have gy := (ckFit_split (hsplit ▸ hy)).2
    rw [hlen] at gx gy
    obtain ⟨x1, _⟩ := ckFit_split gx
    obtain ⟨y1, _⟩ := ckFit_split gy
    simp only [List.range'_succ, List.forIn_cons, Sem.run_bind]
    rw [hs, part_flat hk hi hs xs _ x1, Result.andThen_ok, part_flat hk hi hs ys _ y1, Result.andThen_ok, ih _ _ x1 y1, Result.andThen_ok]
    rw [cellsEq_split x1 y1]
    cases hc : cellsEq ((xs.drop (s * ks.length)).take ks.length) ((ys.drop (s * ks.length)).take ks.length) with
    | false => simp
    | true =>
      simp only [Bool.not_true, Bool.false_eq_true, if_false, Bool.true_and, Sem.run_pure, Result.andThen_ok]
      rw [List.drop_drop, List.drop_drop, ← Nat.succ_mul]
      have := run_eqArr ih hk hi hs xs ys n hx hy m (s + 1) (by omega)
      rw [hs] at this
      exact this

theorem stood_of {P : Program} {d : Nat} {t : TypeId} {ks : List CK} {fs : Array Field} (h : flatB P (d + 1) t = some ks) (hu : P.underlying t = some (.struct fs)) : P.stoodInHeld t = false := by
  simp only [flatB, hu] at h
  cases hs : P.stoodInHeld t with
  | true => rw [hs] at h; simp at h
  | false => rfl

theorem run_equalIn_flat {P : Program} {w : World} : ∀ (d D : Nat), d ≤ D → ∀ (t : TypeId) (ks : List CK) (xs ys : List LV), flatB P d t = some ks → ckFit ks xs = true → ckFit ks ys = true →
    (Op.equalIn D t (flatV P t xs) (flatV P t ys)).run P w = .ok (cellsEq xs ys) w
  | 0, _, _, _, _, _, _, h, _, _ => by simp [flatB] at h
  | d + 1, 0, hd, _, _, _, _, _, _, _ => by omega
  | d + 1, D + 1, hd, t, ks, xs, ys, h, hx, hy => by
    have h' := h
    simp only [flatB] at h
    split at h
    · rename_i hu; simp at h; subst h
      obtain ⟨_, _, rfl, h1, h2⟩ := ckFit_cons hx
      obtain ⟨_, _, rfl, h3, h4⟩ := ckFit_cons hy
      have e1 := List.eq_nil_of_length_eq_zero (ckFit_length h2)
      have e2 := List.eq_nil_of_length_eq_zero (ckFit_length h4)
      subst e1; subst e2
      cases h1; cases h3
      simp [flatV, hu, isAggD, fv, Op.equalIn, r_und hu, cellsEq]
    · rename_i hu; simp at h; subst h
      obtain ⟨_, _, rfl, h1, h2⟩ := ckFit_cons hx
      obtain ⟨_, _, rfl, h3, h4⟩ := ckFit_cons hy
      have e1 := List.eq_nil_of_length_eq_zero (ckFit_length h2)
      have e2 := List.eq_nil_of_length_eq_zero (ckFit_length h4)
      subst e1; subst e2
      cases h1; cases h3
      simp [flatV, hu, isAggD, fv, Op.equalIn, r_und hu, cellsEq]
    · rename_i k hu; simp at h; subst h
      obtain ⟨_, _, rfl, h1, h2⟩ := ckFit_cons hx
      obtain ⟨_, _, rfl, h3, h4⟩ := ckFit_cons hy
      have e1 := List.eq_nil_of_length_eq_zero (ckFit_length h2)
      have e2 := List.eq_nil_of_length_eq_zero (ckFit_length h4)
      subst e1; subst e2
      cases h1; cases h3
      simp [flatV, hu, isAggD, fv, Op.equalIn, r_und hu, cellsEq]
    · rename_i n e hu
      split at h
      · rename_i l hl
        cases hi : P.info? e with
        | none => rw [hi] at h; simp at h
        | some i =>
          rw [hi] at h
          cases hb : Nat.beq (P.cellsOf e) l.length with
          | false => rw [hb] at h; simp at h
          | true =>
            rw [hb] at h; simp at h; subst h
            have hs := Nat.eq_of_beq_eq_true hb
            rw [cellsOf_size hi] at hs
            have key := run_eqArr (w := w) (D := D) (fun xs ys a b => run_equalIn_flat d D (by omega) e l xs ys hl a b) hl hi hs xs ys n hx hy n 0 (by omega)
            simp only [flatV, hu, isAggD, cond_true, Op.equalIn, Sem.run_bind, r_und hu, Result.andThen_ok, r_size hi]
            simp only [Std.Legacy.Range.forIn_eq_forIn_range', Std.Legacy.Range.size, Nat.sub_zero, Nat.add_sub_cancel, Nat.div_one]
            simp only [Nat.zero_mul, List.drop_zero] at key
            rw [key]
            cases cellsEq xs ys <;> simp
      · cases h
    · rename_i fs hu
      have hst := stood_of h' hu
      rw [hst] at h
      simp only [cond_false] at h
      split at h
      · rename_i l hl
        cases ho : offsOk P 0 l with
        | false => rw [ho] at h; simp at h
        | true =>
          rw [ho] at h; simp at h; subst h
          have hfo : P.fieldsOf t = fs := by simp [Program.fieldsOf, hu]
          have := run_eqFields (w := w) (D := D) (fun t ks xs ys a b c => run_equalIn_flat d D (by omega) t ks xs ys a b c) xs ys fs.toList l 0 hl ho (by simpa using hx) (by simpa using hy)
          simp only [flatV, hu, isAggD, cond_true]
          rw [run_equalIn_struct w D t _ _ (by rw [hfo]; exact hu) hst, hfo]
          simpa using this
      · cases h
    · cases h

theorem eqGuard_flat {P : Program} : ∀ (d D : Nat), d ≤ D → ∀ (t : TypeId) (ks : List CK), flatB P d t = some ks → P.eqGuardType D t = false
  | 0, _, _, _, _, h => by simp [flatB] at h
  | d + 1, 0, hd, _, _, _ => by omega
  | d + 1, D + 1, hd, t, ks, h => by
    have h' := h
    simp only [flatB] at h
    split at h
    · rename_i hu; simp [Program.eqGuardType, hu]
    · rename_i hu; simp [Program.eqGuardType, hu]
    · rename_i hu; simp [Program.eqGuardType, hu]
    · rename_i n e hu
      split at h
      · rename_i l hl
        simp only [Program.eqGuardType, hu]
        exact eqGuard_flat d D (by omega) e l hl
      · cases h
    · rename_i fs hu
      rw [stood_of h' hu] at h
      simp only [cond_false] at h
      split at h
      · rename_i l hl
        simp only [Program.eqGuardType, hu]
        rw [← Array.any_toList]
        clear h h' hu
        have : ∀ (fs : List Field) l, mapO (fun f => match flatB P d f.type with
          | some l => cond (P.info? f.type).isSome (some (f, l)) none
          | none => none) fs = some l → (fs.any fun f => f.name != "_" && P.eqGuardType D f.type) = false := by
          intro fs
          induction fs with
          | nil => intro l _; rfl
          | cons f fs ihf =>
            intro l hl
            obtain ⟨p, ps, rfl, hp, hps⟩ := mapO_cons hl
            simp only [List.any_cons, ihf _ hps, Bool.or_false]
            split at hp
            · rename_i k hk; rw [eqGuard_flat d D (by omega) _ _ hk]; simp
            · cases hp
        exact this _ _ hl
      · cases h
    · cases h
end Go.Proofs.Ytpkeggejofeeeaa.Lvm
