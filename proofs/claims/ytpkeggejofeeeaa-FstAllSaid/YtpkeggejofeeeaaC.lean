/- Laws of the small machine, of how it stands to the model, and of what functions come to on it; a helper of the statement: no statement is proved here. -/
import Derived.Test.YtpkeggejofeeeaaB
set_option linter.unusedVariables false
namespace Go.Proofs.Ytpkeggejofeeeaa.Lvm

theorem chkArr {P : Program} {w : World} {d D : Nat} {b : Bool} {e : TypeId} {ks : List CK} {i : TypeInfo}
    (ih : ∀ (xs : List LV), ckFit ks xs = true → (Instr.checkKey b D e (flatV P e xs)).run P w = .ok () w)
    (hk : flatB P d e = some ks) (hi : P.info? e = some i) (hs : i.size = ks.length) (xs : List LV) (n : Nat)
    (hx : ckFit (List.replicate n ks).flatten xs = true) :
    ∀ (m s : Nat), s + m = n →
      (ForIn.forIn (List.range' s m) () (fun j (_ : Unit) => (do
        let z ← sizeOf e
        let a ← part e (xs.map fv).toArray (j * z)
        Instr.checkKey b D e a
        pure (ForInStep.yield ()) : Sem _))).run P w = .ok () w
  | 0, s, h => by simp
  | m + 1, s, h => by
    have hsplit : (List.replicate n ks).flatten = (List.replicate s ks).flatten ++ (ks ++ (List.replicate m ks).flatten) := by
      subst h
      rw [show s + (m + 1) = s + 1 + m by omega, ← List.replicate_append_replicate, List.flatten_append, ← List.replicate_append_replicate, List.flatten_append, List.append_assoc]
      simp
    have hlen : (List.replicate s ks).flatten.length = s * ks.length := length_rep s ks
    have gx := (ckFit_split (hsplit ▸ hx)).2
    rw [hlen] at gx
    obtain ⟨x1, _⟩ := ckFit_split gx
    simp only [List.range'_succ, List.forIn_cons, Sem.run_bind, r_size hi, Result.andThen_ok]
    rw [hs, part_flat hk hi hs xs _ x1, Result.andThen_ok, ih _ x1, Result.andThen_ok]
    simp only [Sem.run_pure, Result.andThen_ok]
    have := chkArr ih hk hi hs xs n hx m (s + 1) (by omega)
    simpa only [Sem.run_bind] using this

theorem chkFields {P : Program} {w : World} {d D : Nat} {b : Bool}
    (ih : ∀ (t : TypeId) (ks : List CK) (xs : List LV), flatB P d t = some ks → ckFit ks xs = true → (Instr.checkKey b D t (flatV P t xs)).run P w = .ok () w) (xs : List LV) :
    ∀ (fs : List Field) (l : List (Field × List CK)) (o : Nat), mapO (fun f => match flatB P d f.type with
        | some l => cond (P.info? f.type).isSome (some (f, l)) none
        | none => none) fs = some l → offsOk P o l = true → ckFit (l.map (·.2)).flatten (xs.drop o) = true →
      (ForIn.forIn fs () (fun f (_ : Unit) => (do
        if f.name ≠ "_" then do
          let a ← part f.type (xs.map fv).toArray f.offset
          Instr.checkKey b D f.type a
          pure (ForInStep.yield ())
        else pure (ForInStep.yield ()) : Sem _))).run P w = .ok () w
  | [], l, o, hm, _, hx => by simp
  | f :: fs, l, o, hm, ho, hx => by
    obtain ⟨p, ps, rfl, hp, hps⟩ := mapO_cons hm
    split at hp
    · rename_i ks hks
      cases hi : P.info? f.type with
      | none => rw [hi] at hp; simp at hp
      | some i =>
        rw [hi] at hp
        simp at hp
        subst hp
        simp only [offsOk, Bool.and_eq_true, bne_iff_ne, ne_eq] at ho
        obtain ⟨hn, hoff, hsz, hrest⟩ := ho
        have hoff := Nat.eq_of_beq_eq_true hoff
        have hsz := Nat.eq_of_beq_eq_true hsz
        rw [cellsOf_size hi] at hsz
        simp only [List.map_cons, List.flatten_cons] at hx
        obtain ⟨x1, x2⟩ := ckFit_split hx
        simp only [List.forIn_cons, Sem.run_bind]
        rw [if_pos hn]
        simp only [Sem.run_bind, hoff]
        rw [part_flat hks hi hsz xs o x1, Result.andThen_ok, ih _ _ _ hks x1, Result.andThen_ok]
        simp only [Sem.run_pure, Result.andThen_ok]
        rw [List.drop_drop] at x2
        have := chkFields ih xs fs ps (o + ks.length) hps hrest x2
        simpa only [Sem.run_bind] using this
    · cases hp

theorem chkKey {P : Program} {w : World} {b : Bool} : ∀ (d D : Nat), d ≤ D → ∀ (t : TypeId) (ks : List CK) (xs : List LV), flatB P d t = some ks → ckFit ks xs = true →
    (Instr.checkKey b D t (flatV P t xs)).run P w = .ok () w
  | 0, _, _, _, _, _, h, _ => by simp [flatB] at h
  | d + 1, 0, hd, _, _, _, _, _ => by omega
  | d + 1, D + 1, hd, t, ks, xs, h, hx => by
    have h' := h
    simp only [flatB] at h
    split at h
    · rename_i hu; simp at h; subst h
      obtain ⟨_, _, rfl, h1, h2⟩ := ckFit_cons hx
      have e1 := List.eq_nil_of_length_eq_zero (ckFit_length h2)
      subst e1
      cases h1
      simp [flatV, hu, isAggD, fv, Instr.checkKey, r_und hu]
    · rename_i hu; simp at h; subst h
      obtain ⟨_, _, rfl, h1, h2⟩ := ckFit_cons hx
      have e1 := List.eq_nil_of_length_eq_zero (ckFit_length h2)
      subst e1
      cases h1
      simp [flatV, hu, isAggD, fv, Instr.checkKey, r_und hu]
    · rename_i k hu; simp at h; subst h
      obtain ⟨_, _, rfl, h1, h2⟩ := ckFit_cons hx
      have e1 := List.eq_nil_of_length_eq_zero (ckFit_length h2)
      subst e1
      cases h1
      simp [flatV, hu, isAggD, fv, Instr.checkKey, r_und hu]
    · rename_i n e hu
      split at h
      · rename_i l hl
        cases hi : P.info? e with
        | none => rw [hi] at h; simp at h
        | some i =>
          rw [hi] at h
          cases hb : Nat.beq (P.cellsOf e) l.length with
          | false => rw [hb] at h; simp at h
          | true =>
            rw [hb] at h; simp at h; subst h
            have hs := Nat.eq_of_beq_eq_true hb
            rw [cellsOf_size hi] at hs
            have key := chkArr (w := w) (D := D) (b := b) (fun xs a => chkKey d D (by omega) e l xs hl a) hl hi hs xs n hx n 0 (by omega)
            simp only [flatV, hu, isAggD, cond_true, Instr.checkKey, Sem.run_bind, r_und hu, Result.andThen_ok]
            simp only [Std.Legacy.Range.forIn_eq_forIn_range', Std.Legacy.Range.size, Nat.sub_zero, Nat.add_sub_cancel, Nat.div_one]
            exact (congrArg (fun r => Result.andThen r fun _ w' => Sem.run P (pure ()) w') key).trans (by simp)
      · cases h
    · rename_i fs hu
      have hst := stood_of h' hu
      rw [hst] at h
      simp only [cond_false] at h
      split at h
      · rename_i l hl
        cases ho : offsOk P 0 l with
        | false => rw [ho] at h; simp at h
        | true =>
          rw [ho] at h; simp at h; subst h
          have := chkFields (w := w) (D := D) (b := b) (fun t ks xs a c => chkKey d D (by omega) t ks xs a c) xs fs.toList l 0 hl ho (by simpa using hx)
          simp only [flatV, hu, isAggD, cond_true, Instr.checkKey, Sem.run_bind, r_und hu, Result.andThen_ok]
          rw [← Array.forIn_toList]
          exact (congrArg (fun r => Result.andThen r fun _ w' => Sem.run P (pure ()) w') this).trans (by simp)
      · cases h
    · cases h

theorem key_val {E : Env} (hE : E.Ok) {inj : Inj} {kt : TypeId} {k : LV} {kv : Value} (h : keyOk E kt k = some true) (hk : VRel inj k kv) :
    ∃ ks D, flatB E.P 8 kt = some ks ∧ E.P.underlying kt = some D ∧ isAggD D = k.isAgg ∧ ckFit ks k.cells = true ∧ kv = flatV E.P kt k.cells := by
  unfold keyOk at h
  split at h
  · rename_i ks hks
    split at h
    · rename_i D hD
      simp only [Option.some.injEq, Bool.and_eq_true, beq_iff_eq] at h
      have hu := hE.und _ _ hD
      refine ⟨ks, D, hE.flat _ _ hks, hu, h.2, h.1, ?_⟩
      have hv := fit_vals h.1 hk.cells
      simp only [flatV, hu]
      cases ha : k.isAgg with
      | true =>
        rw [h.2, ha]
        cases k <;> simp only [LV.isAgg, Bool.false_eq_true] at ha
        rename_i cs
        simp only [VRel] at hk
        obtain ⟨vs, rfl, _⟩ := hk
        simp only [LV.cells, Value.cells] at hv ⊢
        simp [← hv]
      | false =>
        rw [h.2, ha]
        cases k <;> simp only [LV.isAgg, Bool.true_eq_false] at ha <;> simp only [VRel] at hk
        case bool | int | str => subst hk; simp [LV.cells, fv]
        all_goals
          exfalso
          have := h.1
          simp only [LV.cells] at this
          revert this
          cases ks with
          | nil => simp [ckFit]
          | cons c cs => cases c <;> simp [ckFit]
    · cases h
  · cases h
end Go.Proofs.Ytpkeggejofeeeaa.Lvm

namespace Go.Proofs.Ytpkeggejofeeeaa.Lvm
section
variable {E : Env} {B : Nat} {inj : Inj} {st st' : LSt} {w : World} {fr : LFr} {a : Act} {lo : Nat}

theorem ba_eq {a b : ByteArray} (h : (a == b) = true) : a = b := by
  obtain ⟨x⟩ := a; obtain ⟨y⟩ := b
  have h' : (x == y) = true := h
  rw [eq_of_beq h']
theorem ba_refl (a : ByteArray) : (a == a) = true := by
  obtain ⟨x⟩ := a
  have h' : (x == x) = true := beq_self_eq_true x
  exact h'
theorem cell_eq {k : CK} {x y : LV} (f1 : Fit1 k x) (f2 : Fit1 k y) (h : cellsEq [x] [y] = true) : x = y := by
  cases f1 <;> cases f2 <;> simp only [cellsEq, Bool.and_true] at h
  · rw [eq_of_beq h]
  · rw [ba_eq h]
  · rw [eq_of_beq h]
theorem cell_refl {k : CK} {x : LV} (f1 : Fit1 k x) : cellsEq [x] [x] = true := by
  cases f1 <;> simp [cellsEq, ba_refl]
theorem cell_bits {k : CK} {x : LV} (f1 : Fit1 k x) (n : Nat) : Instr.sameBits n (fv x) (fv x) = true := by
  cases f1 <;> cases n <;> simp [fv, Instr.sameBits, ba_refl]

theorem ERels.get? : ∀ {es : List (LV × LV)} {l : List MapEntry} (_ : ERels inj es l) {i : Nat} {p : LV × LV}, es[i]? = some p → ∃ e, l[i]? = some e ∧ VRel inj p.1 e.key ∧ VRel inj p.2 e.val
  | [], _, _, i, p, h => by simp at h
  | (k, x) :: es, _, e, i, p, h => by
    simp only [ERels] at e
    obtain ⟨a, r, rfl, h1, h2, h3⟩ := e
    cases i with
    | zero => simp at h; subst h; exact ⟨a, by simp, h1, h2⟩
    | succ i => simp at h; obtain ⟨u, hu, hr⟩ := h3.get? h; exact ⟨u, by simpa using hu, hr⟩

theorem ERels.set : ∀ {es : List (LV × LV)} {l : List MapEntry} (i : Nat) {k x : LV} (f : MapEntry → MapEntry), ERels inj es l →
    (∀ e, l[i]? = some e → VRel inj k (f e).key ∧ VRel inj x (f e).val) → ERels inj (es.set i (k, x)) (l.modify i f)
  | [], _, i, _, _, _, e, _ => by
    simp only [ERels] at e; subst e
    have : ([] : List MapEntry).modify i = fun _ => [] := by funext g; cases i <;> rfl
    cases i <;> simp [ERels]
  | (k', x') :: es, _, 0, k, x, f, e, h => by
    simp only [ERels] at e
    obtain ⟨a, r, rfl, h1, h2, h3⟩ := e
    obtain ⟨g1, g2⟩ := h a rfl
    simp only [List.set_cons_zero, List.modify_zero_cons, ERels]
    exact ⟨_, _, rfl, g1, g2, h3⟩
  | (k', x') :: es, _, i + 1, k, x, f, e, h => by
    simp only [ERels] at e
    obtain ⟨a, r, rfl, h1, h2, h3⟩ := e
    simp only [List.set_cons_succ, List.modify_succ_cons, ERels]
    exact ⟨_, _, rfl, h1, h2, h3.set i f fun e he => h e (by simpa using he)⟩

theorem ERels.push : ∀ {es : List (LV × LV)} {l : List MapEntry} {k x : LV} {e : MapEntry}, ERels inj es l → VRel inj k e.key → VRel inj x e.val → ERels inj (es ++ [(k, x)]) (l ++ [e])
  | [], _, _, _, e, h, h1, h2 => by
    simp only [ERels] at h; subst h
    simp only [List.nil_append, ERels]; exact ⟨e, [], rfl, h1, h2, rfl⟩
  | (k', x') :: es, _, k, x, e, h, h1, h2 => by
    simp only [ERels] at h
    obtain ⟨a, r, rfl, g1, g2, g3⟩ := h
    simp only [List.cons_append, ERels]; exact ⟨a, _, rfl, g1, g2, g3.push h1 h2⟩

theorem findL_some {k : LV} : ∀ {es : List (LV × LV)} {i j : Nat} {x : LV}, findL k es i = some (j, x) → i ≤ j ∧ ∃ p, es[j - i]? = some p ∧ cellsEq k.cells p.1.cells = true ∧ p.2 = x
  | [], _, _, _, h => by simp [findL] at h
  | (k', v) :: es, i, j, x, h => by
    simp only [findL] at h
    cases hc : cellsEq k.cells k'.cells with
    | true =>
      rw [hc] at h; simp only [cond_true, Option.some.injEq, Prod.mk.injEq] at h
      obtain ⟨rfl, rfl⟩ := h
      exact ⟨Nat.le_refl _, (k', v), by simp, hc, rfl⟩
    | false =>
      rw [hc] at h; simp only [cond_false] at h
      obtain ⟨h1, p, h2, h3, h4⟩ := findL_some h
      refine ⟨by omega, p, ?_, h3, h4⟩
      rw [show j - i = (j - (i + 1)) + 1 by omega]; simpa using h2

def FindRes (inj : Inj) (k : LV) (es : List (LV × LV)) (i : Nat) (r : Option (Nat × Value)) : Prop :=
  match findL k es i with
  | none => r = none
  | some (j, x) => ∃ v, r = some (j, v) ∧ VRel inj x v

theorem FindRes.hit {k k' v : LV} {es : List (LV × LV)} {i : Nat} {u : Value} (hc : cellsEq k.cells k'.cells = true) (hv : VRel inj v u) : FindRes inj k ((k', v) :: es) i (some (i, u)) := by
  simp only [FindRes, findL, hc, cond_true]; exact ⟨u, rfl, hv⟩
theorem FindRes.miss {k k' v : LV} {es : List (LV × LV)} {i : Nat} {r : Option (Nat × Value)} (hc : cellsEq k.cells k'.cells = false) (h : FindRes inj k es (i + 1) r) : FindRes inj k ((k', v) :: es) i r := by
  simp only [FindRes, findL, hc, cond_false] at h ⊢; exact h

theorem equal_flat {t : TypeId} {ks : List CK} {xs ys : List LV} (h : flatB E.P 8 t = some ks) (hx : ckFit ks xs = true) (hy : ckFit ks ys = true) :
    (Op.equal t (flatV E.P t xs) (flatV E.P t ys)).run E.P w = .ok (cellsEq xs ys) w :=
  run_equalIn_flat 8 _ (by decide) t ks xs ys h hx hy

theorem asking_sound (hE : E.Ok) {kt : TypeId} {k : LV} {ks : List CK} (hf : flatB E.P 8 kt = some ks) (hk : ckFit ks k.cells = true) :
    ∀ (es : List (LV × LV)) (l : List MapEntry) (i : Nat), ERels inj es l → (∀ p ∈ es, keyOk E kt p.1 = some true) →
      ∃ r, (Instr.findAsking kt (flatV E.P kt k.cells) l i).run E.P w = .ok r w ∧ FindRes inj k es i r
  | [], l, i, he, _ => by
    simp only [ERels] at he; subst he
    exact ⟨none, by simp [Instr.findAsking], rfl⟩
  | (k', x) :: es, l, i, he, hok => by
    simp only [ERels] at he
    obtain ⟨e, r, rfl, h1, h2, h3⟩ := he
    obtain ⟨ks', D', hf', hu', ha', hc', hv'⟩ := key_val hE (hok _ (List.mem_cons_self ..)) h1
    rw [hf] at hf'; simp only [Option.some.injEq] at hf'; subst hf'
    simp only [Instr.findAsking, Sem.run_bind, hv', equal_flat hf hk hc', Result.andThen_ok]
    cases hc : cellsEq k.cells k'.cells with
    | true => exact ⟨_, by simp, FindRes.hit hc h2⟩
    | false =>
      obtain ⟨r', g1, g2⟩ := asking_sound hE hf hk es r (i + 1) h3 fun p hp => hok p (List.mem_cons_of_mem _ hp)
      exact ⟨r', by simpa using g1, FindRes.miss hc g2⟩

theorem now_sound (hE : E.Ok) {kt : TypeId} {D : TypeDesc} {k : LV} {ks : List CK} (hf : flatB E.P 8 kt = some ks) (hu : E.P.underlying kt = some D) (hk : ckFit ks k.cells = true) :
    ∀ (es : List (LV × LV)) (l : List MapEntry) (i : Nat), ERels inj es l → (∀ p ∈ es, keyOk E kt p.1 = some true) → ∀ r, Instr.findNow D (flatV E.P kt k.cells) l i = some r → FindRes inj k es i r
  | [], l, i, he, _, r, h => by
    simp only [ERels] at he; subst he
    simp only [Instr.findNow, Option.some.injEq] at h; subst h; rfl
  | (k', x) :: es, l, i, he, hok, r, h => by
    simp only [ERels] at he
    obtain ⟨e, l', rfl, h1, h2, h3⟩ := he
    obtain ⟨ks', D', hf', hu', ha', hc', hv'⟩ := key_val hE (hok _ (List.mem_cons_self ..)) h1
    rw [hf] at hf'; simp only [Option.some.injEq] at hf'; subst hf'
    have hsame : ∀ b, Instr.sameNow D (flatV E.P kt k.cells) e.key = some b → b = cellsEq k.cells k'.cells := by
      intro b hb
      rw [hv'] at hb
      have hf2 := hf
      simp only [flatB] at hf2
      rw [hu] at hf2
      cases D <;> simp only [reduceCtorEq] at hf2
      case bool =>
        simp only [Option.some.injEq] at hf2; subst hf2
        obtain ⟨_, _, e1, f1, g1⟩ := ckFit_cons hk
        obtain ⟨_, _, e2, f2, g2⟩ := ckFit_cons hc'
        have := List.eq_nil_of_length_eq_zero (ckFit_length g1); subst this
        have := List.eq_nil_of_length_eq_zero (ckFit_length g2); subst this
        cases f1; cases f2
        rw [e1, e2] at hb ⊢
        simp [flatV, hu, isAggD, fv, Instr.sameNow] at hb
        simp [cellsEq, ← hb]
      case string =>
        simp only [Option.some.injEq] at hf2; subst hf2
        obtain ⟨_, _, e1, f1, g1⟩ := ckFit_cons hk
        obtain ⟨_, _, e2, f2, g2⟩ := ckFit_cons hc'
        have := List.eq_nil_of_length_eq_zero (ckFit_length g1); subst this
        have := List.eq_nil_of_length_eq_zero (ckFit_length g2); subst this
        cases f1; cases f2
        rw [e1, e2] at hb ⊢
        simp [flatV, hu, isAggD, fv, Instr.sameNow] at hb
        simp [cellsEq, ← hb]
      case int q =>
        simp only [Option.some.injEq] at hf2; subst hf2
        obtain ⟨_, _, e1, f1, g1⟩ := ckFit_cons hk
        obtain ⟨_, _, e2, f2, g2⟩ := ckFit_cons hc'
        have := List.eq_nil_of_length_eq_zero (ckFit_length g1); subst this
        have := List.eq_nil_of_length_eq_zero (ckFit_length g2); subst this
        cases f1; cases f2
        rw [e1, e2] at hb ⊢
        simp [flatV, hu, isAggD, fv, Instr.sameNow] at hb
        simp [cellsEq, ← hb]
      case array => simp [Instr.sameNow] at hb
      case struct => simp [Instr.sameNow] at hb
    simp only [Instr.findNow] at h
    split at h
    · rename_i hb
      simp only [Option.some.injEq] at h; subst h
      exact FindRes.hit (hsame _ hb).symm h2
    · rename_i hb
      exact FindRes.miss (hsame _ hb).symm (now_sound hE hf hu hk es l' (i + 1) h3 (fun p hp => hok p (List.mem_cons_of_mem _ hp)) r h)
    · cases h

theorem find_sound (hE : E.Ok) {kt : TypeId} {k : LV} {kv : Value} (hk : keyOk E kt k = some true) (hv : VRel inj k kv) {es : List (LV × LV)} {l : List MapEntry} (he : ERels inj es l)
    (hok : ∀ p ∈ es, keyOk E kt p.1 = some true) : ∃ r, (Instr.findKey kt kv l).run E.P w = .ok r w ∧ FindRes inj k es 0 r := by
  obtain ⟨ks, D, hf, hu, ha, hc, rfl⟩ := key_val hE hk hv
  simp only [Instr.findKey, Sem.run_bind, r_und hu, Result.andThen_ok]
  split
  · rename_i r hr
    exact ⟨r, by simp, now_sound hE hf hu hc es l 0 he hok r hr⟩
  · exact asking_sound hE hf hc es l 0 he hok

theorem sameBits_flat (n : Nat) : ∀ {ks : List CK} {xs ys : List LV}, ckFit ks xs = true → ckFit ks ys = true → cellsEq xs ys = true →
    ((xs.map fv).zip (ys.map fv)).all (fun (x, y) => Instr.sameBits n x y) = true
  | [], [], [], _, _, _ => rfl
  | [], _ :: _, _, h, _, _ => by simp [ckFit] at h
  | [], [], _ :: _, _, h, _ => by simp [ckFit] at h
  | k :: ks, xs, ys, hx, hy, he => by
    obtain ⟨x, xs', rfl, f1, g1⟩ := ckFit_cons hx
    obtain ⟨y, ys', rfl, f2, g2⟩ := ckFit_cons hy
    rw [cellsEq_cons k _ _ _ _ f1 f2] at he
    simp only [Bool.and_eq_true] at he
    simp only [List.map_cons, List.zip_cons_cons, List.all_cons, sameBits_flat n g1 g2 he.2, Bool.and_true]
    rw [cell_eq f1 f2 he.1]
    exact cell_bits f2 n

theorem stays_flat (hE : E.Ok) {kt : TypeId} {k k' : LV} {kv kv' : Value} (hk : keyOk E kt k = some true) (hv : VRel inj k kv) (hk' : keyOk E kt k' = some true) (hv' : VRel inj k' kv')
    (he : cellsEq k.cells k'.cells = true) : (Instr.keyThatStays kv' kv).run E.P w = .ok kv w := by
  obtain ⟨ks, D, hf, hu, ha, hc, rfl⟩ := key_val hE hk hv
  obtain ⟨ks', D', hf', hu', ha', hc', rfl⟩ := key_val hE hk' hv'
  rw [hf] at hf'; simp only [Option.some.injEq] at hf'; subst hf'
  have hsym : ∀ {ks : List CK} {xs ys : List LV}, ckFit ks xs = true → ckFit ks ys = true → cellsEq xs ys = true → cellsEq ys xs = true := by
    intro ks
    induction ks with
    | nil =>
      intro xs ys h1 h2 _
      cases xs <;> cases ys <;> simp_all [ckFit, cellsEq]
    | cons q ks ih =>
      intro xs ys h1 h2 h
      obtain ⟨x, xs', rfl, f1, g1⟩ := ckFit_cons h1
      obtain ⟨y, ys', rfl, f2, g2⟩ := ckFit_cons h2
      rw [cellsEq_cons q _ _ _ _ f1 f2] at h
      rw [cellsEq_cons q _ _ _ _ f2 f1]
      simp only [Bool.and_eq_true] at h ⊢
      refine ⟨?_, ih g1 g2 h.2⟩
      rw [cell_eq f1 f2 h.1]
      exact cell_refl f2
  have hz := sameBits_flat 9999 hc' hc (hsym hc hc' he)
  have : Instr.sameBits 10000 (flatV E.P kt k'.cells) (flatV E.P kt k.cells) = true := by
    simp only [flatV, hu]
    cases hD : isAggD D with
    | true =>
      simp only [cond_true, Instr.sameBits, Bool.and_eq_true, beq_iff_eq]
      refine ⟨by simp [ckFit_length hc, ckFit_length hc'], by simpa using hz⟩
    | false =>
      obtain ⟨_, hu2, hl⟩ := flat_agg hf
      rw [hu] at hu2; simp only [Option.some.injEq] at hu2; subst hu2
      have h1 := hl hD
      match ks, h1 with
      | [q], _ =>
        obtain ⟨x, xs', e1, f1, g1⟩ := ckFit_cons hc
        obtain ⟨y, ys', e2, f2, g2⟩ := ckFit_cons hc'
        have := List.eq_nil_of_length_eq_zero (ckFit_length g1); subst this
        have := List.eq_nil_of_length_eq_zero (ckFit_length g2); subst this
        rw [e1, e2] at he ⊢
        rw [cell_eq f1 f2 he]
        exact cell_bits f2 _
  simp [Instr.keyThatStays, this]

theorem run_map {P : Program} {r : Nat} {c : Array MapEntry} {k : Nat} (h : w.heap[r]? = some (.map c k)) : (getObj r).run P w = .ok (.map c k) w := by
  simp [getObj, Sem.run, h]

theorem chk_ok (hE : E.Ok) {kt : TypeId} {k : LV} {kv : Value} (hk : keyOk E kt k = some true) (hv : VRel inj k kv) (b : Bool) : (Instr.checkKey b 10000 kt kv).run E.P w = .ok () w := by
  obtain ⟨ks, D, hf, hu, ha, hc, rfl⟩ := key_val hE hk hv
  exact chkKey 8 10000 (by decide) kt ks _ hf hc

theorem lookupL_sound (hE : E.Ok) (hm : Emb E B inj st w) {t : TypeId} {x k z : LV} {v kv : Value} {ok : Bool} (h : lookupL E st t x k ok = some z) (hx : VRel inj x v) (hk : VRel inj k kv) :
    ValOut E inj z w (Instr.lookup t v kv ok) := by
  unfold lookupL at h
  split at h
  · rename_i kt et hu
    have hu := hE.und _ _ hu
    split at h
    · rename_i hkey
      split at h
      · rename_i z0 hz0
        obtain ⟨iz, vz, hi, hiz, hlz⟩ := hE.zero _ _ hz0
        have hz := r_zero (w := w) hi hiz
        have hvz : VRel inj z0 vz := lift_rel hlz
        have hrest : ∀ (es : Array MapEntry) (r : Option (Nat × Value)), (Instr.findKey kt kv es.toList).run E.P w = .ok r w →
            (do
              Instr.checkKey es.isEmpty 10000 kt kv
              let (v, ok') ← match ← Instr.findKey kt kv es.toList with
                | some (_, v) => pure (v, true)
                | none => pure (← zeroValue et, false)
              pure (if ok then .tuple #[v, .bool ok'] else v) : Sem Value).run E.P w = .ok (match r with
              | some (_, u) => if ok then .tuple #[u, .bool true] else u
              | none => if ok then .tuple #[vz, .bool false] else vz) w := by
          intro es r hr
          simp only [Sem.run_bind, chk_ok hE hkey hk, Result.andThen_ok, hr]
          cases r with
          | none => simp [hz]
          | some p => simp
        have fin : ∀ (r : Option (Nat × Value)) (o : Option (Nat × LV)), (match o with
              | none => r = none
              | some (j, x) => ∃ v, r = some (j, v) ∧ VRel inj x v) → (match o.map (·.2) with
              | some v => some (if ok then .tup [v, .bool true] else v)
              | none => some (if ok then .tup [z0, .bool false] else z0)) = some z →
            VRel inj z (match r with
              | some (_, u) => if ok then .tuple #[u, .bool true] else u
              | none => if ok then .tuple #[vz, .bool false] else vz) := by
          intro r o ho hz
          cases o with
          | none =>
            simp only at ho; subst ho
            simp only [Option.map_none, Option.some.injEq] at hz; subst hz
            cases ok with
            | false => simpa using hvz
            | true => simp only [if_true, VRel]; exact ⟨_, rfl, by simpa using VRels.cons hvz (VRels.cons (by simp [VRel]) VRels.nil)⟩
          | some p =>
            obtain ⟨j, x⟩ := p
            simp only at ho
            obtain ⟨u, rfl, hu⟩ := ho
            simp only [Option.map_some, Option.some.injEq] at hz; subst hz
            cases ok with
            | false => simpa using hu
            | true => simp only [if_true, VRel]; exact ⟨_, rfl, by simpa using VRels.cons hu (VRels.cons (by simp [VRel]) VRels.nil)⟩
        cases x <;> simp only [reduceCtorEq] at h
        case nilmap =>
          simp only [VRel] at hx; subst hx
          obtain ⟨r, h1, h2⟩ := find_sound (w := w) hE hkey hk (es := []) (l := []) (by simp [ERels]) (by simp)
          refine ⟨_, ?_, fin r none ?_ (by simpa using h)⟩
          · have := hrest #[] r h1
            simp only [Sem.run_bind] at this
            simp only [Instr.lookup, Sem.run_bind, r_und hu, Result.andThen_ok, Sem.run_pure]
            exact this
          · simpa [FindRes, findL] using h2
        case map m =>
          simp only [VRel] at hx
          obtain ⟨r0, n, hq, rfl⟩ := hx
          cases hes : st.mem.get m with
          | none => rw [hes] at h; simp at h
          | some o =>
            rw [hes] at h
            cases o <;> simp only [reduceCtorEq] at h
            rename_i kt' es
            obtain ⟨c, clk, g1, g2, g3, g4, g5⟩ := hm.obj _ _ _ hq hes
            simp only at g1
            cases hb : Nat.beq kt' kt with
            | false => rw [hb] at h; simp at h
            | true =>
              have hb' := Nat.eq_of_beq_eq_true hb
              subst hb'
              rw [hb] at h
              simp only [cond_true] at h
              obtain ⟨r, h1, h2⟩ := find_sound (w := w) hE hkey hk g2 g3
              refine ⟨_, ?_, fin r (findL k es 0) h2 (by cases hfl : findL k es 0 with
                | none => rw [hfl] at h; exact h
                | some p => rw [hfl] at h; exact h)⟩
              have := hrest c r h1
              simp only [Sem.run_bind] at this
              simp only [Instr.lookup, Sem.run_bind, r_und hu, Result.andThen_ok, run_map g1, Sem.run_pure]
              exact this
      · cases h
    · cases h
  · cases h

theorem mapSetL_sound (hE : E.Ok) (hm : Emb E B inj st w) {t : TypeId} {x k y : LV} {v kv u : Value} (h : mapSetL E lo st t x k y = some st') (hx : VRel inj x v) (hk : VRel inj k kv) (hy : VRel inj y u) :
    StoreOut E inj lo st w st' (Instr.mapUpdate t v kv u) := by
  unfold mapSetL at h
  split at h
  · rename_i kt et hu
    have hu := hE.und _ _ hu
    split at h
    · rename_i hkey
      split at h
      · rename_i m
        simp only [VRel] at hx
        obtain ⟨r, n, hq, rfl⟩ := hx
        cases hlo : Nat.ble lo m with
        | false => rw [hlo] at h; simp at h
        | true =>
          rw [hlo] at h; simp only [cond_true] at h
          split at h
          · rename_i kt' es hes
            obtain ⟨c, clk, h1, h2, h3, h4, h5⟩ := hm.obj _ _ _ hq hes
            simp only at h1
            cases hb : Nat.beq kt' kt with
            | false => rw [hb] at h; simp at h
            | true =>
              have hb := Nat.eq_of_beq_eq_true hb
              subst hb
              rw [Nat.beq_refl] at h
              simp only [cond_true] at h
              obtain ⟨res, g1, g2⟩ := find_sound (w := w) hE hkey hk h2 h3
              have hl := h2.length
              simp only [Array.length_toList] at hl
              split at h
              · rename_i i x0 hf
                obtain ⟨_, p, e1, e2, e3⟩ := findL_some hf
                simp only [FindRes, hf] at g2
                obtain ⟨v0, rfl, hv0⟩ := g2
                simp only [Nat.sub_zero] at e1
                obtain ⟨en, k1, k2, k3⟩ := h2.get? e1
                have hst := stays_flat (w := w) hE hkey hk (h3 p (List.mem_of_getElem? e1)) k2 e2
                simp only [setObjK_eq, Option.some.injEq] at h
                have k1' : c[i]? = some en := by simpa using k1
                refine ⟨m, (r, n), _, _, .map (c.modify i fun e => { e with key := kv, val := u }) clk, { w with heap := w.heap.setIfInBounds r (.map (c.modify i fun e => { e with key := kv, val := u }) clk) }, Nat.le_of_ble_eq_true hlo, hq, hes, by simp, by simp, h.symm, ?_, rfl, ⟨rfl, rfl, rfl⟩, ?_⟩
                · simp only [Instr.mapUpdate, Sem.run_bind, r_und hu, Result.andThen_ok, run_map h1, chk_ok hE hkey hk, g1, k1', Option.map_some, Option.getD_some, hst]
                  simp [setObj, Sem.run, h1]
                · refine ⟨_, _, rfl, ?_, ?_, by simpa using h4, ?_⟩
                  · rw [Array.toList_modify]
                    exact h2.set i _ fun e _ => ⟨hk, hy⟩
                  · intro p' hp'
                    rcases List.mem_or_eq_of_mem_set hp' with hp' | rfl
                    · exact h3 p' hp'
                    · exact hkey
                  · intro j e he
                    rw [Array.toList_modify, List.getElem?_modify] at he
                    cases hc : c.toList[j]? with
                    | none => rw [hc] at he; simp at he
                    | some e0 =>
                      rw [hc] at he
                      have := h5 j e0 hc
                      simp at he
                      subst he
                      split <;> simpa using this
              · rename_i hf
                simp only [FindRes, hf] at g2
                subst g2
                simp only [setObjK_eq, Option.some.injEq] at h
                refine ⟨m, (r, n), _, _, .map (c.push { key := kv, val := u, born := clk }) (clk + 1), { w with heap := w.heap.setIfInBounds r (.map (c.push { key := kv, val := u, born := clk }) (clk + 1)) }, Nat.le_of_ble_eq_true hlo, hq, hes, by simp, by simp, h.symm, ?_, rfl, ⟨rfl, rfl, rfl⟩, ?_⟩
                · simp only [Instr.mapUpdate, Sem.run_bind, r_und hu, Result.andThen_ok, run_map h1, chk_ok hE hkey hk, g1]
                  simp [setObj, Sem.run, h1]
                · refine ⟨_, _, rfl, ?_, ?_, by simp [h4], ?_⟩
                  · rw [Array.toList_push]
                    exact h2.push hk hy
                  · intro p' hp'
                    rcases List.mem_append.1 hp' with hp' | hp'
                    · exact h3 p' hp'
                    · simp at hp'; subst hp'; exact hkey
                  · intro j e he
                    rw [Array.toList_push, List.getElem?_append] at he
                    split at he
                    · exact h5 j e he
                    · rename_i hj
                      simp at hj
                      have hj' : j = c.size := by
                        by_cases e0 : j - c.toList.length = 0
                        · simp at e0; omega
                        · rw [List.getElem?_eq_none (by simp; simp at e0; omega)] at he; cases he
                      subst hj'
                      simp at he
                      subst he
                      simp [h4, hl]
          · cases h
      · cases h
    · cases h
  · cases h
end
end Go.Proofs.Ytpkeggejofeeeaa.Lvm

namespace Go.Proofs.Ytpkeggejofeeeaa.Lvm
section
variable {E : Env} {B : Nat} {inj : Inj} {st st' : LSt} {w : World} {fr : LFr} {a : Act} {lo : Nat}

/-- A store that gives a value, too. -/
def StoreVOut (E : Env) (inj : Inj) (lo : Nat) (st : LSt) (w : World) (v : LV) (st' : LSt) (s : Sem Value) : Prop :=
  ∃ L q old o ob w' u, lo ≤ L ∧ inj L = some q ∧ st.mem.get L = some old ∧ old ≠ .dead ∧ o ≠ .dead ∧ st' = { st with mem := st.mem.set L o } ∧ s.run E.P w = .ok u w' ∧
    w'.heap = w.heap.setIfInBounds q.1 ob ∧ Alike3 w w' ∧ ORel E inj o (some ob) q.2 ∧ VRel inj v u

theorem map_set {kt : TypeId} {es : List (LV × LV)} {c : Array MapEntry} {clk : Nat} {i : Nat} {k y : LV} {f : MapEntry → MapEntry} (h2 : ERels inj es c.toList)
    (h3 : ∀ p ∈ es, keyOk E kt p.1 = some true) (h4 : clk = es.length) (h5 : ∀ (i : Nat) (e : MapEntry), c.toList[i]? = some e → e.born = i) (hk : keyOk E kt k = some true)
    (hf : ∀ e, c.toList[i]? = some e → VRel inj k (f e).key ∧ VRel inj y (f e).val) (hb : ∀ e, (f e).born = e.born) (n : Nat) :
    ORel E inj (.map kt (es.set i (k, y))) (some (.map (c.modify i f) clk)) n := by
  refine ⟨_, _, rfl, ?_, ?_, by simpa using h4, ?_⟩
  · rw [Array.toList_modify]; exact h2.set i f hf
  · intro p' hp'
    rcases List.mem_or_eq_of_mem_set hp' with hp' | rfl
    · exact h3 p' hp'
    · exact hk
  · intro j e he
    rw [Array.toList_modify, List.getElem?_modify] at he
    cases hc : c.toList[j]? with
    | none => rw [hc] at he; simp at he
    | some e0 =>
      rw [hc] at he
      have := h5 j e0 hc
      simp at he
      subst he
      split
      · rw [hb]; exact this
      · exact this

theorem map_push {kt : TypeId} {es : List (LV × LV)} {c : Array MapEntry} {clk : Nat} {k y : LV} {kv u : Value} (h2 : ERels inj es c.toList)
    (h3 : ∀ p ∈ es, keyOk E kt p.1 = some true) (h4 : clk = es.length) (h5 : ∀ (i : Nat) (e : MapEntry), c.toList[i]? = some e → e.born = i) (hkey : keyOk E kt k = some true)
    (hk : VRel inj k kv) (hy : VRel inj y u) (n : Nat) :
    ORel E inj (.map kt (es ++ [(k, y)])) (some (.map (c.push { key := kv, val := u, born := clk }) (clk + 1))) n := by
  have hl := h2.length
  simp only [Array.length_toList] at hl
  refine ⟨_, _, rfl, ?_, ?_, by simp [h4], ?_⟩
  · rw [Array.toList_push]
    exact h2.push hk hy
  · intro p' hp'
    rcases List.mem_append.1 hp' with hp' | hp'
    · exact h3 p' hp'
    · simp at hp'; subst hp'; exact hkey
  · intro j e he
    rw [Array.toList_push, List.getElem?_append] at he
    split at he
    · exact h5 j e he
    · rename_i hj
      simp at hj
      have hj' : j = c.size := by
        by_cases e0 : j - c.toList.length = 0
        · simp at e0; omega
        · rw [List.getElem?_eq_none (by simp; simp at e0; omega)] at he; cases he
      subst hj'
      simp at he
      subst he
      simp [h4, hl]

theorem mapEntryL_sound (hE : E.Ok) (hm : Emb E B inj st w) {t : TypeId} {x k z : LV} {v kv : Value} (h : mapEntryL E lo st t x k = some (z, st')) (hx : VRel inj x v) (hk : VRel inj k kv) :
    StoreVOut E inj lo st w z st' (Instr.mapEntry t v kv) := by
  unfold mapEntryL at h
  split at h
  · rename_i kt et hu
    have hu := hE.und _ _ hu
    split at h
    · rename_i hkey
      split at h
      · rename_i m
        simp only [VRel] at hx
        obtain ⟨r, n, hq, rfl⟩ := hx
        cases hlo : Nat.ble lo m with
        | false => rw [hlo] at h; simp at h
        | true =>
          rw [hlo] at h; simp only [cond_true] at h
          split at h
          · rename_i kt' es hes
            obtain ⟨c, clk, h1, h2, h3, h4, h5⟩ := hm.obj _ _ _ hq hes
            simp only at h1
            cases hb : Nat.beq kt' kt with
            | false => rw [hb] at h; simp at h
            | true =>
              have hb := Nat.eq_of_beq_eq_true hb
              subst hb
              rw [Nat.beq_refl] at h
              simp only [cond_true] at h
              obtain ⟨res, g1, g2⟩ := find_sound (w := w) hE hkey hk h2 h3
              have hl := h2.length
              simp only [Array.length_toList] at hl
              split at h
              · rename_i i x0 hf
                obtain ⟨_, p, e1, e2, e3⟩ := findL_some hf
                simp only [FindRes, hf] at g2
                obtain ⟨v0, rfl, hv0⟩ := g2
                simp only [Nat.sub_zero] at e1
                obtain ⟨en, k1, k2, k3⟩ := h2.get? e1
                have hst := stays_flat (w := w) hE hkey hk (h3 p (List.mem_of_getElem? e1)) k2 e2
                simp only [setObjK_eq, Option.some.injEq, Prod.mk.injEq] at h
                obtain ⟨rfl, rfl⟩ := h
                have k1' : c[i]? = some en := by simpa using k1
                have hborn := h5 i en k1
                refine ⟨m, (r, n), _, _, .map (c.modify i fun e => { e with key := kv }) clk, { w with heap := w.heap.setIfInBounds r (.map (c.modify i fun e => { e with key := kv }) clk) }, .tuple #[v0, goInt i], Nat.le_of_ble_eq_true hlo, hq, hes, by simp, by simp, rfl, ?_, rfl, ⟨rfl, rfl, rfl⟩, ?_, ?_⟩
                · simp only [Instr.mapEntry, Sem.run_bind, r_und hu, Result.andThen_ok, run_map h1, chk_ok hE hkey hk, g1, k1', Option.map_some, Option.getD_some, hst, hborn]
                  simp [setObj, Sem.run, h1]
                · refine map_set (f := fun e => { e with key := kv }) h2 h3 h4 h5 hkey (fun e he => ⟨hk, ?_⟩) (fun _ => rfl) n
                  rw [k1] at he; simp only [Option.some.injEq] at he; subst he
                  rw [← e3]; exact k3
                · simp only [VRel]; exact ⟨_, rfl, by simpa using VRels.cons hv0 (VRels.cons (by simp [VRel, goInt]) VRels.nil)⟩
              · rename_i hf
                simp only [FindRes, hf] at g2
                subst g2
                split at h
                · rename_i z0 hz0
                  obtain ⟨iz, vz, hi, hiz, hlz⟩ := hE.zero _ _ hz0
                  have hz := r_zero (w := w) hi hiz
                  have hvz : VRel inj z0 vz := lift_rel hlz
                  simp only [setObjK_eq, Option.some.injEq, Prod.mk.injEq] at h
                  obtain ⟨rfl, rfl⟩ := h
                  refine ⟨m, (r, n), _, _, .map (c.push { key := kv, val := vz, born := clk }) (clk + 1), { w with heap := w.heap.setIfInBounds r (.map (c.push { key := kv, val := vz, born := clk }) (clk + 1)) }, .tuple #[vz, goInt clk], Nat.le_of_ble_eq_true hlo, hq, hes, by simp, by simp, rfl, ?_, rfl, ⟨rfl, rfl, rfl⟩, map_push h2 h3 h4 h5 hkey hk hvz n, ?_⟩
                  · simp only [Instr.mapEntry, Sem.run_bind, r_und hu, Result.andThen_ok, run_map h1, chk_ok hE hkey hk, g1, hz]
                    simp [setObj, Sem.run, h1]
                  · simp only [VRel]; exact ⟨_, rfl, by simpa using VRels.cons hvz (VRels.cons (by simp [VRel, goInt, h4]) VRels.nil)⟩
                · cases h
          · cases h
      · cases h
    · cases h
  · cases h

theorem natOf_rel {x : LV} {n : Nat} {v : Value} (h : natOf x = some n) (hx : VRel inj x v) : ∃ k, v = .int k n := by
  unfold natOf at h
  split at h
  · simp only [Option.some.injEq] at h; subst h; simp only [VRel] at hx; exact ⟨_, hx⟩
  · cases h

theorem entryStoreL_sound (hm : Emb E B inj st w) {t : TypeId} {x p y : LV} {v pv u : Value} (h : entryStoreL lo st x p y = some st') (hx : VRel inj x v) (hp : VRel inj p pv) (hy : VRel inj y u) :
    StoreOut E inj lo st w st' (Instr.entryStore t v pv u) := by
  unfold entryStoreL at h
  split at h
  · rename_i m
    simp only [VRel] at hx
    obtain ⟨r, n, hq, rfl⟩ := hx
    split at h
    · rename_i i hi
      obtain ⟨kk, rfl⟩ := natOf_rel hi hp
      cases hlo : Nat.ble lo m with
      | false => rw [hlo] at h; simp at h
      | true =>
        rw [hlo] at h; simp only [cond_true] at h
        split at h
        · rename_i kt es hes
          obtain ⟨c, clk, h1, h2, h3, h4, h5⟩ := hm.obj _ _ _ hq hes
          simp only at h1
          split at h
          · rename_i k0 v0 he
            simp only [setObjK_eq, Option.some.injEq] at h
            obtain ⟨en, k1, k2, k3⟩ := h2.get? he
            have k1' : c[i]? = some en := by simpa using k1
            have hlt : i < c.size := (Array.getElem?_eq_some_iff.1 k1').1
            have hfind : c.findIdx? (fun e => (e.born : Int) == (i : Int)) = some i := by
              rw [Array.findIdx?_eq_some_iff_getElem]
              refine ⟨hlt, ?_, fun j hj => ?_⟩
              · have := h5 i c[i] (by simp [hlt])
                simp [this]
              · have := h5 j (c[j]'(by omega)) (by simp)
                simp [this]; omega
            refine ⟨m, (r, n), _, _, .map (c.modify i fun e => { e with val := u }) clk, { w with heap := w.heap.setIfInBounds r (.map (c.modify i fun e => { e with val := u }) clk) }, Nat.le_of_ble_eq_true hlo, hq, hes, by simp, by simp, h.symm, ?_, rfl, ⟨rfl, rfl, rfl⟩, ?_⟩
            · simp only [Instr.entryStore, Sem.run_bind, Result.andThen_ok, run_map h1, asInt, Sem.run_pure]
              simp [asIntOf, hfind, setObj, Sem.run, h1]
            · refine map_set (f := fun e => { e with val := u }) h2 h3 h4 h5 (h3 _ (List.mem_of_getElem? he)) (fun e hee => ⟨?_, hy⟩) (fun _ => rfl) n
              rw [k1] at hee; simp only [Option.some.injEq] at hee; subst hee
              exact k2
          · cases h
        · cases h
    · cases h
  · cases h

theorem rangeL_sound (hE : E.Ok) (hm : Emb E B inj st w) {t : TypeId} {x z : LV} {v : Value} (h : rangeL E st t x = some (z, st')) (hx : VRel inj x v) : FreshOut E inj st w z st' (Instr.range t v) := by
  unfold rangeL at h
  split at h
  · rename_i kt et hu
    have hu := hE.und _ _ hu
    split at h
    · rename_i m
      simp only [VRel] at hx
      obtain ⟨r, n, hq, rfl⟩ := hx
      split at h
      · rename_i kt' es hes
        obtain ⟨c, clk, h1, h2, h3, h4, h5⟩ := hm.obj _ _ _ hq hes
        simp only at h1
        rw [newK_eq] at h
        simp only [Option.some.injEq, Prod.mk.injEq] at h
        obtain ⟨rfl, rfl⟩ := h
        refine ⟨.iter m es.length none, .mapIter (some r) clk #[] clk, 0, .pointer (some ⟨w.heap.size, 0, none⟩), w.alloc (.mapIter (some r) clk #[] clk), rfl, ?_, rfl, ⟨rfl, rfl, rfl⟩, fun inj' hx hn => ⟨?_, ?_⟩⟩
        · simp only [Instr.range, Sem.run_bind, r_und hu, Result.andThen_ok, run_map h1, Sem.run_pure]
          simp [newObj, Sem.run]
        · simp only [VRel]; exact ⟨_, ⟨0, hn⟩, rfl⟩
        · exact ⟨r, n, #[], hx _ _ hq, by rw [h4], rfl⟩
      · cases h
    · cases h
  · cases h

theorem entryL_sound (hm : Emb E B inj st w) {x z : LV} {v : Value} (h : entryL st x = some z) (hx : VRel inj x v) : ValOut E inj z w (Instr.entry v) := by
  unfold entryL at h
  split at h
  · rename_i L
    simp only [VRel] at hx
    obtain ⟨b, ⟨nn, hq⟩, rfl⟩ := hx
    split at h
    · rename_i m len i hit
      obtain ⟨r, c, seen, h1, h2, h3⟩ := hm.obj _ _ _ hq hit
      simp only at h2
      split at h
      · rename_i kt es hes
        obtain ⟨c', clk, g1, g2, g3, g4, g5⟩ := hm.obj _ _ _ h1 hes
        simp only at g1
        cases hb : Nat.beq es.length len with
        | false => rw [hb] at h; simp at h
        | true =>
          have hb := Nat.eq_of_beq_eq_true hb
          subst hb
          rw [Nat.beq_refl] at h; simp only [cond_true] at h
          split at h
          · rename_i k y he
            simp only [Option.some.injEq] at h; subst h
            obtain ⟨en, k1, k2, k3⟩ := g2.get? he
            have hfind : c'.find? (fun e => e.born == i) = some en := by
              rw [← Array.find?_toList, List.find?_eq_some_iff_getElem]
              obtain ⟨hlt, he'⟩ := List.getElem?_eq_some_iff.1 k1
              refine ⟨by simp [g5 i en k1], i, hlt, he', fun j hj => ?_⟩
              have := g5 j (c'.toList[j]'(by omega)) (List.getElem?_eq_getElem _)
              simp only [this]; simp; omega
            refine ⟨.tuple #[en.key, en.val], ?_, by simp only [VRel]; exact ⟨_, rfl, by simpa using VRels.cons k2 (VRels.cons k3 VRels.nil)⟩⟩
            have hit2 : (getObj b).run E.P w = .ok (.mapIter (some r) es.length seen es.length) w := by simp [getObj, Sem.run, h2]
            simp only at h3
            simp only [Instr.entry, Sem.run_bind, hit2, Result.andThen_ok, h3, run_map g1, g4, hfind]
            simp
          · cases h
      · cases h
    · cases h
  · cases h
end
end Go.Proofs.Ytpkeggejofeeeaa.Lvm

namespace Go.Proofs.Ytpkeggejofeeeaa.Lvm

def NextIs (n : Next) (u : Value) : Prop := n = .value u ∨ (n = .skip ∧ u = undef)

inductive LOut (E : Env) (inj : Inj) (lo : Nat) (cover wr : Bool) (st : LSt) (w : World) (v : LV) (st' : LSt) (s : Sem Next) : Prop where
  | same (h : st' = st) (n : Next) (u : Value) (hn : NextIs n u) (hr : s.run E.P w = .ok n w) (hv : VRel inj v u)
  | fresh (o : LObj) (ob : Obj) (cnt : Nat) (n : Next) (u : Value) (w' : World) (hn : NextIs n u) (h1 : st' = newB st o) (hr : s.run E.P w = .ok n w') (h8 : w'.heap = w.heap.push ob) (h9 : Alike3 w w')
      (h10 : ∀ inj', Ext inj inj' → inj' st.nxt = some (w.heap.size, cnt) → VRel inj' v u ∧ ORel E inj' o (some ob) cnt)
  | store (hc : cover = true → wr = true) (L : Nat) (q : Nat × Nat) (old o : LObj) (ob : Obj) (n : Next) (u : Value) (w' : World) (hn : NextIs n u) (h1 : lo ≤ L) (h2 : inj L = some q) (h3 : st.mem.get L = some old) (h4 : old ≠ .dead) (h5 : o ≠ .dead)
      (h6 : st' = { st with mem := st.mem.set L o }) (hr : s.run E.P w = .ok n w') (h8 : w'.heap = w.heap.setIfInBounds q.1 ob) (h9 : Alike3 w w') (h10 : ORel E inj o (some ob) q.2) (h11 : VRel inj v u)
  | grow (L : Nat) (q : Nat × Nat) (cs cs' : List LV) (n : Next) (u : Value) (w' : World) (hn : NextIs n u) (h1 : lo ≤ L) (h2 : inj L = some q) (h3 : st.mem.get L = some (.cells cs))
      (h6 : st' = newB { st with mem := st.mem.set L .dead } (.cells cs')) (hr : s.run E.P w = .ok n w') (h9 : Alike3 w w')
      (h8 : (∃ ob cnt, w'.heap = w.heap.push ob ∧ ∀ inj', Ext inj inj' → inj' st.nxt = some (w.heap.size, cnt) → VRel inj' v u ∧ ORel E inj' (.cells cs') (some ob) cnt) ∨
        (∃ ob, w'.heap = w.heap.setIfInBounds q.1 ob ∧ (cover = true → ORel E inj (.cells cs) (some ob) q.2) ∧
          ∀ inj', Ext inj inj' → inj' st.nxt = some q → VRel inj' v u ∧ ORel E inj' (.cells cs') (some ob) q.2))

section
variable {E : Env} {B : Nat} {inj : Inj} {st st' : LSt} {w : World} {fr : LFr} {a : Act} {lo : Nat} {cover wr : Bool} {v : LV}

theorem LOut.of_val {s : Sem Value} (h : st' = st) (hv : ValOut E inj v w s) : LOut E inj lo cover wr st w v st' (do pure (.value (← s))) := by
  obtain ⟨u, hu, hr⟩ := hv
  exact .same h _ u (Or.inl rfl) (by simp [hu]) hr

theorem LOut.of_fresh {s : Sem Value} (h : FreshOut E inj st w v st' s) : LOut E inj lo cover wr st w v st' (do pure (.value (← s))) := by
  obtain ⟨o, ob, n, u, w', h1, h2, h3, h4, h5⟩ := h
  exact .fresh o ob n _ u w' (Or.inl rfl) h1 (by simp [h2]) h3 h4 h5

theorem LOut.of_store {s : Sem Unit} (hc : cover = true → wr = true) (h : StoreOut E inj lo st w st' s) : LOut E inj lo cover wr st w lundef st' (do s; pure .skip) := by
  obtain ⟨L, q, old, o, ob, w', h1, h2, h3, h4, h5, h6, h7, h8, h9, h10⟩ := h
  exact .store hc L q old o ob _ undef w' (Or.inr ⟨rfl, rfl⟩) h1 h2 h3 h4 h5 h6 (by simp [h7]) h8 h9 h10 VRel.undef

theorem LOut.of_storeV {s : Sem Value} (hc : cover = true → wr = true) (h : StoreVOut E inj lo st w v st' s) : LOut E inj lo cover wr st w v st' (do pure (.value (← s))) := by
  obtain ⟨L, q, old, o, ob, w', u, h1, h2, h3, h4, h5, h6, h7, h8, h9, h10, h11⟩ := h
  exact .store hc L q old o ob _ u w' (Or.inl rfl) h1 h2 h3 h4 h5 h6 (by simp [h7]) h8 h9 h10 h11

theorem LOut.of_app {s : Sem Value} (h : AppOut E inj lo cover st w v st' s) : LOut E inj lo cover wr st w v st' (do pure (.value (← s))) := by
  cases h with
  | same h hv => exact .of_val h hv
  | fresh h => exact .of_fresh h
  | store hc L q old o ob u w' h1 h2 h3 h4 h5 h6 h7 h8 h9 h10 h11 =>
    exact .store (fun e => by rw [hc] at e; cases e) L q old o ob _ u w' (Or.inl rfl) h1 h2 h3 h4 h5 h6 (by simp [h7]) h8 h9 h10 h11
  | grow L q cs cs' u w' h1 h2 h3 h6 h7 h9 h8 => exact .grow L q cs cs' _ u w' (Or.inl rfl) h1 h2 h3 h6 (by simp [h7]) h9 h8

theorem LOut.of_conv {s : Sem Value} (h : ConvOut E inj st w v st' s) : LOut E inj lo cover wr st w v st' (do pure (.value (← s))) := by
  rcases h with ⟨h, hv⟩ | h
  · exact .of_val h hv
  · exact .of_fresh h

def isCallV : Op → Bool
  | .call c => match c.callee with
    | .value _ => true
    | _ => false
  | _ => false

def isWrite : Op → Bool
  | .store .. => true
  | .mapUpdate .. => true
  | .mapEntry .. => true
  | .entryStore .. => true
  | _ => false

theorem vop_light (hE : E.Ok) (hm : Emb E B inj st w) {call : CallFn} {o : Oper} (hx : ∀ x ∈ o.op.operands, XRel inj fr a x) (hc : isCallV o.op = false)
    (h : vop E call lo cover fr st o.op = some (v, st')) : LOut E inj lo cover (isWrite o.op) st w v st' (execOp a.eval o) := by
  obtain ⟨dst, op, ty, pos, after, guard⟩ := o
  cases op <;> simp only [vop, reduceCtorEq] at h <;> simp only [Op.operands] at hx
  case move x =>
    unfold opMove at h; split at h
    · rename_i y hy; simp only [Option.some.injEq, Prod.mk.injEq] at h; obtain ⟨rfl, rfl⟩ := h
      exact .same rfl _ _ (Or.inl rfl) (by simp [execOp]) (hx x (by simp) _ hy)
    · cases h
  case assign x =>
    unfold opMove at h; split at h
    · rename_i y hy; simp only [Option.some.injEq, Prod.mk.injEq] at h; obtain ⟨rfl, rfl⟩ := h
      exact .same rfl _ _ (Or.inl rfl) (by simp [execOp]) (hx x (by simp) _ hy)
    · cases h
  case pick c p q =>
    unfold opPick at h; split at h
    · rename_i t ht
      have h0 := hx c (by simp) _ ht
      simp only [VRel] at h0
      unfold opMove at h; split at h
      · rename_i y hy; simp only [Option.some.injEq, Prod.mk.injEq] at h; obtain ⟨rfl, rfl⟩ := h
        cases t with
        | true => exact .same rfl _ _ (Or.inl rfl) (by simp [execOp, h0, asBool]) (hx p (by simp) _ hy)
        | false => exact .same rfl _ _ (Or.inl rfl) (by simp [execOp, h0, asBool]) (hx q (by simp) _ hy)
      · cases h
    · cases h
  case alloc t => exact .of_fresh (opAlloc_sound hE h)
  case box t x => exact .of_fresh (opBox_sound (hx x (by simp)) h)
  case build t ps =>
    unfold opBuild at h; split at h
    · rename_i l hl
      split at h
      · rename_i z hz; simp only [Option.some.injEq, Prod.mk.injEq] at h; obtain ⟨rfl, rfl⟩ := h
        exact .of_val rfl (buildL_sound hE (fun x hx' => hx x (by simpa using hx')) hl hz)
      · cases h
    · cases h
  case buildSlice t n ps => exact .of_fresh (opBuildSlice_sound hE (fun x hx' => hx x (by simpa using hx')) h)
  case load t x =>
    unfold opLoad at h; split at h
    · rename_i b o hb
      split at h
      · rename_i z hz; simp only [Option.some.injEq, Prod.mk.injEq] at h; obtain ⟨rfl, rfl⟩ := h
        have h0 := hx x (by simp) _ hb
        simp only [VRel] at h0
        obtain ⟨r, hr, hv⟩ := h0
        obtain ⟨u, hu, hr'⟩ := loadV_sound hE hm hz hr
        exact .of_val rfl ⟨u, by simp only [Instr.loadAt, hv, Instr.sureAddr, Sem.run_bind, Sem.run_pure, Result.andThen_ok, hu], hr'⟩
      · cases h
    · cases h
  case store t p x =>
    unfold opStore at h; split at h
    · rename_i b o hb
      split at h
      · rename_i z hz
        split at h
        · rename_i st2 hst
          simp only [Option.some.injEq, Prod.mk.injEq] at h; obtain ⟨rfl, rfl⟩ := h
          have h0 := hx p (by simp) _ hb
          simp only [VRel] at h0
          obtain ⟨r, hr, hv⟩ := h0
          have h1 := hx x (by simp) _ hz
          unfold storeV at hst
          split at hst
          · rename_i n hn
            obtain ⟨i, hi, hs⟩ := hE.size _ _ hn
            cases hb : Nat.beq z.cells.length n with
            | false => rw [hb] at hst; simp at hst
            | true =>
              rw [hb] at hst; simp only [cond_true] at hst
              have hb := Nat.eq_of_beq_eq_true hb
              have hl := h1.cells.length
              simp only [Array.length_toList] at hl
              obtain ⟨L, q, old, o', ob, w', g1, g2, g3, g4, g5, g6, g7, g8, g9, g10⟩ := storeN_sound (w := w) hm hr h1.cells hst
              refine .of_store (fun _ => rfl) ⟨L, q, old, o', ob, w', g1, g2, g3, g4, g5, g6, ?_, g8, g9, g10⟩
              simp only [Instr.storeAt, hv, Instr.sureAddr, Sem.run_bind, Sem.run_pure, Result.andThen_ok, storeVar, r_size hi]
              rw [if_neg (by simp; omega)]
              exact g7
          · cases hst
        · cases h
      · cases h
    · cases h
  case nilCheck x =>
    unfold opNil at h; split at h
    · rename_i b o hb
      simp only [Option.some.injEq, Prod.mk.injEq] at h; obtain ⟨rfl, rfl⟩ := h
      have h0 := hx x (by simp) _ hb
      have h1 := h0
      simp only [VRel] at h1
      obtain ⟨r, hr, hv⟩ := h1
      exact .same rfl _ _ (Or.inl rfl) (by simp [execOp, hv]; rfl) (by rw [← hv]; exact h0)
    · cases h
  case binOp op t x y t' =>
    unfold opBin at h; split at h
    · rename_i p hp
      split at h
      · rename_i q hq
        split at h
        · rename_i z hz; simp only [Option.some.injEq, Prod.mk.injEq] at h; obtain ⟨rfl, rfl⟩ := h
          exact .of_val rfl (binL_sound hE hz (hx x (by simp) _ hp) (hx y (by simp) _ hq) x y)
        · cases h
      · cases h
    · cases h
  case unOp op t x =>
    unfold opUn at h; split at h
    · rename_i p hp
      split at h
      · rename_i z hz; simp only [Option.some.injEq, Prod.mk.injEq] at h; obtain ⟨rfl, rfl⟩ := h
        exact .of_val rfl (unL_sound hz (hx x (by simp) _ hp))
      · cases h
    · cases h
  case convert s d x =>
    unfold opConv at h; split at h
    · rename_i p hp
      exact .of_conv (convL_sound hE hm (hx x (by simp) _ hp) h)
    · cases h
  case makeFunc fn first cap =>
    unfold opFunc at h; split at h
    · split at h
      · rename_i f1 hf1
        split at h
        · rename_i c1 hc1
          simp only [Option.some.injEq, Prod.mk.injEq] at h; obtain ⟨rfl, rfl⟩ := h
          have r1 := levals_rel (fun x hx' => hx x (by simp at hx' ⊢; exact Or.inl hx')) hf1
          have r2 := levals_rel (fun x hx' => hx x (by simp at hx' ⊢; exact Or.inr hx')) hc1
          refine .of_val rfl ⟨_, by simp [Instr.makeFunc]; rfl, ?_⟩
          simp only [VRel]
          exact ⟨_, _, rfl, by simpa using r1, by simpa using r2⟩
        · cases h
      · cases h
    · cases h
  case makeMap t r => exact .of_fresh (opMakeMap_sound h)
  case makeSlice t l c => exact .of_fresh (opMakeSlice_sound hE (hx l (by simp)) (hx c (by simp)) h)
  case slice t x l hh m =>
    unfold opSlice at h; split at h
    · rename_i p hp
      split at h
      · rename_i z hz; simp only [Option.some.injEq, Prod.mk.injEq] at h; obtain ⟨rfl, rfl⟩ := h
        exact .of_val rfl (sliceL_sound hE (fun y hy => hx y (by simp [hy])) (fun y hy => hx y (by simp [hy])) (fun y hy => hx y (by simp [hy])) hz (hx x (by simp) _ hp))
      · cases h
    · cases h
  case fieldAddr s x f =>
    unfold opFieldAddr at h; split at h
    · rename_i p hp
      split at h
      · rename_i z hz; simp only [Option.some.injEq, Prod.mk.injEq] at h; obtain ⟨rfl, rfl⟩ := h
        exact .of_val rfl (fieldAddrL_sound hE hz (hx x (by simp) _ hp))
      · cases h
    · cases h
  case field s x f =>
    unfold opField at h; split at h
    · rename_i p hp
      split at h
      · rename_i z hz; simp only [Option.some.injEq, Prod.mk.injEq] at h; obtain ⟨rfl, rfl⟩ := h
        exact .of_val rfl (fieldL_sound hE hz (hx x (by simp) _ hp))
      · cases h
    · cases h
  case indexAddr t x i =>
    unfold opIndexAddr at h; split at h
    · rename_i p hp
      split at h
      · rename_i q hq
        split at h
        · rename_i z hz; simp only [Option.some.injEq, Prod.mk.injEq] at h; obtain ⟨rfl, rfl⟩ := h
          exact .of_val rfl (indexAddrL_sound hE hz (hx x (by simp) _ hp) (hx i (by simp) _ hq))
        · cases h
      · cases h
    · cases h
  case index t x i =>
    unfold opIndex at h; split at h
    · rename_i p hp
      split at h
      · rename_i q hq
        split at h
        · rename_i z hz; simp only [Option.some.injEq, Prod.mk.injEq] at h; obtain ⟨rfl, rfl⟩ := h
          exact .of_val rfl (indexL_sound hE hz (hx x (by simp) _ hp) (hx i (by simp) _ hq))
        · cases h
      · cases h
    · cases h
  case lookup t x i ok =>
    unfold opLookup at h; split at h
    · rename_i p hp
      split at h
      · rename_i q hq
        split at h
        · rename_i z hz; simp only [Option.some.injEq, Prod.mk.injEq] at h; obtain ⟨rfl, rfl⟩ := h
          exact .of_val rfl (lookupL_sound hE hm hz (hx x (by simp) _ hp) (hx i (by simp) _ hq))
        · cases h
      · cases h
    · cases h
  case mapUpdate t m k x =>
    unfold opMapUpdate at h; split at h
    · rename_i p hp
      split at h
      · rename_i q hq
        split at h
        · rename_i y hy
          split at h
          · rename_i st2 hst; simp only [Option.some.injEq, Prod.mk.injEq] at h; obtain ⟨rfl, rfl⟩ := h
            exact .of_store (fun _ => rfl) (mapSetL_sound hE hm hst (hx m (by simp) _ hp) (hx k (by simp) _ hq) (hx x (by simp) _ hy))
          · cases h
        · cases h
      · cases h
    · cases h
  case mapEntry t m k =>
    unfold opMapEntry at h; split at h
    · rename_i p hp
      split at h
      · rename_i q hq
        exact .of_storeV (fun _ => rfl) (mapEntryL_sound hE hm h (hx m (by simp) _ hp) (hx k (by simp) _ hq))
      · cases h
    · cases h
  case entryStore t m k x =>
    unfold opEntryStore at h; split at h
    · rename_i p hp
      split at h
      · rename_i q hq
        split at h
        · rename_i y hy
          split at h
          · rename_i st2 hst; simp only [Option.some.injEq, Prod.mk.injEq] at h; obtain ⟨rfl, rfl⟩ := h
            exact .of_store (fun _ => rfl) (entryStoreL_sound hm hst (hx m (by simp) _ hp) (hx k (by simp) _ hq) (hx x (by simp) _ hy))
          · cases h
        · cases h
      · cases h
    · cases h
  case range t x =>
    unfold opRange at h; split at h
    · rename_i p hp
      exact .of_fresh (rangeL_sound hE hm h (hx x (by simp) _ hp))
    · cases h
  case entry x =>
    unfold opEntry at h; split at h
    · rename_i p hp
      split at h
      · rename_i z hz; simp only [Option.some.injEq, Prod.mk.injEq] at h; obtain ⟨rfl, rfl⟩ := h
        exact .of_val rfl (entryL_sound hm hz (hx x (by simp) _ hp))
      · cases h
    · cases h
  case extract t i =>
    unfold opExtract at h; split at h
    · rename_i vs hvs
      split at h
      · rename_i z hz; simp only [Option.some.injEq, Prod.mk.injEq] at h; obtain ⟨rfl, rfl⟩ := h
        have h0 := hx t (by simp) _ hvs
        simp only [VRel] at h0
        obtain ⟨us, hu, hr⟩ := h0
        obtain ⟨u, hu', hr'⟩ := hr.get? hz
        exact .of_val rfl ⟨u, by simp [Instr.extract, hu, show us[i]? = some u by simpa using hu'], hr'⟩
      · cases h
    · cases h
  case call c =>
    obtain ⟨callee, args, argTypes⟩ := c
    unfold opCall at h; split at h
    · rename_i vs hvs
      cases callee with
      | value f => simp [isCallV] at hc
      | invoke r m => simp at h
      | builtin b =>
        simp only at h
        have hr := levals_rel (fun x hx' => hx x (show x ∈ (#[] : Array Operand) ++ args from Array.mem_append.2 (Or.inr (Array.mem_toList_iff.1 hx')))) hvs
        have hr' : (args.map a.eval) = (args.toList.map a.eval).toArray := by rw [← Array.toList_map]
        unfold builtinL at h
        split at h
        · -- len
          rename_i x t ts hts
          cases hz : lenB E st t x with
          | none => simp [hz] at h
          | some z =>
            simp [hz] at h; obtain ⟨rfl, rfl⟩ := h
            simp only [VRels] at hr
            obtain ⟨u, _, hu, hr0, rfl⟩ := hr
            obtain ⟨y, hy, hy'⟩ := lenB_sound hE hm (u := u) (ts := argTypes) (by rw [← Array.getElem?_toList, hts]; rfl) hr0 hz ty
            have := LOut.of_val (lo := lo) (cover := cover) (wr := false) (st := st) (st' := st) rfl ⟨y, hy, hy'⟩
            simpa only [execOp, resolve, Sem.run_bind, invoke, builtin, hr', hu, pure_bind, isWrite] using this
        · -- append
          rename_i s x t t' hts
          split at h
          · rename_i e he
            simp only [VRels] at hr
            obtain ⟨u, _, hu, hr0, u', _, hu', hr1, rfl⟩ := hr
            subst hu'
            have := LOut.of_app (wr := false) (appendL_sound hE hm (ts := argTypes) (ty := ty) (by rw [← Array.getElem?_toList, hts]; rfl) (by rw [← Array.getElem?_toList, hts]; rfl) ⟨_, hE.und _ _ he, Or.inl ⟨_, rfl⟩⟩ hr0 hr1 h)
            simpa only [execOp, resolve, Sem.run_bind, invoke, builtin, hr', hu, pure_bind, isWrite] using this
          · rename_i he
            simp only [VRels] at hr
            obtain ⟨u, _, hu, hr0, u', _, hu', hr1, rfl⟩ := hr
            subst hu'
            have := LOut.of_app (wr := false) (appendL_sound hE hm (ts := argTypes) (ty := ty) (by rw [← Array.getElem?_toList, hts]; rfl) (by rw [← Array.getElem?_toList, hts]; rfl) ⟨_, hE.und _ _ he, Or.inr rfl⟩ hr0 hr1 h)
            simpa only [execOp, resolve, Sem.run_bind, invoke, builtin, hr', hu, pure_bind, isWrite] using this
          · cases h
        · -- min
          simp only [Option.map_eq_some_iff] at h
          obtain ⟨z, hz, he⟩ := h
          simp only [Prod.mk.injEq] at he
          obtain ⟨rfl, rfl⟩ := he
          have := LOut.of_val (E := E) (lo := lo) (cover := cover) (wr := false) (st := st) (st' := st) rfl (minL_sound (w := w) hz hr argTypes ty)
          simpa only [execOp, resolve, Sem.run_bind, invoke, builtin, hr', pure_bind, isWrite] using this
        · simp only [Option.map_eq_some_iff] at h
          obtain ⟨z, hz, he⟩ := h
          simp only [Prod.mk.injEq] at he
          obtain ⟨rfl, rfl⟩ := he
          have := LOut.of_val (E := E) (lo := lo) (cover := cover) (wr := false) (st := st) (st' := st) rfl (maxL_sound (w := w) hz hr argTypes ty)
          simpa only [execOp, resolve, Sem.run_bind, invoke, builtin, hr', pure_bind, isWrite] using this
        · cases h
    · cases h
end
end Go.Proofs.Ytpkeggejofeeeaa.Lvm
