/- Laws of the small machine and of how it stands to the model; a helper of the statements: no statement is proved here. -/
import Derived.Test.YtpkeggejofeeeaaS10a
namespace Go.Proofs.Ytpkeggejofeeeaa.Lvm
section
variable {E : Env} {B : Nat} {inj : Inj} {st st' : LSt} {w : World} {fr : LFr} {a : Act} {lo : Nat}

theorem ba_eq {a b : ByteArray} (h : (a == b) = true) : a = b := by
  obtain ⟨x⟩ := a; obtain ⟨y⟩ := b
  have h' : (x == y) = true := h
  rw [eq_of_beq h']
theorem ba_refl (a : ByteArray) : (a == a) = true := by
  obtain ⟨x⟩ := a
  have h' : (x == x) = true := beq_self_eq_true x
  exact h'
theorem cell_eq {k : CK} {x y : LV} (f1 : Fit1 k x) (f2 : Fit1 k y) (h : cellsEq [x] [y] = true) : x = y := by
  cases f1 <;> cases f2 <;> simp only [cellsEq, Bool.and_true] at h
  · rw [eq_of_beq h]
  · rw [ba_eq h]
  · rw [eq_of_beq h]
theorem cell_refl {k : CK} {x : LV} (f1 : Fit1 k x) : cellsEq [x] [x] = true := by
  cases f1 <;> simp [cellsEq, ba_refl]
theorem cell_bits {k : CK} {x : LV} (f1 : Fit1 k x) (n : Nat) : Instr.sameBits n (fv x) (fv x) = true := by
  cases f1 <;> cases n <;> simp [fv, Instr.sameBits, ba_refl]

theorem ERels.get? : ∀ {es : List (LV × LV)} {l : List MapEntry} (_ : ERels inj es l) {i : Nat} {p : LV × LV}, es[i]? = some p → ∃ e, l[i]? = some e ∧ VRel inj p.1 e.key ∧ VRel inj p.2 e.val
  | [], _, _, i, p, h => by simp at h
  | (k, x) :: es, _, e, i, p, h => by
    simp only [ERels] at e
    obtain ⟨a, r, rfl, h1, h2, h3⟩ := e
    cases i with
    | zero => simp at h; subst h; exact ⟨a, by simp, h1, h2⟩
    | succ i => simp at h; obtain ⟨u, hu, hr⟩ := h3.get? h; exact ⟨u, by simpa using hu, hr⟩

theorem ERels.set : ∀ {es : List (LV × LV)} {l : List MapEntry} (i : Nat) {k x : LV} (f : MapEntry → MapEntry), ERels inj es l →
    (∀ e, l[i]? = some e → VRel inj k (f e).key ∧ VRel inj x (f e).val) → ERels inj (es.set i (k, x)) (l.modify i f)
  | [], _, i, _, _, _, e, _ => by
    simp only [ERels] at e; subst e
    have : ([] : List MapEntry).modify i = fun _ => [] := by funext g; cases i <;> rfl
    cases i <;> simp [ERels]
  | (k', x') :: es, _, 0, k, x, f, e, h => by
    simp only [ERels] at e
    obtain ⟨a, r, rfl, h1, h2, h3⟩ := e
    obtain ⟨g1, g2⟩ := h a rfl
    simp only [List.set_cons_zero, List.modify_zero_cons, ERels]
    exact ⟨_, _, rfl, g1, g2, h3⟩
  | (k', x') :: es, _, i + 1, k, x, f, e, h => by
    simp only [ERels] at e
    obtain ⟨a, r, rfl, h1, h2, h3⟩ := e
    simp only [List.set_cons_succ, List.modify_succ_cons, ERels]
    exact ⟨_, _, rfl, h1, h2, h3.set i f fun e he => h e (by simpa using he)⟩

theorem ERels.push : ∀ {es : List (LV × LV)} {l : List MapEntry} {k x : LV} {e : MapEntry}, ERels inj es l → VRel inj k e.key → VRel inj x e.val → ERels inj (es ++ [(k, x)]) (l ++ [e])
  | [], _, _, _, e, h, h1, h2 => by
    simp only [ERels] at h; subst h
    simp only [List.nil_append, ERels]; exact ⟨e, [], rfl, h1, h2, rfl⟩
  | (k', x') :: es, _, k, x, e, h, h1, h2 => by
    simp only [ERels] at h
    obtain ⟨a, r, rfl, g1, g2, g3⟩ := h
    simp only [List.cons_append, ERels]; exact ⟨a, _, rfl, g1, g2, g3.push h1 h2⟩

theorem findL_some {k : LV} : ∀ {es : List (LV × LV)} {i j : Nat} {x : LV}, findL k es i = some (j, x) → i ≤ j ∧ ∃ p, es[j - i]? = some p ∧ cellsEq k.cells p.1.cells = true ∧ p.2 = x
  | [], _, _, _, h => by simp [findL] at h
  | (k', v) :: es, i, j, x, h => by
    simp only [findL] at h
    cases hc : cellsEq k.cells k'.cells with
    | true =>
      rw [hc] at h; simp only [cond_true, Option.some.injEq, Prod.mk.injEq] at h
      obtain ⟨rfl, rfl⟩ := h
      exact ⟨Nat.le_refl _, (k', v), by simp, hc, rfl⟩
    | false =>
      rw [hc] at h; simp only [cond_false] at h
      obtain ⟨h1, p, h2, h3, h4⟩ := findL_some h
      refine ⟨by omega, p, ?_, h3, h4⟩
      rw [show j - i = (j - (i + 1)) + 1 by omega]; simpa using h2

def FindRes (inj : Inj) (k : LV) (es : List (LV × LV)) (i : Nat) (r : Option (Nat × Value)) : Prop :=
  match findL k es i with
  | none => r = none
  | some (j, x) => ∃ v, r = some (j, v) ∧ VRel inj x v

theorem FindRes.hit {k k' v : LV} {es : List (LV × LV)} {i : Nat} {u : Value} (hc : cellsEq k.cells k'.cells = true) (hv : VRel inj v u) : FindRes inj k ((k', v) :: es) i (some (i, u)) := by
  simp only [FindRes, findL, hc, cond_true]; exact ⟨u, rfl, hv⟩
theorem FindRes.miss {k k' v : LV} {es : List (LV × LV)} {i : Nat} {r : Option (Nat × Value)} (hc : cellsEq k.cells k'.cells = false) (h : FindRes inj k es (i + 1) r) : FindRes inj k ((k', v) :: es) i r := by
  simp only [FindRes, findL, hc, cond_false] at h ⊢; exact h

theorem equal_flat {t : TypeId} {ks : List CK} {xs ys : List LV} (h : flatB E.P 8 t = some ks) (hx : ckFit ks xs = true) (hy : ckFit ks ys = true) :
    (Op.equal t (flatV E.P t xs) (flatV E.P t ys)).run E.P w = .ok (cellsEq xs ys) w :=
  run_equalIn_flat 8 _ (by decide) t ks xs ys h hx hy

theorem asking_sound (hE : E.Ok) {kt : TypeId} {k : LV} {ks : List CK} (hf : flatB E.P 8 kt = some ks) (hk : ckFit ks k.cells = true) :
    ∀ (es : List (LV × LV)) (l : List MapEntry) (i : Nat), ERels inj es l → (∀ p ∈ es, keyOk E kt p.1 = some true) →
      ∃ r, (Instr.findAsking kt (flatV E.P kt k.cells) l i).run E.P w = .ok r w ∧ FindRes inj k es i r
  | [], l, i, he, _ => by
    simp only [ERels] at he; subst he
    exact ⟨none, by simp [Instr.findAsking], rfl⟩
  | (k', x) :: es, l, i, he, hok => by
    simp only [ERels] at he
    obtain ⟨e, r, rfl, h1, h2, h3⟩ := he
    obtain ⟨ks', D', hf', hu', ha', hc', hv'⟩ := key_val hE (hok _ (List.mem_cons_self ..)) h1
    rw [hf] at hf'; simp only [Option.some.injEq] at hf'; subst hf'
    simp only [Instr.findAsking, Sem.run_bind, hv', equal_flat hf hk hc', Result.andThen_ok]
    cases hc : cellsEq k.cells k'.cells with
    | true => exact ⟨_, by simp, FindRes.hit hc h2⟩
    | false =>
      obtain ⟨r', g1, g2⟩ := asking_sound hE hf hk es r (i + 1) h3 fun p hp => hok p (List.mem_cons_of_mem _ hp)
      exact ⟨r', by simpa using g1, FindRes.miss hc g2⟩

theorem now_sound (hE : E.Ok) {kt : TypeId} {D : TypeDesc} {k : LV} {ks : List CK} (hf : flatB E.P 8 kt = some ks) (hu : E.P.underlying kt = some D) (hk : ckFit ks k.cells = true) :
    ∀ (es : List (LV × LV)) (l : List MapEntry) (i : Nat), ERels inj es l → (∀ p ∈ es, keyOk E kt p.1 = some true) → ∀ r, Instr.findNow D (flatV E.P kt k.cells) l i = some r → FindRes inj k es i r
  | [], l, i, he, _, r, h => by
    simp only [ERels] at he; subst he
    simp only [Instr.findNow, Option.some.injEq] at h; subst h; rfl
  | (k', x) :: es, l, i, he, hok, r, h => by
    simp only [ERels] at he
    obtain ⟨e, l', rfl, h1, h2, h3⟩ := he
    obtain ⟨ks', D', hf', hu', ha', hc', hv'⟩ := key_val hE (hok _ (List.mem_cons_self ..)) h1
    rw [hf] at hf'; simp only [Option.some.injEq] at hf'; subst hf'
    have hsame : ∀ b, Instr.sameNow D (flatV E.P kt k.cells) e.key = some b → b = cellsEq k.cells k'.cells := by
      intro b hb
      rw [hv'] at hb
      have hf2 := hf
      simp only [flatB] at hf2
      rw [hu] at hf2
      cases D <;> simp only [reduceCtorEq] at hf2
      case bool =>
        simp only [Option.some.injEq] at hf2; subst hf2
        obtain ⟨_, _, e1, f1, g1⟩ := ckFit_cons hk
        obtain ⟨_, _, e2, f2, g2⟩ := ckFit_cons hc'
        have := List.eq_nil_of_length_eq_zero (ckFit_length g1); subst this
        have := List.eq_nil_of_length_eq_zero (ckFit_length g2); subst this
        cases f1; cases f2
        rw [e1, e2] at hb ⊢
        simp [flatV, hu, isAggD, fv, Instr.sameNow] at hb
        simp [cellsEq, ← hb]
      case string =>
        simp only [Option.some.injEq] at hf2; subst hf2
        obtain ⟨_, _, e1, f1, g1⟩ := ckFit_cons hk
        obtain ⟨_, _, e2, f2, g2⟩ := ckFit_cons hc'
        have := List.eq_nil_of_length_eq_zero (ckFit_length g1); subst this
        have := List.eq_nil_of_length_eq_zero (ckFit_length g2); subst this
        cases f1; cases f2
        rw [e1, e2] at hb ⊢
        simp [flatV, hu, isAggD, fv, Instr.sameNow] at hb
        simp [cellsEq, ← hb]
      case int q =>
        simp only [Option.some.injEq] at hf2; subst hf2
        obtain ⟨_, _, e1, f1, g1⟩ := ckFit_cons hk
        obtain ⟨_, _, e2, f2, g2⟩ := ckFit_cons hc'
        have := List.eq_nil_of_length_eq_zero (ckFit_length g1); subst this
        have := List.eq_nil_of_length_eq_zero (ckFit_length g2); subst this
        cases f1; cases f2
        rw [e1, e2] at hb ⊢
        simp [flatV, hu, isAggD, fv, Instr.sameNow] at hb
        simp [cellsEq, ← hb]
      case array => simp [Instr.sameNow] at hb
      case struct => simp [Instr.sameNow] at hb
    simp only [Instr.findNow] at h
    split at h
    · rename_i hb
      simp only [Option.some.injEq] at h; subst h
      exact FindRes.hit (hsame _ hb).symm h2
    · rename_i hb
      exact FindRes.miss (hsame _ hb).symm (now_sound hE hf hu hk es l' (i + 1) h3 (fun p hp => hok p (List.mem_cons_of_mem _ hp)) r h)
    · cases h

theorem find_sound (hE : E.Ok) {kt : TypeId} {k : LV} {kv : Value} (hk : keyOk E kt k = some true) (hv : VRel inj k kv) {es : List (LV × LV)} {l : List MapEntry} (he : ERels inj es l)
    (hok : ∀ p ∈ es, keyOk E kt p.1 = some true) : ∃ r, (Instr.findKey kt kv l).run E.P w = .ok r w ∧ FindRes inj k es 0 r := by
  obtain ⟨ks, D, hf, hu, ha, hc, rfl⟩ := key_val hE hk hv
  simp only [Instr.findKey, Sem.run_bind, r_und hu, Result.andThen_ok]
  split
  · rename_i r hr
    exact ⟨r, by simp, now_sound hE hf hu hc es l 0 he hok r hr⟩
  · exact asking_sound hE hf hc es l 0 he hok

theorem sameBits_flat (n : Nat) : ∀ {ks : List CK} {xs ys : List LV}, ckFit ks xs = true → ckFit ks ys = true → cellsEq xs ys = true →
    ((xs.map fv).zip (ys.map fv)).all (fun (x, y) => Instr.sameBits n x y) = true
  | [], [], [], _, _, _ => rfl
  | [], _ :: _, _, h, _, _ => by simp [ckFit] at h
  | [], [], _ :: _, _, h, _ => by simp [ckFit] at h
  | k :: ks, xs, ys, hx, hy, he => by
    obtain ⟨x, xs', rfl, f1, g1⟩ := ckFit_cons hx
    obtain ⟨y, ys', rfl, f2, g2⟩ := ckFit_cons hy
    rw [cellsEq_cons k _ _ _ _ f1 f2] at he
    simp only [Bool.and_eq_true] at he
    simp only [List.map_cons, List.zip_cons_cons, List.all_cons, sameBits_flat n g1 g2 he.2, Bool.and_true]
    rw [cell_eq f1 f2 he.1]
    exact cell_bits f2 n

theorem stays_flat (hE : E.Ok) {kt : TypeId} {k k' : LV} {kv kv' : Value} (hk : keyOk E kt k = some true) (hv : VRel inj k kv) (hk' : keyOk E kt k' = some true) (hv' : VRel inj k' kv')
    (he : cellsEq k.cells k'.cells = true) : (Instr.keyThatStays kv' kv).run E.P w = .ok kv w := by
  obtain ⟨ks, D, hf, hu, ha, hc, rfl⟩ := key_val hE hk hv
  obtain ⟨ks', D', hf', hu', ha', hc', rfl⟩ := key_val hE hk' hv'
  rw [hf] at hf'; simp only [Option.some.injEq] at hf'; subst hf'
  have hsym : ∀ {ks : List CK} {xs ys : List LV}, ckFit ks xs = true → ckFit ks ys = true → cellsEq xs ys = true → cellsEq ys xs = true := by
    intro ks
    induction ks with
    | nil =>
      intro xs ys h1 h2 _
      cases xs <;> cases ys <;> simp_all [ckFit, cellsEq]
    | cons q ks ih =>
      intro xs ys h1 h2 h
      obtain ⟨x, xs', rfl, f1, g1⟩ := ckFit_cons h1
      obtain ⟨y, ys', rfl, f2, g2⟩ := ckFit_cons h2
      rw [cellsEq_cons q _ _ _ _ f1 f2] at h
      rw [cellsEq_cons q _ _ _ _ f2 f1]
      simp only [Bool.and_eq_true] at h ⊢
      refine ⟨?_, ih g1 g2 h.2⟩
      rw [cell_eq f1 f2 h.1]
      exact cell_refl f2
  have hz := sameBits_flat 9999 hc' hc (hsym hc hc' he)
  have : Instr.sameBits 10000 (flatV E.P kt k'.cells) (flatV E.P kt k.cells) = true := by
    simp only [flatV, hu]
    cases hD : isAggD D with
    | true =>
      simp only [cond_true, Instr.sameBits, Bool.and_eq_true, beq_iff_eq]
      refine ⟨by simp [ckFit_length hc, ckFit_length hc'], by simpa using hz⟩
    | false =>
      obtain ⟨_, hu2, hl⟩ := flat_agg hf
      rw [hu] at hu2; simp only [Option.some.injEq] at hu2; subst hu2
      have h1 := hl hD
      match ks, h1 with
      | [q], _ =>
        obtain ⟨x, xs', e1, f1, g1⟩ := ckFit_cons hc
        obtain ⟨y, ys', e2, f2, g2⟩ := ckFit_cons hc'
        have := List.eq_nil_of_length_eq_zero (ckFit_length g1); subst this
        have := List.eq_nil_of_length_eq_zero (ckFit_length g2); subst this
        rw [e1, e2] at he ⊢
        rw [cell_eq f1 f2 he]
        exact cell_bits f2 _
  simp [Instr.keyThatStays, this]

theorem run_map {P : Program} {r : Nat} {c : Array MapEntry} {k : Nat} (h : w.heap[r]? = some (.map c k)) : (getObj r).run P w = .ok (.map c k) w := by
  simp [getObj, Sem.run, h]

theorem chk_ok (hE : E.Ok) {kt : TypeId} {k : LV} {kv : Value} (hk : keyOk E kt k = some true) (hv : VRel inj k kv) (b : Bool) : (Instr.checkKey b 10000 kt kv).run E.P w = .ok () w := by
  obtain ⟨ks, D, hf, hu, ha, hc, rfl⟩ := key_val hE hk hv
  exact chkKey 8 10000 (by decide) kt ks _ hf hc

theorem lookupL_sound (hE : E.Ok) (hm : Emb E B inj st w) {t : TypeId} {x k z : LV} {v kv : Value} {ok : Bool} (h : lookupL E st t x k ok = some z) (hx : VRel inj x v) (hk : VRel inj k kv) :
    ValOut E inj z w (Instr.lookup t v kv ok) := by
  unfold lookupL at h
  split at h
  · rename_i kt et hu
    have hu := hE.und _ _ hu
    split at h
    · rename_i hkey
      split at h
      · rename_i z0 hz0
        obtain ⟨iz, vz, hi, hiz, hlz⟩ := hE.zero _ _ hz0
        have hz := r_zero (w := w) hi hiz
        have hvz : VRel inj z0 vz := lift_rel hlz
        have hrest : ∀ (es : Array MapEntry) (r : Option (Nat × Value)), (Instr.findKey kt kv es.toList).run E.P w = .ok r w →
            (do
              Instr.checkKey es.isEmpty 10000 kt kv
              let (v, ok') ← match ← Instr.findKey kt kv es.toList with
                | some (_, v) => pure (v, true)
                | none => pure (← zeroValue et, false)
              pure (if ok then .tuple #[v, .bool ok'] else v) : Sem Value).run E.P w = .ok (match r with
              | some (_, u) => if ok then .tuple #[u, .bool true] else u
              | none => if ok then .tuple #[vz, .bool false] else vz) w := by
          intro es r hr
          simp only [Sem.run_bind, chk_ok hE hkey hk, Result.andThen_ok, hr]
          cases r with
          | none => simp [hz]
          | some p => simp
        have fin : ∀ (r : Option (Nat × Value)) (o : Option (Nat × LV)), (match o with
              | none => r = none
              | some (j, x) => ∃ v, r = some (j, v) ∧ VRel inj x v) → (match o.map (·.2) with
              | some v => some (if ok then .tup [v, .bool true] else v)
              | none => some (if ok then .tup [z0, .bool false] else z0)) = some z →
            VRel inj z (match r with
              | some (_, u) => if ok then .tuple #[u, .bool true] else u
              | none => if ok then .tuple #[vz, .bool false] else vz) := by
          intro r o ho hz
          cases o with
          | none =>
            simp only at ho; subst ho
            simp only [Option.map_none, Option.some.injEq] at hz; subst hz
            cases ok with
            | false => simpa using hvz
            | true => simp only [if_true, VRel]; exact ⟨_, rfl, by simpa using VRels.cons hvz (VRels.cons (by simp [VRel]) VRels.nil)⟩
          | some p =>
            obtain ⟨j, x⟩ := p
            simp only at ho
            obtain ⟨u, rfl, hu⟩ := ho
            simp only [Option.map_some, Option.some.injEq] at hz; subst hz
            cases ok with
            | false => simpa using hu
            | true => simp only [if_true, VRel]; exact ⟨_, rfl, by simpa using VRels.cons hu (VRels.cons (by simp [VRel]) VRels.nil)⟩
        cases x <;> simp only [reduceCtorEq] at h
        case nilmap =>
          simp only [VRel] at hx; subst hx
          obtain ⟨r, h1, h2⟩ := find_sound (w := w) hE hkey hk (es := []) (l := []) (by simp [ERels]) (by simp)
          refine ⟨_, ?_, fin r none ?_ (by simpa using h)⟩
          · have := hrest #[] r h1
            simp only [Sem.run_bind] at this
            simp only [Instr.lookup, Sem.run_bind, r_und hu, Result.andThen_ok, Sem.run_pure]
            exact this
          · simpa [FindRes, findL] using h2
        case map m =>
          simp only [VRel] at hx
          obtain ⟨r0, n, hq, rfl⟩ := hx
          cases hes : st.mem.get m with
          | none => rw [hes] at h; simp at h
          | some o =>
            rw [hes] at h
            cases o <;> simp only [reduceCtorEq] at h
            rename_i kt' es
            obtain ⟨c, clk, g1, g2, g3, g4, g5⟩ := hm.obj _ _ _ hq hes
            simp only at g1
            cases hb : Nat.beq kt' kt with
            | false => rw [hb] at h; simp at h
            | true =>
              have hb' := Nat.eq_of_beq_eq_true hb
              subst hb'
              rw [hb] at h
              simp only [cond_true] at h
              obtain ⟨r, h1, h2⟩ := find_sound (w := w) hE hkey hk g2 g3
              refine ⟨_, ?_, fin r (findL k es 0) h2 (by cases hfl : findL k es 0 with
                | none => rw [hfl] at h; exact h
                | some p => rw [hfl] at h; exact h)⟩
              have := hrest c r h1
              simp only [Sem.run_bind] at this
              simp only [Instr.lookup, Sem.run_bind, r_und hu, Result.andThen_ok, run_map g1, Sem.run_pure]
              exact this
      · cases h
    · cases h
  · cases h

theorem mapSetL_sound (hE : E.Ok) (hm : Emb E B inj st w) {t : TypeId} {x k y : LV} {v kv u : Value} (h : mapSetL E lo st t x k y = some st') (hx : VRel inj x v) (hk : VRel inj k kv) (hy : VRel inj y u) :
    StoreOut E inj lo st w st' (Instr.mapUpdate t v kv u) := by
  unfold mapSetL at h
  split at h
  · rename_i kt et hu
    have hu := hE.und _ _ hu
    split at h
    · rename_i hkey
      split at h
      · rename_i m
        simp only [VRel] at hx
        obtain ⟨r, n, hq, rfl⟩ := hx
        cases hlo : Nat.ble lo m with
        | false => rw [hlo] at h; simp at h
        | true =>
          rw [hlo] at h; simp only [cond_true] at h
          split at h
          · rename_i kt' es hes
            obtain ⟨c, clk, h1, h2, h3, h4, h5⟩ := hm.obj _ _ _ hq hes
            simp only at h1
            cases hb : Nat.beq kt' kt with
            | false => rw [hb] at h; simp at h
            | true =>
              have hb := Nat.eq_of_beq_eq_true hb
              subst hb
              rw [Nat.beq_refl] at h
              simp only [cond_true] at h
              obtain ⟨res, g1, g2⟩ := find_sound (w := w) hE hkey hk h2 h3
              have hl := h2.length
              simp only [Array.length_toList] at hl
              split at h
              · rename_i i x0 hf
                obtain ⟨_, p, e1, e2, e3⟩ := findL_some hf
                simp only [FindRes, hf] at g2
                obtain ⟨v0, rfl, hv0⟩ := g2
                simp only [Nat.sub_zero] at e1
                obtain ⟨en, k1, k2, k3⟩ := h2.get? e1
                have hst := stays_flat (w := w) hE hkey hk (h3 p (List.mem_of_getElem? e1)) k2 e2
                simp only [setObjK_eq, Option.some.injEq] at h
                have k1' : c[i]? = some en := by simpa using k1
                refine ⟨m, (r, n), _, _, .map (c.modify i fun e => { e with key := kv, val := u }) clk, { w with heap := w.heap.setIfInBounds r (.map (c.modify i fun e => { e with key := kv, val := u }) clk) }, Nat.le_of_ble_eq_true hlo, hq, hes, by simp, by simp, h.symm, ?_, rfl, ⟨rfl, rfl, rfl⟩, ?_⟩
                · simp only [Instr.mapUpdate, Sem.run_bind, r_und hu, Result.andThen_ok, run_map h1, chk_ok hE hkey hk, g1, k1', Option.map_some, Option.getD_some, hst]
                  simp [setObj, Sem.run, h1]
                · refine ⟨_, _, rfl, ?_, ?_, by simpa using h4, ?_⟩
                  · rw [Array.toList_modify]
                    exact h2.set i _ fun e _ => ⟨hk, hy⟩
                  · intro p' hp'
                    rcases List.mem_or_eq_of_mem_set hp' with hp' | rfl
                    · exact h3 p' hp'
                    · exact hkey
                  · intro j e he
                    rw [Array.toList_modify, List.getElem?_modify] at he
                    cases hc : c.toList[j]? with
                    | none => rw [hc] at he; simp at he
                    | some e0 =>
                      rw [hc] at he
                      have := h5 j e0 hc
                      simp at he
                      subst he
                      split <;> simpa using this
              · rename_i hf
                simp only [FindRes, hf] at g2
                subst g2
                simp only [setObjK_eq, Option.some.injEq] at h
                refine ⟨m, (r, n), _, _, .map (c.push { key := kv, val := u, born := clk }) (clk + 1), { w with heap := w.heap.setIfInBounds r (.map (c.push { key := kv, val := u, born := clk }) (clk + 1)) }, Nat.le_of_ble_eq_true hlo, hq, hes, by simp, by simp, h.symm, ?_, rfl, ⟨rfl, rfl, rfl⟩, ?_⟩
                · simp only [Instr.mapUpdate, Sem.run_bind, r_und hu, Result.andThen_ok, run_map h1, chk_ok hE hkey hk, g1]
                  simp [setObj, Sem.run, h1]
                · refine ⟨_, _, rfl, ?_, ?_, by simp [h4], ?_⟩
                  · rw [Array.toList_push]
                    exact h2.push hk hy
                  · intro p' hp'
                    rcases List.mem_append.1 hp' with hp' | hp'
                    · exact h3 p' hp'
                    · simp at hp'; subst hp'; exact hkey
                  · intro j e he
                    rw [Array.toList_push, List.getElem?_append] at he
                    split at he
                    · exact h5 j e he
                    · rename_i hj
                      simp at hj
                      have hj' : j = c.size := by
                        by_cases e0 : j - c.toList.length = 0
                        · simp at e0; omega
                        · rw [List.getElem?_eq_none (by simp; simp at e0; omega)] at he; cases he
                      subst hj'
                      simp at he
                      subst he
                      simp [h4, hl]
          · cases h
      · cases h
    · cases h
  · cases h
end
end Go.Proofs.Ytpkeggejofeeeaa.Lvm
