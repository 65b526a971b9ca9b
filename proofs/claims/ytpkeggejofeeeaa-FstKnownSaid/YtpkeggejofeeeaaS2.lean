/- Laws of the small machine and of how it stands to the model; a helper of the statements: no statement is proved here. -/
import Derived.Test.YtpkeggejofeeeaaS1
import Derived.Laws.StructEq
import GoSem.Dispatch
namespace Go.Proofs.Ytpkeggejofeeeaa.Lvm

def fv : LV → Value
  | .bool b => .bool b
  | .str s => .string s
  | .int k n => .int k n
  | _ => undef

theorem fit_vals {inj : Inj} : ∀ {ks : List CK} {cs : List LV} {vs : List Value}, ckFit ks cs = true → VRels inj cs vs → vs = cs.map fv
  | [], [], _, _, h => by simp only [VRels] at h; subst h; rfl
  | .bool :: ks, .bool b :: cs, _, hf, h => by
    simp only [VRels, VRel] at h; obtain ⟨v, vs, rfl, rfl, h2⟩ := h
    simp only [ckFit] at hf; simp [fv, fit_vals hf h2]
  | .str :: ks, .str b :: cs, _, hf, h => by
    simp only [VRels, VRel] at h; obtain ⟨v, vs, rfl, rfl, h2⟩ := h
    simp only [ckFit] at hf; simp [fv, fit_vals hf h2]
  | .int k :: ks, .int k' n :: cs, _, hf, h => by
    simp only [VRels, VRel] at h; obtain ⟨v, vs, rfl, rfl, h2⟩ := h
    simp only [ckFit, Bool.and_eq_true] at hf; simp [fv, fit_vals hf.2 h2]
  | [], _ :: _, _, hf, _ => by simp [ckFit] at hf
  | k :: _, [], _, hf, _ => by cases k <;> simp [ckFit] at hf
  | .bool :: _, .int .. :: _, _, hf, _ | .bool :: _, .str _ :: _, _, hf, _ | .bool :: _, .flt .. :: _, _, hf, _ | .bool :: _, .nilp :: _, _, hf, _ | .bool :: _, .ptr .. :: _, _, hf, _
  | .bool :: _, .nilsl :: _, _, hf, _ | .bool :: _, .sl .. :: _, _, hf, _ | .bool :: _, .nilmap :: _, _, hf, _ | .bool :: _, .map _ :: _, _, hf, _ | .bool :: _, .fn .. :: _, _, hf, _
  | .bool :: _, .nilfn :: _, _, hf, _ | .bool :: _, .nilif :: _, _, hf, _ | .bool :: _, .agg _ :: _, _, hf, _ | .bool :: _, .tup _ :: _, _, hf, _ => by simp [ckFit] at hf
  | .str :: _, .int .. :: _, _, hf, _ | .str :: _, .bool _ :: _, _, hf, _ | .str :: _, .flt .. :: _, _, hf, _ | .str :: _, .nilp :: _, _, hf, _ | .str :: _, .ptr .. :: _, _, hf, _
  | .str :: _, .nilsl :: _, _, hf, _ | .str :: _, .sl .. :: _, _, hf, _ | .str :: _, .nilmap :: _, _, hf, _ | .str :: _, .map _ :: _, _, hf, _ | .str :: _, .fn .. :: _, _, hf, _
  | .str :: _, .nilfn :: _, _, hf, _ | .str :: _, .nilif :: _, _, hf, _ | .str :: _, .agg _ :: _, _, hf, _ | .str :: _, .tup _ :: _, _, hf, _ => by simp [ckFit] at hf
  | .int _ :: _, .bool .. :: _, _, hf, _ | .int _ :: _, .str _ :: _, _, hf, _ | .int _ :: _, .flt .. :: _, _, hf, _ | .int _ :: _, .nilp :: _, _, hf, _ | .int _ :: _, .ptr .. :: _, _, hf, _
  | .int _ :: _, .nilsl :: _, _, hf, _ | .int _ :: _, .sl .. :: _, _, hf, _ | .int _ :: _, .nilmap :: _, _, hf, _ | .int _ :: _, .map _ :: _, _, hf, _ | .int _ :: _, .fn .. :: _, _, hf, _
  | .int _ :: _, .nilfn :: _, _, hf, _ | .int _ :: _, .nilif :: _, _, hf, _ | .int _ :: _, .agg _ :: _, _, hf, _ | .int _ :: _, .tup _ :: _, _, hf, _ => by simp [ckFit] at hf

/-- One cell of a kind. -/
inductive Fit1 : CK → LV → Prop where
  | bool (b : Bool) : Fit1 .bool (.bool b)
  | str (s : ByteArray) : Fit1 .str (.str s)
  | int (k : IntKind) (n : Int) : Fit1 (.int k) (.int k n)

theorem ckFit_cons {k : CK} {ks : List CK} {cs : List LV} (h : ckFit (k :: ks) cs = true) : ∃ c r, cs = c :: r ∧ Fit1 k c ∧ ckFit ks r = true := by
  cases cs with
  | nil => cases k <;> simp [ckFit] at h
  | cons c r =>
    refine ⟨c, r, rfl, ?_⟩
    cases k <;> cases c <;> simp only [ckFit, Bool.false_eq_true, Bool.and_eq_true, beq_iff_eq] at h
    · exact ⟨.bool _, h⟩
    · exact ⟨.str _, h⟩
    · obtain ⟨rfl, h⟩ := h; exact ⟨.int _ _, h⟩

theorem ckFit_length : ∀ {ks : List CK} {cs : List LV}, ckFit ks cs = true → cs.length = ks.length
  | [], [], _ => rfl
  | [], _ :: _, h => by simp [ckFit] at h
  | k :: ks, cs, h => by
    obtain ⟨c, r, rfl, _, h2⟩ := ckFit_cons h
    simp [ckFit_length h2]

theorem ckFit_split : ∀ {a b : List CK} {cs : List LV}, ckFit (a ++ b) cs = true → ckFit a (cs.take a.length) = true ∧ ckFit b (cs.drop a.length) = true
  | [], b, cs, h => by simpa [ckFit] using h
  | k :: a, b, cs, h => by
    obtain ⟨c, r, rfl, h1, h2⟩ := ckFit_cons (by simpa using h)
    obtain ⟨h3, h4⟩ := ckFit_split h2
    refine ⟨?_, by simpa using h4⟩
    cases h1 <;> simp [ckFit, h3]

theorem cellsEq_cons (k : CK) (c d : LV) (cs ds : List LV) (h : Fit1 k c) (h' : Fit1 k d) : cellsEq (c :: cs) (d :: ds) = (cellsEq [c] [d] && cellsEq cs ds) := by
  cases h <;> cases h' <;> simp [cellsEq]

theorem cellsEq_split : ∀ {a : List CK} {xs ys : List LV}, ckFit a (xs.take a.length) = true → ckFit a (ys.take a.length) = true →
    cellsEq xs ys = (cellsEq (xs.take a.length) (ys.take a.length) && cellsEq (xs.drop a.length) (ys.drop a.length))
  | [], xs, ys, _, _ => by simp [cellsEq]
  | k :: a, xs, ys, h, h' => by
    cases xs with
    | nil => simp at h; cases k <;> simp [ckFit] at h
    | cons x xs =>
      cases ys with
      | nil => simp at h'; cases k <;> simp [ckFit] at h'
      | cons y ys =>
        simp only [List.length_cons, List.take_succ_cons] at h h'
        obtain ⟨_, _, e1, f1, g1⟩ := ckFit_cons h
        obtain ⟨_, _, e2, f2, g2⟩ := ckFit_cons h'
        simp only [List.cons.injEq] at e1 e2
        obtain ⟨rfl, rfl⟩ := e1
        obtain ⟨rfl, rfl⟩ := e2
        simp only [List.length_cons, List.take_succ_cons, List.drop_succ_cons]
        rw [cellsEq_cons k _ _ _ _ f1 f2, cellsEq_cons k _ _ (xs.take a.length) _ f1 f2, cellsEq_split g1 g2, Bool.and_assoc]

def flatV (P : Program) (t : TypeId) (cs : List LV) : Value :=
  match P.underlying t with
  | some d => cond (isAggD d) (.agg (cs.map fv).toArray) ((cs.map fv).getD 0 undef)
  | none => undef

theorem run_part {P : Program} {w : World} {t : TypeId} {d : TypeDesc} {i : TypeInfo} (hu : P.underlying t = some d) (hi : P.info? t = some i) (xs : List LV) (o : Nat)
    (hl : isAggD d = false → o < xs.length ∧ i.size = 1) : (part t (xs.map fv).toArray o).run P w = .ok (flatV P t ((xs.drop o).take i.size)) w := by
  simp only [part, Sem.run_bind, r_isAgg hu, Result.andThen_ok, flatV, hu]
  cases ha : isAggD d with
  | true => simp [r_size hi, List.extract_eq_take_drop, List.map_take, List.map_drop]
  | false =>
    obtain ⟨h1, h2⟩ := hl ha
    simp [h1, h2]

theorem flat_agg {P : Program} {d : Nat} {t : TypeId} {ks : List CK} (h : flatB P d t = some ks) : ∃ D, P.underlying t = some D ∧ (isAggD D = false → ks.length = 1) := by
  cases d with
  | zero => simp [flatB] at h
  | succ d =>
    simp only [flatB] at h
    split at h
    · rename_i hu; simp at h; subst h; exact ⟨_, hu, fun _ => rfl⟩
    · rename_i hu; simp at h; subst h; exact ⟨_, hu, fun _ => rfl⟩
    · rename_i hu; simp at h; subst h; exact ⟨_, hu, fun _ => rfl⟩
    · rename_i hu; exact ⟨_, hu, fun h => by simp [isAggD] at h⟩
    · rename_i hu; exact ⟨_, hu, fun h => by simp [isAggD] at h⟩
    · cases h

theorem cellsOf_size {P : Program} {t : TypeId} {i : TypeInfo} (h : P.info? t = some i) : P.cellsOf t = i.size := by simp [Program.cellsOf, h]

theorem part_flat {P : Program} {w : World} {d : Nat} {t : TypeId} {ks : List CK} {i : TypeInfo} (h : flatB P d t = some ks) (hi : P.info? t = some i) (hs : i.size = ks.length)
    (xs : List LV) (o : Nat) (hf : ckFit ks ((xs.drop o).take ks.length) = true) :
    (part t (xs.map fv).toArray o).run P w = .ok (flatV P t ((xs.drop o).take ks.length)) w := by
  obtain ⟨D, hu, hl⟩ := flat_agg h
  rw [← hs]
  refine run_part hu hi xs o (fun ha => ?_)
  have h1 := hl ha
  have h2 := ckFit_length hf
  rw [h1] at h2
  simp at h2
  exact ⟨by omega, by rw [hs, h1]⟩

theorem mapO_nil {α β : Type} {f : α → Option β} {ys : List β} (h : mapO f [] = some ys) : ys = [] := by simpa [mapO] using h.symm
theorem mapO_cons {α β : Type} {f : α → Option β} {x : α} {xs : List α} {r : List β} (h : mapO f (x :: xs) = some r) : ∃ y ys, r = y :: ys ∧ f x = some y ∧ mapO f xs = some ys := by
  simp only [mapO] at h
  split at h
  · rename_i y hy
    split at h
    · rename_i ys hys; simp at h; exact ⟨y, ys, h.symm, hy, hys⟩
    · cases h
  · cases h

theorem run_eqFields {P : Program} {w : World} {d D : Nat}
    (ih : ∀ (t : TypeId) (ks : List CK) (xs ys : List LV), flatB P d t = some ks → ckFit ks xs = true → ckFit ks ys = true →
      (Op.equalIn D t (flatV P t xs) (flatV P t ys)).run P w = .ok (cellsEq xs ys) w) (xs ys : List LV) :
    ∀ (fs : List Field) (l : List (Field × List CK)) (o : Nat), mapO (fun f => match flatB P d f.type with
        | some l => cond (P.info? f.type).isSome (some (f, l)) none
        | none => none) fs = some l → offsOk P o l = true → ckFit (l.map (·.2)).flatten (xs.drop o) = true → ckFit (l.map (·.2)).flatten (ys.drop o) = true →
      (Op.eqFields D (xs.map fv).toArray (ys.map fv).toArray fs).run P w = .ok (cellsEq (xs.drop o) (ys.drop o)) w
  | [], l, o, hm, _, hx, hy => by
    have := mapO_nil hm; subst this
    simp only [List.map_nil, List.flatten_nil] at hx hy
    have h1 := List.eq_nil_of_length_eq_zero (ckFit_length hx)
    have h2 := List.eq_nil_of_length_eq_zero (ckFit_length hy)
    simp [Op.eqFields, h1, h2, cellsEq]
  | f :: fs, l, o, hm, ho, hx, hy => by
    obtain ⟨p, ps, rfl, hp, hps⟩ := mapO_cons hm
    split at hp
    · rename_i ks hks
      cases hi : P.info? f.type with
      | none => rw [hi] at hp; simp at hp
      | some i =>
        rw [hi] at hp
        simp at hp
        subst hp
        simp only [offsOk, Bool.and_eq_true, bne_iff_ne, ne_eq] at ho
        obtain ⟨hn, hoff, hsz, hrest⟩ := ho
        have hoff := Nat.eq_of_beq_eq_true hoff
        have hsz := Nat.eq_of_beq_eq_true hsz
        rw [cellsOf_size hi] at hsz
        simp only [List.map_cons, List.flatten_cons] at hx hy
        obtain ⟨x1, x2⟩ := ckFit_split hx
        obtain ⟨y1, y2⟩ := ckFit_split hy
        simp only [Op.eqFields]
        rw [if_pos hn]
        simp only [Sem.run_bind, hoff]
        rw [part_flat hks hi hsz xs o x1, Result.andThen_ok, part_flat hks hi hsz ys o y1, Result.andThen_ok, ih _ _ _ _ hks x1 y1, Result.andThen_ok]
        rw [cellsEq_split x1 y1]
        cases hc : cellsEq ((xs.drop o).take ks.length) ((ys.drop o).take ks.length) with
        | false => simp
        | true =>
          simp only [Bool.not_true, Bool.false_eq_true, if_false, Bool.true_and]
          rw [List.drop_drop, List.drop_drop]
          rw [List.drop_drop] at x2 y2
          exact run_eqFields ih xs ys fs ps (o + ks.length) hps hrest x2 y2
    · cases hp
end Go.Proofs.Ytpkeggejofeeeaa.Lvm
