/- Laws of the small machine and of how it stands to the model; a helper of the statements: no statement is proved here. -/
import Derived.Test.YtpkeggejofeeeaaS3
namespace Go.Proofs.Ytpkeggejofeeeaa.Lvm

def XRel (inj : Inj) (fr : LFr) (a : Act) (x : Operand) : Prop := ∀ v, leval fr x = some v → VRel inj v (a.eval x)

section
variable {E : Env} {inj : Inj} {w : World} {fr : LFr} {a : Act}

theorem levals_rel : ∀ {xs : List Operand} {vs : List LV}, (∀ x ∈ xs, XRel inj fr a x) → levals fr xs = some vs → VRels inj vs (xs.map a.eval)
  | [], vs, _, h => by simp [levals] at h; subst h; exact VRels.nil
  | x :: xs, vs, hx, h => by
    simp only [levals] at h
    split at h
    · rename_i v hv
      split at h
      · rename_i us hus
        simp at h; subst h
        exact VRels.cons (hx x (by simp) v hv) (levals_rel (fun y hy => hx y (by simp [hy])) hus)
      · cases h
    · cases h

theorem run_bound {x : LV} {v : Value} {n y : Nat} {code : BoundsCode} (h : natOf x = some n) (hr : VRel inj x v) (hle : n ≤ y) : (Instr.sliceBound v y code).run E.P w = .ok n w := by
  obtain ⟨k, rfl⟩ := natOf_eq h hr
  simp [Instr.sliceBound, asIntOf, hle]

theorem optNat_some {x : Operand} {d n : Nat} (h : optNat fr d (some x) = some n) : ∃ v, leval fr x = some v ∧ natOf v = some n := by
  simp only [optNat] at h
  split at h
  · rename_i v hv; exact ⟨v, hv, h⟩
  · cases h

theorem run_bounds {isSlice : Bool} {len cap c l h m : Nat} {lo hi mx : Option Operand} (hlo : ∀ x, lo = some x → XRel inj fr a x) (hhi : ∀ x, hi = some x → XRel inj fr a x)
    (hmx : ∀ x, mx = some x → XRel inj fr a x) (h1 : optNat fr 0 lo = some l) (h2 : optNat fr len hi = some h) (h3 : optNat fr cap mx = some m)
    (hcap : cap ≤ c) (hlh : l ≤ h) (hhm : h ≤ m) (hmc : m ≤ cap) (hok : (mx.isNone || hi.isSome) = true) :
    (Instr.sliceBounds isSlice len c (lo.map a.eval) (hi.map a.eval) (mx.map a.eval)).run E.P w = .ok (l, h, if mx.isSome then m else c) w := by
  cases mx with
  | none =>
    simp only [optNat, Option.some.injEq] at h3
    cases hi with
    | none =>
      simp only [optNat, Option.some.injEq] at h2
      subst h2
      cases lo with
      | none => simp only [optNat, Option.some.injEq] at h1; subst h1; simp [Instr.sliceBounds]
      | some x =>
        obtain ⟨v, hv, hn⟩ := optNat_some h1
        simp only [Instr.sliceBounds, Option.map_some, Option.map_none, Sem.run_bind, Sem.run_pure, Result.andThen_ok]
        rw [run_bound hn (hlo x rfl v hv) hlh]
        simp
    | some y =>
      obtain ⟨u, hu, hn2⟩ := optNat_some h2
      simp only [Instr.sliceBounds, Option.map_some, Option.map_none, Sem.run_bind, Sem.run_pure, Result.andThen_ok]
      rw [run_bound hn2 (hhi y rfl u hu) (by omega)]
      cases lo with
      | none => simp only [optNat, Option.some.injEq] at h1; subst h1; simp
      | some x =>
        obtain ⟨v, hv, hn⟩ := optNat_some h1
        simp only [Option.map_some, Result.andThen_ok, Sem.run_bind]
        rw [run_bound hn (hlo x rfl v hv) hlh]
        simp
  | some z =>
    obtain ⟨q, hq, hn3⟩ := optNat_some h3
    cases hi with
    | none => simp at hok
    | some y =>
      obtain ⟨u, hu, hn2⟩ := optNat_some h2
      simp only [Instr.sliceBounds, Option.map_some, Sem.run_bind]
      rw [run_bound hn3 (hmx z rfl q hq) (by omega)]
      simp only [Result.andThen_ok]
      rw [run_bound hn2 (hhi y rfl u hu) (by omega)]
      cases lo with
      | none => simp only [optNat, Option.some.injEq] at h1; subst h1; simp
      | some x =>
        obtain ⟨v, hv, hn⟩ := optNat_some h1
        simp only [Option.map_some, Result.andThen_ok, Sem.run_bind]
        rw [run_bound hn (hlo x rfl v hv) hlh]
        simp

theorem sliceL_sound (hE : E.Ok) {t : TypeId} {x z : LV} {v : Value} {lo hi mx : Option Operand} (hlo : ∀ x, lo = some x → XRel inj fr a x) (hhi : ∀ x, hi = some x → XRel inj fr a x)
    (hmx : ∀ x, mx = some x → XRel inj fr a x) (h : sliceL E fr t x lo hi mx = some z) (hx : VRel inj x v) :
    ValOut E inj z w (Instr.sliceAt t v (lo.map a.eval) (hi.map a.eval) (mx.map a.eval)) := by
  unfold sliceL at h
  split at h
  · rename_i s hu
    simp only [VRel] at hx; subst hx
    split at h
    · cases h
    · split at h
      · rename_i l hl
        split at h
        · rename_i e he
          cases hb : (Nat.ble l e && Nat.ble e s.size) with
          | false => rw [hb] at h; simp at h
          | true =>
            rw [hb] at h; simp at h; subst h
            simp only [Bool.and_eq_true] at hb
            have b1 := Nat.le_of_ble_eq_true hb.1
            have b2 := Nat.le_of_ble_eq_true hb.2
            refine ⟨.string (s.extract l e), ?_, by simp [VRel]⟩
            have := run_bounds (E := E) (w := w) (isSlice := false) (mx := none) (cap := s.size) (c := s.size) (m := s.size) hlo hhi (by simp) hl he rfl (Nat.le_refl _) b1 b2 (Nat.le_refl _) rfl
            simp only [Option.map_none, Option.isSome_none, Bool.false_eq_true, if_false] at this
            simp only [Instr.sliceAt, Sem.run_bind, r_und (hE.und _ _ hu), Result.andThen_ok, Instr.slice, Option.map_none, Option.isSome_none, Bool.false_eq_true, if_false, Sem.run_pure, this]
        · cases h
      · cases h
  · rename_i e hu
    simp only [VRel] at hx; subst hx
    split at h
    · rename_i n hn
      obtain ⟨i, hi', hsz⟩ := hE.size _ _ hn
      split at h
      · rename_i l hl
        split at h
        · rename_i hh hhe
          split at h
          · rename_i m hm
            cases hb : (Nat.beq l 0 && (Nat.beq hh 0 && (Nat.beq m 0 && (mx.isNone || hi.isSome)))) with
            | false => rw [hb] at h; simp at h
            | true =>
              rw [hb] at h; simp at h; subst h
              simp only [Bool.and_eq_true] at hb
              obtain ⟨b1, b2, b3, b4⟩ := hb
              have b1 := Nat.eq_of_beq_eq_true b1
              have b2 := Nat.eq_of_beq_eq_true b2
              have b3 := Nat.eq_of_beq_eq_true b3
              subst b1; subst b2; subst b3
              refine ⟨.slice none 0 0, ?_, by simp [VRel]⟩
              have := run_bounds (E := E) (w := w) (isSlice := true) (cap := 0) (c := 0) hlo hhi hmx hl hhe hm (Nat.le_refl _) (Nat.le_refl _) (Nat.le_refl _) (Nat.le_refl _) b4
              simp only [ite_self] at this
              simp only [Instr.sliceAt, Sem.run_bind, r_und (hE.und _ _ hu), Result.andThen_ok, Instr.slice, this, r_size hi']
              simp
          · cases h
        · cases h
      · cases h
    · cases h
  · rename_i e b o sz len cap ex hu
    simp only [VRel] at hx
    obtain ⟨r, o', c, rfl, hb, ho, hc, hex, hlen, hcap⟩ := hx
    split at h
    · rename_i n hn
      obtain ⟨i, hi', hsz⟩ := hE.size _ _ hn
      split at h
      · rename_i l hl
        split at h
        · rename_i hh hhe
          split at h
          · rename_i m hm
            cases hbb : (Nat.beq n sz && (Nat.ble l hh && (Nat.ble hh m && (Nat.ble m cap && (mx.isNone || hi.isSome))))) with
            | false => rw [hbb] at h; simp at h
            | true =>
              rw [hbb] at h; simp only [cond_true, Option.some.injEq] at h; subst h
              simp only [Bool.and_eq_true] at hbb
              obtain ⟨b0, b1, b2, b3, b4⟩ := hbb
              have b0 := Nat.eq_of_beq_eq_true b0
              have b1 := Nat.le_of_ble_eq_true b1
              have b2 := Nat.le_of_ble_eq_true b2
              have b3 := Nat.le_of_ble_eq_true b3
              subst b0
              have hrun := run_bounds (E := E) (w := w) (isSlice := true) hlo hhi hmx hl hhe hm hc b1 b2 b3 b4
              have hzs : i.size = n := hsz
              generalize hM : (if mx.isSome = true then m else c) = M at hrun
              have hMle : M ≤ c := by subst hM; split <;> omega
              have hmM : m ≤ M := by
                subst hM; split
                · exact Nat.le_refl _
                · omega
              have hlM : l ≤ M := by omega
              refine ⟨.slice (some (if M = l then ⟨r, o', none⟩ else ⟨r, o' + l * n, none⟩)) (hh - l) (M - l), ?_, ?_⟩
              · simp only [Instr.sliceAt, Sem.run_bind, r_und (hE.und _ _ hu), Result.andThen_ok, Instr.slice, hrun, r_size hi', hzs, Sem.run_pure, Option.map_some, add_none]
                split <;> rfl
              · simp only [VRel]
                by_cases hMl : M = l
                · rw [if_pos hMl]
                  refine ⟨r, o', M - l, rfl, hb, Or.inr (by omega), by omega, fun hx => by
                    rcases Bool.or_eq_true _ _ ▸ hx with hx | hx
                    · have := hex hx
                      subst hM
                      cases mx with
                      | none =>
                        simp only [optNat, Option.some.injEq] at hm
                        simp at hMl ⊢; omega
                      | some z => simp
                    · subst hM; rw [if_pos hx], by omega, fun L q hL hq => ?_⟩
                  have := hcap L q hL hq
                  have : (M - l) * n = 0 := by rw [hMl]; simp
                  omega
                · rw [if_neg hMl]
                  refine ⟨r, o' + l * n, M - l, rfl, hb, Or.inl (by rcases ho with ho | ho <;> omega), by omega, fun hx => by
                    rcases Bool.or_eq_true _ _ ▸ hx with hx | hx
                    · have := hex hx
                      subst hM
                      cases mx with
                      | none =>
                        simp only [optNat, Option.some.injEq] at hm
                        simp; omega
                      | some z => simp
                    · subst hM; rw [if_pos hx], by omega, fun L q hL hq => ?_⟩
                  have h1 := hcap L q hL hq
                  have h2 : l * n + (M - l) * n = M * n := by rw [← Nat.add_mul]; congr 1; omega
                  have h3 : M * n ≤ c * n := Nat.mul_le_mul_right _ hMle
                  omega
          · cases h
        · cases h
      · cases h
    · cases h
  · cases h
end
end Go.Proofs.Ytpkeggejofeeeaa.Lvm
