/- Laws of the small machine and of how it stands to the model; a helper of the statements: no statement is proved here. -/
import Derived.Test.YtpkeggejofeeeaaW4
namespace Go.Proofs.Ytpkeggejofeeeaa.Lvm
open Go.RowKit (Below)

/-- The environment of a program: its own tables, nothing in memory yet, nothing taken by a contract. -/
noncomputable def plainEnv (P : Program) : Env :=
  { P := P, und := fun t => P.underlying t, size := fun t => (P.info? t).map (·.size), bytes := fun t => (P.info? t).map (·.bytes),
    zero := fun t => (P.info? t).bind fun i => i.zero.bind lift, flat := fun t => flatB P 8 t, code := fun f => P.funcs[f]?, bm := fun _ _ => none, ext := fun _ => none }

theorem plainEnv_ok {P : Program} (h1 : Nat.ble 8 P.depth = true) (h2 : P.follows .mixedOrders = true) (h3 : P.funcs.toList.all (fun fn => fn.name != "runtime.NumGoroutine") = true) : (plainEnv P).Ok where
  und := fun _ _ h => h
  size := fun t n h => by
    simp only [plainEnv, Option.map_eq_some_iff] at h; exact h
  bytes := fun t n h => by
    simp only [plainEnv, Option.map_eq_some_iff] at h; exact h
  zero := fun t z h => by
    simp only [plainEnv, Option.bind_eq_some_iff] at h
    obtain ⟨i, h1, v, h2, h3⟩ := h
    exact ⟨i, v, h1, h2, h3⟩
  flat := fun _ _ h => h
  depth := Nat.le_of_ble_eq_true h1
  code := fun f fn h => by
    refine ⟨h, ?_⟩
    have hm : fn ∈ P.funcs := Array.mem_of_getElem? h
    have := List.all_eq_true.1 h3 fn (by simpa using hm)
    simpa using this
  mixed := h2
  base := fun r o v h => by cases h

def isTrue : Option (LV × LSt) → Bool
  | some (.bool true, _) => true
  | _ => false

/-- A closed call that answers true on the small machine answers true on the model's, and leaves what was there. -/
theorem closed_true {P : Program} (hE : (plainEnv P).Ok) {n : Nat} {f : FuncId} (h : isTrue (vrun (plainEnv P) n 0 f [] { mem := .leaf, nxt := 0 }) = true) (w : World) :
    Calls P f #[] w fun e w' => e = .returned (.bool true) ∧ Below w.heap.size w w' := by
  cases hr : vrun (plainEnv P) n 0 f [] { mem := .leaf, nxt := 0 } with
  | none => rw [hr] at h; cases h
  | some p =>
    obtain ⟨r, st'⟩ := p
    rw [hr] at h
    cases r <;> try (exact absurd h Bool.false_ne_true)
    rename_i b
    cases b with
    | false => exact absurd h Bool.false_ne_true
    | true =>
      have hrel : Rel (plainEnv P) w.heap.size (fun _ => none) { mem := .leaf, nxt := 0 } w := by
        refine ⟨⟨fun L q h => (by cases h), fun L q o h => (by cases h), fun _ _ => rfl, fun r o v h => (by cases h), Nat.le_refl _⟩, fun L h => ?_, fun L L' q q' h => ?_⟩
        · obtain ⟨x, hx, _⟩ := h; cases hx
        · obtain ⟨x, hx, _⟩ := h; cases hx
      obtain ⟨_, hc⟩ := vrun_sound hE (B := w.heap.size) (fun f g h => (by cases h)) (fun f g h => (by cases h)) walk_sound n 0 f [] { mem := .leaf, nxt := 0 } (.bool true) st' hr _ w #[] hrel (Nat.le_refl _) (by simpa using VRels.nil)
      refine hc.mono fun e w' he => ?_
      obtain ⟨u, inj', rfl, hv, hr', hs⟩ := he
      refine ⟨by rw [rel_of_bool hv], ⟨hs.al.os, hs.al.tape, hs.al.output, hs.size, fun k hk => hs.keep k hk fun L q _ _ h => by cases h⟩⟩
end Go.Proofs.Ytpkeggejofeeeaa.Lvm
