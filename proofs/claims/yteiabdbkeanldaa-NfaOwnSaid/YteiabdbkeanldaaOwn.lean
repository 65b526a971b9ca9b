/- Laws of the small machine, of how it stands to the model, and of what functions come to on it; a helper of the statement: no statement is proved here. -/
import Derived.Test.YteiabdbkeanldaaK
import Derived.Test.YteiabdbkeanldaaRows
import Derived.WalkKit
import Derived.ProofKit
import Derived.OpenShut
import Derived.KernelRfl
set_option linter.unusedVariables false
namespace Go.Proofs.Yteiabdbkeanldaa.nfaOwn
open Go.ChangeShapes Go.WideShapes Go.ChangeAt Go.RowKit
set_option linter.unusedVariables false

theorem own : ownKnob Try.prog.godebug = none := by kernel_rfl
theorem kids : Kids Try.prog (· < Try.prog.types.size) := kids_rows (by kernel_rfl) (by kernel_rfl)
theorem full : ∀ t e, t < Try.prog.types.size → Try.prog.underlying t = some (.slice e) → 0 < Try.prog.cellsOf e := slices_full_of Try.prog (by kernel_rfl)
theorem tables : (Lvm.plainEnv Try.prog).Ok := Lvm.plainEnv_ok (by kernel_rfl) (by kernel_rfl) (by kernel_rfl)
/-- The chapter's machine, worked out by the kernel. -/
theorem runs : Lvm.isTrue (Lvm.vrun (Lvm.plainEnv Try.prog) 100000 0 6 [] { mem := .leaf, nxt := 0 }) = true := by kernel_rfl
theorem env_ok (bm : Nat → Nat → Option Lvm.LV) (h : ∀ r o v, bm r o = some v → ∀ (i j : Lvm.Inj) u, Lvm.VRel i v u → Lvm.VRel j v u) : (EE bm).Ok := Lvm.tabEnv_ok tabs_ok bm _ h (by kernel_rfl) (by kernel_rfl) (by kernel_rfl)

set_option maxRecDepth 100000 in
theorem lifted (os : Os) (started : os.Started) (H : Type) (enc : TypeId × Value → H) :
    ReturnsInHanded {} Try.checked os 3 .any (Rows.nfaOwnSpec.pre6 enc Try.prog Try.f3 Rows.nfaOwnRow.domain false) (Rows.nfaOwnSpec.post enc Try.prog Try.f3 false true false false) := by
  refine returnsInHanded_of_change (C := Try.checked) own started (by kernel_rfl) Try.func3
    (ChangeSpec.witness6 (enc := enc) (C := Try.checked) false ⟨#[], #[.agg #[.slice none 0 0, .slice none 0 0, .slice none 0 0, .slice none 0 0, .bool false]], []⟩ 8 (by kernel_rfl) (by kernel_rfl) (by kernel_rfl) (by kernel_rfl)) ?_
  intro W base args ds gs before hval0 hW hcnd _
  have hW' := hW
  obtain ⟨p, q, hA, hV, rfl, hfz, hnd⟩ := hW
  obtain ⟨rfl, rfl⟩ := trodVars_none hV
  simp only [List.append_nil] at hW'
  have hA2 := hA
  change DataW.TrodAll enc Try.prog W 0 (fun _ => true) true [27] args.toList ds p at hA2
  obtain ⟨v, x, rfl, rfl, hT⟩ := trodAll_one hA2
  obtain ⟨a, b, c, d, m, fol, hv, _, hm⟩ := in_mach hT (E := EE (Lvm.bmW W)) rfl
  obtain ⟨r, st', Hn, ⟨n, hr⟩, _, rfl, _⟩ := nfaOwn_ok (bm := Lvm.bmW W) (st := { mem := .leaf, nxt := 0 }) (lo := 0) (Nat.zero_le _) (hm _)
  refine (Lvm.enter_true (E := EE (Lvm.bmW W)) (env_ok _ Lvm.bmW_any) rfl (Lvm.oneExt_sound (k := 6) rfl (fun w => Try.call6 _ _) (Lvm.closed_true tables runs)) (Lvm.oneExt_eff (k := 6) rfl) (Lvm.VRels.cons (hv _) Lvm.VRels.nil) hr).mono fun e W' ⟨he, hg⟩ => ?_
  subst he
  exact ⟨_, rfl, Lvm.post_read kids full (by rw [Try.params3]; decide) rfl hW' hA (fun _ _ _ => (trodAll_cons_mk (shut_bool Try.underlying4 _) trodAll_mk0)) rfl rfl hg (ok_one (by kernel_rfl) rfl (okWide_bool_mk Try.underlying4 _))⟩

theorem over : Rows.nfaOwnRow.holds Try.pinned (OpenSpec.ofChange Rows.nfaOwnSpec) :=
  OpenClaim.holds_of_wide 3 Try.f3 rfl rfl rfl rfl rfl rfl rfl ⟨rfl, rfl, rfl, rfl, rfl⟩ rfl rfl rfl rfl rfl (by kernel_rfl) Try.func3 (by kernel_rfl)
    (of_decide_eq_true (by kernel_rfl)) (by unfold Func.isWrapper; first | (rw [if_pos (by decide +kernel)]; kernel_rfl) | (rw [if_neg (by decide +kernel)]; exact ⟨rfl, rfl⟩))
    (fun os started H enc _ => lifted os started H enc)

/-- The statement. -/
theorem proved : Rows.NfaOwnSaid :=
  over
#print axioms proved
end Go.Proofs.Yteiabdbkeanldaa.nfaOwn
