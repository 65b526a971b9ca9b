/- Proved: the statement FstAll of layer 14, for every machine, text and choices. -/
import Derived.Test.YtpkeggejofeeeaaR
import Derived.Test.YtpkeggejofeeeaaRows
import Derived.WalkKit
import Derived.ProofKit
import Derived.OpenShut
import Derived.KernelRfl
import Derived.ChangeMaps5
set_option linter.unusedVariables false
namespace Go.Proofs.Ytpkeggejofeeeaa.fstAll
open Go.ChangeShapes Go.WideShapes Go.ChangeAt Go.RowKit
set_option linter.unusedVariables false

theorem own : ownKnob Try.prog.godebug = none := by kernel_rfl
theorem kids : Kids Try.prog (· < Try.prog.types.size) := kids_rows (by kernel_rfl) (by kernel_rfl)
theorem full : ∀ t e, t < Try.prog.types.size → Try.prog.underlying t = some (.slice e) → 0 < Try.prog.cellsOf e := slices_full_of Try.prog (by kernel_rfl)
theorem tables : (Lvm.plainEnv Try.prog).Ok := Lvm.plainEnv_ok (by kernel_rfl) (by kernel_rfl) (by kernel_rfl)
/-- The chapter's machine, worked out by the kernel. -/
theorem runs : Lvm.isTrue (Lvm.vrun (Lvm.plainEnv Try.prog) 100000 0 10 [] { mem := .leaf, nxt := 0 }) = true := by kernel_rfl
theorem env_ok (bm : Nat → Nat → Option Lvm.LV) (h : ∀ r o v, bm r o = some v → ∀ (i j : Lvm.Inj) u, Lvm.VRel i v u → Lvm.VRel j v u) : (EE bm).Ok := Lvm.tabEnv_ok tabs_ok bm _ h (by kernel_rfl) (by kernel_rfl) (by kernel_rfl)

set_option maxRecDepth 100000 in
theorem lifted (os : Os) (started : os.Started) (H : Type) (enc : TypeId × Value → H) :
    ReturnsInHanded {} Try.checked os 6 .any (Rows.fstAllSpec.pre6 enc Try.prog Try.f6 Rows.fstAllRow.domain false) (Rows.fstAllSpec.post enc Try.prog Try.f6 false true false false) := by
  refine returnsInHanded_of_change (C := Try.checked) own started (by kernel_rfl) Try.func6
    (ChangeSpec.witness6 (enc := enc) (C := Try.checked) false ⟨#[], #[.agg #[.slice none 0 0, .slice none 0 0, .slice none 0 0, .slice none 0 0, .bool false], .string .empty, .slice none 0 0], []⟩ 8 (by kernel_rfl) (by kernel_rfl) (by kernel_rfl) (by kernel_rfl)) ?_
  intro W base args ds gs before hval0 hW hcnd _
  have hval : ∀ (j : Nat) t v, Try.f6.params[j]? = some t → args[j]? = some v → Value.okWide Try.prog W .any base t v := hval0
  have hW' := hW
  obtain ⟨p, q, hA, hV, rfl, hfz, hnd⟩ := hW
  obtain ⟨rfl, rfl⟩ := trodVars_none hV
  simp only [List.append_nil] at hW'
  have hA2 := hA
  rw [Try.params6] at hval
  change DataW.TrodAll enc Try.prog W 0 (fun _ => true) true [27, 9, 30] args.toList ds p at hA2
  obtain ⟨v0, v1, v2, x0, x1, x2, p0, p1, p2, rfl, rfl, rfl, hT0, hT1, hT2⟩ := trodAll_three hA2
  obtain ⟨a, b, c, d, m, fol, hv0, hok, hm⟩ := in_mach hT0 (E := EE (Lvm.bmW W)) rfl
  obtain ⟨s1, rfl, rfl, rfl, hs1⟩ := Go.ChangeMaps.open_string Try.underlying9 (hval 1 9 v1 rfl rfl) hT1
  obtain ⟨lv2, xs2, hv2, hl2⟩ := in_bytes hT2 (hval 2 30 v2 rfl rfl) (E := EE (Lvm.bmW W)) rfl
  obtain ⟨r, st', Hn, ⟨n, hr⟩, _, rfl, _⟩ := fstAll_ok (bm := Lvm.bmW W) (st := { mem := .leaf, nxt := 0 }) (lo := 0) (Nat.zero_le _) (hm _) hok (w := s1) (hl2 _)
  refine (Lvm.enter_true (E := EE (Lvm.bmW W)) (env_ok _ Lvm.bmW_any) rfl (Lvm.oneExt_sound (k := 10) rfl (fun w => Try.call10 _ _) (Lvm.closed_true tables runs)) (Lvm.oneExt_eff (k := 10) rfl) (Lvm.VRels.cons (hv0 _) (Lvm.VRels.cons (by simp [Lvm.VRel]) (Lvm.VRels.cons (hv2 _) Lvm.VRels.nil))) hr).mono fun e W' ⟨he, hg⟩ => ?_
  subst he
  exact ⟨_, rfl, Lvm.post_read kids full (by rw [Try.params6]; decide) rfl hW' hA (fun _ _ _ => (trodAll_cons_mk (shut_bool Try.underlying4 _) trodAll_mk0)) rfl rfl hg (ok_one (by kernel_rfl) rfl (okWide_bool_mk Try.underlying4 _))⟩

theorem over : Rows.fstAllRow.holds Try.pinned (OpenSpec.ofChange Rows.fstAllSpec) :=
  OpenClaim.holds_of_wide 6 Try.f6 rfl rfl rfl rfl rfl rfl rfl ⟨rfl, rfl, rfl, rfl, rfl⟩ rfl rfl rfl rfl rfl (by kernel_rfl) Try.func6 (by kernel_rfl)
    (of_decide_eq_true (by kernel_rfl)) (by unfold Func.isWrapper; first | (rw [if_pos (by decide +kernel)]; kernel_rfl) | (rw [if_neg (by decide +kernel)]; exact ⟨rfl, rfl⟩))
    (fun os started H enc _ => lifted os started H enc)

/-- The statement. -/
theorem proved : Rows.FstAllSaid :=
  over
#print axioms proved
end Go.Proofs.Ytpkeggejofeeeaa.fstAll
