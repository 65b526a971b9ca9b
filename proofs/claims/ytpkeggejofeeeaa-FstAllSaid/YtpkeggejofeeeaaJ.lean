/- Laws of the small machine, of how it stands to the model, and of what functions come to on it; a helper of the statement: no statement is proved here. -/
import Derived.Test.YtpkeggejofeeeaaI
import Derived.Test.YtpkeggejofeeeaaProg
import Derived.KernelRfl
set_option linter.unusedVariables false
namespace Go.Proofs.Ytpkeggejofeeeaa
open Go.Proofs.Ytpkeggejofeeeaa.Lvm Go
noncomputable def undT : Mem TypeDesc := (.node (.node (.node (.node (.node (.node (.node .leaf (some Try.t63.desc) .leaf) (some Try.t31.desc) (.node .leaf (some Try.t95.desc) .leaf)) (some Try.t15.desc) (.node (.node .leaf (some Try.t79.desc) .leaf) (some Try.t3.desc) .leaf)) (some Try.t7.desc) (.node (.node (.node .leaf (some Try.t71.desc) .leaf) (some Try.t39.desc) .leaf) (some Try.t23.desc) (.node (.node .leaf (some Try.t87.desc) .leaf) (some Try.t55.desc) .leaf))) (some Try.t3.desc) (.node (.node (.node (.node .leaf (some Try.t67.desc) .leaf) (some Try.t34.desc) .leaf) (some Try.t18.desc) (.node (.node .leaf (some Try.t82.desc) .leaf) (some Try.t51.desc) .leaf)) (some Try.t9.desc) (.node (.node (.node .leaf (some Try.t75.desc) .leaf) (some Try.t42.desc) .leaf) (some Try.t26.desc) (.node (.node .leaf (some Try.t91.desc) .leaf) (some Try.t59.desc) .leaf)))) (some Try.t1.desc) (.node (.node (.node (.node (.node .leaf (some Try.t65.desc) .leaf) (some Try.t33.desc) (.node .leaf (some Try.t97.desc) .leaf)) (some Try.t17.desc) (.node (.node .leaf (some Try.t81.desc) .leaf) (some Try.t49.desc) .leaf)) (some Try.t9.desc) (.node (.node (.node .leaf (some Try.t73.desc) .leaf) (some Try.t40.desc) .leaf) (some Try.t25.desc) (.node (.node .leaf (some Try.t5.desc) .leaf) (some Try.t57.desc) .leaf))) (some Try.t5.desc) (.node (.node (.node (.node .leaf (some Try.t69.desc) .leaf) (some Try.t37.desc) .leaf) (some Try.t21.desc) (.node (.node .leaf (some Try.t85.desc) .leaf) (some Try.t53.desc) .leaf)) (some Try.t13.desc) (.node (.node (.node .leaf (some Try.t77.desc) .leaf) (some Try.t45.desc) .leaf) (some Try.t29.desc) (.node (.node .leaf (some Try.t21.desc) .leaf) (some Try.t61.desc) .leaf))))) (some Try.t0.desc) (.node (.node (.node (.node (.node (.node .leaf (some Try.t64.desc) .leaf) (some Try.t32.desc) (.node .leaf (some Try.t95.desc) .leaf)) (some Try.t16.desc) (.node (.node .leaf (some Try.t80.desc) .leaf) (some Try.t48.desc) .leaf)) (some Try.t7.desc) (.node (.node (.node .leaf (some Try.t72.desc) .leaf) (some Try.t40.desc) .leaf) (some Try.t24.desc) (.node (.node .leaf (some Try.t88.desc) .leaf) (some Try.t56.desc) .leaf))) (some Try.t4.desc) (.node (.node (.node (.node .leaf (some Try.t68.desc) .leaf) (some Try.t36.desc) .leaf) (some Try.t20.desc) (.node (.node .leaf (some Try.t84.desc) .leaf) (some Try.t52.desc) .leaf)) (some Try.t12.desc) (.node (.node (.node .leaf (some Try.t76.desc) .leaf) (some Try.t44.desc) .leaf) (some Try.t28.desc) (.node (.node .leaf (some Try.t92.desc) .leaf) (some Try.t60.desc) .leaf)))) (some Try.t2.desc) (.node (.node (.node (.node (.node .leaf (some Try.t66.desc) .leaf) (some Try.t34.desc) .leaf) (some Try.t18.desc) (.node (.node .leaf (some Try.t82.desc) .leaf) (some Try.t50.desc) .leaf)) (some Try.t9.desc) (.node (.node (.node .leaf (some Try.t74.desc) .leaf) (some Try.t42.desc) .leaf) (some Try.t26.desc) (.node (.node .leaf (some Try.t5.desc) .leaf) (some Try.t57.desc) .leaf))) (some Try.t5.desc) (.node (.node (.node (.node .leaf (some Try.t70.desc) .leaf) (some Try.t38.desc) .leaf) (some Try.t22.desc) (.node (.node .leaf (some Try.t85.desc) .leaf) (some Try.t54.desc) .leaf)) (some Try.t13.desc) (.node (.node (.node .leaf (some Try.t78.desc) .leaf) (some Try.t46.desc) .leaf) (some Try.t30.desc) (.node (.node .leaf (some Try.t21.desc) .leaf) (some Try.t62.desc) .leaf))))))
def sizeT : Mem Nat := (.node (.node (.node (.node (.node (.node (.node .leaf (some 1) .leaf) (some 1) (.node .leaf (some 11) .leaf)) (some 1) (.node (.node .leaf (some 1) .leaf) (some 1) .leaf)) (some 4) (.node (.node (.node .leaf (some 1) .leaf) (some 1) .leaf) (some 1) (.node (.node .leaf (some 1) .leaf) (some 1) .leaf))) (some 1) (.node (.node (.node (.node .leaf (some 1) .leaf) (some 3) .leaf) (some 1) (.node (.node .leaf (some 4) .leaf) (some 1) .leaf)) (some 1) (.node (.node (.node .leaf (some 1) .leaf) (some 5) .leaf) (some 5) (.node (.node .leaf (some 1) .leaf) (some 1) .leaf)))) (some 1) (.node (.node (.node (.node (.node .leaf (some 1) .leaf) (some 1) (.node .leaf (some 1) .leaf)) (some 1) (.node (.node .leaf (some 1) .leaf) (some 1) .leaf)) (some 1) (.node (.node (.node .leaf (some 1) .leaf) (some 4) .leaf) (some 1) (.node (.node .leaf (some 1) .leaf) (some 7) .leaf))) (some 1) (.node (.node (.node (.node .leaf (some 1) .leaf) (some 1) .leaf) (some 1) (.node (.node .leaf (some 0) .leaf) (some 1) .leaf)) (some 2) (.node (.node (.node .leaf (some 1) .leaf) (some 1) .leaf) (some 1) (.node (.node .leaf (some 1) .leaf) (some 1) .leaf))))) (some 1) (.node (.node (.node (.node (.node (.node .leaf (some 1) .leaf) (some 1) (.node .leaf (some 11) .leaf)) (some 1) (.node (.node .leaf (some 1) .leaf) (some 1) .leaf)) (some 4) (.node (.node (.node .leaf (some 1) .leaf) (some 4) .leaf) (some 1) (.node (.node .leaf (some 1) .leaf) (some 1) .leaf))) (some 1) (.node (.node (.node (.node .leaf (some 1) .leaf) (some 1) .leaf) (some 1) (.node (.node .leaf (some 0) .leaf) (some 1) .leaf)) (some 1) (.node (.node (.node .leaf (some 1) .leaf) (some 1) .leaf) (some 1) (.node (.node .leaf (some 1) .leaf) (some 2) .leaf)))) (some 1) (.node (.node (.node (.node (.node .leaf (some 1) .leaf) (some 3) .leaf) (some 1) (.node (.node .leaf (some 4) .leaf) (some 1) .leaf)) (some 1) (.node (.node (.node .leaf (some 1) .leaf) (some 5) .leaf) (some 5) (.node (.node .leaf (some 1) .leaf) (some 7) .leaf))) (some 1) (.node (.node (.node (.node .leaf (some 1) .leaf) (some 1) .leaf) (some 1) (.node (.node .leaf (some 0) .leaf) (some 1) .leaf)) (some 2) (.node (.node (.node .leaf (some 1) .leaf) (some 1) .leaf) (some 1) (.node (.node .leaf (some 1) .leaf) (some 1) .leaf))))))
def bytesT : Mem Nat := (.node (.node (.node (.node (.node (.node (.node .leaf (some 8) .leaf) (some 0) (.node .leaf (some 48) .leaf)) (some 8) (.node (.node .leaf (some 8) .leaf) (some 8) .leaf)) (some 24) (.node (.node (.node .leaf (some 8) .leaf) (some 8) .leaf) (some 24) (.node (.node .leaf (some 8) .leaf) (some 8) .leaf))) (some 8) (.node (.node (.node (.node .leaf (some 8) .leaf) (some 40) .leaf) (some 8) (.node (.node .leaf (some 40) .leaf) (some 8) .leaf)) (some 16) (.node (.node (.node .leaf (some 8) .leaf) (some 40) .leaf) (some 104) (.node (.node .leaf (some 8) .leaf) (some 8) .leaf)))) (some 8) (.node (.node (.node (.node (.node .leaf (some 8) .leaf) (some 8) (.node .leaf (some 8) .leaf)) (some 8) (.node (.node .leaf (some 8) .leaf) (some 8) .leaf)) (some 16) (.node (.node (.node .leaf (some 8) .leaf) (some 32) .leaf) (some 24) (.node (.node .leaf (some 1) .leaf) (some 136) .leaf))) (some 1) (.node (.node (.node (.node .leaf (some 8) .leaf) (some 8) .leaf) (some 4) (.node (.node .leaf (some 0) .leaf) (some 8) .leaf)) (some 24) (.node (.node (.node .leaf (some 8) .leaf) (some 8) .leaf) (some 8) (.node (.node .leaf (some 4) .leaf) (some 8) .leaf))))) (some 0) (.node (.node (.node (.node (.node (.node .leaf (some 8) .leaf) (some 8) (.node .leaf (some 48) .leaf)) (some 8) (.node (.node .leaf (some 8) .leaf) (some 0) .leaf)) (some 24) (.node (.node (.node .leaf (some 8) .leaf) (some 32) .leaf) (some 24) (.node (.node .leaf (some 4) .leaf) (some 24) .leaf))) (some 1) (.node (.node (.node (.node .leaf (some 8) .leaf) (some 8) .leaf) (some 16) (.node (.node .leaf (some 0) .leaf) (some 8) .leaf)) (some 8) (.node (.node (.node .leaf (some 8) .leaf) (some 8) .leaf) (some 8) (.node (.node .leaf (some 8) .leaf) (some 16) .leaf)))) (some 8) (.node (.node (.node (.node (.node .leaf (some 8) .leaf) (some 40) .leaf) (some 8) (.node (.node .leaf (some 40) .leaf) (some 24) .leaf)) (some 16) (.node (.node (.node .leaf (some 0) .leaf) (some 40) .leaf) (some 104) (.node (.node .leaf (some 1) .leaf) (some 136) .leaf))) (some 1) (.node (.node (.node (.node .leaf (some 8) .leaf) (some 8) .leaf) (some 24) (.node (.node .leaf (some 0) .leaf) (some 8) .leaf)) (some 24) (.node (.node (.node .leaf (some 8) .leaf) (some 8) .leaf) (some 24) (.node (.node .leaf (some 4) .leaf) (some 8) .leaf))))))
def zeroT : Mem LV := (.node (.node (.node (.node (.node (.node (.node .leaf (some .nilfn) .leaf) none (.node .leaf (some (.agg [(.int .u64 (0)), (.int .u64 (0)), (.int .u32 (0)), (.int .u8 (0)), (.int .u8 (0)), (.int .u8 (0)), (.int .u8 (0)), .nilfn, .nilp, (.int .i32 (0)), (.int .i32 (0))])) .leaf)) (some .nilp) (.node (.node .leaf (some .nilfn) .leaf) (some (.int .i64 (0))) .leaf)) (some (.agg [(.int .i64 (0)), (.int .i64 (0)), (.bool false), (.int .u8 (0))])) (.node (.node (.node .leaf (some .nilfn) .leaf) (some (.int .u64 (0))) .leaf) (some .nilsl) (.node (.node .leaf (some .nilfn) .leaf) (some .nilmap) .leaf))) (some (.int .i64 (0))) (.node (.node (.node (.node .leaf (some .nilfn) .leaf) (some (.agg [(.bool false), (.str .empty), (.str .empty)])) .leaf) (some (.agg [.nilp])) (.node (.node .leaf (some (.agg [.nilp, .nilp, .nilp, (.str .empty)])) .leaf) (some .nilfn) .leaf)) (some (.str .empty)) (.node (.node (.node .leaf (some .nilfn) .leaf) (some (.agg [(.int .u64 (0)), (.int .u64 (0)), (.int .u64 (0)), (.int .u64 (0)), (.int .u8 (0))])) .leaf) (some (.agg [.nilsl, .nilsl, .nilsl, .nilsl, (.bool false)])) (.node (.node .leaf (some .nilfn) .leaf) (some .nilfn) .leaf)))) (some .nilfn) (.node (.node (.node (.node (.node .leaf (some .nilfn) .leaf) (some .nilfn) (.node .leaf (some .nilp) .leaf)) (some .nilp) (.node (.node .leaf (some .nilfn) .leaf) (some .nilfn) .leaf)) (some (.str .empty)) (.node (.node (.node .leaf (some .nilmap) .leaf) (some (.agg [(.int .u64 (0)), (.int .u64 (0)), (.int .u64 (0)), (.int .u64 (0))])) .leaf) (some .nilsl) (.node (.node .leaf (some (.int .u8 (0))) .leaf) (some (.agg [.nilsl, .nilsl, .nilsl, .nilsl, (.bool false), .nilsl, .nilmap])) .leaf))) (some (.int .u8 (0))) (.node (.node (.node (.node .leaf (some .nilfn) .leaf) (some .nilfn) .leaf) (some (.int .i32 (0))) (.node (.node .leaf (some (.agg [])) .leaf) (some .nilfn) .leaf)) (some (.agg [(.str .empty), (.int .u64 (0))])) (.node (.node (.node .leaf (some .nilfn) .leaf) (some .nilfn) .leaf) (some .nilfn) (.node (.node .leaf (some (.int .i32 (0))) .leaf) (some .nilfn) .leaf))))) (some (.tup [])) (.node (.node (.node (.node (.node (.node .leaf (some .nilfn) .leaf) (some .nilfn) (.node .leaf (some (.agg [(.int .u64 (0)), (.int .u64 (0)), (.int .u32 (0)), (.int .u8 (0)), (.int .u8 (0)), (.int .u8 (0)), (.int .u8 (0)), .nilfn, .nilp, (.int .i32 (0)), (.int .i32 (0))])) .leaf)) (some .nilp) (.node (.node .leaf (some (.int .u64 (0))) .leaf) none .leaf)) (some (.agg [(.int .i64 (0)), (.int .i64 (0)), (.bool false), (.int .u8 (0))])) (.node (.node (.node .leaf (some .nilfn) .leaf) (some (.agg [(.int .u64 (0)), (.int .u64 (0)), (.int .u64 (0)), (.int .u64 (0))])) .leaf) (some .nilsl) (.node (.node .leaf (some (.int .u32 (0))) .leaf) (some .nilsl) .leaf))) (some (.bool false)) (.node (.node (.node (.node .leaf (some .nilfn) .leaf) (some .nilfn) .leaf) (some .nilif) (.node (.node .leaf (some (.agg [])) .leaf) (some .nilfn) .leaf)) (some (.int .u64 (0))) (.node (.node (.node .leaf (some .nilfn) .leaf) (some .nilfn) .leaf) (some .nilfn) (.node (.node .leaf (some .nilp) .leaf) (some (.agg [(.int .i64 (0)), (.int .i64 (0))])) .leaf)))) (some (.int .i64 (0))) (.node (.node (.node (.node (.node .leaf (some .nilfn) .leaf) (some (.agg [(.bool false), (.str .empty), (.str .empty)])) .leaf) (some (.agg [.nilp])) (.node (.node .leaf (some (.agg [.nilp, .nilp, .nilp, (.str .empty)])) .leaf) (some .nilsl) .leaf)) (some (.str .empty)) (.node (.node .leaf (some (.agg [(.int .u64 (0)), (.int .u64 (0)), (.int .u64 (0)), (.int .u64 (0)), (.int .u8 (0))])) .leaf) (some (.agg [.nilsl, .nilsl, .nilsl, .nilsl, (.bool false)])) (.node (.node .leaf (some (.int .u8 (0))) .leaf) (some (.agg [.nilsl, .nilsl, .nilsl, .nilsl, (.bool false), .nilsl, .nilmap])) .leaf))) (some (.int .u8 (0))) (.node (.node (.node (.node .leaf (some .nilfn) .leaf) (some .nilfn) .leaf) (some .nilsl) (.node (.node .leaf (some (.agg [])) .leaf) (some .nilp) .leaf)) (some (.agg [(.str .empty), (.int .u64 (0))])) (.node (.node (.node .leaf (some .nilfn) .leaf) (some .nilfn) .leaf) (some .nilsl) (.node (.node .leaf (some (.int .i32 (0))) .leaf) (some .nilfn) .leaf))))))
def flatT : Mem (List CK) := (.node (.node (.node (.node (.node .leaf none (.node .leaf (some [.int .i64]) .leaf)) (some [.int .i64, .int .i64, .bool, .int .u8]) (.node (.node .leaf (some [.int .u64]) .leaf) none .leaf)) (some [.int .i64]) (.node (.node (.node .leaf (some [.bool, .str, .str]) .leaf) none .leaf) (some [.str]) (.node (.node .leaf (some [.int .u64, .int .u64, .int .u64, .int .u64, .int .u8]) .leaf) none .leaf))) none (.node (.node .leaf (some [.str]) (.node (.node .leaf (some [.int .u64, .int .u64, .int .u64, .int .u64]) .leaf) none (.node (.node .leaf (some [.int .u8]) .leaf) none .leaf))) (some [.int .u8]) (.node (.node .leaf (some [.int .i32]) .leaf) none (.node .leaf none (.node (.node .leaf (some [.int .i32]) .leaf) none .leaf))))) none (.node (.node (.node (.node .leaf none (.node (.node .leaf (some [.int .u64]) .leaf) none .leaf)) (some [.int .i64, .int .i64, .bool, .int .u8]) (.node (.node .leaf (some [.int .u64, .int .u64, .int .u64, .int .u64]) .leaf) none (.node (.node .leaf (some [.int .u32]) .leaf) none .leaf))) (some [.bool]) (.node .leaf (some [.int .u64]) (.node .leaf none (.node .leaf (some [.int .i64, .int .i64]) .leaf)))) (some [.int .i64]) (.node (.node (.node (.node .leaf (some [.bool, .str, .str]) .leaf) none .leaf) (some [.str]) (.node (.node .leaf (some [.int .u64, .int .u64, .int .u64, .int .u64, .int .u8]) .leaf) none (.node (.node .leaf (some [.int .u8]) .leaf) none .leaf))) (some [.int .u8]) (.node .leaf none (.node .leaf none (.node (.node .leaf (some [.int .i32]) .leaf) none .leaf))))))
noncomputable def codeT : Mem Func := (.node (.node (.node (.node (.node (.node (.node .leaf (some Try.f63) .leaf) (some Try.f31) .leaf) (some Try.f15) (.node .leaf (some Try.f47) .leaf)) (some Try.f7) (.node (.node (.node .leaf (some Try.f71) .leaf) (some Try.f39) .leaf) (some Try.f23) (.node .leaf (some Try.f55) .leaf))) (some Try.f3) (.node (.node (.node (.node .leaf (some Try.f67) .leaf) (some Try.f35) .leaf) (some Try.f19) (.node .leaf (some Try.f51) .leaf)) (some Try.f11) (.node (.node .leaf (some Try.f43) .leaf) (some Try.f27) (.node .leaf (some Try.f59) .leaf)))) (some Try.f1) (.node (.node (.node (.node (.node .leaf (some Try.f65) .leaf) (some Try.f33) .leaf) (some Try.f17) (.node .leaf (some Try.f49) .leaf)) (some Try.f9) (.node (.node (.node .leaf (some Try.f73) .leaf) (some Try.f41) .leaf) (some Try.f25) (.node .leaf (some Try.f57) .leaf))) (some Try.f5) (.node (.node (.node (.node .leaf (some Try.f69) .leaf) (some Try.f37) .leaf) (some Try.f21) (.node .leaf (some Try.f53) .leaf)) (some Try.f13) (.node (.node .leaf (some Try.f45) .leaf) (some Try.f29) (.node .leaf (some Try.f61) .leaf))))) (some Try.f0) (.node (.node (.node (.node (.node (.node .leaf (some Try.f64) .leaf) (some Try.f32) .leaf) (some Try.f16) (.node .leaf (some Try.f48) .leaf)) (some Try.f8) (.node (.node (.node .leaf (some Try.f72) .leaf) (some Try.f40) .leaf) (some Try.f24) (.node .leaf (some Try.f56) .leaf))) (some Try.f4) (.node (.node (.node (.node .leaf (some Try.f68) .leaf) (some Try.f36) .leaf) (some Try.f20) (.node .leaf (some Try.f52) .leaf)) (some Try.f12) (.node (.node .leaf (some Try.f44) .leaf) (some Try.f28) (.node .leaf (some Try.f60) .leaf)))) (some Try.f2) (.node (.node (.node (.node (.node .leaf (some Try.f66) .leaf) (some Try.f34) .leaf) (some Try.f18) (.node .leaf (some Try.f50) .leaf)) (some Try.f10) (.node (.node .leaf (some Try.f42) .leaf) (some Try.f26) (.node .leaf (some Try.f58) .leaf))) (some Try.f6) (.node (.node (.node (.node .leaf (some Try.f70) .leaf) (some Try.f38) .leaf) (some Try.f22) (.node .leaf (some Try.f54) .leaf)) (some Try.f14) (.node (.node .leaf (some Try.f46) .leaf) (some Try.f30) (.node .leaf (some Try.f62) .leaf))))))
noncomputable def tabs : Tabs := ⟨undT, sizeT, bytesT, zeroT, flatT, codeT⟩
theorem tabs_ok : tabs.Ok Try.prog [0, 1, 2, 3, 4, 5, 6, 7, 8, 9, 10, 11, 12, 13, 14, 15, 16, 17, 18, 19, 20, 21, 22, 23, 24, 25, 26, 27, 28, 29, 30, 31, 32, 33, 34, 35, 36, 37, 38, 39, 40, 41, 42, 43, 44, 45, 46, 47, 48, 49, 50, 51, 52, 53, 54, 55, 56, 57, 58, 59, 60, 61, 62, 63, 64, 65, 66, 67, 68, 69, 70, 71, 72, 73, 74, 75, 76, 77, 78, 79, 80, 81, 82, 83, 84, 85, 86, 87, 88, 89, 90, 91, 92, 93, 94, 95, 96, 97] [0, 1, 2, 3, 4, 5, 6, 7, 8, 9, 10, 11, 12, 13, 14, 15, 16, 17, 18, 19, 20, 21, 22, 23, 24, 25, 26, 27, 28, 29, 30, 31, 32, 33, 34, 35, 36, 37, 38, 39, 40, 41, 42, 43, 44, 45, 46, 47, 48, 49, 50, 51, 52, 53, 54, 55, 56, 57, 58, 59, 60, 61, 62, 63, 64, 65, 66, 67, 68, 69, 70, 71, 72, 73] :=
  ⟨by kernel_rfl, by kernel_rfl, by kernel_rfl, by kernel_rfl, by kernel_rfl, by kernel_rfl⟩
end Go.Proofs.Ytpkeggejofeeeaa

namespace Go.Proofs.Ytpkeggejofeeeaa
open Go.Proofs.Ytpkeggejofeeeaa.Lvm Go

noncomputable abbrev EE (bm : Nat → Nat → Option LV) : Env := tabEnv Try.prog tabs bm (oneExt 10)

section
variable {bm : Nat → Nat → Option LV} {st : LSt} {lo : Nat} {a b c d : LV} {m : Mach} {fol : List (LV × List Int)}

theorem awake_ok : Fin (EE bm) lo 10 [] st (fun r H => r = .bool true ∧ H = []) := ⟨.bool true, st, [], ⟨0, rfl⟩, Inv.refl, rfl, rfl⟩

/-- As great as statements go through. -/
def Small60 (m : Mach) (fol : List (LV × List Int)) : Prop := m.spots.length ≤ 60 ∧ fol.length ≤ 60 ∧ m.last.length ≤ 60 ∧ m.first.length ≤ 60 ∧ ∀ j (h : j < fol.length), fol[j].2.length ≤ 60
theorem great_ok (hlo : lo ≤ st.nxt) (hm : MA (EE bm) st a b c d m fol) : Fin (EE bm) lo 9 [mv a b c d m] st (fun v H => (v = .bool true ∧ H = []) ∨ (Small60 m fol ∧ v = .bool false ∧ H = [])) := by
  refine Fin.of_body (fn := Try.f9) (c := Try.f9.body.getD .skip) rfl rfl rfl rfl ?_
  refine WP.seq ?_
  refine WP.region ?_
  refine RP.box rfl rfl hm.sc (fun L1 => ?_)
  refine RP.assign rfl rfl ?_
  refine RP.nil ?_
  refine WP.seq ?_
  refine WP.seq ?_
  refine WP.region ?_
  refine RP.faddr rfl rfl rfl ?_
  refine RP.load_box rfl rfl rfl rfl (by repeat (first | exact .here | apply HIn.there | apply HIn.app)) rfl ?_
  first | refine RP.len_sl rfl rfl (.arg hm.spots) rfl ?_ | refine RP.len_sl rfl rfl (.arg hm.first) rfl ?_ | refine RP.len_sl rfl rfl (.arg hm.follow) rfl ?_ | refine RP.len_sl rfl rfl (.arg hm.last) rfl ?_
  refine RP.gtr rfl rfl rfl (fun h7 => ?_) (fun h7 => ?_)
  · skip
    refine RP.move rfl rfl ?_
    refine RP.gfalse rfl rfl ?_
    refine RP.gfalse rfl rfl ?_
    refine RP.gfalse rfl rfl ?_
    refine RP.gfalse rfl rfl ?_
    refine RP.pick_ rfl rfl rfl ?_
    refine RP.move rfl rfl ?_
    refine RP.gfalse rfl rfl ?_
    refine RP.gfalse rfl rfl ?_
    refine RP.gfalse rfl rfl ?_
    refine RP.gfalse rfl rfl ?_
    refine RP.pick_ rfl rfl rfl ?_
    refine RP.move rfl rfl ?_
    refine RP.gfalse rfl rfl ?_
    refine RP.gfalse rfl rfl ?_
    refine RP.gfalse rfl rfl ?_
    refine RP.gfalse rfl rfl ?_
    refine RP.pick_ rfl rfl rfl ?_
    refine RP.nil ?_
    refine WP.cond_t rfl ?_
    refine WP.seq ?_
    refine WP.region ?_
    refine RP.assign rfl rfl ?_
    refine RP.nil ?_
    refine WP.ret ?_
    exact End.one (Or.inr rfl) rfl (.tmp rfl) .nil (Or.inl ⟨rfl, rfl⟩)
  · skip
    refine RP.move rfl rfl ?_
    refine RP.gtrue rfl ?_
    refine RP.faddr rfl rfl rfl ?_
    refine RP.gtrue rfl ?_
    refine RP.load_box rfl rfl rfl rfl (by repeat (first | exact .here | apply HIn.there | apply HIn.app)) rfl ?_
    refine RP.gtrue rfl ?_
    first | refine RP.len_sl rfl rfl (.arg hm.spots) rfl ?_ | refine RP.len_sl rfl rfl (.arg hm.first) rfl ?_ | refine RP.len_sl rfl rfl (.arg hm.follow) rfl ?_ | refine RP.len_sl rfl rfl (.arg hm.last) rfl ?_
    refine RP.gtrue rfl ?_
    refine RP.gtr rfl rfl rfl (fun h12 => ?_) (fun h12 => ?_)
    · skip
      refine RP.pick_ rfl rfl rfl ?_
      refine RP.move rfl rfl ?_
      refine RP.gfalse rfl rfl ?_
      refine RP.gfalse rfl rfl ?_
      refine RP.gfalse rfl rfl ?_
      refine RP.gfalse rfl rfl ?_
      refine RP.pick_ rfl rfl rfl ?_
      refine RP.move rfl rfl ?_
      refine RP.gfalse rfl rfl ?_
      refine RP.gfalse rfl rfl ?_
      refine RP.gfalse rfl rfl ?_
      refine RP.gfalse rfl rfl ?_
      refine RP.pick_ rfl rfl rfl ?_
      refine RP.nil ?_
      refine WP.cond_t rfl ?_
      refine WP.seq ?_
      refine WP.region ?_
      refine RP.assign rfl rfl ?_
      refine RP.nil ?_
      refine WP.ret ?_
      exact End.one (Or.inr rfl) rfl (.tmp rfl) .nil (Or.inl ⟨rfl, rfl⟩)
    · skip
      refine RP.pick_ rfl rfl rfl ?_
      refine RP.move rfl rfl ?_
      refine RP.gtrue rfl ?_
      refine RP.faddr rfl rfl rfl ?_
      refine RP.gtrue rfl ?_
      refine RP.load_box rfl rfl rfl rfl (by repeat (first | exact .here | apply HIn.there | apply HIn.app)) rfl ?_
      refine RP.gtrue rfl ?_
      first | refine RP.len_sl rfl rfl (.arg hm.spots) rfl ?_ | refine RP.len_sl rfl rfl (.arg hm.first) rfl ?_ | refine RP.len_sl rfl rfl (.arg hm.follow) rfl ?_ | refine RP.len_sl rfl rfl (.arg hm.last) rfl ?_
      refine RP.gtrue rfl ?_
      refine RP.gtr rfl rfl rfl (fun h18 => ?_) (fun h18 => ?_)
      · skip
        refine RP.pick_ rfl rfl rfl ?_
        refine RP.move rfl rfl ?_
        refine RP.gfalse rfl rfl ?_
        refine RP.gfalse rfl rfl ?_
        refine RP.gfalse rfl rfl ?_
        refine RP.gfalse rfl rfl ?_
        refine RP.pick_ rfl rfl rfl ?_
        refine RP.nil ?_
        refine WP.cond_t rfl ?_
        refine WP.seq ?_
        refine WP.region ?_
        refine RP.assign rfl rfl ?_
        refine RP.nil ?_
        refine WP.ret ?_
        exact End.one (Or.inr rfl) rfl (.tmp rfl) .nil (Or.inl ⟨rfl, rfl⟩)
      · skip
        refine RP.pick_ rfl rfl rfl ?_
        refine RP.move rfl rfl ?_
        refine RP.gtrue rfl ?_
        refine RP.faddr rfl rfl rfl ?_
        refine RP.gtrue rfl ?_
        refine RP.load_box rfl rfl rfl rfl (by repeat (first | exact .here | apply HIn.there | apply HIn.app)) rfl ?_
        refine RP.gtrue rfl ?_
        first | refine RP.len_sl rfl rfl (.arg hm.spots) rfl ?_ | refine RP.len_sl rfl rfl (.arg hm.first) rfl ?_ | refine RP.len_sl rfl rfl (.arg hm.follow) rfl ?_ | refine RP.len_sl rfl rfl (.arg hm.last) rfl ?_
        refine RP.gtrue rfl ?_
        refine RP.gtr rfl rfl rfl (fun h24 => ?_) (fun h24 => ?_)
        · skip
          refine RP.pick_ rfl rfl rfl ?_
          refine RP.nil ?_
          refine WP.cond_t rfl ?_
          refine WP.seq ?_
          refine WP.region ?_
          refine RP.assign rfl rfl ?_
          refine RP.nil ?_
          refine WP.ret ?_
          exact End.one (Or.inr rfl) rfl (.tmp rfl) .nil (Or.inl ⟨rfl, rfl⟩)
        · skip
          refine RP.pick_ rfl rfl rfl ?_
          refine RP.nil ?_
          refine WP.cond_f rfl ?_
          refine WP.skip ?_
          refine WP.seq ?_
          refine WP.seq ?_
          refine WP.region ?_
          refine RP.assign rfl rfl ?_
          refine RP.nil ?_
          refine WP.block rfl ?_
          refine WP.loop (α := Nat) (fun gh => [(1, .ptr (.own L1) 0), (3, .int .i64 (gh : Int))]) (fun gh => [(some L1, .cells (mv a b c d m).cells)]) (fun gh => gh ≤ fol.length ∧ ∀ j (h : j < fol.length), j < gh → fol[j].2.length ≤ 60) (fun gh => fol.length - gh) ?_ 0 ⟨rfl, rfl, trivial⟩ (.cons (by repeat (first | exact .here | apply HRem.there | apply HRem.app)) .nil) (by
            try dsimp only
            exact ⟨Nat.zero_le _, fun _ _ h => absurd h (Nat.not_lt_zero _)⟩)
          rintro i hI
          change i ≤ fol.length ∧ ∀ j (h : j < fol.length), j < i → fol[j].2.length ≤ 60 at hI
          change WP _ _ _ _ _ [(1, .ptr (.own L1) 0), (3, .int .i64 (i : Int))] ([(some L1, .cells (mv a b c d m).cells)] : HL) _
          obtain ⟨hI1, hI2⟩ := hI
          refine WP.seq ?_
          refine WP.seq ?_
          refine WP.region ?_
          refine RP.move rfl rfl ?_
          refine RP.faddr rfl rfl rfl ?_
          refine RP.load_box rfl rfl rfl rfl (by repeat (first | exact .here | apply HIn.there | apply HIn.app)) rfl ?_
          first | refine RP.len_sl rfl rfl (.arg hm.spots) rfl ?_ | refine RP.len_sl rfl rfl (.arg hm.first) rfl ?_ | refine RP.len_sl rfl rfl (.arg hm.follow) rfl ?_ | refine RP.len_sl rfl rfl (.arg hm.last) rfl ?_
          refine RP.lss rfl rfl rfl (fun h30 => ?_) (fun h30 => ?_)
          · skip
            have hlt : i < fol.length := by omega
            have hrow := hm.row hlt
            refine RP.nil ?_
            refine WP.cond_t rfl ?_
            refine WP.skip ?_
            refine WP.seq ?_
            refine WP.block rfl ?_
            refine WP.seq ?_
            refine WP.region ?_
            refine RP.faddr rfl rfl rfl ?_
            refine RP.load_box rfl rfl rfl rfl (by repeat (first | exact .here | apply HIn.there | apply HIn.app)) rfl ?_
            refine RP.move rfl rfl ?_
            first | refine RP.at_ rfl rfl rfl rfl rfl rfl (.arg hm.spots) (by first | assumption | omega) ?_ | refine RP.at_ rfl rfl rfl rfl rfl rfl (.arg hm.first) (by first | assumption | omega) ?_ | refine RP.at_ rfl rfl rfl rfl rfl rfl (.arg hm.follow) (by first | assumption | omega) ?_ | refine RP.at_ rfl rfl rfl rfl rfl rfl (.arg hm.last) (by first | assumption | omega) ?_
            first | refine RP.load_el rfl rfl rfl rfl (.arg hm.spots) (by first | assumption | omega) rfl ?_ | refine RP.load_el rfl rfl rfl rfl (.arg hm.first) (by first | assumption | omega) rfl ?_ | refine RP.load_el rfl rfl rfl rfl (.arg hm.follow) (by first | assumption | omega) rfl ?_ | refine RP.load_el rfl rfl rfl rfl (.arg hm.last) (by first | assumption | omega) rfl ?_
            refine RP.len_sl rfl rfl (.arg hrow) rfl ?_
            refine RP.gtr rfl rfl rfl (fun h39 => ?_) (fun h39 => ?_)
            · skip
              refine RP.nil ?_
              refine WP.cond_t rfl ?_
              refine WP.seq ?_
              refine WP.region ?_
              refine RP.assign rfl rfl ?_
              refine RP.nil ?_
              refine WP.ret ?_
              exact End.one (Or.inr rfl) rfl (.tmp rfl) .nil (Or.inl ⟨rfl, rfl⟩)
            · skip
              refine RP.nil ?_
              refine WP.cond_f rfl ?_
              refine WP.skip ?_
              refine WP.region ?_
              refine RP.move rfl rfl ?_
              refine RP.add rfl rfl rfl (by omega) (by omega) ?_
              refine RP.assign rfl rfl ?_
              refine RP.nil ?_
              refine roundQ.mk (Q := fun _ _ _ => True) (i + 1) ⟨rfl, rfl, trivial⟩ (.cons (by repeat (first | exact .here | apply HRem.there | apply HRem.app)) .nil) (by
                try dsimp only
                exact ⟨hlt, fun j hj hji => if e : j = i then by subst e; omega else hI2 j hj (by omega)⟩) (by
                try dsimp only
                omega)
          · skip
            refine RP.nil ?_
            refine WP.cond_f rfl ?_
            refine WP.exit ?_
            refine WP.seq ?_
            refine WP.region ?_
            refine RP.assign rfl rfl ?_
            refine RP.nil ?_
            refine WP.ret ?_
            exact End.one (Or.inr rfl) rfl (.tmp rfl) .nil (Or.inr ⟨⟨by omega, by omega, by omega, by omega, fun j hj => hI2 j hj (by omega)⟩, rfl, rfl⟩)

theorem rising_ok (hlo : lo ≤ st.nxt) {v : LV} {xs : List Int} {bound : Int} (hv : SlT (EE bm) st v 1 fI xs) (hn : xs.length ≤ 1000000) : Fin (EE bm) lo 44 [v, .int .i64 bound] st (fun r H => r = .bool (risingF bound (-1) xs) ∧ H = []) := by
  refine Fin.of_body (fn := Try.f44) (c := Try.f44.body.getD .skip) rfl rfl rfl rfl ?_
  refine WP.seq ?_
  refine WP.region ?_
  refine RP.assign rfl rfl ?_
  refine RP.nil ?_
  refine WP.seq ?_
  refine WP.region ?_
  refine RP.assign rfl rfl ?_
  refine RP.nil ?_
  refine WP.seq ?_
  refine WP.seq ?_
  refine WP.region ?_
  refine RP.move rfl rfl ?_
  refine RP.len_sl rfl rfl (.arg hv) rfl ?_
  refine RP.move rfl rfl ?_
  refine RP.nil ?_
  refine WP.block rfl ?_
  refine WP.loop (α := Nat × Int) (fun gh => [(1, .int .i64 bound), (5, .int .i64 gh.2), (8, v), (9, .int .i64 (xs.length : Int)), (10, .int .i64 (gh.1 : Int))]) (fun gh => []) (fun gh => gh.1 ≤ xs.length ∧ risingF bound (-1) xs = risingF bound gh.2 (xs.drop gh.1)) (fun gh => xs.length - gh.1) ?_ (0, -1) ⟨rfl, rfl, rfl, rfl, rfl, trivial⟩ .nil (by
    try dsimp only
    exact ⟨Nat.zero_le _, rfl⟩)
  rintro ⟨i, last⟩ hI
  change i ≤ xs.length ∧ risingF bound (-1) xs = risingF bound last (xs.drop i) at hI
  change WP _ _ _ _ _ [(1, .int .i64 bound), (5, .int .i64 last), (8, v), (9, .int .i64 (xs.length : Int)), (10, .int .i64 (i : Int))] ([] : HL) _
  obtain ⟨hI1, hI2⟩ := hI
  refine WP.seq ?_
  refine WP.region ?_
  refine RP.lss rfl rfl rfl (fun h11 => ?_) (fun h11 => ?_)
  · skip
    have hlt : i < xs.length := by omega
    refine RP.nil ?_
    refine WP.seq ?_
    refine WP.cond_t rfl ?_
    refine WP.skip ?_
    refine WP.seq ?_
    refine WP.block rfl ?_
    refine WP.seq ?_
    refine WP.region ?_
    refine RP.at_ rfl rfl rfl rfl rfl rfl (.arg hv) (by first | assumption | omega) ?_
    refine RP.load_el rfl rfl rfl rfl (.arg hv) (by first | assumption | omega) rfl ?_
    refine RP.assign rfl rfl ?_
    refine RP.nil ?_
    refine WP.seq ?_
    refine WP.seq ?_
    refine WP.region ?_
    refine RP.move rfl rfl ?_
    refine RP.move rfl rfl ?_
    refine RP.leq rfl rfl rfl (fun h16 => ?_) (fun h16 => ?_)
    · skip
      refine RP.move rfl rfl ?_
      refine RP.gfalse rfl rfl ?_
      refine RP.gfalse rfl rfl ?_
      refine RP.gfalse rfl rfl ?_
      refine RP.pick_ rfl rfl rfl ?_
      refine RP.nil ?_
      refine WP.cond_t rfl ?_
      refine WP.seq ?_
      refine WP.region ?_
      refine RP.assign rfl rfl ?_
      refine RP.nil ?_
      refine WP.ret ?_
      exact End.one (Or.inr rfl) rfl (.tmp rfl) .nil ⟨by rw [hI2, risingF_step hlt, if_pos (by omega)], rfl⟩
    · skip
      refine RP.move rfl rfl ?_
      refine RP.gtrue rfl ?_
      refine RP.move rfl rfl ?_
      refine RP.gtrue rfl ?_
      refine RP.move rfl rfl ?_
      refine RP.gtrue rfl ?_
      refine RP.geq rfl rfl rfl (fun h20 => ?_) (fun h20 => ?_)
      · skip
        refine RP.pick_ rfl rfl rfl ?_
        refine RP.nil ?_
        refine WP.cond_t rfl ?_
        refine WP.seq ?_
        refine WP.region ?_
        refine RP.assign rfl rfl ?_
        refine RP.nil ?_
        refine WP.ret ?_
        exact End.one (Or.inr rfl) rfl (.tmp rfl) .nil ⟨by rw [hI2, risingF_step hlt, if_pos (by omega)], rfl⟩
      · skip
        refine RP.pick_ rfl rfl rfl ?_
        refine RP.nil ?_
        refine WP.cond_f rfl ?_
        refine WP.skip ?_
        refine WP.region ?_
        refine RP.move rfl rfl ?_
        refine RP.assign rfl rfl ?_
        refine RP.nil ?_
        refine WP.region ?_
        refine RP.add rfl rfl rfl (by omega) (by omega) ?_
        refine RP.move rfl rfl ?_
        refine RP.nil ?_
        refine roundQ.mk (Q := fun _ _ _ => True) (i + 1, xs[i]) ⟨rfl, rfl, rfl, rfl, rfl, trivial⟩ .nil (by
          try dsimp only
          exact ⟨hlt, by rw [hI2, risingF_step hlt, if_neg (by omega)]⟩) (by
          try dsimp only
          omega)
  · skip
    refine RP.nil ?_
    refine WP.seq ?_
    refine WP.cond_f rfl ?_
    refine WP.exit ?_
    refine WP.seq ?_
    refine WP.region ?_
    refine RP.assign rfl rfl ?_
    refine RP.nil ?_
    refine WP.ret ?_
    exact End.one (Or.inr rfl) rfl (.tmp rfl) .nil ⟨by rw [hI2, List.drop_of_length_le (by omega)]; rfl, rfl⟩

theorem right_ok (hlo : lo ≤ st.nxt) (hm : MA (EE bm) st a b c d m fol) (h1 : m.first.length ≤ 1000000) (h2 : ∀ j (h : j < fol.length), fol[j].2.length ≤ 1000000) : Fin (EE bm) lo 24 [mv a b c d m] st (fun v H => (GoodM m ∧ v = .bool true ∧ H = []) ∨ (¬ GoodM m ∧ v = .bool false ∧ H = [])) := by
  refine Fin.of_body (fn := Try.f24) (c := Try.f24.body.getD .skip) rfl rfl rfl rfl ?_
  refine WP.seq ?_
  refine WP.region ?_
  refine RP.box rfl rfl hm.sc (fun L1 => ?_)
  refine RP.assign rfl rfl ?_
  refine RP.nil ?_
  refine WP.seq ?_
  refine WP.region ?_
  refine RP.faddr rfl rfl rfl ?_
  refine RP.load_box rfl rfl rfl rfl (by repeat (first | exact .here | apply HIn.there | apply HIn.app)) rfl ?_
  first | refine RP.len_sl rfl rfl (.arg hm.spots) rfl ?_ | refine RP.len_sl rfl rfl (.arg hm.first) rfl ?_ | refine RP.len_sl rfl rfl (.arg hm.follow) rfl ?_ | refine RP.len_sl rfl rfl (.arg hm.last) rfl ?_
  refine RP.assign rfl rfl ?_
  refine RP.nil ?_
  refine WP.seq ?_
  refine WP.seq ?_
  refine WP.region ?_
  refine RP.move rfl rfl ?_
  refine RP.gtr rfl rfl rfl (fun h10 => ?_) (fun h10 => ?_)
  · skip
    refine RP.move rfl rfl ?_
    refine RP.gfalse rfl rfl ?_
    refine RP.gfalse rfl rfl ?_
    refine RP.gfalse rfl rfl ?_
    refine RP.gfalse rfl rfl ?_
    refine RP.gfalse rfl rfl ?_
    refine RP.pick_ rfl rfl rfl ?_
    refine RP.move rfl rfl ?_
    refine RP.gfalse rfl rfl ?_
    refine RP.gfalse rfl rfl ?_
    refine RP.gfalse rfl rfl ?_
    refine RP.gfalse rfl rfl ?_
    refine RP.gfalse rfl rfl ?_
    refine RP.pick_ rfl rfl rfl ?_
    refine RP.move rfl rfl ?_
    refine RP.gfalse rfl rfl ?_
    refine RP.gfalse rfl rfl ?_
    refine RP.gfalse rfl rfl ?_
    refine RP.gfalse rfl rfl ?_
    refine RP.gfalse rfl rfl ?_
    refine RP.pick_ rfl rfl rfl ?_
    refine RP.nil ?_
    refine WP.cond_t rfl ?_
    refine WP.seq ?_
    refine WP.region ?_
    refine RP.assign rfl rfl ?_
    refine RP.nil ?_
    refine WP.ret ?_
    exact End.one (Or.inr rfl) rfl (.tmp rfl) .nil (Or.inr ⟨fun hg => by have := hg.size; omega, rfl, rfl⟩)
  · skip
    refine RP.move rfl rfl ?_
    refine RP.gtrue rfl ?_
    refine RP.faddr rfl rfl rfl ?_
    refine RP.gtrue rfl ?_
    refine RP.load_box rfl rfl rfl rfl (by repeat (first | exact .here | apply HIn.there | apply HIn.app)) rfl ?_
    refine RP.gtrue rfl ?_
    first | refine RP.len_sl rfl rfl (.arg hm.spots) rfl ?_ | refine RP.len_sl rfl rfl (.arg hm.first) rfl ?_ | refine RP.len_sl rfl rfl (.arg hm.follow) rfl ?_ | refine RP.len_sl rfl rfl (.arg hm.last) rfl ?_
    refine RP.gtrue rfl ?_
    refine RP.move rfl rfl ?_
    refine RP.gtrue rfl ?_
    refine RP.neq rfl rfl rfl (fun h16 => ?_) (fun h16 => ?_)
    · skip
      refine RP.pick_ rfl rfl rfl ?_
      refine RP.move rfl rfl ?_
      refine RP.gfalse rfl rfl ?_
      refine RP.gfalse rfl rfl ?_
      refine RP.gfalse rfl rfl ?_
      refine RP.gfalse rfl rfl ?_
      refine RP.gfalse rfl rfl ?_
      refine RP.pick_ rfl rfl rfl ?_
      refine RP.move rfl rfl ?_
      refine RP.gfalse rfl rfl ?_
      refine RP.gfalse rfl rfl ?_
      refine RP.gfalse rfl rfl ?_
      refine RP.gfalse rfl rfl ?_
      refine RP.gfalse rfl rfl ?_
      refine RP.pick_ rfl rfl rfl ?_
      refine RP.nil ?_
      refine WP.cond_t rfl ?_
      refine WP.seq ?_
      refine WP.region ?_
      refine RP.assign rfl rfl ?_
      refine RP.nil ?_
      refine WP.ret ?_
      exact End.one (Or.inr rfl) rfl (.tmp rfl) .nil (Or.inr ⟨fun hg => by have := hg.flen; have := hm.len; omega, rfl, rfl⟩)
    · skip
      refine RP.pick_ rfl rfl rfl ?_
      refine RP.move rfl rfl ?_
      refine RP.gtrue rfl ?_
      refine RP.faddr rfl rfl rfl ?_
      refine RP.gtrue rfl ?_
      refine RP.load_box rfl rfl rfl rfl (by repeat (first | exact .here | apply HIn.there | apply HIn.app)) rfl ?_
      refine RP.gtrue rfl ?_
      first | refine RP.len_sl rfl rfl (.arg hm.spots) rfl ?_ | refine RP.len_sl rfl rfl (.arg hm.first) rfl ?_ | refine RP.len_sl rfl rfl (.arg hm.follow) rfl ?_ | refine RP.len_sl rfl rfl (.arg hm.last) rfl ?_
      refine RP.gtrue rfl ?_
      refine RP.move rfl rfl ?_
      refine RP.gtrue rfl ?_
      refine RP.neq rfl rfl rfl (fun h23 => ?_) (fun h23 => ?_)
      · skip
        refine RP.pick_ rfl rfl rfl ?_
        refine RP.move rfl rfl ?_
        refine RP.gfalse rfl rfl ?_
        refine RP.gfalse rfl rfl ?_
        refine RP.gfalse rfl rfl ?_
        refine RP.gfalse rfl rfl ?_
        refine RP.gfalse rfl rfl ?_
        refine RP.pick_ rfl rfl rfl ?_
        refine RP.nil ?_
        refine WP.cond_t rfl ?_
        refine WP.seq ?_
        refine WP.region ?_
        refine RP.assign rfl rfl ?_
        refine RP.nil ?_
        refine WP.ret ?_
        exact End.one (Or.inr rfl) rfl (.tmp rfl) .nil (Or.inr ⟨fun hg => by have := hg.llen; omega, rfl, rfl⟩)
      · skip
        refine RP.pick_ rfl rfl rfl ?_
        refine RP.move rfl rfl ?_
        refine RP.gtrue rfl ?_
        refine RP.faddr rfl rfl rfl ?_
        refine RP.gtrue rfl ?_
        refine RP.load_box rfl rfl rfl rfl (by repeat (first | exact .here | apply HIn.there | apply HIn.app)) rfl ?_
        refine RP.gtrue rfl ?_
        refine RP.move rfl rfl ?_
        refine RP.gtrue rfl ?_
        refine RP.call rfl rfl rfl hlo (fun st' lo' hi' hl' => rising_ok hl' (hm.first.inv hi') (by omega)) ?_
        rintro _ _ ⟨rfl, rfl⟩
        refine RP.gtrue rfl ?_
        refine RP.un rfl rfl rfl ?_
        refine RP.pick_ rfl rfl rfl ?_
        refine RP.nil ?_
        refine WP.cond_b rfl (fun hc31 => ?_) (fun hc31 => ?_)
        · skip
          refine WP.seq ?_
          refine WP.region ?_
          refine RP.assign rfl rfl ?_
          refine RP.nil ?_
          refine WP.ret ?_
          exact End.one (Or.inr rfl) rfl (.tmp rfl) .nil (Or.inr ⟨fun hg => by have := hg.first; simp [this] at hc31, rfl, rfl⟩)
        · skip
          refine WP.skip ?_
          refine WP.seq ?_
          refine WP.seq ?_
          refine WP.region ?_
          refine RP.faddr rfl rfl rfl ?_
          refine RP.load_box rfl rfl rfl rfl (by repeat (first | exact .here | apply HIn.there | apply HIn.app)) rfl ?_
          first | refine RP.len_sl rfl rfl (.arg hm.spots) rfl ?_ | refine RP.len_sl rfl rfl (.arg hm.first) rfl ?_ | refine RP.len_sl rfl rfl (.arg hm.follow) rfl ?_ | refine RP.len_sl rfl rfl (.arg hm.last) rfl ?_
          refine RP.move rfl rfl ?_
          refine RP.nil ?_
          refine WP.block rfl ?_
          refine WP.loop (α := Nat) (fun gh => [(1, .ptr (.own L1) 0), (3, .int .i64 (m.spots.length : Int)), (33, a), (34, .int .i64 (m.spots.length : Int)), (35, .int .i64 (gh : Int))]) (fun gh => [(some L1, .cells (mv a b c d m).cells)]) (fun gh => gh ≤ m.spots.length ∧ (∀ j (h : j < m.spots.length), j < gh → m.spots[j].tag ≤ 2) ∧ ∀ j (h : j < fol.length), j < gh → risingF m.spots.length (-1) fol[j].2 = true) (fun gh => m.spots.length - gh) ?_ 0 ⟨rfl, rfl, rfl, rfl, rfl, trivial⟩ (.cons (by repeat (first | exact .here | apply HRem.there | apply HRem.app)) .nil) (by
            try dsimp only
            exact ⟨Nat.zero_le _, fun _ _ h => absurd h (Nat.not_lt_zero _), fun _ _ h => absurd h (Nat.not_lt_zero _)⟩)
          rintro i hI
          change i ≤ m.spots.length ∧ (∀ j (h : j < m.spots.length), j < i → m.spots[j].tag ≤ 2) ∧ ∀ j (h : j < fol.length), j < i → risingF m.spots.length (-1) fol[j].2 = true at hI
          change WP _ _ _ _ _ [(1, .ptr (.own L1) 0), (3, .int .i64 (m.spots.length : Int)), (33, a), (34, .int .i64 (m.spots.length : Int)), (35, .int .i64 (i : Int))] ([(some L1, .cells (mv a b c d m).cells)] : HL) _
          obtain ⟨hI1, hI2, hI3⟩ := hI
          refine WP.seq ?_
          refine WP.region ?_
          refine RP.lss rfl rfl rfl (fun h36 => ?_) (fun h36 => ?_)
          · skip
            have hlt : i < m.spots.length := by omega
            have hlf : i < fol.length := by have := hm.len; omega
            have hrow := hm.row hlf
            have hrl := h2 i hlf
            refine RP.nil ?_
            refine WP.seq ?_
            refine WP.cond_t rfl ?_
            refine WP.skip ?_
            refine WP.seq ?_
            refine WP.block rfl ?_
            refine WP.seq ?_
            refine WP.region ?_
            refine RP.move rfl rfl ?_
            first | refine RP.at_ rfl rfl rfl rfl rfl rfl (.arg hm.spots) (by first | assumption | omega) ?_ | refine RP.at_ rfl rfl rfl rfl rfl rfl (.arg hm.first) (by first | assumption | omega) ?_ | refine RP.at_ rfl rfl rfl rfl rfl rfl (.arg hm.follow) (by first | assumption | omega) ?_ | refine RP.at_ rfl rfl rfl rfl rfl rfl (.arg hm.last) (by first | assumption | omega) ?_
            first | refine RP.load_elN rfl rfl rfl rfl rfl (.arg hm.spots) (by first | assumption | omega) rfl ?_ | refine RP.load_elN rfl rfl rfl rfl rfl (.arg hm.first) (by first | assumption | omega) rfl ?_ | refine RP.load_elN rfl rfl rfl rfl rfl (.arg hm.follow) (by first | assumption | omega) rfl ?_ | refine RP.load_elN rfl rfl rfl rfl rfl (.arg hm.last) (by first | assumption | omega) rfl ?_
            refine RP.alloc rfl rfl rfl (fun L5 => ?_)
            refine RP.assign rfl rfl ?_
            refine RP.store_box rfl rfl rfl rfl rfl rfl hlo (by repeat (first | exact .here | apply HUpd.there | apply HUpd.app)) ?_
            refine RP.nil ?_
            refine WP.seq ?_
            refine WP.region ?_
            refine RP.faddr rfl rfl rfl ?_
            refine RP.load_box rfl rfl rfl rfl (by repeat (first | exact .here | apply HIn.there | apply HIn.app)) rfl ?_
            refine RP.gtr rfl rfl rfl (fun h42 => ?_) (fun h42 => ?_)
            · skip
              refine RP.move rfl rfl ?_
              refine RP.gfalse rfl rfl ?_
              refine RP.gfalse rfl rfl ?_
              refine RP.gfalse rfl rfl ?_
              refine RP.gfalse rfl rfl ?_
              refine RP.gfalse rfl rfl ?_
              refine RP.gfalse rfl rfl ?_
              refine RP.gfalse rfl rfl ?_
              refine RP.gfalse rfl rfl ?_
              refine RP.pick_ rfl rfl rfl ?_
              refine RP.nil ?_
              refine WP.cond_t rfl ?_
              refine WP.seq ?_
              refine WP.region ?_
              refine RP.assign rfl rfl ?_
              refine RP.nil ?_
              refine WP.ret ?_
              exact End.one (Or.inr rfl) rfl (.tmp rfl) .nil (Or.inr ⟨fun hg => by have := hg.tags i hlt; omega, rfl, rfl⟩)
            · skip
              refine RP.move rfl rfl ?_
              refine RP.gtrue rfl ?_
              refine RP.faddr rfl rfl rfl ?_
              refine RP.gtrue rfl ?_
              refine RP.load_box rfl rfl rfl rfl (by repeat (first | exact .here | apply HIn.there | apply HIn.app)) rfl ?_
              refine RP.gtrue rfl ?_
              refine RP.move rfl rfl ?_
              refine RP.gtrue rfl ?_
              first | refine RP.at_ rfl rfl rfl rfl rfl rfl (.arg hm.spots) (by first | assumption | omega) ?_ | refine RP.at_ rfl rfl rfl rfl rfl rfl (.arg hm.first) (by first | assumption | omega) ?_ | refine RP.at_ rfl rfl rfl rfl rfl rfl (.arg hm.follow) (by first | assumption | omega) ?_ | refine RP.at_ rfl rfl rfl rfl rfl rfl (.arg hm.last) (by first | assumption | omega) ?_
              refine RP.gtrue rfl ?_
              first | refine RP.load_el rfl rfl rfl rfl (.arg hm.spots) (by first | assumption | omega) rfl ?_ | refine RP.load_el rfl rfl rfl rfl (.arg hm.first) (by first | assumption | omega) rfl ?_ | refine RP.load_el rfl rfl rfl rfl (.arg hm.follow) (by first | assumption | omega) rfl ?_ | refine RP.load_el rfl rfl rfl rfl (.arg hm.last) (by first | assumption | omega) rfl ?_
              refine RP.gtrue rfl ?_
              refine RP.move rfl rfl ?_
              refine RP.gtrue rfl ?_
              refine RP.call rfl rfl rfl hlo (fun st' lo' hi' hl' => rising_ok hl' (hrow.inv hi') (by omega)) ?_
              rintro _ _ ⟨rfl, rfl⟩
              refine RP.gtrue rfl ?_
              refine RP.un rfl rfl rfl ?_
              refine RP.pick_ rfl rfl rfl ?_
              refine RP.nil ?_
              refine WP.cond_b rfl (fun hc52 => ?_) (fun hc52 => ?_)
              · skip
                refine WP.seq ?_
                refine WP.region ?_
                refine RP.assign rfl rfl ?_
                refine RP.nil ?_
                refine WP.ret ?_
                exact End.one (Or.inr rfl) rfl (.tmp rfl) .nil (Or.inr ⟨fun hg => by have := hg.rows i (by rw [hm.len]; exact hlf); simp only [hm.same, List.getElem_map] at this; simp [this] at hc52, rfl, rfl⟩)
              · skip
                refine WP.skip ?_
                refine WP.region ?_
                refine RP.add rfl rfl rfl (by omega) (by omega) ?_
                refine RP.move rfl rfl ?_
                refine RP.nil ?_
                refine roundQ.mk (Q := fun _ _ _ => True) (i + 1) ⟨rfl, rfl, rfl, rfl, rfl, trivial⟩ (.cons (by repeat (first | exact .here | apply HRem.there | apply HRem.app)) .nil) (by
                  try dsimp only
                  exact ⟨hlt, fun j hj hji => (if e : j = i then by subst e; omega else hI2 j hj (by omega)), fun j hj hji => (if e : j = i then by subst e; simpa using hc52 else hI3 j hj (by omega))⟩) (by
                  try dsimp only
                  omega)
          · skip
            refine RP.nil ?_
            refine WP.seq ?_
            refine WP.cond_f rfl ?_
            refine WP.exit ?_
            refine WP.seq ?_
            refine WP.region ?_
            refine RP.assign rfl rfl ?_
            refine RP.nil ?_
            refine WP.ret ?_
            exact End.one (Or.inr rfl) rfl (.tmp rfl) .nil (Or.inl ⟨⟨by omega, by rw [hm.len]; omega, by omega, by simpa using hc31, fun j hj => hI2 j hj (by omega), fun j hj => by have := hI3 j (by rw [← hm.len]; exact hj) (by have := hm.len; omega); simpa only [hm.same, List.getElem_map] using this⟩, rfl, rfl⟩)
end
end Go.Proofs.Ytpkeggejofeeeaa

namespace Go.Proofs.Ytpkeggejofeeeaa
open Go.Proofs.Ytpkeggejofeeeaa.Lvm Go

section
variable {bm : Nat → Nat → Option LV} {st : LSt} {lo : Nat} {a b c d : LV} {m : Mach} {fol : List (LV × List Int)}

theorem clonefI_ok (hlo : lo ≤ st.nxt) {v : LV} {xs : List Int} (hv : SlT (EE bm) st v 1 fI xs) (hn : xs.length ≤ 1000000) : Fin (EE bm) lo 55 [v] st (fun r H => ∃ p, H = [p] ∧ Lin 1 fI true r xs p) := by
  have hv0 := hv
  obtain ⟨hf, ⟨rfl, rfl⟩ | ⟨b, o, cap, ex, rfl, hb, hl⟩⟩ := hv
  · refine Fin.of_body (fn := Try.f55) (c := Try.f55.body.getD .skip) rfl rfl rfl rfl ?_
    refine WP.seq ?_
    refine WP.region ?_
    refine RP.assign rfl rfl ?_
    refine RP.nil ?_
    refine WP.seq ?_
    refine WP.seq ?_
    refine WP.region ?_
    refine RP.move rfl rfl ?_
    refine RP.ghost .dead ?_
    refine RP.bin rfl rfl rfl rfl ?_
    refine RP.nil ?_
    refine WP.cond_t rfl ?_
    refine WP.seq ?_
    refine WP.region ?_
    refine RP.assign rfl rfl ?_
    refine RP.nil ?_
    refine WP.ret ?_
    exact End.one (Or.inr rfl) rfl (.tmp rfl) (.cons (by repeat (first | exact .here | apply HRem.there | apply HRem.app)) .nil) ⟨_, rfl, .nil⟩
  · refine Fin.of_body (fn := Try.f55) (c := Try.f55.body.getD .skip) rfl rfl rfl rfl ?_
    refine WP.seq ?_
    refine WP.region ?_
    refine RP.assign rfl rfl ?_
    refine RP.nil ?_
    refine WP.seq ?_
    refine WP.seq ?_
    refine WP.region ?_
    refine RP.move rfl rfl ?_
    refine RP.bin rfl rfl rfl rfl ?_
    refine RP.nil ?_
    refine WP.cond_f rfl ?_
    refine WP.skip ?_
    refine WP.seq ?_
    refine WP.region ?_
    refine RP.bslice ([] : List Int) rfl rfl rfl rfl rfl rfl rfl rfl rfl rfl fI_len ?_
    intro v1 p1 hl1
    refine RP.move rfl rfl ?_
    refine RP.append rfl rfl rfl rfl rfl rfl rfl rfl hl1 (fun _ => (by repeat (first | exact .here | apply HUpd.there | apply HUpd.app))) (.arg hv0) (flat_all fI_sc _) (by simp only [List.length_nil]; omega) (fun e => (by first | rfl | cases e)) hlo ?_
    intro v2 p2 hl2
    refine RP.assign rfl rfl ?_
    refine RP.nil ?_
    refine WP.ret ?_
    exact End.one (Or.inr rfl) rfl (.tmp rfl) (.cons (by repeat (first | exact .here | apply HRem.there | apply HRem.app)) .nil) ⟨_, rfl, by simpa using hl2⟩
end
end Go.Proofs.Ytpkeggejofeeeaa

namespace Go.Proofs.Ytpkeggejofeeeaa
open Go.Proofs.Ytpkeggejofeeeaa.Lvm Go

section
variable {bm : Nat → Nat → Option LV} {st : LSt} {lo : Nat} {a b c d : LV} {m : Mach} {fol : List (LV × List Int)}

theorem ones_ok {x : Int} : Fin (EE bm) lo 57 [.int .u64 x] st (fun v H => v = .int .i64 (onesF x) ∧ H = []) := by
  refine Fin.of_body (fn := Try.f57) (c := Try.f57.body.getD .skip) rfl rfl rfl rfl ?_
  refine WP.seq ?_
  refine WP.region ?_
  refine RP.assign rfl rfl ?_
  refine RP.nil ?_
  refine WP.seq ?_
  refine WP.region ?_
  refine RP.move rfl rfl ?_
  refine RP.bin rfl rfl rfl rfl ?_
  refine RP.bin rfl rfl rfl rfl ?_
  refine RP.move rfl rfl ?_
  refine RP.bin rfl rfl rfl rfl ?_
  refine RP.bin rfl rfl rfl rfl ?_
  refine RP.assign rfl rfl ?_
  refine RP.nil ?_
  refine WP.seq ?_
  refine WP.region ?_
  refine RP.move rfl rfl ?_
  refine RP.bin rfl rfl rfl rfl ?_
  refine RP.bin rfl rfl rfl rfl ?_
  refine RP.move rfl rfl ?_
  refine RP.bin rfl rfl rfl rfl ?_
  refine RP.bin rfl rfl rfl rfl ?_
  refine RP.assign rfl rfl ?_
  refine RP.nil ?_
  refine WP.seq ?_
  refine WP.region ?_
  refine RP.move rfl rfl ?_
  refine RP.bin rfl rfl rfl rfl ?_
  refine RP.move rfl rfl ?_
  refine RP.bin rfl rfl rfl rfl ?_
  refine RP.bin rfl rfl rfl rfl ?_
  refine RP.assign rfl rfl ?_
  refine RP.nil ?_
  refine WP.seq ?_
  refine WP.region ?_
  refine RP.move rfl rfl ?_
  refine RP.move rfl rfl ?_
  refine RP.bin rfl rfl rfl rfl ?_
  refine RP.bin rfl rfl rfl rfl ?_
  refine RP.assign rfl rfl ?_
  refine RP.nil ?_
  refine WP.seq ?_
  refine WP.region ?_
  refine RP.move rfl rfl ?_
  refine RP.move rfl rfl ?_
  refine RP.bin rfl rfl rfl rfl ?_
  refine RP.bin rfl rfl rfl rfl ?_
  refine RP.assign rfl rfl ?_
  refine RP.nil ?_
  refine WP.seq ?_
  refine WP.region ?_
  refine RP.move rfl rfl ?_
  refine RP.move rfl rfl ?_
  refine RP.bin rfl rfl rfl rfl ?_
  refine RP.bin rfl rfl rfl rfl ?_
  refine RP.assign rfl rfl ?_
  refine RP.nil ?_
  refine WP.seq ?_
  refine WP.region ?_
  refine RP.move rfl rfl ?_
  refine RP.conv rfl rfl (fun _ => rfl) ?_
  refine RP.bin rfl rfl rfl rfl ?_
  refine RP.assign rfl rfl ?_
  refine RP.nil ?_
  refine WP.ret ?_
  exact End.one (Or.inr rfl) rfl (.tmp rfl) .nil ⟨rfl, rfl⟩
theorem count_ok (hlo : lo ≤ st.nxt) {s : Spot} : Fin (EE bm) lo 53 [.agg [.int .u64 s.a, .int .u64 s.b, .int .u64 s.c, .int .u64 s.d]] st (fun v H => v = .int .i64 (countF s) ∧ H = []) := by
  refine Fin.of_body (fn := Try.f53) (c := Try.f53.body.getD .skip) rfl rfl rfl rfl ?_
  refine WP.seq ?_
  refine WP.region ?_
  refine RP.box rfl rfl rfl (fun L1 => ?_)
  refine RP.assign rfl rfl ?_
  refine RP.nil ?_
  refine WP.seq ?_
  refine WP.region ?_
  refine RP.assign rfl rfl ?_
  refine RP.nil ?_
  refine WP.seq ?_
  refine WP.seq ?_
  refine WP.region ?_
  refine RP.load_boxN rfl rfl rfl rfl rfl (by repeat (first | exact .here | apply HIn.there | apply HIn.app)) rfl ?_
  refine RP.move rfl rfl ?_
  refine RP.nil ?_
  refine WP.block rfl ?_
  refine WP.unroll ?_
  refine WP.seq ?_
  refine WP.region ?_
  refine RP.lss_t rfl rfl rfl (by omega) ?_
  refine RP.nil ?_
  refine WP.seq ?_
  refine WP.cond_t rfl ?_
  refine WP.skip ?_
  refine WP.seq ?_
  refine WP.block rfl ?_
  refine WP.seq ?_
  refine WP.region ?_
  refine RP.idx rfl rfl rfl rfl ?_
  refine RP.assign rfl rfl ?_
  refine RP.nil ?_
  refine WP.region ?_
  refine RP.move rfl rfl ?_
  refine RP.move rfl rfl ?_
  refine RP.call rfl rfl rfl hlo (fun st' lo' hi' hl' => ones_ok) ?_
  rintro _ _ ⟨rfl, rfl⟩
  refine RP.bin rfl rfl rfl rfl ?_
  refine RP.assign rfl rfl ?_
  refine RP.nil ?_
  refine WP.region ?_
  refine RP.add rfl rfl rfl (by omega) (by omega) ?_
  refine RP.move rfl rfl ?_
  refine RP.nil ?_
  refine WP.unroll ?_
  refine WP.seq ?_
  refine WP.region ?_
  refine RP.lss_t rfl rfl rfl (by omega) ?_
  refine RP.nil ?_
  refine WP.seq ?_
  refine WP.cond_t rfl ?_
  refine WP.skip ?_
  refine WP.seq ?_
  refine WP.block rfl ?_
  refine WP.seq ?_
  refine WP.region ?_
  refine RP.idx rfl rfl rfl rfl ?_
  refine RP.assign rfl rfl ?_
  refine RP.nil ?_
  refine WP.region ?_
  refine RP.move rfl rfl ?_
  refine RP.move rfl rfl ?_
  refine RP.call rfl rfl rfl hlo (fun st' lo' hi' hl' => ones_ok) ?_
  rintro _ _ ⟨rfl, rfl⟩
  refine RP.bin rfl rfl rfl rfl ?_
  refine RP.assign rfl rfl ?_
  refine RP.nil ?_
  refine WP.region ?_
  refine RP.add rfl rfl rfl (by omega) (by omega) ?_
  refine RP.move rfl rfl ?_
  refine RP.nil ?_
  refine WP.unroll ?_
  refine WP.seq ?_
  refine WP.region ?_
  refine RP.lss_t rfl rfl rfl (by omega) ?_
  refine RP.nil ?_
  refine WP.seq ?_
  refine WP.cond_t rfl ?_
  refine WP.skip ?_
  refine WP.seq ?_
  refine WP.block rfl ?_
  refine WP.seq ?_
  refine WP.region ?_
  refine RP.idx rfl rfl rfl rfl ?_
  refine RP.assign rfl rfl ?_
  refine RP.nil ?_
  refine WP.region ?_
  refine RP.move rfl rfl ?_
  refine RP.move rfl rfl ?_
  refine RP.call rfl rfl rfl hlo (fun st' lo' hi' hl' => ones_ok) ?_
  rintro _ _ ⟨rfl, rfl⟩
  refine RP.bin rfl rfl rfl rfl ?_
  refine RP.assign rfl rfl ?_
  refine RP.nil ?_
  refine WP.region ?_
  refine RP.add rfl rfl rfl (by omega) (by omega) ?_
  refine RP.move rfl rfl ?_
  refine RP.nil ?_
  refine WP.unroll ?_
  refine WP.seq ?_
  refine WP.region ?_
  refine RP.lss_t rfl rfl rfl (by omega) ?_
  refine RP.nil ?_
  refine WP.seq ?_
  refine WP.cond_t rfl ?_
  refine WP.skip ?_
  refine WP.seq ?_
  refine WP.block rfl ?_
  refine WP.seq ?_
  refine WP.region ?_
  refine RP.idx rfl rfl rfl rfl ?_
  refine RP.assign rfl rfl ?_
  refine RP.nil ?_
  refine WP.region ?_
  refine RP.move rfl rfl ?_
  refine RP.move rfl rfl ?_
  refine RP.call rfl rfl rfl hlo (fun st' lo' hi' hl' => ones_ok) ?_
  rintro _ _ ⟨rfl, rfl⟩
  refine RP.bin rfl rfl rfl rfl ?_
  refine RP.assign rfl rfl ?_
  refine RP.nil ?_
  refine WP.region ?_
  refine RP.add rfl rfl rfl (by omega) (by omega) ?_
  refine RP.move rfl rfl ?_
  refine RP.nil ?_
  refine WP.unroll ?_
  refine WP.seq ?_
  refine WP.region ?_
  refine RP.lss_f rfl rfl rfl (by omega) ?_
  refine RP.nil ?_
  refine WP.seq ?_
  refine WP.cond_f rfl ?_
  refine WP.exit ?_
  refine WP.seq ?_
  refine WP.region ?_
  refine RP.move rfl rfl ?_
  refine RP.assign rfl rfl ?_
  refine RP.nil ?_
  refine WP.ret ?_
  exact End.one (Or.inr rfl) rfl (.tmp rfl) .nil ⟨rfl, rfl⟩
theorem some_ok (hlo : lo ≤ st.nxt) {s : Spot} : Fin (EE bm) lo 56 [.agg (fS s)] st (fun v H => v = .bool (someF s) ∧ H = []) := by
  refine Fin.of_body (fn := Try.f56) (c := Try.f56.body.getD .skip) rfl rfl rfl rfl ?_
  refine WP.seq ?_
  refine WP.region ?_
  refine RP.box rfl rfl rfl (fun L1 => ?_)
  refine RP.assign rfl rfl ?_
  refine RP.nil ?_
  refine WP.seq ?_
  refine WP.region ?_
  refine RP.faddr rfl rfl rfl ?_
  refine RP.load_boxN rfl rfl rfl rfl rfl (by repeat (first | exact .here | apply HIn.there | apply HIn.app)) rfl ?_
  refine RP.call rfl rfl rfl hlo (fun st' lo' hi' hl' => count_ok hl') ?_
  rintro _ _ ⟨rfl, rfl⟩
  refine RP.bin rfl rfl rfl rfl ?_
  refine RP.assign rfl rfl ?_
  refine RP.nil ?_
  refine WP.ret ?_
  exact End.one (Or.inr rfl) rfl (.tmp rfl) .nil ⟨rfl, rfl⟩
end
end Go.Proofs.Ytpkeggejofeeeaa

namespace Go.Proofs.Ytpkeggejofeeeaa
open Go.Proofs.Ytpkeggejofeeeaa.Lvm Go

section
variable {bm : Nat → Nat → Option LV} {st : LSt} {lo : Nat} {a b c d : LV} {m : Mach} {fol : List (LV × List Int)}

theorem reached_ok (hlo : lo ≤ st.nxt) (hm : MA (EE bm) st a b c d m fol) (h0 : Small60 m fol) (hg : GoodM m) : Fin (EE bm) lo 51 [mv a b c d m] st (fun v H => ∃ p out, H = [p] ∧ Lin 1 fB true v out p ∧ out.length = m.spots.length ∧ ∀ i : Nat, out[i]? = some true ↔ ReachM m i) := by
  obtain ⟨h01, h02, h03, h04, h05⟩ := h0
  have hfl := hm.len
  have hgf := hg.flen
  have hfr : ∀ x ∈ m.first, 0 ≤ x ∧ x < (m.spots.length : Int) := fun x hx => by have := risingF_mem hg.first x hx; omega
  refine Fin.of_body (fn := Try.f51) (c := Try.f51.body.getD .skip) rfl rfl rfl rfl ?_
  refine WP.seq ?_
  refine WP.region ?_
  refine RP.box rfl rfl hm.sc (fun L1 => ?_)
  refine RP.assign rfl rfl ?_
  refine RP.nil ?_
  refine WP.seq ?_
  refine WP.region ?_
  refine RP.faddr rfl rfl rfl ?_
  refine RP.load_box rfl rfl rfl rfl (by repeat (first | exact .here | apply HIn.there | apply HIn.app)) rfl ?_
  first | refine RP.len_sl rfl rfl (.arg hm.spots) rfl ?_ | refine RP.len_sl rfl rfl (.arg hm.first) rfl ?_ | refine RP.len_sl rfl rfl (.arg hm.follow) rfl ?_ | refine RP.len_sl rfl rfl (.arg hm.last) rfl ?_
  refine RP.make false rfl rfl rfl rfl rfl rfl rfl rfl rfl rfl rfl fB_len (Nat.le_refl _) (by omega) ?_
  rw [Nat.beq_refl]
  intro v9 p9 hl9
  refine RP.assign rfl rfl ?_
  refine RP.nil ?_
  refine WP.seq ?_
  refine WP.region ?_
  refine RP.faddr rfl rfl rfl ?_
  refine RP.load_box rfl rfl rfl rfl (by repeat (first | exact .here | apply HIn.there | apply HIn.app)) rfl ?_
  refine RP.call rfl rfl rfl hlo (fun st' lo' hi' hl' => clonefI_ok hl' (hm.first.inv hi') (by omega)) ?_
  rintro v12 _ ⟨p12, rfl, hl12⟩
  refine RP.assign rfl rfl ?_
  refine RP.nil ?_
  refine WP.seq ?_
  refine WP.block rfl ?_
  refine WP.loop (α := List Bool × HE × LV × HE × List Int) (fun gh => [(1, .ptr (.own L1) 0), (3, v9), (4, gh.2.2.1)]) (fun gh => [(some L1, .cells (mv a b c d m).cells), gh.2.1, gh.2.2.2.1]) (fun gh => gh.1.length = m.spots.length ∧ Lin 1 fB true v9 gh.1 gh.2.1 ∧ Lin 1 fI false gh.2.2.1 gh.2.2.2.2 gh.2.2.2.1 ∧ (∀ x ∈ gh.2.2.2.2, 0 ≤ x ∧ x < (m.spots.length : Int)) ∧ gh.2.2.2.2.length + 60 * gh.1.count false ≤ 3660 ∧ RInv m gh.1 gh.2.2.2.2) (fun gh => gh.2.2.2.2.length + 60 * gh.1.count false) ?_ (List.replicate m.spots.length false, p9, v12, p12, m.first) ⟨rfl, rfl, rfl, trivial⟩ (.cons (by repeat (first | exact .here | apply HRem.there | apply HRem.app)) (.cons (by repeat (first | exact .here | apply HRem.there | apply HRem.app)) (.cons (by repeat (first | exact .here | apply HRem.there | apply HRem.app)) .nil))) (by
    try dsimp only
    exact ⟨List.length_replicate, by simpa using hl9, hl12.loose, hfr, by rw [List.count_replicate_self]; omega, .init⟩)
  rintro ⟨out, pO, vt, pt, td⟩ hI
  change out.length = m.spots.length ∧ Lin 1 fB true v9 out pO ∧ Lin 1 fI false vt td pt ∧ (∀ x ∈ td, 0 ≤ x ∧ x < (m.spots.length : Int)) ∧ td.length + 60 * out.count false ≤ 3660 ∧ RInv m out td at hI
  change WP _ _ _ _ _ [(1, .ptr (.own L1) 0), (3, v9), (4, vt)] ([(some L1, .cells (mv a b c d m).cells), pO, pt] : HL) _
  obtain ⟨hI1, hI2, hI3, hI4, hI5, hI6⟩ := hI
  refine WP.seq ?_
  refine WP.seq ?_
  refine WP.region ?_
  refine RP.move rfl rfl ?_
  refine RP.len_sl rfl rfl (.lin fI_len hI3 (by repeat (first | exact .here | apply HIn.there | apply HIn.app))) rfl ?_
  refine RP.gtr rfl rfl rfl (fun h15 => ?_) (fun h15 => ?_)
  · skip
    have hlt : td.length - 1 < td.length := by omega
    have hk : td.length = (td.length - 1) + 1 := by omega
    refine RP.nil ?_
    refine WP.cond_t rfl ?_
    refine WP.skip ?_
    refine WP.block rfl ?_
    refine WP.seq ?_
    refine WP.region ?_
    refine RP.move rfl rfl ?_
    refine RP.move rfl rfl ?_
    refine RP.len_sl rfl rfl (.lin fI_len hI3 (by repeat (first | exact .here | apply HIn.there | apply HIn.app))) rfl ?_
    refine RP.sub rfl rfl rfl (by omega) (by omega) ?_
    refine RP.at_ rfl rfl rfl (natOf_is (n := td.length - 1) (by omega)) rfl rfl (.lin fI_len hI3 (by repeat (first | exact .here | apply HIn.there | apply HIn.app))) (by first | assumption | omega) ?_
    refine RP.load_el rfl rfl rfl rfl (.lin fI_len hI3 (by repeat (first | exact .here | apply HIn.there | apply HIn.app))) (by first | assumption | omega) rfl ?_
    have hxe := List.getElem?_eq_getElem hlt
    obtain ⟨hx0, hx1⟩ := hI4 td[td.length - 1] (List.getElem_mem _)
    generalize td[td.length - 1] = x at hxe hx0 hx1 ⊢
    have hxo : x.toNat < out.length := by omega
    have hxs : x.toNat < m.spots.length := by omega
    have hxf : x.toNat < fol.length := by omega
    have hrow := hm.row hxf
    have hrl := h05 _ hxf
    have hrange : ∀ y ∈ fol[x.toNat].2, 0 ≤ y ∧ y < (m.spots.length : Int) := fun y hy => by have h1 := hg.rows x.toNat (by omega); simp only [hm.same, List.getElem_map] at h1; have := risingF_mem h1 y hy; omega
    refine RP.assign rfl rfl ?_
    refine RP.nil ?_
    refine WP.seq ?_
    refine WP.region ?_
    refine RP.move rfl rfl ?_
    refine RP.move rfl rfl ?_
    refine RP.len_sl rfl rfl (.lin fI_len hI3 (by repeat (first | exact .here | apply HIn.there | apply HIn.app))) rfl ?_
    refine RP.sub rfl rfl rfl (by omega) (by omega) ?_
    refine RP.head rfl rfl rfl (natOf_is (n := td.length - 1) (by omega)) rfl rfl hI3 fI_len (by omega) ?_
    intro v26 hl26
    refine RP.assign rfl rfl ?_
    refine RP.nil ?_
    refine WP.seq ?_
    refine WP.seq ?_
    refine WP.region ?_
    refine RP.move rfl rfl ?_
    refine RP.move rfl rfl ?_
    refine RP.at_ rfl rfl rfl (natOf_is (n := x.toNat) (by omega)) rfl rfl (.lin fB_len hI2 (by repeat (first | exact .here | apply HIn.there | apply HIn.app))) (by first | assumption | omega) ?_
    refine RP.load_el rfl rfl rfl rfl (.lin fB_len hI2 (by repeat (first | exact .here | apply HIn.there | apply HIn.app))) (by first | assumption | omega) rfl ?_
    refine RP.move rfl rfl ?_
    refine RP.cases (d := 31) rfl (fun hg31 => ?_) (fun hg31 => ?_)
    · skip
      refine RP.gfalse rfl rfl ?_
      refine RP.gfalse rfl rfl ?_
      refine RP.gfalse rfl rfl ?_
      refine RP.gfalse rfl rfl ?_
      refine RP.gfalse rfl rfl ?_
      refine RP.gfalse rfl rfl ?_
      refine RP.gfalse rfl rfl ?_
      refine RP.pick_ rfl rfl rfl ?_
      refine RP.nil ?_
      refine WP.cond_t rfl ?_
      refine WP.exit ?_
      refine roundQ.mk (Q := fun _ _ _ => True) (out, pO, v26, pt, td.take (td.length - 1)) ⟨rfl, rfl, rfl, trivial⟩ (.cons (by repeat (first | exact .here | apply HRem.there | apply HRem.app)) (.cons (by repeat (first | exact .here | apply HRem.there | apply HRem.app)) (.cons (by repeat (first | exact .here | apply HRem.there | apply HRem.app)) .nil))) (by
        try dsimp only
        exact ⟨hI1, hI2, hl26, fun y hy => hI4 y (List.mem_of_mem_take hy), by rw [List.length_take]; omega, hI6.skip hk hxe (Or.inl (by rw [List.getElem?_eq_getElem hxo, hg31]))⟩) (by dsimp only; rw [List.length_take]; omega)
    · skip
      refine RP.gtrue rfl ?_
      refine RP.faddr rfl rfl rfl ?_
      refine RP.gtrue rfl ?_
      refine RP.load_box rfl rfl rfl rfl (by repeat (first | exact .here | apply HIn.there | apply HIn.app)) rfl ?_
      refine RP.gtrue rfl ?_
      refine RP.move rfl rfl ?_
      refine RP.gtrue rfl ?_
      first | refine RP.at_ rfl rfl rfl (natOf_is (n := x.toNat) (by omega)) rfl rfl (.arg hm.spots) (by first | assumption | omega) ?_ | refine RP.at_ rfl rfl rfl (natOf_is (n := x.toNat) (by omega)) rfl rfl (.arg hm.first) (by first | assumption | omega) ?_ | refine RP.at_ rfl rfl rfl (natOf_is (n := x.toNat) (by omega)) rfl rfl (.arg hm.follow) (by first | assumption | omega) ?_ | refine RP.at_ rfl rfl rfl (natOf_is (n := x.toNat) (by omega)) rfl rfl (.arg hm.last) (by first | assumption | omega) ?_
      refine RP.gtrue rfl ?_
      first | refine RP.load_elN rfl rfl rfl rfl rfl (.arg hm.spots) (by first | assumption | omega) rfl ?_ | refine RP.load_elN rfl rfl rfl rfl rfl (.arg hm.first) (by first | assumption | omega) rfl ?_ | refine RP.load_elN rfl rfl rfl rfl rfl (.arg hm.follow) (by first | assumption | omega) rfl ?_ | refine RP.load_elN rfl rfl rfl rfl rfl (.arg hm.last) (by first | assumption | omega) rfl ?_
      refine RP.gtrue rfl ?_
      refine RP.call rfl rfl rfl hlo (fun st' lo' hi' hl' => some_ok hl' (s := m.spots[x.toNat])) ?_
      rintro _ _ ⟨rfl, rfl⟩
      refine RP.gtrue rfl ?_
      refine RP.un rfl rfl rfl ?_
      refine RP.pick_ rfl rfl rfl ?_
      refine RP.nil ?_
      refine WP.cond_b rfl (fun hc39 => ?_) (fun hc39 => ?_)
      · skip
        refine WP.exit ?_
        refine roundQ.mk (Q := fun _ _ _ => True) (out, pO, v26, pt, td.take (td.length - 1)) ⟨rfl, rfl, rfl, trivial⟩ (.cons (by repeat (first | exact .here | apply HRem.there | apply HRem.app)) (.cons (by repeat (first | exact .here | apply HRem.there | apply HRem.app)) (.cons (by repeat (first | exact .here | apply HRem.there | apply HRem.app)) .nil))) (by
          try dsimp only
          exact ⟨hI1, hI2, hl26, fun y hy => hI4 y (List.mem_of_mem_take hy), by rw [List.length_take]; omega, hI6.skip hk hxe (Or.inr ⟨_, List.getElem?_eq_getElem hxs, by simpa using hc39⟩)⟩) (by dsimp only; rw [List.length_take]; omega)
      · skip
        refine WP.skip ?_
        refine WP.seq ?_
        refine WP.region ?_
        refine RP.move rfl rfl ?_
        refine RP.move rfl rfl ?_
        refine RP.at_ rfl rfl rfl (natOf_is (n := x.toNat) (by omega)) rfl rfl (.lin fB_len hI2 (by repeat (first | exact .here | apply HIn.there | apply HIn.app))) (by first | assumption | omega) ?_
        refine RP.store_el1 true rfl rfl rfl rfl hI2 (fun _ => (by repeat (first | exact .here | apply HUpd.there | apply HUpd.app))) fB_len (by first | assumption | omega) (by omega) rfl hlo ?_
        intro pO2 hO2
        refine RP.nil ?_
        refine WP.region ?_
        refine RP.move rfl rfl ?_
        refine RP.faddr rfl rfl rfl ?_
        refine RP.load_box rfl rfl rfl rfl (by repeat (first | exact .here | apply HIn.there | apply HIn.app)) rfl ?_
        refine RP.move rfl rfl ?_
        first | refine RP.at_ rfl rfl rfl (natOf_is (n := x.toNat) (by omega)) rfl rfl (.arg hm.spots) (by first | assumption | omega) ?_ | refine RP.at_ rfl rfl rfl (natOf_is (n := x.toNat) (by omega)) rfl rfl (.arg hm.first) (by first | assumption | omega) ?_ | refine RP.at_ rfl rfl rfl (natOf_is (n := x.toNat) (by omega)) rfl rfl (.arg hm.follow) (by first | assumption | omega) ?_ | refine RP.at_ rfl rfl rfl (natOf_is (n := x.toNat) (by omega)) rfl rfl (.arg hm.last) (by first | assumption | omega) ?_
        first | refine RP.load_el rfl rfl rfl rfl (.arg hm.spots) (by first | assumption | omega) rfl ?_ | refine RP.load_el rfl rfl rfl rfl (.arg hm.first) (by first | assumption | omega) rfl ?_ | refine RP.load_el rfl rfl rfl rfl (.arg hm.follow) (by first | assumption | omega) rfl ?_ | refine RP.load_el rfl rfl rfl rfl (.arg hm.last) (by first | assumption | omega) rfl ?_
        refine RP.append rfl rfl rfl rfl rfl rfl rfl rfl hl26 (fun _ => (by repeat (first | exact .here | apply HUpd.there | apply HUpd.app))) (.arg hrow) (flat_all fI_sc _) (by rw [List.length_take]; omega) (fun e => (by first | rfl | cases e)) hlo ?_
        intro v49 p49 hl49
        refine RP.assign rfl rfl ?_
        refine RP.nil ?_
        have hcm := count_mark hxo hg31
        refine roundQ.mk (Q := fun _ _ _ => True) (out.set x.toNat true, pO2, v49, p49, td.take (td.length - 1) ++ fol[x.toNat].2) ⟨rfl, rfl, rfl, trivial⟩ (.cons (by repeat (first | exact .here | apply HRem.there | apply HRem.app)) (.cons (by repeat (first | exact .here | apply HRem.there | apply HRem.app)) (.cons (by repeat (first | exact .here | apply HRem.there | apply HRem.app)) .nil))) (by
          try dsimp only
          exact ⟨by rw [List.length_set]; exact hI1, hO2, hl49, fun y hy => (by
              rcases List.mem_append.1 hy with h | h
              · exact hI4 y (List.mem_of_mem_take h)
              · exact hrange y h), by rw [List.length_append, List.length_take]; omega, hI6.mark hk hxe hxo (List.getElem?_eq_getElem hxs) (by simpa using hc39) (hm.at_ hxf)⟩) (by dsimp only; rw [List.length_append, List.length_take]; omega)
  · skip
    refine RP.nil ?_
    refine WP.cond_f rfl ?_
    refine WP.exit ?_
    refine WP.seq ?_
    refine WP.region ?_
    refine RP.move rfl rfl ?_
    refine RP.assign rfl rfl ?_
    refine RP.nil ?_
    refine WP.ret ?_
    have htd : td = [] := List.length_eq_zero_iff.1 (by omega)
    subst htd
    exact End.one (Or.inr rfl) rfl (.tmp rfl) (.cons (by repeat (first | exact .here | apply HRem.there | apply HRem.app)) .nil) ⟨_, out, rfl, hI2, hI1, hI6.fin⟩
end
end Go.Proofs.Ytpkeggejofeeeaa
