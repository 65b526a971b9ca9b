/- Laws of the small machine, of how it stands to the model, and of what functions come to on it; a helper of the statement: no statement is proved here. -/
import Derived.Test.YtpkeggejofeeeaaO
set_option linter.unusedVariables false
namespace Go.Proofs.Ytpkeggejofeeeaa
open Go.Proofs.Ytpkeggejofeeeaa.Lvm Go

section
variable {bm : Nat → Nat → Option LV} {st : LSt} {lo : Nat} {a b c d : LV} {m : Mach} {fol : List (LV × List Int)}

theorem and_ok (hlo : lo ≤ st.nxt) {s t : Spot} : Fin (EE bm) lo 54 [.agg [.int .u64 s.a, .int .u64 s.b, .int .u64 s.c, .int .u64 s.d], .agg [.int .u64 t.a, .int .u64 t.b, .int .u64 t.c, .int .u64 t.d]] st (fun v H => v = .agg [.int .u64 (andS s t).a, .int .u64 (andS s t).b, .int .u64 (andS s t).c, .int .u64 (andS s t).d] ∧ H = []) := by
  refine Fin.of_body (fn := Try.f54) (c := Try.f54.body.getD .skip) rfl rfl rfl rfl ?_
  refine WP.seq ?_
  refine WP.region ?_
  refine RP.box rfl rfl rfl (fun L2 => ?_)
  refine RP.box rfl rfl rfl (fun L3 => ?_)
  refine RP.alloc rfl rfl rfl (fun L4 => ?_)
  refine RP.nil ?_
  refine WP.seq ?_
  refine WP.seq ?_
  refine WP.region ?_
  refine RP.move rfl rfl ?_
  refine RP.nil ?_
  refine WP.block rfl ?_
  refine WP.unroll ?_
  refine WP.seq ?_
  refine WP.region ?_
  refine RP.lss_t rfl rfl rfl (by omega) ?_
  refine RP.nil ?_
  refine WP.seq ?_
  refine WP.cond_t rfl ?_
  refine WP.skip ?_
  refine WP.seq ?_
  refine WP.block rfl ?_
  refine WP.seq ?_
  refine WP.region ?_
  refine RP.move rfl rfl ?_
  refine RP.assign rfl rfl ?_
  refine RP.nil ?_
  refine WP.drawn (by kernel_rfl) ?_
  refine RP.move rfl rfl ?_
  refine RP.iaddr rfl rfl rfl rfl ?_
  refine RP.load_box rfl rfl rfl rfl (by repeat (first | exact .here | apply HIn.there | apply HIn.app)) rfl ?_
  refine RP.move rfl rfl ?_
  refine RP.iaddr rfl rfl rfl rfl ?_
  refine RP.load_box rfl rfl rfl rfl (by repeat (first | exact .here | apply HIn.there | apply HIn.app)) rfl ?_
  refine RP.bin rfl rfl rfl rfl ?_
  refine RP.iaddr rfl rfl rfl rfl ?_
  refine RP.store_box1 rfl rfl rfl rfl rfl hlo (by repeat (first | exact .here | apply HUpd.there | apply HUpd.app)) ?_
  refine RP.nil ?_
  refine WP.region ?_
  refine RP.add rfl rfl rfl (by omega) (by omega) ?_
  refine RP.move rfl rfl ?_
  refine RP.nil ?_
  refine WP.unroll ?_
  refine WP.seq ?_
  refine WP.region ?_
  refine RP.lss_t rfl rfl rfl (by omega) ?_
  refine RP.nil ?_
  refine WP.seq ?_
  refine WP.cond_t rfl ?_
  refine WP.skip ?_
  refine WP.seq ?_
  refine WP.block rfl ?_
  refine WP.seq ?_
  refine WP.region ?_
  refine RP.move rfl rfl ?_
  refine RP.assign rfl rfl ?_
  refine RP.nil ?_
  refine WP.drawn (by kernel_rfl) ?_
  refine RP.move rfl rfl ?_
  refine RP.iaddr rfl rfl rfl rfl ?_
  refine RP.load_box rfl rfl rfl rfl (by repeat (first | exact .here | apply HIn.there | apply HIn.app)) rfl ?_
  refine RP.move rfl rfl ?_
  refine RP.iaddr rfl rfl rfl rfl ?_
  refine RP.load_box rfl rfl rfl rfl (by repeat (first | exact .here | apply HIn.there | apply HIn.app)) rfl ?_
  refine RP.bin rfl rfl rfl rfl ?_
  refine RP.iaddr rfl rfl rfl rfl ?_
  refine RP.store_box1 rfl rfl rfl rfl rfl hlo (by repeat (first | exact .here | apply HUpd.there | apply HUpd.app)) ?_
  refine RP.nil ?_
  refine WP.region ?_
  refine RP.add rfl rfl rfl (by omega) (by omega) ?_
  refine RP.move rfl rfl ?_
  refine RP.nil ?_
  refine WP.unroll ?_
  refine WP.seq ?_
  refine WP.region ?_
  refine RP.lss_t rfl rfl rfl (by omega) ?_
  refine RP.nil ?_
  refine WP.seq ?_
  refine WP.cond_t rfl ?_
  refine WP.skip ?_
  refine WP.seq ?_
  refine WP.block rfl ?_
  refine WP.seq ?_
  refine WP.region ?_
  refine RP.move rfl rfl ?_
  refine RP.assign rfl rfl ?_
  refine RP.nil ?_
  refine WP.drawn (by kernel_rfl) ?_
  refine RP.move rfl rfl ?_
  refine RP.iaddr rfl rfl rfl rfl ?_
  refine RP.load_box rfl rfl rfl rfl (by repeat (first | exact .here | apply HIn.there | apply HIn.app)) rfl ?_
  refine RP.move rfl rfl ?_
  refine RP.iaddr rfl rfl rfl rfl ?_
  refine RP.load_box rfl rfl rfl rfl (by repeat (first | exact .here | apply HIn.there | apply HIn.app)) rfl ?_
  refine RP.bin rfl rfl rfl rfl ?_
  refine RP.iaddr rfl rfl rfl rfl ?_
  refine RP.store_box1 rfl rfl rfl rfl rfl hlo (by repeat (first | exact .here | apply HUpd.there | apply HUpd.app)) ?_
  refine RP.nil ?_
  refine WP.region ?_
  refine RP.add rfl rfl rfl (by omega) (by omega) ?_
  refine RP.move rfl rfl ?_
  refine RP.nil ?_
  refine WP.unroll ?_
  refine WP.seq ?_
  refine WP.region ?_
  refine RP.lss_t rfl rfl rfl (by omega) ?_
  refine RP.nil ?_
  refine WP.seq ?_
  refine WP.cond_t rfl ?_
  refine WP.skip ?_
  refine WP.seq ?_
  refine WP.block rfl ?_
  refine WP.seq ?_
  refine WP.region ?_
  refine RP.move rfl rfl ?_
  refine RP.assign rfl rfl ?_
  refine RP.nil ?_
  refine WP.drawn (by kernel_rfl) ?_
  refine RP.move rfl rfl ?_
  refine RP.iaddr rfl rfl rfl rfl ?_
  refine RP.load_box rfl rfl rfl rfl (by repeat (first | exact .here | apply HIn.there | apply HIn.app)) rfl ?_
  refine RP.move rfl rfl ?_
  refine RP.iaddr rfl rfl rfl rfl ?_
  refine RP.load_box rfl rfl rfl rfl (by repeat (first | exact .here | apply HIn.there | apply HIn.app)) rfl ?_
  refine RP.bin rfl rfl rfl rfl ?_
  refine RP.iaddr rfl rfl rfl rfl ?_
  refine RP.store_box1 rfl rfl rfl rfl rfl hlo (by repeat (first | exact .here | apply HUpd.there | apply HUpd.app)) ?_
  refine RP.nil ?_
  refine WP.region ?_
  refine RP.add rfl rfl rfl (by omega) (by omega) ?_
  refine RP.move rfl rfl ?_
  refine RP.nil ?_
  refine WP.unroll ?_
  refine WP.seq ?_
  refine WP.region ?_
  refine RP.lss_f rfl rfl rfl (by omega) ?_
  refine RP.nil ?_
  refine WP.seq ?_
  refine WP.cond_f rfl ?_
  refine WP.exit ?_
  refine WP.seq ?_
  refine WP.region ?_
  refine RP.load_boxN rfl rfl rfl rfl rfl (by repeat (first | exact .here | apply HIn.there | apply HIn.app)) rfl ?_
  refine RP.store_box rfl rfl rfl rfl rfl rfl hlo (by repeat (first | exact .here | apply HUpd.there | apply HUpd.app)) ?_
  refine RP.nil ?_
  refine WP.ret ?_
  exact End.one (by first | exact Or.inl rfl | exact Or.inr rfl) rfl (.cellN rfl rfl rfl rfl (by repeat (first | exact .here | apply HIn.there | apply HIn.app)) rfl) .nil ⟨rfl, rfl⟩

theorem puts_ok (hlo : lo ≤ st.nxt) (hm : MA (EE bm) st a b c d m fol) (hok : ∀ s ∈ m.spots, SpotOk s) {L Lm : Nat} {va : LV} {pa : HE} {xs : List PP} {T : HL} (hl : Lin 2 fP2 true va xs pa) (hxl : xs.length ≤ 100000) {x y : Int} (hx : 0 ≤ x ∧ x.toNat < m.spots.length) (hy : 0 ≤ y ∧ y.toNat < m.spots.length) :
    FinM (EE bm) st lo 48 [.ptr (.own L) 0, .int .i64 x, .int .i64 y] ((some L, .cells (pcells a b c d m va Lm)) :: pa :: (some Lm, .map 60 (menc (onesM xs))) :: T) (fun v H => ∃ va' pa' xs', H = (some L, .cells (pcells a b c d m va' Lm)) :: pa' :: (some Lm, .map 60 (menc (onesM xs'))) :: T ∧ Lin 2 fP2 true va' xs' pa' ∧ PutR m xs (x, y) xs' ∧ v = .tup []) := by
  obtain ⟨hx0, hx1⟩ := hx
  obtain ⟨hy0, hy1⟩ := hy
  refine FinM.of_body (fn := Try.f48) (c := Try.f48.body.getD .skip) rfl rfl rfl rfl ?_
  refine WP.seq ?_
  refine WP.region ?_
  refine RP.move rfl rfl ?_
  refine RP.move rfl rfl ?_
  refine RP.build rfl rfl rfl ?_
  refine RP.alloc rfl rfl rfl (fun L6 => ?_)
  refine RP.store_box rfl rfl rfl rfl rfl rfl hlo (by repeat (first | exact .here | apply HUpd.there | apply HUpd.app)) ?_
  refine RP.nil ?_
  refine WP.seq ?_
  refine WP.seq ?_
  refine WP.drawn (by kernel_rfl) ?_
  refine RP.move rfl rfl ?_
  refine RP.nilc rfl rfl ?_
  refine RP.faddr rfl rfl rfl ?_
  refine RP.load_box rfl rfl rfl rfl (by repeat (first | exact .here | apply HIn.there | apply HIn.app)) rfl ?_
  refine RP.load_boxN rfl rfl rfl rfl rfl (by repeat (first | exact .here | apply HIn.there | apply HIn.app)) rfl ?_
  refine RP.look1 (x, y) rfl rfl rfl rfl rfl rfl (by repeat (first | exact .here | apply HIn.there | apply HIn.app)) ?_
  refine RP.gtr rfl rfl rfl (fun h16 => ?_) (fun h16 => ?_)
  · skip
    refine RP.move rfl rfl ?_
    refine RP.gfalse rfl rfl ?_
    refine RP.gfalse rfl rfl ?_
    refine RP.gfalse rfl rfl ?_
    refine RP.gfalse rfl rfl ?_
    refine RP.gfalse rfl rfl ?_
    refine RP.gfalse rfl rfl ?_
    refine RP.gfalse rfl rfl ?_
    refine RP.gfalse rfl rfl ?_
    refine RP.gfalse rfl rfl ?_
    refine RP.gfalse rfl rfl ?_
    refine RP.gfalse rfl rfl ?_
    refine RP.gfalse rfl rfl ?_
    refine RP.gfalse rfl rfl ?_
    refine RP.gfalse rfl rfl ?_
    refine RP.gfalse rfl rfl ?_
    refine RP.gfalse rfl rfl ?_
    refine RP.gfalse rfl rfl ?_
    refine RP.gfalse rfl rfl ?_
    refine RP.gfalse rfl rfl ?_
    refine RP.gfalse rfl rfl ?_
    refine RP.gfalse rfl rfl ?_
    refine RP.pick_ rfl rfl rfl ?_
    refine RP.nil ?_
    refine WP.cond_t rfl ?_
    refine WP.ret ?_
    exact End.none (Or.inr rfl) rfl (.skip .refl) ⟨_, _, _, rfl, hl, Or.inl ⟨Or.inl (isIn_pos.1 h16), rfl⟩, rfl⟩
  · skip
    have hnin : (x, y) ∉ xs := fun h => h16 (isIn_pos.2 h)
    refine RP.move rfl rfl ?_
    refine RP.gtrue rfl ?_
    refine RP.move rfl rfl ?_
    refine RP.gtrue rfl ?_
    refine RP.nilc rfl rfl ?_
    refine RP.gtrue rfl ?_
    refine RP.faddr rfl rfl rfl ?_
    refine RP.gtrue rfl ?_
    refine RP.faddr rfl rfl rfl ?_
    refine RP.gtrue rfl ?_
    refine RP.load_box rfl rfl rfl rfl (by repeat (first | exact .here | apply HIn.there | apply HIn.app)) rfl ?_
    refine RP.gtrue rfl ?_
    refine RP.move rfl rfl ?_
    refine RP.gtrue rfl ?_
    first | refine RP.at_ rfl rfl rfl (natOf_is (n := x.toNat) (by omega)) rfl rfl (.arg hm.spots) (by first | assumption | omega) ?_ | refine RP.at_ rfl rfl rfl (natOf_is (n := x.toNat) (by omega)) rfl rfl (.arg hm.first) (by first | assumption | omega) ?_ | refine RP.at_ rfl rfl rfl (natOf_is (n := x.toNat) (by omega)) rfl rfl (.arg hm.follow) (by first | assumption | omega) ?_ | refine RP.at_ rfl rfl rfl (natOf_is (n := x.toNat) (by omega)) rfl rfl (.arg hm.last) (by first | assumption | omega) ?_
    refine RP.gtrue rfl ?_
    first | refine RP.faddr_p rfl rfl rfl rfl rfl (.arg hm.spots) (by first | assumption | omega) ?_ | refine RP.faddr_p rfl rfl rfl rfl rfl (.arg hm.first) (by first | assumption | omega) ?_ | refine RP.faddr_p rfl rfl rfl rfl rfl (.arg hm.follow) (by first | assumption | omega) ?_ | refine RP.faddr_p rfl rfl rfl rfl rfl (.arg hm.last) (by first | assumption | omega) ?_
    refine RP.gtrue rfl ?_
    first | refine RP.load_elN rfl rfl rfl rfl rfl (.arg hm.spots) (by first | assumption | omega) rfl ?_ | refine RP.load_elN rfl rfl rfl rfl rfl (.arg hm.first) (by first | assumption | omega) rfl ?_ | refine RP.load_elN rfl rfl rfl rfl rfl (.arg hm.follow) (by first | assumption | omega) rfl ?_ | refine RP.load_elN rfl rfl rfl rfl rfl (.arg hm.last) (by first | assumption | omega) rfl ?_
    refine RP.gtrue rfl ?_
    refine RP.move rfl rfl ?_
    refine RP.gtrue rfl ?_
    refine RP.nilc rfl rfl ?_
    refine RP.gtrue rfl ?_
    refine RP.faddr rfl rfl rfl ?_
    refine RP.gtrue rfl ?_
    refine RP.faddr rfl rfl rfl ?_
    refine RP.gtrue rfl ?_
    refine RP.load_box rfl rfl rfl rfl (by repeat (first | exact .here | apply HIn.there | apply HIn.app)) rfl ?_
    refine RP.gtrue rfl ?_
    refine RP.move rfl rfl ?_
    refine RP.gtrue rfl ?_
    first | refine RP.at_ rfl rfl rfl (natOf_is (n := y.toNat) (by omega)) rfl rfl (.arg hm.spots) (by first | assumption | omega) ?_ | refine RP.at_ rfl rfl rfl (natOf_is (n := y.toNat) (by omega)) rfl rfl (.arg hm.first) (by first | assumption | omega) ?_ | refine RP.at_ rfl rfl rfl (natOf_is (n := y.toNat) (by omega)) rfl rfl (.arg hm.follow) (by first | assumption | omega) ?_ | refine RP.at_ rfl rfl rfl (natOf_is (n := y.toNat) (by omega)) rfl rfl (.arg hm.last) (by first | assumption | omega) ?_
    refine RP.gtrue rfl ?_
    first | refine RP.faddr_p rfl rfl rfl rfl rfl (.arg hm.spots) (by first | assumption | omega) ?_ | refine RP.faddr_p rfl rfl rfl rfl rfl (.arg hm.first) (by first | assumption | omega) ?_ | refine RP.faddr_p rfl rfl rfl rfl rfl (.arg hm.follow) (by first | assumption | omega) ?_ | refine RP.faddr_p rfl rfl rfl rfl rfl (.arg hm.last) (by first | assumption | omega) ?_
    refine RP.gtrue rfl ?_
    first | refine RP.load_elN rfl rfl rfl rfl rfl (.arg hm.spots) (by first | assumption | omega) rfl ?_ | refine RP.load_elN rfl rfl rfl rfl rfl (.arg hm.first) (by first | assumption | omega) rfl ?_ | refine RP.load_elN rfl rfl rfl rfl rfl (.arg hm.follow) (by first | assumption | omega) rfl ?_ | refine RP.load_elN rfl rfl rfl rfl rfl (.arg hm.last) (by first | assumption | omega) rfl ?_
    refine RP.gtrue rfl ?_
    refine RP.call rfl rfl rfl hlo (fun st' lo' hi' hl' => and_ok hl') ?_
    rintro _ _ ⟨rfl, rfl⟩
    refine RP.gtrue rfl ?_
    refine RP.call rfl rfl rfl hlo (fun st' lo' hi' hl' => count_ok hl' (s := andS m.spots[x.toNat] m.spots[y.toNat])) ?_
    rintro _ _ ⟨rfl, rfl⟩
    refine RP.gtrue rfl ?_
    refine RP.eql rfl rfl rfl (fun h38 => ?_) (fun h38 => ?_)
    · skip
      refine RP.pick_ rfl rfl rfl ?_
      refine RP.nil ?_
      refine WP.cond_t rfl ?_
      refine WP.ret ?_
      exact End.none (Or.inr rfl) rfl (.skip .refl) ⟨_, _, _, rfl, hl, Or.inl ⟨Or.inr fun h => (count_zero (hok _ (List.getElem_mem hx1)) (hok _ (List.getElem_mem hy1))).1 h38 ((meets_iff (p := (x, y)) hx1 hy1).1 h), rfl⟩, rfl⟩
    · skip
      refine RP.pick_ rfl rfl rfl ?_
      refine RP.nil ?_
      refine WP.cond_f rfl ?_
      refine WP.skip ?_
      refine WP.seq ?_
      refine WP.drawn (by kernel_rfl) ?_
      refine RP.move rfl rfl ?_
      refine RP.nilc rfl rfl ?_
      refine RP.faddr rfl rfl rfl ?_
      refine RP.load_box rfl rfl rfl rfl (by repeat (first | exact .here | apply HIn.there | apply HIn.app)) rfl ?_
      refine RP.load_boxN rfl rfl rfl rfl rfl (by repeat (first | exact .here | apply HIn.there | apply HIn.app)) rfl ?_
      refine RP.mset (x, y) rfl rfl rfl rfl rfl (onesM_new hnin) hlo (by repeat (first | exact .here | apply HUpd.there | apply HUpd.app)) ?_
      refine RP.nil ?_
      refine WP.drawn (by kernel_rfl) ?_
      refine RP.move rfl rfl ?_
      refine RP.move rfl rfl ?_
      refine RP.nilc rfl rfl ?_
      refine RP.faddr rfl rfl rfl ?_
      refine RP.load_box rfl rfl rfl rfl (by repeat (first | exact .here | apply HIn.there | apply HIn.app)) rfl ?_
      refine RP.load_boxN rfl rfl rfl rfl rfl (by repeat (first | exact .here | apply HIn.there | apply HIn.app)) rfl ?_
      refine RP.bslice [((x, y) : PP)] rfl rfl rfl rfl rfl rfl rfl rfl rfl rfl fP2_len ?_
      intro v51 p51 hl51
      refine RP.append rfl rfl rfl rfl rfl rfl rfl rfl hl (fun _ => (by repeat (first | exact .here | apply HUpd.there | apply HUpd.app))) (.lin fP2_len hl51 (by repeat (first | exact .here | apply HIn.there | apply HIn.app))) (flat_all fP2_sc _) (by simp only [List.length_singleton]; omega) (fun e => (by first | rfl | cases e)) hlo ?_
      intro v52 p52 hl52
      refine RP.nilc rfl rfl ?_
      refine RP.faddr rfl rfl rfl ?_
      refine RP.store_box1 rfl rfl hl52.scalar rfl rfl hlo (by repeat (first | exact .here | apply HUpd.there | apply HUpd.app)) ?_
      refine RP.nil ?_
      exact End.none (Or.inl rfl) rfl (.skip (.skip .refl)) ⟨_, _, xs ++ [(x, y)], by rw [onesM_put]; rfl, hl52, Or.inr ⟨hnin, (meets_iff (p := (x, y)) hx1 hy1).2 (Classical.byContradiction fun h => h38 ((count_zero (hok _ (List.getElem_mem hx1)) (hok _ (List.getElem_mem hy1))).2 h)), rfl⟩, rfl⟩

theorem reach_ok (hlo : lo ≤ st.nxt) (hm : MA (EE bm) st a b c d m fol) (h0 : Small60 m fol) (hg : GoodM m) (hok : ∀ s ∈ m.spots, SpotOk s) {L Lm : Nat} {va0 : LV} {pa0 : HE} {T : HL} (hl0 : Lin 2 fP2 true va0 [] pa0) :
    FinM (EE bm) st lo 30 [.ptr (.own L) 0] ((some L, .cells (pcells a b c d m va0 Lm)) :: pa0 :: (some Lm, .map 60 (menc (onesM []))) :: T) (fun v H => ∃ va' pa' xs', H = (some L, .cells (pcells a b c d m va' Lm)) :: pa' :: (some Lm, .map 60 (menc (onesM xs'))) :: T ∧ Lin 2 fP2 true va' xs' pa' ∧ FoundP m xs' ∧ (∀ p, p ∈ xs' ↔ ComeP m p) ∧ v = .tup []) := by
  obtain ⟨h01, h02, h03, h04, h05⟩ := h0
  have hfl := hm.len
  have hgf := hg.flen
  have hnn : m.spots.length * m.spots.length ≤ 3600 := Nat.mul_le_mul h01 h01
  refine FinM.of_body (fn := Try.f30) (c := Try.f30.body.getD .skip) rfl rfl rfl rfl ?_
  refine WP.seq ?_
  refine WP.seq ?_
  refine WP.region ?_
  refine RP.move rfl rfl ?_
  refine RP.nilc rfl rfl ?_
  refine RP.faddr rfl rfl rfl ?_
  refine RP.faddr rfl rfl rfl ?_
  refine RP.load_box rfl rfl rfl rfl (by repeat (first | exact .here | apply HIn.there | apply HIn.app)) rfl ?_
  refine RP.len_sl rfl rfl (.arg hm.first) rfl ?_
  refine RP.move rfl rfl ?_
  refine RP.nil ?_
  refine WP.block rfl ?_
  refine WP.loop (α := Nat × LV × HE × List PP) (fun gh => [(0, .ptr (.own L) 0), (16, b), (17, .int .i64 (m.first.length : Int)), (18, .int .i64 (gh.1 : Int))]) (fun gh => (some L, .cells (pcells a b c d m gh.2.1 Lm)) :: gh.2.2.1 :: (some Lm, .map 60 (menc (onesM gh.2.2.2))) :: T) (fun gh => gh.1 ≤ m.first.length ∧ Lin 2 fP2 true gh.2.1 gh.2.2.2 gh.2.2.1 ∧ FoundP m gh.2.2.2 ∧ Cov m gh.2.2.2 m.first m.first gh.1) (fun gh => m.first.length - gh.1) ?_ (0, va0, pa0, []) ⟨rfl, rfl, rfl, rfl, trivial⟩ (.cons (by repeat (first | exact .here | apply HRem.there | apply HRem.app)) (.cons (by repeat (first | exact .here | apply HRem.there | apply HRem.app)) (.cons (by repeat (first | exact .here | apply HRem.there | apply HRem.app)) .refl))) (by
    try dsimp only
    exact ⟨Nat.zero_le _, hl0, ⟨by simp, by simp⟩, Cov.zero⟩)
  rintro ⟨i, va, pa, xs⟩ hI
  change i ≤ m.first.length ∧ Lin 2 fP2 true va xs pa ∧ FoundP m xs ∧ Cov m xs m.first m.first i at hI
  change WP _ _ _ _ _ [(0, .ptr (.own L) 0), (16, b), (17, .int .i64 (m.first.length : Int)), (18, .int .i64 (i : Int))] ((some L, .cells (pcells a b c d m va Lm)) :: pa :: (some Lm, .map 60 (menc (onesM xs))) :: T : HL) _
  obtain ⟨hI1, hI2, hI3, hI4⟩ := hI
  refine WP.seq ?_
  refine WP.region ?_
  refine RP.lss rfl rfl rfl (fun h19 => ?_) (fun h19 => ?_)
  · skip
    have hlti : i < m.first.length := by omega
    refine RP.nil ?_
    refine WP.seq ?_
    refine WP.cond_t rfl ?_
    refine WP.skip ?_
    refine WP.seq ?_
    refine WP.block rfl ?_
    refine WP.seq ?_
    refine WP.region ?_
    refine RP.at_ rfl rfl rfl rfl rfl rfl (.arg hm.first) (by first | assumption | omega) ?_
    refine RP.load_el rfl rfl rfl rfl (.arg hm.first) (by first | assumption | omega) rfl ?_
    refine RP.assign rfl rfl ?_
    refine RP.nil ?_
    refine WP.seq ?_
    refine WP.region ?_
    refine RP.move rfl rfl ?_
    refine RP.nilc rfl rfl ?_
    refine RP.faddr rfl rfl rfl ?_
    refine RP.faddr rfl rfl rfl ?_
    refine RP.load_box rfl rfl rfl rfl (by repeat (first | exact .here | apply HIn.there | apply HIn.app)) rfl ?_
    refine RP.len_sl rfl rfl (.arg hm.first) rfl ?_
    refine RP.move rfl rfl ?_
    refine RP.nil ?_
    refine WP.block rfl ?_
    refine WP.loop (α := Nat × LV × HE × List PP) (fun gh => [(0, .ptr (.own L) 0), (3, .int .i64 m.first[i]), (16, b), (17, .int .i64 (m.first.length : Int)), (18, .int .i64 (i : Int)), (26, b), (27, .int .i64 (m.first.length : Int)), (28, .int .i64 (gh.1 : Int))]) (fun gh => (some L, .cells (pcells a b c d m gh.2.1 Lm)) :: gh.2.2.1 :: (some Lm, .map 60 (menc (onesM gh.2.2.2))) :: T) (fun gh => gh.1 ≤ m.first.length ∧ Lin 2 fP2 true gh.2.1 gh.2.2.2 gh.2.2.1 ∧ FoundP m gh.2.2.2 ∧ Cov m gh.2.2.2 m.first m.first i ∧ Cov1 m gh.2.2.2 m.first[i] m.first gh.1) (fun gh => m.first.length - gh.1) ?_ (0, va, pa, xs) ⟨rfl, rfl, rfl, rfl, rfl, rfl, rfl, rfl, trivial⟩ (.cons (by repeat (first | exact .here | apply HRem.there | apply HRem.app)) (.cons (by repeat (first | exact .here | apply HRem.there | apply HRem.app)) (.cons (by repeat (first | exact .here | apply HRem.there | apply HRem.app)) .refl))) (by
      try dsimp only
      exact ⟨Nat.zero_le _, hI2, hI3, hI4, Cov1.zero⟩)
    rintro ⟨k, va, pa, xs⟩ hI
    change k ≤ m.first.length ∧ Lin 2 fP2 true va xs pa ∧ FoundP m xs ∧ Cov m xs m.first m.first i ∧ Cov1 m xs m.first[i] m.first k at hI
    change WP _ _ _ _ _ [(0, .ptr (.own L) 0), (3, .int .i64 m.first[i]), (16, b), (17, .int .i64 (m.first.length : Int)), (18, .int .i64 (i : Int)), (26, b), (27, .int .i64 (m.first.length : Int)), (28, .int .i64 (k : Int))] ((some L, .cells (pcells a b c d m va Lm)) :: pa :: (some Lm, .map 60 (menc (onesM xs))) :: T : HL) _
    obtain ⟨hJ0, hJ1, hJ2, hJ3, hJ4⟩ := hI
    refine WP.seq ?_
    refine WP.region ?_
    refine RP.lss rfl rfl rfl (fun h29 => ?_) (fun h29 => ?_)
    · skip
      have hltk : k < m.first.length := by omega
      refine RP.nil ?_
      refine WP.seq ?_
      refine WP.cond_t rfl ?_
      refine WP.skip ?_
      refine WP.seq ?_
      refine WP.block rfl ?_
      refine WP.seq ?_
      refine WP.region ?_
      refine RP.at_ rfl rfl rfl rfl rfl rfl (.arg hm.first) (by first | assumption | omega) ?_
      refine RP.load_el rfl rfl rfl rfl (.arg hm.first) (by first | assumption | omega) rfl ?_
      refine RP.assign rfl rfl ?_
      refine RP.nil ?_
      refine WP.region ?_
      refine RP.move rfl rfl ?_
      refine RP.move rfl rfl ?_
      refine RP.move rfl rfl ?_
      refine RP.callM (Q := fun v H => ∃ va' pa' xs', H = (some L, .cells (pcells a b c d m va' Lm)) :: pa' :: (some Lm, .map 60 (menc (onesM xs'))) :: T ∧ Lin 2 fP2 true va' xs' pa' ∧ PutR m xs (m.first[i], m.first[k]) xs' ∧ v = .tup []) rfl rfl rfl (fun st' hi' => puts_ok (L := L) (Lm := Lm) (T := T) hlo hm hok hJ1 (by have := hJ2.len hg; omega) (x := m.first[i]) (y := m.first[k]) (hg.start (List.getElem_mem hlti)) (hg.start (List.getElem_mem hltk)) st' (hi'.pick (.cons (by repeat (first | exact .here | apply HRem.there | apply HRem.app)) (.cons (by repeat (first | exact .here | apply HRem.there | apply HRem.app)) (.cons (by repeat (first | exact .here | apply HRem.there | apply HRem.app)) .refl))))) ?_
      rintro _ _ ⟨va2, pa2, xs2, rfl, hl2, hput, rfl⟩
      refine RP.nil ?_
      refine WP.region ?_
      refine RP.add rfl rfl rfl (by omega) (by omega) ?_
      refine RP.move rfl rfl ?_
      refine RP.nil ?_
      refine roundQ.mk (Q := fun _ _ _ => True) (k + 1, va2, pa2, xs2) ⟨rfl, rfl, rfl, rfl, rfl, rfl, rfl, rfl, trivial⟩ (.cons (by repeat (first | exact .here | apply HRem.there | apply HRem.app)) (.cons (by repeat (first | exact .here | apply HRem.there | apply HRem.app)) (.cons (by repeat (first | exact .here | apply HRem.there | apply HRem.app)) .refl))) (by
        try dsimp only
        exact ⟨hltk, hl2, hJ2.put hput (fun hmm => .start (List.getElem_mem hlti) (List.getElem_mem hltk) hmm), hJ3.put hput, hJ4.put hltk hput⟩) (by
        try dsimp only
        omega)
    · skip
      refine RP.nil ?_
      refine WP.seq ?_
      refine WP.cond_f rfl ?_
      refine WP.exit ?_
      refine WP.region ?_
      refine RP.add rfl rfl rfl (by omega) (by omega) ?_
      refine RP.move rfl rfl ?_
      refine RP.nil ?_
      refine roundQ.mk (Q := fun _ _ _ => True) (i + 1, va, pa, xs) ⟨rfl, rfl, rfl, rfl, trivial⟩ (.cons (by repeat (first | exact .here | apply HRem.there | apply HRem.app)) (.cons (by repeat (first | exact .here | apply HRem.there | apply HRem.app)) (.cons (by repeat (first | exact .here | apply HRem.there | apply HRem.app)) .refl))) (by
        try dsimp only
        exact ⟨hlti, hJ1, hJ2, hJ3.step hlti (by omega) hJ4⟩) (by
        try dsimp only
        omega)
  · skip
    refine RP.nil ?_
    refine WP.seq ?_
    refine WP.cond_f rfl ?_
    refine WP.exit ?_
    refine WP.seq ?_
    have hcov0 : Cov m xs m.first m.first m.first.length := by rw [show m.first.length = i by omega]; exact hI4
    refine WP.region ?_
    refine RP.assign rfl rfl ?_
    refine RP.nil ?_
    refine WP.block rfl ?_
    refine WP.loop (α := Nat × LV × HE × List PP) (fun gh => [(0, .ptr (.own L) 0), (6, .int .i64 (gh.1 : Int))]) (fun gh => (some L, .cells (pcells a b c d m gh.2.1 Lm)) :: gh.2.2.1 :: (some Lm, .map 60 (menc (onesM gh.2.2.2))) :: T) (fun gh => gh.1 ≤ gh.2.2.2.length ∧ Lin 2 fP2 true gh.2.1 gh.2.2.2 gh.2.2.1 ∧ FoundP m gh.2.2.2 ∧ Cov m gh.2.2.2 m.first m.first m.first.length ∧ Clo m gh.2.2.2 gh.1) (fun gh => m.spots.length * m.spots.length - gh.1) ?_ (0, va, pa, xs) ⟨rfl, rfl, trivial⟩ (.cons (by repeat (first | exact .here | apply HRem.there | apply HRem.app)) (.cons (by repeat (first | exact .here | apply HRem.there | apply HRem.app)) (.cons (by repeat (first | exact .here | apply HRem.there | apply HRem.app)) .refl))) (by
      try dsimp only
      exact ⟨Nat.zero_le _, hI2, hI3, hcov0, Clo.zero⟩)
    rintro ⟨i, va, pa, xs⟩ hI
    change i ≤ xs.length ∧ Lin 2 fP2 true va xs pa ∧ FoundP m xs ∧ Cov m xs m.first m.first m.first.length ∧ Clo m xs i at hI
    change WP _ _ _ _ _ [(0, .ptr (.own L) 0), (6, .int .i64 (i : Int))] ((some L, .cells (pcells a b c d m va Lm)) :: pa :: (some Lm, .map 60 (menc (onesM xs))) :: T : HL) _
    obtain ⟨hC1, hC2, hC3, hC4, hC5⟩ := hI
    refine WP.seq ?_
    refine WP.seq ?_
    refine WP.region ?_
    refine RP.move rfl rfl ?_
    refine RP.move rfl rfl ?_
    refine RP.nilc rfl rfl ?_
    refine RP.faddr rfl rfl rfl ?_
    refine RP.load_box rfl rfl rfl rfl (by repeat (first | exact .here | apply HIn.there | apply HIn.app)) rfl ?_
    refine RP.len_sl rfl rfl (.lin fP2_len hC2 (by repeat (first | exact .here | apply HIn.there | apply HIn.app))) rfl ?_
    refine RP.lss rfl rfl rfl (fun h44 => ?_) (fun h44 => ?_)
    · skip
      have hltx : i < xs.length := by omega
      obtain ⟨x, hxe⟩ : ∃ x, x = xs[i] := ⟨_, rfl⟩
      have hxi : xs[i]? = some x := by rw [hxe]; exact List.getElem?_eq_getElem hltx
      have hxc : ComeP m x := hC3.come x (by rw [hxe]; exact List.getElem_mem hltx)
      have hrr := hxc.range hg
      have hf1 : x.1.toNat < fol.length := by omega
      have hf2 : x.2.toNat < fol.length := by omega
      have hr1 := hm.row hf1
      have hr2 := hm.row hf2
      have hq1 := h05 _ hf1
      have hq2 := h05 _ hf2
      refine RP.nil ?_
      refine WP.cond_t rfl ?_
      refine WP.skip ?_
      refine WP.seq ?_
      refine WP.block rfl ?_
      refine WP.seq ?_
      refine WP.region ?_
      refine RP.move rfl rfl ?_
      refine RP.nilc rfl rfl ?_
      refine RP.faddr rfl rfl rfl ?_
      refine RP.load_box rfl rfl rfl rfl (by repeat (first | exact .here | apply HIn.there | apply HIn.app)) rfl ?_
      refine RP.move rfl rfl ?_
      refine RP.at_ rfl rfl rfl rfl rfl rfl (.lin fP2_len hC2 (by repeat (first | exact .here | apply HIn.there | apply HIn.app))) (by first | assumption | omega) ?_
      refine RP.load_elN rfl rfl rfl rfl rfl (.lin fP2_len hC2 (by repeat (first | exact .here | apply HIn.there | apply HIn.app))) (by first | assumption | omega) rfl ?_
      rw [← hxe]
      refine RP.alloc rfl rfl rfl (fun L7 => ?_)
      refine RP.store_box rfl rfl rfl rfl rfl rfl hlo (by repeat (first | exact .here | apply HUpd.there | apply HUpd.app)) ?_
      refine RP.nil ?_
      refine WP.seq ?_
      refine WP.drawn (by kernel_rfl) ?_
      refine RP.move rfl rfl ?_
      refine RP.nilc rfl rfl ?_
      refine RP.faddr rfl rfl rfl ?_
      refine RP.faddr rfl rfl rfl ?_
      refine RP.load_box rfl rfl rfl rfl (by repeat (first | exact .here | apply HIn.there | apply HIn.app)) rfl ?_
      refine RP.iaddr rfl rfl rfl rfl ?_
      refine RP.load_box rfl rfl rfl rfl (by repeat (first | exact .here | apply HIn.there | apply HIn.app)) rfl ?_
      refine RP.at_ rfl rfl rfl (natOf_is (n := x.1.toNat) (by omega)) rfl rfl (.arg hm.follow) (by first | assumption | omega) ?_
      refine RP.load_el rfl rfl rfl rfl (.arg hm.follow) (by first | assumption | omega) rfl ?_
      refine RP.len_sl rfl rfl (.arg hr1) rfl ?_
      refine RP.move rfl rfl ?_
      refine RP.nil ?_
      refine WP.block rfl ?_
      refine WP.loop (α := Nat × LV × HE × List PP) (fun gh => [(0, .ptr (.own L) 0), (6, .int .i64 (i : Int)), (7, .ptr (.own L7) 0), (62, fol[x.1.toNat].1), (63, .int .i64 (fol[x.1.toNat].2.length : Int)), (64, .int .i64 (gh.1 : Int))]) (fun gh => (some L7, .cells [.int .i64 x.1, .int .i64 x.2]) :: (some L, .cells (pcells a b c d m gh.2.1 Lm)) :: gh.2.2.1 :: (some Lm, .map 60 (menc (onesM gh.2.2.2))) :: T) (fun gh => gh.1 ≤ fol[x.1.toNat].2.length ∧ Lin 2 fP2 true gh.2.1 gh.2.2.2 gh.2.2.1 ∧ FoundP m gh.2.2.2 ∧ Cov m gh.2.2.2 m.first m.first m.first.length ∧ Clo m gh.2.2.2 i ∧ gh.2.2.2[i]? = some x ∧ Cov m gh.2.2.2 (folOf m x.1.toNat) (folOf m x.2.toNat) gh.1) (fun gh => fol[x.1.toNat].2.length - gh.1) ?_ (0, va, pa, xs) ⟨rfl, rfl, rfl, rfl, rfl, rfl, trivial⟩ (.cons (by repeat (first | exact .here | apply HRem.there | apply HRem.app)) (.cons (by repeat (first | exact .here | apply HRem.there | apply HRem.app)) (.cons (by repeat (first | exact .here | apply HRem.there | apply HRem.app)) (.cons (by repeat (first | exact .here | apply HRem.there | apply HRem.app)) .refl)))) (by
        try dsimp only
        exact ⟨Nat.zero_le _, hC2, hC3, hC4, hC5, hxi, Cov.zero⟩)
      rintro ⟨j, va, pa, xs⟩ hI
      change j ≤ fol[x.1.toNat].2.length ∧ Lin 2 fP2 true va xs pa ∧ FoundP m xs ∧ Cov m xs m.first m.first m.first.length ∧ Clo m xs i ∧ xs[i]? = some x ∧ Cov m xs (folOf m x.1.toNat) (folOf m x.2.toNat) j at hI
      change WP _ _ _ _ _ [(0, .ptr (.own L) 0), (6, .int .i64 (i : Int)), (7, .ptr (.own L7) 0), (62, fol[x.1.toNat].1), (63, .int .i64 (fol[x.1.toNat].2.length : Int)), (64, .int .i64 (j : Int))] ((some L7, .cells [.int .i64 x.1, .int .i64 x.2]) :: (some L, .cells (pcells a b c d m va Lm)) :: pa :: (some Lm, .map 60 (menc (onesM xs))) :: T : HL) _
      obtain ⟨hD0, hD1, hD2, hD3, hD4, hD5, hD6⟩ := hI
      refine WP.seq ?_
      refine WP.region ?_
      refine RP.lss rfl rfl rfl (fun h65 => ?_) (fun h65 => ?_)
      · skip
        have hltj : j < fol[x.1.toNat].2.length := by omega
        refine RP.nil ?_
        refine WP.seq ?_
        refine WP.cond_t rfl ?_
        refine WP.skip ?_
        refine WP.seq ?_
        refine WP.block rfl ?_
        refine WP.seq ?_
        refine WP.region ?_
        refine RP.at_ rfl rfl rfl rfl rfl rfl (.arg hr1) (by first | assumption | omega) ?_
        refine RP.load_el rfl rfl rfl rfl (.arg hr1) (by first | assumption | omega) rfl ?_
        refine RP.assign rfl rfl ?_
        refine RP.nil ?_
        refine WP.seq ?_
        refine WP.drawn (by kernel_rfl) ?_
        refine RP.move rfl rfl ?_
        refine RP.nilc rfl rfl ?_
        refine RP.faddr rfl rfl rfl ?_
        refine RP.faddr rfl rfl rfl ?_
        refine RP.load_box rfl rfl rfl rfl (by repeat (first | exact .here | apply HIn.there | apply HIn.app)) rfl ?_
        refine RP.iaddr rfl rfl rfl rfl ?_
        refine RP.load_box rfl rfl rfl rfl (by repeat (first | exact .here | apply HIn.there | apply HIn.app)) rfl ?_
        refine RP.at_ rfl rfl rfl (natOf_is (n := x.2.toNat) (by omega)) rfl rfl (.arg hm.follow) (by first | assumption | omega) ?_
        refine RP.load_el rfl rfl rfl rfl (.arg hm.follow) (by first | assumption | omega) rfl ?_
        refine RP.len_sl rfl rfl (.arg hr2) rfl ?_
        refine RP.move rfl rfl ?_
        refine RP.nil ?_
        refine WP.block rfl ?_
        refine WP.loop (α := Nat × LV × HE × List PP) (fun gh => [(0, .ptr (.own L) 0), (6, .int .i64 (i : Int)), (7, .ptr (.own L7) 0), (62, fol[x.1.toNat].1), (63, .int .i64 (fol[x.1.toNat].2.length : Int)), (64, .int .i64 (j : Int)), (9, .int .i64 fol[x.1.toNat].2[j]), (76, fol[x.2.toNat].1), (77, .int .i64 (fol[x.2.toNat].2.length : Int)), (78, .int .i64 (gh.1 : Int))]) (fun gh => (some L7, .cells [.int .i64 x.1, .int .i64 x.2]) :: (some L, .cells (pcells a b c d m gh.2.1 Lm)) :: gh.2.2.1 :: (some Lm, .map 60 (menc (onesM gh.2.2.2))) :: T) (fun gh => gh.1 ≤ fol[x.2.toNat].2.length ∧ Lin 2 fP2 true gh.2.1 gh.2.2.2 gh.2.2.1 ∧ FoundP m gh.2.2.2 ∧ Cov m gh.2.2.2 m.first m.first m.first.length ∧ Clo m gh.2.2.2 i ∧ gh.2.2.2[i]? = some x ∧ Cov m gh.2.2.2 (folOf m x.1.toNat) (folOf m x.2.toNat) j ∧ Cov1 m gh.2.2.2 fol[x.1.toNat].2[j] (folOf m x.2.toNat) gh.1) (fun gh => fol[x.2.toNat].2.length - gh.1) ?_ (0, va, pa, xs) ⟨rfl, rfl, rfl, rfl, rfl, rfl, rfl, rfl, rfl, rfl, trivial⟩ (.cons (by repeat (first | exact .here | apply HRem.there | apply HRem.app)) (.cons (by repeat (first | exact .here | apply HRem.there | apply HRem.app)) (.cons (by repeat (first | exact .here | apply HRem.there | apply HRem.app)) (.cons (by repeat (first | exact .here | apply HRem.there | apply HRem.app)) .refl)))) (by
          try dsimp only
          exact ⟨Nat.zero_le _, hD1, hD2, hD3, hD4, hD5, hD6, Cov1.zero⟩)
        rintro ⟨k, va, pa, xs⟩ hI
        change k ≤ fol[x.2.toNat].2.length ∧ Lin 2 fP2 true va xs pa ∧ FoundP m xs ∧ Cov m xs m.first m.first m.first.length ∧ Clo m xs i ∧ xs[i]? = some x ∧ Cov m xs (folOf m x.1.toNat) (folOf m x.2.toNat) j ∧ Cov1 m xs fol[x.1.toNat].2[j] (folOf m x.2.toNat) k at hI
        change WP _ _ _ _ _ [(0, .ptr (.own L) 0), (6, .int .i64 (i : Int)), (7, .ptr (.own L7) 0), (62, fol[x.1.toNat].1), (63, .int .i64 (fol[x.1.toNat].2.length : Int)), (64, .int .i64 (j : Int)), (9, .int .i64 fol[x.1.toNat].2[j]), (76, fol[x.2.toNat].1), (77, .int .i64 (fol[x.2.toNat].2.length : Int)), (78, .int .i64 (k : Int))] ((some L7, .cells [.int .i64 x.1, .int .i64 x.2]) :: (some L, .cells (pcells a b c d m va Lm)) :: pa :: (some Lm, .map 60 (menc (onesM xs))) :: T : HL) _
        obtain ⟨hJ0, hJ1, hJ2, hJ3, hJ5, hJ6, hJ7, hJ4⟩ := hI
        refine WP.seq ?_
        refine WP.region ?_
        refine RP.lss rfl rfl rfl (fun h79 => ?_) (fun h79 => ?_)
        · skip
          have hltk : k < fol[x.2.toNat].2.length := by omega
          refine RP.nil ?_
          refine WP.seq ?_
          refine WP.cond_t rfl ?_
          refine WP.skip ?_
          refine WP.seq ?_
          refine WP.block rfl ?_
          refine WP.seq ?_
          refine WP.region ?_
          refine RP.at_ rfl rfl rfl rfl rfl rfl (.arg hr2) (by first | assumption | omega) ?_
          refine RP.load_el rfl rfl rfl rfl (.arg hr2) (by first | assumption | omega) rfl ?_
          refine RP.assign rfl rfl ?_
          refine RP.nil ?_
          refine WP.region ?_
          refine RP.move rfl rfl ?_
          refine RP.move rfl rfl ?_
          refine RP.move rfl rfl ?_
          refine RP.callM (Q := fun v H => ∃ va' pa' xs', H = (some L, .cells (pcells a b c d m va' Lm)) :: pa' :: (some Lm, .map 60 (menc (onesM xs'))) :: ((some L7, .cells [.int .i64 x.1, .int .i64 x.2]) :: T) ∧ Lin 2 fP2 true va' xs' pa' ∧ PutR m xs (fol[x.1.toNat].2[j], fol[x.2.toNat].2[k]) xs' ∧ v = .tup []) rfl rfl rfl (fun st' hi' => puts_ok (L := L) (Lm := Lm) (T := ((some L7, .cells [.int .i64 x.1, .int .i64 x.2]) :: T)) hlo hm hok hJ1 (by have := hJ2.len hg; omega) (x := fol[x.1.toNat].2[j]) (y := fol[x.2.toNat].2[k]) (hg.range (n := x.1.toNat) (by rw [hm.fol hf1]; exact List.getElem_mem hltj)) (hg.range (n := x.2.toNat) (by rw [hm.fol hf2]; exact List.getElem_mem hltk)) st' (hi'.pick (.cons (by repeat (first | exact .here | apply HRem.there | apply HRem.app)) (.cons (by repeat (first | exact .here | apply HRem.there | apply HRem.app)) (.cons (by repeat (first | exact .here | apply HRem.there | apply HRem.app)) .refl))))) ?_
          rintro _ _ ⟨va2, pa2, xs2, rfl, hl2, hput, rfl⟩
          refine RP.nil ?_
          refine WP.region ?_
          refine RP.add rfl rfl rfl (by omega) (by omega) ?_
          refine RP.move rfl rfl ?_
          refine RP.nil ?_
          refine roundQ.mk (Q := fun _ _ _ => True) (k + 1, va2, pa2, xs2) ⟨rfl, rfl, rfl, rfl, rfl, rfl, rfl, rfl, rfl, rfl, trivial⟩ (.cons (by repeat (first | exact .here | apply HRem.there | apply HRem.app)) (.cons (by repeat (first | exact .here | apply HRem.there | apply HRem.app)) (.cons (by repeat (first | exact .here | apply HRem.there | apply HRem.app)) (.cons (by repeat (first | exact .here | apply HRem.there | apply HRem.app)) .refl)))) (by
            try dsimp only
            exact ⟨hltk, hl2, hJ2.put hput (fun hmm => .step hxc (by rw [hm.fol hf1]; exact List.getElem_mem hltj) (by rw [hm.fol hf2]; exact List.getElem_mem hltk) hmm), hJ3.put hput, hJ5.put (by have := (List.getElem?_eq_some_iff.1 hJ6).1; omega) hput, put_get hput hJ6, hJ7.put hput, hJ4.put (by rw [hm.fol hf2]; exact hltk) (by simp only [hm.fol hf2]; exact hput)⟩) (by
            try dsimp only
            omega)
        · skip
          refine RP.nil ?_
          refine WP.seq ?_
          refine WP.cond_f rfl ?_
          refine WP.exit ?_
          refine WP.region ?_
          refine RP.add rfl rfl rfl (by omega) (by omega) ?_
          refine RP.move rfl rfl ?_
          refine RP.nil ?_
          refine roundQ.mk (Q := fun _ _ _ => True) (j + 1, va, pa, xs) ⟨rfl, rfl, rfl, rfl, rfl, rfl, trivial⟩ (.cons (by repeat (first | exact .here | apply HRem.there | apply HRem.app)) (.cons (by repeat (first | exact .here | apply HRem.there | apply HRem.app)) (.cons (by repeat (first | exact .here | apply HRem.there | apply HRem.app)) (.cons (by repeat (first | exact .here | apply HRem.there | apply HRem.app)) .refl)))) (by
            try dsimp only
            exact ⟨hltj, hJ1, hJ2, hJ3, hJ5, hJ6, hJ7.step (by rw [hm.fol hf1]; exact hltj) (k := k) (by rw [hm.fol hf2]; omega) (by simp only [hm.fol hf1]; exact hJ4)⟩) (by
            try dsimp only
            omega)
      · skip
        refine RP.nil ?_
        refine WP.seq ?_
        refine WP.cond_f rfl ?_
        refine WP.exit ?_
        have hlen2 := hD2.len hg
        have hil := (List.getElem?_eq_some_iff.1 hD5).1
        refine WP.region ?_
        refine RP.move rfl rfl ?_
        refine RP.add rfl rfl rfl (by omega) (by omega) ?_
        refine RP.assign rfl rfl ?_
        refine RP.nil ?_
        refine roundQ.mk (Q := fun _ _ _ => True) (i + 1, va, pa, xs) ⟨rfl, rfl, trivial⟩ (.cons (by repeat (first | exact .here | apply HRem.there | apply HRem.app)) (.cons (by repeat (first | exact .here | apply HRem.there | apply HRem.app)) (.cons (by repeat (first | exact .here | apply HRem.there | apply HRem.app)) (.skip .refl)))) (by
          try dsimp only
          exact ⟨by have := (List.getElem?_eq_some_iff.1 hD5).1; omega, hD1, hD2, hD3, hD4.step hD5 (by rw [hm.fol hf1]; omega) hD6⟩) (by
          try dsimp only
          omega)
    · skip
      refine RP.nil ?_
      refine WP.cond_f rfl ?_
      refine WP.exit ?_
      exact End.none (by first | exact Or.inl rfl | exact Or.inr rfl) rfl (.cons (by repeat (first | exact .here | apply HRem.there | apply HRem.app)) (.cons (by repeat (first | exact .here | apply HRem.there | apply HRem.app)) (.cons (by repeat (first | exact .here | apply HRem.there | apply HRem.app)) .refl))) ⟨va, pa, xs, rfl, hC2, hC3, all_come hC3 (Nat.le_refl _) hC4 (by omega) hC5, rfl⟩
end
end Go.Proofs.Ytpkeggejofeeeaa

namespace Go.Proofs.Ytpkeggejofeeeaa
open Go.Proofs.Ytpkeggejofeeeaa.Lvm Go

section
variable {bm : Nat → Nat → Option LV} {st : LSt} {lo : Nat} {a b c d : LV} {m : Mach} {fol : List (LV × List Int)}


theorem pends_ok (hlo : lo ≤ st.nxt) (hm : MA (EE bm) st a b c d m fol) (h0 : Small60 m fol) (hg : GoodM m) {L Lm : Nat} {va : LV} {pa : HE} {xs : List PP} {T : HL} (hl : Lin 2 fP2 true va xs pa) (hfd : FoundP m xs) (hcome : ∀ p, p ∈ xs ↔ ComeP m p) :
    FinM (EE bm) st lo 31 [.ptr (.own L) 0] ((some L, .cells (pcells a b c d m va Lm)) :: pa :: (some Lm, .map 60 (menc (onesM xs))) :: T) (fun v H => ∃ Lo out, v = .map Lo ∧ H = (some Lo, .map 60 (menc (onesM out))) :: T ∧ (∀ p, p ∈ out ↔ ComeP m p ∧ EndP m p)) := by
  obtain ⟨h01, h02, h03, h04, h05⟩ := h0
  have hfl := hm.len
  have hgf := hg.flen
  have hgl := hg.llen
  have hnn : m.spots.length * m.spots.length ≤ 3600 := Nat.mul_le_mul h01 h01
  have hxn : xs.length ≤ 3600 := Nat.le_trans (hfd.len hg) hnn
  refine FinM.of_body (fn := Try.f31) (c := Try.f31.body.getD .skip) rfl rfl rfl rfl ?_
  refine WP.seq ?_
  refine WP.region ?_
  refine RP.assign rfl rfl ?_
  refine RP.nil ?_
  refine WP.seq ?_
  refine WP.region ?_
  refine RP.mkmap rfl rfl (fun La => ?_)
  change RP _ _ _ _ _ _ _ _ ((some La, .map 60 (menc (encR []))) :: _) _
  refine RP.assign rfl rfl ?_
  refine RP.nil ?_
  refine WP.seq ?_
  refine WP.ghost .dead ?_
  refine WP.region ?_
  refine RP.assign rfl rfl ?_
  refine RP.nil ?_
  refine WP.seq ?_
  refine WP.seq ?_
  refine WP.region ?_
  refine RP.move rfl rfl ?_
  refine RP.nilc rfl rfl ?_
  refine RP.faddr rfl rfl rfl ?_
  refine RP.load_box rfl rfl rfl rfl (by repeat (first | exact .here | apply HIn.there | apply HIn.app)) rfl ?_
  refine RP.len_sl rfl rfl (.lin fP2_len hl (by repeat (first | exact .here | apply HIn.there | apply HIn.app))) rfl ?_
  refine RP.move rfl rfl ?_
  refine RP.nil ?_
  refine WP.block rfl ?_
  refine WP.loop (α := Nat × LV × HE × List PP × List ARow) (fun gh => [(0, .ptr (.own L) 0), (3, .map La), (4, gh.2.1), (18, va), (19, .int .i64 (xs.length : Int)), (20, .int .i64 (gh.1 : Int))]) (fun gh => (some La, .map 60 (menc (encR gh.2.2.2.2))) :: gh.2.2.1 :: (some L, .cells (pcells a b c d m va Lm)) :: pa :: (some Lm, .map 60 (menc (onesM xs))) :: (tailR gh.2.2.2.2 ++ T)) (fun gh => gh.1 ≤ xs.length ∧ Lin 2 fP2 true gh.2.1 gh.2.2.2.1 gh.2.2.1 ∧ TI m xs gh.2.2.2.1 gh.1 ∧ gh.2.2.2.1.length ≤ gh.1 ∧ AI m xs gh.2.2.2.2 (gh.1 * 3600) ∧ CE m xs gh.2.2.2.2 gh.1) (fun gh => xs.length - gh.1) ?_ (0, .nilsl, (none, .dead), [], []) ⟨rfl, rfl, rfl, rfl, rfl, rfl, trivial⟩ (.cons (by repeat (first | exact .here | apply HRem.there | apply HRem.app)) (.cons (by repeat (first | exact .here | apply HRem.there | apply HRem.app)) (.cons (by repeat (first | exact .here | apply HRem.there | apply HRem.app)) (.cons (by repeat (first | exact .here | apply HRem.there | apply HRem.app)) (.cons (by repeat (first | exact .here | apply HRem.there | apply HRem.app)) .refl))))) (by
    try dsimp only
    exact ⟨Nat.zero_le _, .nil, ⟨by simp, by simp⟩, Nat.zero_le _, AI.nil, fun x hx => by simp at hx⟩)
  rintro ⟨i, vt, pt, td, rows⟩ hI
  change i ≤ xs.length ∧ Lin 2 fP2 true vt td pt ∧ TI m xs td i ∧ td.length ≤ i ∧ AI m xs rows (i * 3600) ∧ CE m xs rows i at hI
  change WP _ _ _ _ _ [(0, .ptr (.own L) 0), (3, .map La), (4, vt), (18, va), (19, .int .i64 (xs.length : Int)), (20, .int .i64 (i : Int))] ((some La, .map 60 (menc (encR rows))) :: pt :: (some L, .cells (pcells a b c d m va Lm)) :: pa :: (some Lm, .map 60 (menc (onesM xs))) :: (tailR rows ++ T) : HL) _
  obtain ⟨hI1, hI2, hI3, hI4, hI5, hI6⟩ := hI
  refine WP.seq ?_
  refine WP.region ?_
  refine RP.lss rfl rfl rfl (fun h21 => ?_) (fun h21 => ?_)
  · skip
    have hltx : i < xs.length := by omega
    obtain ⟨x, hxe⟩ : ∃ x, x = xs[i] := ⟨_, rfl⟩
    have hxi : xs[i]? = some x := by rw [hxe]; exact List.getElem?_eq_getElem hltx
    have hxm : x ∈ xs := by rw [hxe]; exact List.getElem_mem hltx
    have hxc : ComeP m x := (hcome x).1 hxm
    have hrr := hxc.range hg
    have hf1 : x.1.toNat < fol.length := by omega
    have hf2 : x.2.toNat < fol.length := by omega
    have hr1 := hm.row hf1
    have hr2 := hm.row hf2
    have hq1 := h05 _ hf1
    have hq2 := h05 _ hf2
    have hl1 : x.1.toNat < m.last.length := by omega
    have hl2 : x.2.toNat < m.last.length := by omega
    have hb1 : lastOf m x.1.toNat = m.last[x.1.toNat] := by unfold lastOf; rw [List.getElem?_eq_getElem hl1]; rfl
    have hb2 : lastOf m x.2.toNat = m.last[x.2.toNat] := by unfold lastOf; rw [List.getElem?_eq_getElem hl2]; rfl
    refine RP.nil ?_
    refine WP.seq ?_
    refine WP.cond_t rfl ?_
    refine WP.skip ?_
    refine WP.seq ?_
    refine WP.block rfl ?_
    refine WP.seq ?_
    refine WP.region ?_
    refine RP.at_ rfl rfl rfl rfl rfl rfl (.lin fP2_len hl (by repeat (first | exact .here | apply HIn.there | apply HIn.app))) (by first | assumption | omega) ?_
    refine RP.load_elN rfl rfl rfl rfl rfl (.lin fP2_len hl (by repeat (first | exact .here | apply HIn.there | apply HIn.app))) (by first | assumption | omega) rfl ?_
    rw [← hxe]
    refine RP.alloc rfl rfl rfl (fun L6 => ?_)
    refine RP.store_box rfl rfl rfl rfl rfl rfl hlo (by repeat (first | exact .here | apply HUpd.there | apply HUpd.app)) ?_
    refine RP.nil ?_
    refine WP.seq ?_
    refine WP.seq ?_
    refine WP.drawn (by kernel_rfl) ?_
    refine RP.move rfl rfl ?_
    refine RP.nilc rfl rfl ?_
    refine RP.faddr rfl rfl rfl ?_
    refine RP.faddr rfl rfl rfl ?_
    refine RP.load_box rfl rfl rfl rfl (by repeat (first | exact .here | apply HIn.there | apply HIn.app)) rfl ?_
    refine RP.iaddr rfl rfl rfl rfl ?_
    refine RP.load_box rfl rfl rfl rfl (by repeat (first | exact .here | apply HIn.there | apply HIn.app)) rfl ?_
    refine RP.at_ rfl rfl rfl (natOf_is (n := x.1.toNat) (by omega)) rfl rfl (.arg hm.last) (by first | assumption | omega) ?_
    refine RP.load_el rfl rfl rfl rfl (.arg hm.last) (by first | assumption | omega) rfl ?_
    refine RP.move rfl rfl ?_
    refine RP.cases (d := 33) rfl (fun hg33 => ?_) (fun hg33 => ?_)
    · skip
      refine RP.gtrue rfl ?_
      refine RP.move rfl rfl ?_
      refine RP.gtrue rfl ?_
      refine RP.nilc rfl rfl ?_
      refine RP.gtrue rfl ?_
      refine RP.faddr rfl rfl rfl ?_
      refine RP.gtrue rfl ?_
      refine RP.faddr rfl rfl rfl ?_
      refine RP.gtrue rfl ?_
      refine RP.load_box rfl rfl rfl rfl (by repeat (first | exact .here | apply HIn.there | apply HIn.app)) rfl ?_
      refine RP.gtrue rfl ?_
      refine RP.iaddr rfl rfl rfl rfl ?_
      refine RP.gtrue rfl ?_
      refine RP.load_box rfl rfl rfl rfl (by repeat (first | exact .here | apply HIn.there | apply HIn.app)) rfl ?_
      refine RP.gtrue rfl ?_
      refine RP.at_ rfl rfl rfl (natOf_is (n := x.2.toNat) (by omega)) rfl rfl (.arg hm.last) (by first | assumption | omega) ?_
      refine RP.gtrue rfl ?_
      refine RP.load_el rfl rfl rfl rfl (.arg hm.last) (by first | assumption | omega) rfl ?_
      refine RP.pick_ rfl rfl rfl ?_
      refine RP.nil ?_
      refine WP.cond_b rfl (fun hc43 => ?_) (fun hc43 => ?_)
      · skip
        have hTI := hI3.on hxi ⟨by rw [hb1]; exact hg33, by rw [hb2]; exact hc43⟩
        refine WP.region ?_
        refine RP.move rfl rfl ?_
        refine RP.load_boxN rfl rfl rfl rfl rfl (by repeat (first | exact .here | apply HIn.there | apply HIn.app)) rfl ?_
        refine RP.bslice [x] rfl rfl rfl rfl rfl rfl rfl rfl rfl rfl fP2_len ?_
        intro v46 p46 hl46
        refine RP.append rfl rfl rfl rfl rfl rfl rfl rfl hI2 (fun _ => (by repeat (first | exact .here | apply HUpd.there | apply HUpd.app))) (.lin fP2_len hl46 (by repeat (first | exact .here | apply HIn.there | apply HIn.app))) (flat_all fP2_sc _) (by simp only [List.length_singleton]; omega) (fun e => (by first | rfl | cases e)) hlo ?_
        intro v47 p47 hl47
        have hlt2 := hl47
        have hTL : (td ++ [x]).length ≤ i + 1 := by rw [List.length_append]; simp only [List.length_singleton]; omega
        refine RP.assign rfl rfl ?_
        refine RP.nil ?_
        refine WP.seq ?_
        refine WP.drawn (by kernel_rfl) ?_
        refine RP.move rfl rfl ?_
        refine RP.nilc rfl rfl ?_
        refine RP.faddr rfl rfl rfl ?_
        refine RP.faddr rfl rfl rfl ?_
        refine RP.load_box rfl rfl rfl rfl (by repeat (first | exact .here | apply HIn.there | apply HIn.app)) rfl ?_
        refine RP.iaddr rfl rfl rfl rfl ?_
        refine RP.load_box rfl rfl rfl rfl (by repeat (first | exact .here | apply HIn.there | apply HIn.app)) rfl ?_
        refine RP.at_ rfl rfl rfl (natOf_is (n := x.1.toNat) (by omega)) rfl rfl (.arg hm.follow) (by first | assumption | omega) ?_
        refine RP.load_el rfl rfl rfl rfl (.arg hm.follow) (by first | assumption | omega) rfl ?_
        refine RP.len_sl rfl rfl (.arg hr1) rfl ?_
        refine RP.move rfl rfl ?_
        refine RP.nil ?_
        refine WP.block rfl ?_
        refine WP.loop (α := Nat × List ARow) (fun gh => [(0, .ptr (.own L) 0), (3, .map La), (4, v47), (6, .ptr (.own L6) 0), (18, va), (19, .int .i64 (xs.length : Int)), (20, .int .i64 (i : Int)), (56, fol[x.1.toNat].1), (57, .int .i64 (fol[x.1.toNat].2.length : Int)), (58, .int .i64 (gh.1 : Int))]) (fun gh => (some L6, .cells [.int .i64 x.1, .int .i64 x.2]) :: (some La, .map 60 (menc (encR gh.2))) :: p47 :: (some L, .cells (pcells a b c d m va Lm)) :: pa :: (some Lm, .map 60 (menc (onesM xs))) :: (tailR gh.2 ++ T)) (fun gh => gh.1 ≤ fol[x.1.toNat].2.length ∧ AI m xs gh.2 (i * 3600 + gh.1 * 60) ∧ CE m xs gh.2 i ∧ CB m xs gh.2 x (folOf m x.1.toNat) (folOf m x.2.toNat) gh.1) (fun gh => fol[x.1.toNat].2.length - gh.1) ?_ (0, rows) ⟨rfl, rfl, rfl, rfl, rfl, rfl, rfl, rfl, rfl, rfl, trivial⟩ (.cons (by repeat (first | exact .here | apply HRem.there | apply HRem.app)) (.cons (by repeat (first | exact .here | apply HRem.there | apply HRem.app)) (.cons (by repeat (first | exact .here | apply HRem.there | apply HRem.app)) (.cons (by repeat (first | exact .here | apply HRem.there | apply HRem.app)) (.cons (by repeat (first | exact .here | apply HRem.there | apply HRem.app)) (.cons (by repeat (first | exact .here | apply HRem.there | apply HRem.app)) (.skip .refl))))))) (by
          try dsimp only
          exact ⟨Nat.zero_le _, hI5.more (by omega), hI6, fun a ha => by simp at ha⟩)
        rintro ⟨j, rows⟩ hI
        change j ≤ fol[x.1.toNat].2.length ∧ AI m xs rows (i * 3600 + j * 60) ∧ CE m xs rows i ∧ CB m xs rows x (folOf m x.1.toNat) (folOf m x.2.toNat) j at hI
        change WP _ _ _ _ _ [(0, .ptr (.own L) 0), (3, .map La), (4, v47), (6, .ptr (.own L6) 0), (18, va), (19, .int .i64 (xs.length : Int)), (20, .int .i64 (i : Int)), (56, fol[x.1.toNat].1), (57, .int .i64 (fol[x.1.toNat].2.length : Int)), (58, .int .i64 (j : Int))] ((some L6, .cells [.int .i64 x.1, .int .i64 x.2]) :: (some La, .map 60 (menc (encR rows))) :: p47 :: (some L, .cells (pcells a b c d m va Lm)) :: pa :: (some Lm, .map 60 (menc (onesM xs))) :: (tailR rows ++ T) : HL) _
        obtain ⟨hD0, hD1, hD2, hD3⟩ := hI
        refine WP.seq ?_
        refine WP.region ?_
        refine RP.lss rfl rfl rfl (fun h59 => ?_) (fun h59 => ?_)
        · skip
          have hltj : j < fol[x.1.toNat].2.length := by omega
          refine RP.nil ?_
          refine WP.seq ?_
          refine WP.cond_t rfl ?_
          refine WP.skip ?_
          refine WP.seq ?_
          refine WP.block rfl ?_
          refine WP.seq ?_
          refine WP.region ?_
          refine RP.at_ rfl rfl rfl rfl rfl rfl (.arg hr1) (by first | assumption | omega) ?_
          refine RP.load_el rfl rfl rfl rfl (.arg hr1) (by first | assumption | omega) rfl ?_
          refine RP.assign rfl rfl ?_
          refine RP.nil ?_
          refine WP.seq ?_
          refine WP.drawn (by kernel_rfl) ?_
          refine RP.move rfl rfl ?_
          refine RP.nilc rfl rfl ?_
          refine RP.faddr rfl rfl rfl ?_
          refine RP.faddr rfl rfl rfl ?_
          refine RP.load_box rfl rfl rfl rfl (by repeat (first | exact .here | apply HIn.there | apply HIn.app)) rfl ?_
          refine RP.iaddr rfl rfl rfl rfl ?_
          refine RP.load_box rfl rfl rfl rfl (by repeat (first | exact .here | apply HIn.there | apply HIn.app)) rfl ?_
          refine RP.at_ rfl rfl rfl (natOf_is (n := x.2.toNat) (by omega)) rfl rfl (.arg hm.follow) (by first | assumption | omega) ?_
          refine RP.load_el rfl rfl rfl rfl (.arg hm.follow) (by first | assumption | omega) rfl ?_
          refine RP.len_sl rfl rfl (.arg hr2) rfl ?_
          refine RP.move rfl rfl ?_
          refine RP.nil ?_
          refine WP.block rfl ?_
          refine WP.loop (α := Nat × List ARow) (fun gh => [(0, .ptr (.own L) 0), (3, .map La), (4, v47), (6, .ptr (.own L6) 0), (18, va), (19, .int .i64 (xs.length : Int)), (20, .int .i64 (i : Int)), (56, fol[x.1.toNat].1), (57, .int .i64 (fol[x.1.toNat].2.length : Int)), (58, .int .i64 (j : Int)), (8, .int .i64 fol[x.1.toNat].2[j]), (70, fol[x.2.toNat].1), (71, .int .i64 (fol[x.2.toNat].2.length : Int)), (72, .int .i64 (gh.1 : Int))]) (fun gh => (some L6, .cells [.int .i64 x.1, .int .i64 x.2]) :: (some La, .map 60 (menc (encR gh.2))) :: p47 :: (some L, .cells (pcells a b c d m va Lm)) :: pa :: (some Lm, .map 60 (menc (onesM xs))) :: (tailR gh.2 ++ T)) (fun gh => gh.1 ≤ fol[x.2.toNat].2.length ∧ AI m xs gh.2 (i * 3600 + j * 60 + gh.1) ∧ CE m xs gh.2 i ∧ CB m xs gh.2 x (folOf m x.1.toNat) (folOf m x.2.toNat) j ∧ CC xs gh.2 x fol[x.1.toNat].2[j] (folOf m x.2.toNat) gh.1) (fun gh => fol[x.2.toNat].2.length - gh.1) ?_ (0, rows) ⟨rfl, rfl, rfl, rfl, rfl, rfl, rfl, rfl, rfl, rfl, rfl, rfl, rfl, rfl, trivial⟩ (.cons (by repeat (first | exact .here | apply HRem.there | apply HRem.app)) (.cons (by repeat (first | exact .here | apply HRem.there | apply HRem.app)) (.cons (by repeat (first | exact .here | apply HRem.there | apply HRem.app)) (.cons (by repeat (first | exact .here | apply HRem.there | apply HRem.app)) (.cons (by repeat (first | exact .here | apply HRem.there | apply HRem.app)) (.cons (by repeat (first | exact .here | apply HRem.there | apply HRem.app)) .refl)))))) (by
            try dsimp only
            exact ⟨Nat.zero_le _, hD1.more (by omega), hD2, hD3, fun a ha => by simp at ha⟩)
          rintro ⟨k, rows⟩ hI
          change k ≤ fol[x.2.toNat].2.length ∧ AI m xs rows (i * 3600 + j * 60 + k) ∧ CE m xs rows i ∧ CB m xs rows x (folOf m x.1.toNat) (folOf m x.2.toNat) j ∧ CC xs rows x fol[x.1.toNat].2[j] (folOf m x.2.toNat) k at hI
          change WP _ _ _ _ _ [(0, .ptr (.own L) 0), (3, .map La), (4, v47), (6, .ptr (.own L6) 0), (18, va), (19, .int .i64 (xs.length : Int)), (20, .int .i64 (i : Int)), (56, fol[x.1.toNat].1), (57, .int .i64 (fol[x.1.toNat].2.length : Int)), (58, .int .i64 (j : Int)), (8, .int .i64 fol[x.1.toNat].2[j]), (70, fol[x.2.toNat].1), (71, .int .i64 (fol[x.2.toNat].2.length : Int)), (72, .int .i64 (k : Int))] ((some L6, .cells [.int .i64 x.1, .int .i64 x.2]) :: (some La, .map 60 (menc (encR rows))) :: p47 :: (some L, .cells (pcells a b c d m va Lm)) :: pa :: (some Lm, .map 60 (menc (onesM xs))) :: (tailR rows ++ T) : HL) _
          obtain ⟨hE0, hE1, hE2, hE3, hE4⟩ := hI
          refine WP.seq ?_
          refine WP.region ?_
          refine RP.lss rfl rfl rfl (fun h73 => ?_) (fun h73 => ?_)
          · skip
            have hltk : k < fol[x.2.toNat].2.length := by omega
            refine RP.nil ?_
            refine WP.seq ?_
            refine WP.cond_t rfl ?_
            refine WP.skip ?_
            refine WP.seq ?_
            refine WP.block rfl ?_
            refine WP.seq ?_
            refine WP.region ?_
            refine RP.at_ rfl rfl rfl rfl rfl rfl (.arg hr2) (by first | assumption | omega) ?_
            refine RP.load_el rfl rfl rfl rfl (.arg hr2) (by first | assumption | omega) rfl ?_
            refine RP.assign rfl rfl ?_
            refine RP.nil ?_
            refine WP.seq ?_
            refine WP.region ?_
            refine RP.move rfl rfl ?_
            refine RP.move rfl rfl ?_
            refine RP.build rfl rfl rfl ?_
            refine RP.alloc rfl rfl rfl (fun L11 => ?_)
            refine RP.store_box rfl rfl rfl rfl rfl rfl hlo (by repeat (first | exact .here | apply HUpd.there | apply HUpd.app)) ?_
            refine RP.nil ?_
            refine WP.seq ?_
            refine WP.drawn (by kernel_rfl) ?_
            refine RP.move rfl rfl ?_
            refine RP.nilc rfl rfl ?_
            refine RP.faddr rfl rfl rfl ?_
            refine RP.load_box rfl rfl rfl rfl (by repeat (first | exact .here | apply HIn.there | apply HIn.app)) rfl ?_
            refine RP.load_boxN rfl rfl rfl rfl rfl (by repeat (first | exact .here | apply HIn.there | apply HIn.app)) rfl ?_
            refine RP.look1 (fol[x.1.toNat].2[j], fol[x.2.toNat].2[k]) rfl rfl rfl rfl rfl rfl (by repeat (first | exact .here | apply HIn.there | apply HIn.app)) ?_
            refine RP.gtr rfl rfl rfl (fun h85 => ?_) (fun h85 => ?_)
            · skip
              refine RP.nil ?_
              refine WP.cond_t rfl ?_
              refine WP.region ?_
              refine RP.move rfl rfl ?_
              refine RP.load_boxN rfl rfl rfl rfl rfl (by repeat (first | exact .here | apply HIn.there | apply HIn.app)) rfl ?_
              refine RP.load_boxN rfl rfl rfl rfl rfl (by repeat (first | exact .here | apply HIn.there | apply HIn.app)) rfl ?_
              refine RP.bslice [x] rfl rfl rfl rfl rfl rfl rfl rfl rfl rfl fP2_len ?_
              intro v90 p90 hl90
              refine RP.mentryR (fun es' => p90 :: (some L11, .cells [.int .i64 fol[x.1.toNat].2[j], .int .i64 fol[x.2.toNat].2[k]]) :: (some L6, .cells [.int .i64 x.1, .int .i64 x.2]) :: (some La, .map 60 (menc es')) :: p47 :: (some L, .cells (pcells a b c d m va Lm)) :: pa :: (some Lm, .map 60 (menc (onesM xs))) :: []) (fol[x.1.toNat].2[j], fol[x.2.toNat].2[k]) rfl rfl rfl rfl rfl rfl hlo (fun _ => (by repeat (first | exact .here | apply HUpd.there | apply HUpd.app))) ?_
              intro i0 rows2 v91 l91 p91 hrow
              change RP _ _ _ _ _ _ _ _ (p90 :: (some L11, .cells [.int .i64 fol[x.1.toNat].2[j], .int .i64 fol[x.2.toNat].2[k]]) :: (some L6, .cells [.int .i64 x.1, .int .i64 x.2]) :: (some La, .map 60 (menc (encR rows2))) :: p47 :: (some L, .cells (pcells a b c d m va Lm)) :: pa :: (some Lm, .map 60 (menc (onesM xs))) :: (tailR rows2 ++ T)) _
              have hai := hrow.ai hE1
              have hlv := hai.1.lin _ (List.mem_of_getElem? hrow.1)
              have hl91 := hai.1.len _ (List.mem_of_getElem? hrow.1)
              dsimp only at hlv hl91
              refine RP.extract_ rfl rfl rfl ?_
              refine RP.append rfl rfl rfl rfl rfl rfl rfl rfl hlv (fun _ => (by repeat (first | exact HUpd.left (HUpd.at_ (tailR_get hrow.1)) | apply HUpd.there))) (.lin fP2_len hl90 (by repeat (first | exact .here | apply HIn.there | apply HIn.app))) (flat_all fP2_sc _) (by simp only [List.length_singleton]; omega) (fun e => (by first | rfl | cases e)) hlo ?_
              intro v92 p92 hl92
              have hset := hai.1.set hrow.1 hl92 ⟨hxm, isIn_pos.1 h85, by rw [hm.fol hf1]; exact List.getElem_mem hltj, by rw [hm.fol hf2]; exact List.getElem_mem hltk⟩
              refine RP.extract_ rfl rfl rfl ?_
              refine RP.mstore (fol[x.1.toNat].2[j], fol[x.2.toNat].2[k]) rfl rfl rfl (encR_get hrow.1) hlo (by repeat (first | exact .here | apply HUpd.there | apply HUpd.app)) ?_
              rw [show (encR rows2).set i0 ((fol[x.1.toNat].2[j], fol[x.2.toNat].2[k]), v92) = encR (rows2.set i0 ((fol[x.1.toNat].2[j], fol[x.2.toNat].2[k]), v92, l91 ++ [x], p92)) from (encR_set (rows := rows2) (i := i0) (r := ((fol[x.1.toNat].2[j], fol[x.2.toNat].2[k]), v92, l91 ++ [x], p92))).symm, show (tailR rows2).set i0 p92 = tailR (rows2.set i0 ((fol[x.1.toNat].2[j], fol[x.2.toNat].2[k]), v92, l91 ++ [x], p92)) from (tailR_set (rows := rows2) (i := i0) (r := ((fol[x.1.toNat].2[j], fol[x.2.toNat].2[k]), v92, l91 ++ [x], p92))).symm]
              refine RP.nil ?_
              refine WP.region ?_
              refine RP.add rfl rfl rfl (by omega) (by omega) ?_
              refine RP.move rfl rfl ?_
              refine RP.nil ?_
              refine roundQ.mk (Q := fun _ _ _ => True) (k + 1, _) ⟨rfl, rfl, rfl, rfl, rfl, rfl, rfl, rfl, rfl, rfl, rfl, rfl, rfl, rfl, trivial⟩ (.cons (by repeat (first | exact .here | apply HRem.there | apply HRem.app)) (.cons (by repeat (first | exact .here | apply HRem.there | apply HRem.app)) (.cons (by repeat (first | exact .here | apply HRem.there | apply HRem.app)) (.cons (by repeat (first | exact .here | apply HRem.there | apply HRem.app)) (.cons (by repeat (first | exact .here | apply HRem.there | apply HRem.app)) (.cons (by repeat (first | exact .here | apply HRem.there | apply HRem.app)) (.skip (.skip .refl)))))))) (by
                try dsimp only
                exact ⟨hltk, hset.1.more (by omega), (hE2.grow hai.2).grow hset.2.1, (hE3.grow hai.2).grow hset.2.1, hE4.step (by rw [hm.fol hf2]; exact hltk) (fun y z h => hset.2.1 y z (hai.2 y z h)) (fun _ => by simp only [hm.fol hf2]; exact hset.2.2)⟩) (by
                try dsimp only
                omega)
            · skip
              refine RP.nil ?_
              refine WP.cond_f rfl ?_
              refine WP.skip ?_
              refine WP.region ?_
              refine RP.add rfl rfl rfl (by omega) (by omega) ?_
              refine RP.move rfl rfl ?_
              refine RP.nil ?_
              refine roundQ.mk (Q := fun _ _ _ => True) (k + 1, rows) ⟨rfl, rfl, rfl, rfl, rfl, rfl, rfl, rfl, rfl, rfl, rfl, rfl, rfl, rfl, trivial⟩ (.cons (by repeat (first | exact .here | apply HRem.there | apply HRem.app)) (.cons (by repeat (first | exact .here | apply HRem.there | apply HRem.app)) (.cons (by repeat (first | exact .here | apply HRem.there | apply HRem.app)) (.cons (by repeat (first | exact .here | apply HRem.there | apply HRem.app)) (.cons (by repeat (first | exact .here | apply HRem.there | apply HRem.app)) (.cons (by repeat (first | exact .here | apply HRem.there | apply HRem.app)) (.skip .refl))))))) (by
                try dsimp only
                exact ⟨hltk, hE1.more (by omega), hE2, hE3, hE4.step (by rw [hm.fol hf2]; exact hltk) (fun _ _ h => h) (fun h => absurd (isIn_pos.2 (by simpa only [hm.fol hf2] using h)) h85)⟩) (by
                try dsimp only
                omega)
          · skip
            refine RP.nil ?_
            refine WP.seq ?_
            refine WP.cond_f rfl ?_
            refine WP.exit ?_
            refine WP.region ?_
            refine RP.add rfl rfl rfl (by omega) (by omega) ?_
            refine RP.move rfl rfl ?_
            refine RP.nil ?_
            refine roundQ.mk (Q := fun _ _ _ => True) (j + 1, rows) ⟨rfl, rfl, rfl, rfl, rfl, rfl, rfl, rfl, rfl, rfl, trivial⟩ (.cons (by repeat (first | exact .here | apply HRem.there | apply HRem.app)) (.cons (by repeat (first | exact .here | apply HRem.there | apply HRem.app)) (.cons (by repeat (first | exact .here | apply HRem.there | apply HRem.app)) (.cons (by repeat (first | exact .here | apply HRem.there | apply HRem.app)) (.cons (by repeat (first | exact .here | apply HRem.there | apply HRem.app)) (.cons (by repeat (first | exact .here | apply HRem.there | apply HRem.app)) .refl)))))) (by
              try dsimp only
              exact ⟨hltj, hE1.more (by omega), hE2, hE3.step (by rw [hm.fol hf1]; exact hltj) (k := k) (by rw [hm.fol hf2]; omega) (by simp only [hm.fol hf1]; exact hE4)⟩) (by
              try dsimp only
              omega)
        · skip
          refine RP.nil ?_
          refine WP.seq ?_
          refine WP.cond_f rfl ?_
          refine WP.exit ?_
          refine WP.region ?_
          refine RP.add rfl rfl rfl (by omega) (by omega) ?_
          refine RP.move rfl rfl ?_
          refine RP.nil ?_
          refine roundQ.mk (Q := fun _ _ _ => True) (i + 1, v47, p47, (td ++ [x]), rows) ⟨rfl, rfl, rfl, rfl, rfl, rfl, trivial⟩ (.cons (by repeat (first | exact .here | apply HRem.there | apply HRem.app)) (.cons (by repeat (first | exact .here | apply HRem.there | apply HRem.app)) (.cons (by repeat (first | exact .here | apply HRem.there | apply HRem.app)) (.cons (by repeat (first | exact .here | apply HRem.there | apply HRem.app)) (.cons (by repeat (first | exact .here | apply HRem.there | apply HRem.app)) (.skip .refl)))))) (by
            try dsimp only
            exact ⟨hltx, hlt2, hTI, hTL, hD1.more (by omega), hD2.step hxi (by rw [hm.fol hf1]; omega) hD3⟩) (by
            try dsimp only
            omega)
      · skip
        have hTI := hI3.off hxi (fun h => by rw [BothLast, hb2, hc43] at h; cases h.2)
        have hlt2 := hI2
        have hTL : td.length ≤ i + 1 := by omega
        refine WP.skip ?_
        refine WP.seq ?_
        refine WP.drawn (by kernel_rfl) ?_
        refine RP.move rfl rfl ?_
        refine RP.nilc rfl rfl ?_
        refine RP.faddr rfl rfl rfl ?_
        refine RP.faddr rfl rfl rfl ?_
        refine RP.load_box rfl rfl rfl rfl (by repeat (first | exact .here | apply HIn.there | apply HIn.app)) rfl ?_
        refine RP.iaddr rfl rfl rfl rfl ?_
        refine RP.load_box rfl rfl rfl rfl (by repeat (first | exact .here | apply HIn.there | apply HIn.app)) rfl ?_
        refine RP.at_ rfl rfl rfl (natOf_is (n := x.1.toNat) (by omega)) rfl rfl (.arg hm.follow) (by first | assumption | omega) ?_
        refine RP.load_el rfl rfl rfl rfl (.arg hm.follow) (by first | assumption | omega) rfl ?_
        refine RP.len_sl rfl rfl (.arg hr1) rfl ?_
        refine RP.move rfl rfl ?_
        refine RP.nil ?_
        refine WP.block rfl ?_
        refine WP.loop (α := Nat × List ARow) (fun gh => [(0, .ptr (.own L) 0), (3, .map La), (4, vt), (6, .ptr (.own L6) 0), (18, va), (19, .int .i64 (xs.length : Int)), (20, .int .i64 (i : Int)), (56, fol[x.1.toNat].1), (57, .int .i64 (fol[x.1.toNat].2.length : Int)), (58, .int .i64 (gh.1 : Int))]) (fun gh => (some L6, .cells [.int .i64 x.1, .int .i64 x.2]) :: (some La, .map 60 (menc (encR gh.2))) :: pt :: (some L, .cells (pcells a b c d m va Lm)) :: pa :: (some Lm, .map 60 (menc (onesM xs))) :: (tailR gh.2 ++ T)) (fun gh => gh.1 ≤ fol[x.1.toNat].2.length ∧ AI m xs gh.2 (i * 3600 + gh.1 * 60) ∧ CE m xs gh.2 i ∧ CB m xs gh.2 x (folOf m x.1.toNat) (folOf m x.2.toNat) gh.1) (fun gh => fol[x.1.toNat].2.length - gh.1) ?_ (0, rows) ⟨rfl, rfl, rfl, rfl, rfl, rfl, rfl, rfl, rfl, rfl, trivial⟩ (.cons (by repeat (first | exact .here | apply HRem.there | apply HRem.app)) (.cons (by repeat (first | exact .here | apply HRem.there | apply HRem.app)) (.cons (by repeat (first | exact .here | apply HRem.there | apply HRem.app)) (.cons (by repeat (first | exact .here | apply HRem.there | apply HRem.app)) (.cons (by repeat (first | exact .here | apply HRem.there | apply HRem.app)) (.cons (by repeat (first | exact .here | apply HRem.there | apply HRem.app)) .refl)))))) (by
          try dsimp only
          exact ⟨Nat.zero_le _, hI5.more (by omega), hI6, fun a ha => by simp at ha⟩)
        rintro ⟨j, rows⟩ hI
        change j ≤ fol[x.1.toNat].2.length ∧ AI m xs rows (i * 3600 + j * 60) ∧ CE m xs rows i ∧ CB m xs rows x (folOf m x.1.toNat) (folOf m x.2.toNat) j at hI
        change WP _ _ _ _ _ [(0, .ptr (.own L) 0), (3, .map La), (4, vt), (6, .ptr (.own L6) 0), (18, va), (19, .int .i64 (xs.length : Int)), (20, .int .i64 (i : Int)), (56, fol[x.1.toNat].1), (57, .int .i64 (fol[x.1.toNat].2.length : Int)), (58, .int .i64 (j : Int))] ((some L6, .cells [.int .i64 x.1, .int .i64 x.2]) :: (some La, .map 60 (menc (encR rows))) :: pt :: (some L, .cells (pcells a b c d m va Lm)) :: pa :: (some Lm, .map 60 (menc (onesM xs))) :: (tailR rows ++ T) : HL) _
        obtain ⟨hD0, hD1, hD2, hD3⟩ := hI
        refine WP.seq ?_
        refine WP.region ?_
        refine RP.lss rfl rfl rfl (fun h59 => ?_) (fun h59 => ?_)
        · skip
          have hltj : j < fol[x.1.toNat].2.length := by omega
          refine RP.nil ?_
          refine WP.seq ?_
          refine WP.cond_t rfl ?_
          refine WP.skip ?_
          refine WP.seq ?_
          refine WP.block rfl ?_
          refine WP.seq ?_
          refine WP.region ?_
          refine RP.at_ rfl rfl rfl rfl rfl rfl (.arg hr1) (by first | assumption | omega) ?_
          refine RP.load_el rfl rfl rfl rfl (.arg hr1) (by first | assumption | omega) rfl ?_
          refine RP.assign rfl rfl ?_
          refine RP.nil ?_
          refine WP.seq ?_
          refine WP.drawn (by kernel_rfl) ?_
          refine RP.move rfl rfl ?_
          refine RP.nilc rfl rfl ?_
          refine RP.faddr rfl rfl rfl ?_
          refine RP.faddr rfl rfl rfl ?_
          refine RP.load_box rfl rfl rfl rfl (by repeat (first | exact .here | apply HIn.there | apply HIn.app)) rfl ?_
          refine RP.iaddr rfl rfl rfl rfl ?_
          refine RP.load_box rfl rfl rfl rfl (by repeat (first | exact .here | apply HIn.there | apply HIn.app)) rfl ?_
          refine RP.at_ rfl rfl rfl (natOf_is (n := x.2.toNat) (by omega)) rfl rfl (.arg hm.follow) (by first | assumption | omega) ?_
          refine RP.load_el rfl rfl rfl rfl (.arg hm.follow) (by first | assumption | omega) rfl ?_
          refine RP.len_sl rfl rfl (.arg hr2) rfl ?_
          refine RP.move rfl rfl ?_
          refine RP.nil ?_
          refine WP.block rfl ?_
          refine WP.loop (α := Nat × List ARow) (fun gh => [(0, .ptr (.own L) 0), (3, .map La), (4, vt), (6, .ptr (.own L6) 0), (18, va), (19, .int .i64 (xs.length : Int)), (20, .int .i64 (i : Int)), (56, fol[x.1.toNat].1), (57, .int .i64 (fol[x.1.toNat].2.length : Int)), (58, .int .i64 (j : Int)), (8, .int .i64 fol[x.1.toNat].2[j]), (70, fol[x.2.toNat].1), (71, .int .i64 (fol[x.2.toNat].2.length : Int)), (72, .int .i64 (gh.1 : Int))]) (fun gh => (some L6, .cells [.int .i64 x.1, .int .i64 x.2]) :: (some La, .map 60 (menc (encR gh.2))) :: pt :: (some L, .cells (pcells a b c d m va Lm)) :: pa :: (some Lm, .map 60 (menc (onesM xs))) :: (tailR gh.2 ++ T)) (fun gh => gh.1 ≤ fol[x.2.toNat].2.length ∧ AI m xs gh.2 (i * 3600 + j * 60 + gh.1) ∧ CE m xs gh.2 i ∧ CB m xs gh.2 x (folOf m x.1.toNat) (folOf m x.2.toNat) j ∧ CC xs gh.2 x fol[x.1.toNat].2[j] (folOf m x.2.toNat) gh.1) (fun gh => fol[x.2.toNat].2.length - gh.1) ?_ (0, rows) ⟨rfl, rfl, rfl, rfl, rfl, rfl, rfl, rfl, rfl, rfl, rfl, rfl, rfl, rfl, trivial⟩ (.cons (by repeat (first | exact .here | apply HRem.there | apply HRem.app)) (.cons (by repeat (first | exact .here | apply HRem.there | apply HRem.app)) (.cons (by repeat (first | exact .here | apply HRem.there | apply HRem.app)) (.cons (by repeat (first | exact .here | apply HRem.there | apply HRem.app)) (.cons (by repeat (first | exact .here | apply HRem.there | apply HRem.app)) (.cons (by repeat (first | exact .here | apply HRem.there | apply HRem.app)) .refl)))))) (by
            try dsimp only
            exact ⟨Nat.zero_le _, hD1.more (by omega), hD2, hD3, fun a ha => by simp at ha⟩)
          rintro ⟨k, rows⟩ hI
          change k ≤ fol[x.2.toNat].2.length ∧ AI m xs rows (i * 3600 + j * 60 + k) ∧ CE m xs rows i ∧ CB m xs rows x (folOf m x.1.toNat) (folOf m x.2.toNat) j ∧ CC xs rows x fol[x.1.toNat].2[j] (folOf m x.2.toNat) k at hI
          change WP _ _ _ _ _ [(0, .ptr (.own L) 0), (3, .map La), (4, vt), (6, .ptr (.own L6) 0), (18, va), (19, .int .i64 (xs.length : Int)), (20, .int .i64 (i : Int)), (56, fol[x.1.toNat].1), (57, .int .i64 (fol[x.1.toNat].2.length : Int)), (58, .int .i64 (j : Int)), (8, .int .i64 fol[x.1.toNat].2[j]), (70, fol[x.2.toNat].1), (71, .int .i64 (fol[x.2.toNat].2.length : Int)), (72, .int .i64 (k : Int))] ((some L6, .cells [.int .i64 x.1, .int .i64 x.2]) :: (some La, .map 60 (menc (encR rows))) :: pt :: (some L, .cells (pcells a b c d m va Lm)) :: pa :: (some Lm, .map 60 (menc (onesM xs))) :: (tailR rows ++ T) : HL) _
          obtain ⟨hE0, hE1, hE2, hE3, hE4⟩ := hI
          refine WP.seq ?_
          refine WP.region ?_
          refine RP.lss rfl rfl rfl (fun h73 => ?_) (fun h73 => ?_)
          · skip
            have hltk : k < fol[x.2.toNat].2.length := by omega
            refine RP.nil ?_
            refine WP.seq ?_
            refine WP.cond_t rfl ?_
            refine WP.skip ?_
            refine WP.seq ?_
            refine WP.block rfl ?_
            refine WP.seq ?_
            refine WP.region ?_
            refine RP.at_ rfl rfl rfl rfl rfl rfl (.arg hr2) (by first | assumption | omega) ?_
            refine RP.load_el rfl rfl rfl rfl (.arg hr2) (by first | assumption | omega) rfl ?_
            refine RP.assign rfl rfl ?_
            refine RP.nil ?_
            refine WP.seq ?_
            refine WP.region ?_
            refine RP.move rfl rfl ?_
            refine RP.move rfl rfl ?_
            refine RP.build rfl rfl rfl ?_
            refine RP.alloc rfl rfl rfl (fun L11 => ?_)
            refine RP.store_box rfl rfl rfl rfl rfl rfl hlo (by repeat (first | exact .here | apply HUpd.there | apply HUpd.app)) ?_
            refine RP.nil ?_
            refine WP.seq ?_
            refine WP.drawn (by kernel_rfl) ?_
            refine RP.move rfl rfl ?_
            refine RP.nilc rfl rfl ?_
            refine RP.faddr rfl rfl rfl ?_
            refine RP.load_box rfl rfl rfl rfl (by repeat (first | exact .here | apply HIn.there | apply HIn.app)) rfl ?_
            refine RP.load_boxN rfl rfl rfl rfl rfl (by repeat (first | exact .here | apply HIn.there | apply HIn.app)) rfl ?_
            refine RP.look1 (fol[x.1.toNat].2[j], fol[x.2.toNat].2[k]) rfl rfl rfl rfl rfl rfl (by repeat (first | exact .here | apply HIn.there | apply HIn.app)) ?_
            refine RP.gtr rfl rfl rfl (fun h85 => ?_) (fun h85 => ?_)
            · skip
              refine RP.nil ?_
              refine WP.cond_t rfl ?_
              refine WP.region ?_
              refine RP.move rfl rfl ?_
              refine RP.load_boxN rfl rfl rfl rfl rfl (by repeat (first | exact .here | apply HIn.there | apply HIn.app)) rfl ?_
              refine RP.load_boxN rfl rfl rfl rfl rfl (by repeat (first | exact .here | apply HIn.there | apply HIn.app)) rfl ?_
              refine RP.bslice [x] rfl rfl rfl rfl rfl rfl rfl rfl rfl rfl fP2_len ?_
              intro v90 p90 hl90
              refine RP.mentryR (fun es' => p90 :: (some L11, .cells [.int .i64 fol[x.1.toNat].2[j], .int .i64 fol[x.2.toNat].2[k]]) :: (some L6, .cells [.int .i64 x.1, .int .i64 x.2]) :: (some La, .map 60 (menc es')) :: pt :: (some L, .cells (pcells a b c d m va Lm)) :: pa :: (some Lm, .map 60 (menc (onesM xs))) :: []) (fol[x.1.toNat].2[j], fol[x.2.toNat].2[k]) rfl rfl rfl rfl rfl rfl hlo (fun _ => (by repeat (first | exact .here | apply HUpd.there | apply HUpd.app))) ?_
              intro i0 rows2 v91 l91 p91 hrow
              change RP _ _ _ _ _ _ _ _ (p90 :: (some L11, .cells [.int .i64 fol[x.1.toNat].2[j], .int .i64 fol[x.2.toNat].2[k]]) :: (some L6, .cells [.int .i64 x.1, .int .i64 x.2]) :: (some La, .map 60 (menc (encR rows2))) :: pt :: (some L, .cells (pcells a b c d m va Lm)) :: pa :: (some Lm, .map 60 (menc (onesM xs))) :: (tailR rows2 ++ T)) _
              have hai := hrow.ai hE1
              have hlv := hai.1.lin _ (List.mem_of_getElem? hrow.1)
              have hl91 := hai.1.len _ (List.mem_of_getElem? hrow.1)
              dsimp only at hlv hl91
              refine RP.extract_ rfl rfl rfl ?_
              refine RP.append rfl rfl rfl rfl rfl rfl rfl rfl hlv (fun _ => (by repeat (first | exact HUpd.left (HUpd.at_ (tailR_get hrow.1)) | apply HUpd.there))) (.lin fP2_len hl90 (by repeat (first | exact .here | apply HIn.there | apply HIn.app))) (flat_all fP2_sc _) (by simp only [List.length_singleton]; omega) (fun e => (by first | rfl | cases e)) hlo ?_
              intro v92 p92 hl92
              have hset := hai.1.set hrow.1 hl92 ⟨hxm, isIn_pos.1 h85, by rw [hm.fol hf1]; exact List.getElem_mem hltj, by rw [hm.fol hf2]; exact List.getElem_mem hltk⟩
              refine RP.extract_ rfl rfl rfl ?_
              refine RP.mstore (fol[x.1.toNat].2[j], fol[x.2.toNat].2[k]) rfl rfl rfl (encR_get hrow.1) hlo (by repeat (first | exact .here | apply HUpd.there | apply HUpd.app)) ?_
              rw [show (encR rows2).set i0 ((fol[x.1.toNat].2[j], fol[x.2.toNat].2[k]), v92) = encR (rows2.set i0 ((fol[x.1.toNat].2[j], fol[x.2.toNat].2[k]), v92, l91 ++ [x], p92)) from (encR_set (rows := rows2) (i := i0) (r := ((fol[x.1.toNat].2[j], fol[x.2.toNat].2[k]), v92, l91 ++ [x], p92))).symm, show (tailR rows2).set i0 p92 = tailR (rows2.set i0 ((fol[x.1.toNat].2[j], fol[x.2.toNat].2[k]), v92, l91 ++ [x], p92)) from (tailR_set (rows := rows2) (i := i0) (r := ((fol[x.1.toNat].2[j], fol[x.2.toNat].2[k]), v92, l91 ++ [x], p92))).symm]
              refine RP.nil ?_
              refine WP.region ?_
              refine RP.add rfl rfl rfl (by omega) (by omega) ?_
              refine RP.move rfl rfl ?_
              refine RP.nil ?_
              refine roundQ.mk (Q := fun _ _ _ => True) (k + 1, _) ⟨rfl, rfl, rfl, rfl, rfl, rfl, rfl, rfl, rfl, rfl, rfl, rfl, rfl, rfl, trivial⟩ (.cons (by repeat (first | exact .here | apply HRem.there | apply HRem.app)) (.cons (by repeat (first | exact .here | apply HRem.there | apply HRem.app)) (.cons (by repeat (first | exact .here | apply HRem.there | apply HRem.app)) (.cons (by repeat (first | exact .here | apply HRem.there | apply HRem.app)) (.cons (by repeat (first | exact .here | apply HRem.there | apply HRem.app)) (.cons (by repeat (first | exact .here | apply HRem.there | apply HRem.app)) (.skip (.skip .refl)))))))) (by
                try dsimp only
                exact ⟨hltk, hset.1.more (by omega), (hE2.grow hai.2).grow hset.2.1, (hE3.grow hai.2).grow hset.2.1, hE4.step (by rw [hm.fol hf2]; exact hltk) (fun y z h => hset.2.1 y z (hai.2 y z h)) (fun _ => by simp only [hm.fol hf2]; exact hset.2.2)⟩) (by
                try dsimp only
                omega)
            · skip
              refine RP.nil ?_
              refine WP.cond_f rfl ?_
              refine WP.skip ?_
              refine WP.region ?_
              refine RP.add rfl rfl rfl (by omega) (by omega) ?_
              refine RP.move rfl rfl ?_
              refine RP.nil ?_
              refine roundQ.mk (Q := fun _ _ _ => True) (k + 1, rows) ⟨rfl, rfl, rfl, rfl, rfl, rfl, rfl, rfl, rfl, rfl, rfl, rfl, rfl, rfl, trivial⟩ (.cons (by repeat (first | exact .here | apply HRem.there | apply HRem.app)) (.cons (by repeat (first | exact .here | apply HRem.there | apply HRem.app)) (.cons (by repeat (first | exact .here | apply HRem.there | apply HRem.app)) (.cons (by repeat (first | exact .here | apply HRem.there | apply HRem.app)) (.cons (by repeat (first | exact .here | apply HRem.there | apply HRem.app)) (.cons (by repeat (first | exact .here | apply HRem.there | apply HRem.app)) (.skip .refl))))))) (by
                try dsimp only
                exact ⟨hltk, hE1.more (by omega), hE2, hE3, hE4.step (by rw [hm.fol hf2]; exact hltk) (fun _ _ h => h) (fun h => absurd (isIn_pos.2 (by simpa only [hm.fol hf2] using h)) h85)⟩) (by
                try dsimp only
                omega)
          · skip
            refine RP.nil ?_
            refine WP.seq ?_
            refine WP.cond_f rfl ?_
            refine WP.exit ?_
            refine WP.region ?_
            refine RP.add rfl rfl rfl (by omega) (by omega) ?_
            refine RP.move rfl rfl ?_
            refine RP.nil ?_
            refine roundQ.mk (Q := fun _ _ _ => True) (j + 1, rows) ⟨rfl, rfl, rfl, rfl, rfl, rfl, rfl, rfl, rfl, rfl, trivial⟩ (.cons (by repeat (first | exact .here | apply HRem.there | apply HRem.app)) (.cons (by repeat (first | exact .here | apply HRem.there | apply HRem.app)) (.cons (by repeat (first | exact .here | apply HRem.there | apply HRem.app)) (.cons (by repeat (first | exact .here | apply HRem.there | apply HRem.app)) (.cons (by repeat (first | exact .here | apply HRem.there | apply HRem.app)) (.cons (by repeat (first | exact .here | apply HRem.there | apply HRem.app)) .refl)))))) (by
              try dsimp only
              exact ⟨hltj, hE1.more (by omega), hE2, hE3.step (by rw [hm.fol hf1]; exact hltj) (k := k) (by rw [hm.fol hf2]; omega) (by simp only [hm.fol hf1]; exact hE4)⟩) (by
              try dsimp only
              omega)
        · skip
          refine RP.nil ?_
          refine WP.seq ?_
          refine WP.cond_f rfl ?_
          refine WP.exit ?_
          refine WP.region ?_
          refine RP.add rfl rfl rfl (by omega) (by omega) ?_
          refine RP.move rfl rfl ?_
          refine RP.nil ?_
          refine roundQ.mk (Q := fun _ _ _ => True) (i + 1, vt, pt, td, rows) ⟨rfl, rfl, rfl, rfl, rfl, rfl, trivial⟩ (.cons (by repeat (first | exact .here | apply HRem.there | apply HRem.app)) (.cons (by repeat (first | exact .here | apply HRem.there | apply HRem.app)) (.cons (by repeat (first | exact .here | apply HRem.there | apply HRem.app)) (.cons (by repeat (first | exact .here | apply HRem.there | apply HRem.app)) (.cons (by repeat (first | exact .here | apply HRem.there | apply HRem.app)) (.skip .refl)))))) (by
            try dsimp only
            exact ⟨hltx, hlt2, hTI, hTL, hD1.more (by omega), hD2.step hxi (by rw [hm.fol hf1]; omega) hD3⟩) (by
            try dsimp only
            omega)
    · skip
      have hTI := hI3.off hxi (fun h => by rw [BothLast, hb1, hg33] at h; cases h.1)
      have hlt2 := hI2
      have hTL : td.length ≤ i + 1 := by omega
      refine RP.gfalse rfl rfl ?_
      refine RP.gfalse rfl rfl ?_
      refine RP.gfalse rfl rfl ?_
      refine RP.gfalse rfl rfl ?_
      refine RP.gfalse rfl rfl ?_
      refine RP.gfalse rfl rfl ?_
      refine RP.gfalse rfl rfl ?_
      refine RP.gfalse rfl rfl ?_
      refine RP.gfalse rfl rfl ?_
      refine RP.pick_ rfl rfl rfl ?_
      refine RP.nil ?_
      refine WP.cond_f rfl ?_
      refine WP.skip ?_
      refine WP.seq ?_
      refine WP.drawn (by kernel_rfl) ?_
      refine RP.move rfl rfl ?_
      refine RP.nilc rfl rfl ?_
      refine RP.faddr rfl rfl rfl ?_
      refine RP.faddr rfl rfl rfl ?_
      refine RP.load_box rfl rfl rfl rfl (by repeat (first | exact .here | apply HIn.there | apply HIn.app)) rfl ?_
      refine RP.iaddr rfl rfl rfl rfl ?_
      refine RP.load_box rfl rfl rfl rfl (by repeat (first | exact .here | apply HIn.there | apply HIn.app)) rfl ?_
      refine RP.at_ rfl rfl rfl (natOf_is (n := x.1.toNat) (by omega)) rfl rfl (.arg hm.follow) (by first | assumption | omega) ?_
      refine RP.load_el rfl rfl rfl rfl (.arg hm.follow) (by first | assumption | omega) rfl ?_
      refine RP.len_sl rfl rfl (.arg hr1) rfl ?_
      refine RP.move rfl rfl ?_
      refine RP.nil ?_
      refine WP.block rfl ?_
      refine WP.loop (α := Nat × List ARow) (fun gh => [(0, .ptr (.own L) 0), (3, .map La), (4, vt), (6, .ptr (.own L6) 0), (18, va), (19, .int .i64 (xs.length : Int)), (20, .int .i64 (i : Int)), (56, fol[x.1.toNat].1), (57, .int .i64 (fol[x.1.toNat].2.length : Int)), (58, .int .i64 (gh.1 : Int))]) (fun gh => (some L6, .cells [.int .i64 x.1, .int .i64 x.2]) :: (some La, .map 60 (menc (encR gh.2))) :: pt :: (some L, .cells (pcells a b c d m va Lm)) :: pa :: (some Lm, .map 60 (menc (onesM xs))) :: (tailR gh.2 ++ T)) (fun gh => gh.1 ≤ fol[x.1.toNat].2.length ∧ AI m xs gh.2 (i * 3600 + gh.1 * 60) ∧ CE m xs gh.2 i ∧ CB m xs gh.2 x (folOf m x.1.toNat) (folOf m x.2.toNat) gh.1) (fun gh => fol[x.1.toNat].2.length - gh.1) ?_ (0, rows) ⟨rfl, rfl, rfl, rfl, rfl, rfl, rfl, rfl, rfl, rfl, trivial⟩ (.cons (by repeat (first | exact .here | apply HRem.there | apply HRem.app)) (.cons (by repeat (first | exact .here | apply HRem.there | apply HRem.app)) (.cons (by repeat (first | exact .here | apply HRem.there | apply HRem.app)) (.cons (by repeat (first | exact .here | apply HRem.there | apply HRem.app)) (.cons (by repeat (first | exact .here | apply HRem.there | apply HRem.app)) (.cons (by repeat (first | exact .here | apply HRem.there | apply HRem.app)) .refl)))))) (by
        try dsimp only
        exact ⟨Nat.zero_le _, hI5.more (by omega), hI6, fun a ha => by simp at ha⟩)
      rintro ⟨j, rows⟩ hI
      change j ≤ fol[x.1.toNat].2.length ∧ AI m xs rows (i * 3600 + j * 60) ∧ CE m xs rows i ∧ CB m xs rows x (folOf m x.1.toNat) (folOf m x.2.toNat) j at hI
      change WP _ _ _ _ _ [(0, .ptr (.own L) 0), (3, .map La), (4, vt), (6, .ptr (.own L6) 0), (18, va), (19, .int .i64 (xs.length : Int)), (20, .int .i64 (i : Int)), (56, fol[x.1.toNat].1), (57, .int .i64 (fol[x.1.toNat].2.length : Int)), (58, .int .i64 (j : Int))] ((some L6, .cells [.int .i64 x.1, .int .i64 x.2]) :: (some La, .map 60 (menc (encR rows))) :: pt :: (some L, .cells (pcells a b c d m va Lm)) :: pa :: (some Lm, .map 60 (menc (onesM xs))) :: (tailR rows ++ T) : HL) _
      obtain ⟨hD0, hD1, hD2, hD3⟩ := hI
      refine WP.seq ?_
      refine WP.region ?_
      refine RP.lss rfl rfl rfl (fun h59 => ?_) (fun h59 => ?_)
      · skip
        have hltj : j < fol[x.1.toNat].2.length := by omega
        refine RP.nil ?_
        refine WP.seq ?_
        refine WP.cond_t rfl ?_
        refine WP.skip ?_
        refine WP.seq ?_
        refine WP.block rfl ?_
        refine WP.seq ?_
        refine WP.region ?_
        refine RP.at_ rfl rfl rfl rfl rfl rfl (.arg hr1) (by first | assumption | omega) ?_
        refine RP.load_el rfl rfl rfl rfl (.arg hr1) (by first | assumption | omega) rfl ?_
        refine RP.assign rfl rfl ?_
        refine RP.nil ?_
        refine WP.seq ?_
        refine WP.drawn (by kernel_rfl) ?_
        refine RP.move rfl rfl ?_
        refine RP.nilc rfl rfl ?_
        refine RP.faddr rfl rfl rfl ?_
        refine RP.faddr rfl rfl rfl ?_
        refine RP.load_box rfl rfl rfl rfl (by repeat (first | exact .here | apply HIn.there | apply HIn.app)) rfl ?_
        refine RP.iaddr rfl rfl rfl rfl ?_
        refine RP.load_box rfl rfl rfl rfl (by repeat (first | exact .here | apply HIn.there | apply HIn.app)) rfl ?_
        refine RP.at_ rfl rfl rfl (natOf_is (n := x.2.toNat) (by omega)) rfl rfl (.arg hm.follow) (by first | assumption | omega) ?_
        refine RP.load_el rfl rfl rfl rfl (.arg hm.follow) (by first | assumption | omega) rfl ?_
        refine RP.len_sl rfl rfl (.arg hr2) rfl ?_
        refine RP.move rfl rfl ?_
        refine RP.nil ?_
        refine WP.block rfl ?_
        refine WP.loop (α := Nat × List ARow) (fun gh => [(0, .ptr (.own L) 0), (3, .map La), (4, vt), (6, .ptr (.own L6) 0), (18, va), (19, .int .i64 (xs.length : Int)), (20, .int .i64 (i : Int)), (56, fol[x.1.toNat].1), (57, .int .i64 (fol[x.1.toNat].2.length : Int)), (58, .int .i64 (j : Int)), (8, .int .i64 fol[x.1.toNat].2[j]), (70, fol[x.2.toNat].1), (71, .int .i64 (fol[x.2.toNat].2.length : Int)), (72, .int .i64 (gh.1 : Int))]) (fun gh => (some L6, .cells [.int .i64 x.1, .int .i64 x.2]) :: (some La, .map 60 (menc (encR gh.2))) :: pt :: (some L, .cells (pcells a b c d m va Lm)) :: pa :: (some Lm, .map 60 (menc (onesM xs))) :: (tailR gh.2 ++ T)) (fun gh => gh.1 ≤ fol[x.2.toNat].2.length ∧ AI m xs gh.2 (i * 3600 + j * 60 + gh.1) ∧ CE m xs gh.2 i ∧ CB m xs gh.2 x (folOf m x.1.toNat) (folOf m x.2.toNat) j ∧ CC xs gh.2 x fol[x.1.toNat].2[j] (folOf m x.2.toNat) gh.1) (fun gh => fol[x.2.toNat].2.length - gh.1) ?_ (0, rows) ⟨rfl, rfl, rfl, rfl, rfl, rfl, rfl, rfl, rfl, rfl, rfl, rfl, rfl, rfl, trivial⟩ (.cons (by repeat (first | exact .here | apply HRem.there | apply HRem.app)) (.cons (by repeat (first | exact .here | apply HRem.there | apply HRem.app)) (.cons (by repeat (first | exact .here | apply HRem.there | apply HRem.app)) (.cons (by repeat (first | exact .here | apply HRem.there | apply HRem.app)) (.cons (by repeat (first | exact .here | apply HRem.there | apply HRem.app)) (.cons (by repeat (first | exact .here | apply HRem.there | apply HRem.app)) .refl)))))) (by
          try dsimp only
          exact ⟨Nat.zero_le _, hD1.more (by omega), hD2, hD3, fun a ha => by simp at ha⟩)
        rintro ⟨k, rows⟩ hI
        change k ≤ fol[x.2.toNat].2.length ∧ AI m xs rows (i * 3600 + j * 60 + k) ∧ CE m xs rows i ∧ CB m xs rows x (folOf m x.1.toNat) (folOf m x.2.toNat) j ∧ CC xs rows x fol[x.1.toNat].2[j] (folOf m x.2.toNat) k at hI
        change WP _ _ _ _ _ [(0, .ptr (.own L) 0), (3, .map La), (4, vt), (6, .ptr (.own L6) 0), (18, va), (19, .int .i64 (xs.length : Int)), (20, .int .i64 (i : Int)), (56, fol[x.1.toNat].1), (57, .int .i64 (fol[x.1.toNat].2.length : Int)), (58, .int .i64 (j : Int)), (8, .int .i64 fol[x.1.toNat].2[j]), (70, fol[x.2.toNat].1), (71, .int .i64 (fol[x.2.toNat].2.length : Int)), (72, .int .i64 (k : Int))] ((some L6, .cells [.int .i64 x.1, .int .i64 x.2]) :: (some La, .map 60 (menc (encR rows))) :: pt :: (some L, .cells (pcells a b c d m va Lm)) :: pa :: (some Lm, .map 60 (menc (onesM xs))) :: (tailR rows ++ T) : HL) _
        obtain ⟨hE0, hE1, hE2, hE3, hE4⟩ := hI
        refine WP.seq ?_
        refine WP.region ?_
        refine RP.lss rfl rfl rfl (fun h73 => ?_) (fun h73 => ?_)
        · skip
          have hltk : k < fol[x.2.toNat].2.length := by omega
          refine RP.nil ?_
          refine WP.seq ?_
          refine WP.cond_t rfl ?_
          refine WP.skip ?_
          refine WP.seq ?_
          refine WP.block rfl ?_
          refine WP.seq ?_
          refine WP.region ?_
          refine RP.at_ rfl rfl rfl rfl rfl rfl (.arg hr2) (by first | assumption | omega) ?_
          refine RP.load_el rfl rfl rfl rfl (.arg hr2) (by first | assumption | omega) rfl ?_
          refine RP.assign rfl rfl ?_
          refine RP.nil ?_
          refine WP.seq ?_
          refine WP.region ?_
          refine RP.move rfl rfl ?_
          refine RP.move rfl rfl ?_
          refine RP.build rfl rfl rfl ?_
          refine RP.alloc rfl rfl rfl (fun L11 => ?_)
          refine RP.store_box rfl rfl rfl rfl rfl rfl hlo (by repeat (first | exact .here | apply HUpd.there | apply HUpd.app)) ?_
          refine RP.nil ?_
          refine WP.seq ?_
          refine WP.drawn (by kernel_rfl) ?_
          refine RP.move rfl rfl ?_
          refine RP.nilc rfl rfl ?_
          refine RP.faddr rfl rfl rfl ?_
          refine RP.load_box rfl rfl rfl rfl (by repeat (first | exact .here | apply HIn.there | apply HIn.app)) rfl ?_
          refine RP.load_boxN rfl rfl rfl rfl rfl (by repeat (first | exact .here | apply HIn.there | apply HIn.app)) rfl ?_
          refine RP.look1 (fol[x.1.toNat].2[j], fol[x.2.toNat].2[k]) rfl rfl rfl rfl rfl rfl (by repeat (first | exact .here | apply HIn.there | apply HIn.app)) ?_
          refine RP.gtr rfl rfl rfl (fun h85 => ?_) (fun h85 => ?_)
          · skip
            refine RP.nil ?_
            refine WP.cond_t rfl ?_
            refine WP.region ?_
            refine RP.move rfl rfl ?_
            refine RP.load_boxN rfl rfl rfl rfl rfl (by repeat (first | exact .here | apply HIn.there | apply HIn.app)) rfl ?_
            refine RP.load_boxN rfl rfl rfl rfl rfl (by repeat (first | exact .here | apply HIn.there | apply HIn.app)) rfl ?_
            refine RP.bslice [x] rfl rfl rfl rfl rfl rfl rfl rfl rfl rfl fP2_len ?_
            intro v90 p90 hl90
            refine RP.mentryR (fun es' => p90 :: (some L11, .cells [.int .i64 fol[x.1.toNat].2[j], .int .i64 fol[x.2.toNat].2[k]]) :: (some L6, .cells [.int .i64 x.1, .int .i64 x.2]) :: (some La, .map 60 (menc es')) :: pt :: (some L, .cells (pcells a b c d m va Lm)) :: pa :: (some Lm, .map 60 (menc (onesM xs))) :: []) (fol[x.1.toNat].2[j], fol[x.2.toNat].2[k]) rfl rfl rfl rfl rfl rfl hlo (fun _ => (by repeat (first | exact .here | apply HUpd.there | apply HUpd.app))) ?_
            intro i0 rows2 v91 l91 p91 hrow
            change RP _ _ _ _ _ _ _ _ (p90 :: (some L11, .cells [.int .i64 fol[x.1.toNat].2[j], .int .i64 fol[x.2.toNat].2[k]]) :: (some L6, .cells [.int .i64 x.1, .int .i64 x.2]) :: (some La, .map 60 (menc (encR rows2))) :: pt :: (some L, .cells (pcells a b c d m va Lm)) :: pa :: (some Lm, .map 60 (menc (onesM xs))) :: (tailR rows2 ++ T)) _
            have hai := hrow.ai hE1
            have hlv := hai.1.lin _ (List.mem_of_getElem? hrow.1)
            have hl91 := hai.1.len _ (List.mem_of_getElem? hrow.1)
            dsimp only at hlv hl91
            refine RP.extract_ rfl rfl rfl ?_
            refine RP.append rfl rfl rfl rfl rfl rfl rfl rfl hlv (fun _ => (by repeat (first | exact HUpd.left (HUpd.at_ (tailR_get hrow.1)) | apply HUpd.there))) (.lin fP2_len hl90 (by repeat (first | exact .here | apply HIn.there | apply HIn.app))) (flat_all fP2_sc _) (by simp only [List.length_singleton]; omega) (fun e => (by first | rfl | cases e)) hlo ?_
            intro v92 p92 hl92
            have hset := hai.1.set hrow.1 hl92 ⟨hxm, isIn_pos.1 h85, by rw [hm.fol hf1]; exact List.getElem_mem hltj, by rw [hm.fol hf2]; exact List.getElem_mem hltk⟩
            refine RP.extract_ rfl rfl rfl ?_
            refine RP.mstore (fol[x.1.toNat].2[j], fol[x.2.toNat].2[k]) rfl rfl rfl (encR_get hrow.1) hlo (by repeat (first | exact .here | apply HUpd.there | apply HUpd.app)) ?_
            rw [show (encR rows2).set i0 ((fol[x.1.toNat].2[j], fol[x.2.toNat].2[k]), v92) = encR (rows2.set i0 ((fol[x.1.toNat].2[j], fol[x.2.toNat].2[k]), v92, l91 ++ [x], p92)) from (encR_set (rows := rows2) (i := i0) (r := ((fol[x.1.toNat].2[j], fol[x.2.toNat].2[k]), v92, l91 ++ [x], p92))).symm, show (tailR rows2).set i0 p92 = tailR (rows2.set i0 ((fol[x.1.toNat].2[j], fol[x.2.toNat].2[k]), v92, l91 ++ [x], p92)) from (tailR_set (rows := rows2) (i := i0) (r := ((fol[x.1.toNat].2[j], fol[x.2.toNat].2[k]), v92, l91 ++ [x], p92))).symm]
            refine RP.nil ?_
            refine WP.region ?_
            refine RP.add rfl rfl rfl (by omega) (by omega) ?_
            refine RP.move rfl rfl ?_
            refine RP.nil ?_
            refine roundQ.mk (Q := fun _ _ _ => True) (k + 1, _) ⟨rfl, rfl, rfl, rfl, rfl, rfl, rfl, rfl, rfl, rfl, rfl, rfl, rfl, rfl, trivial⟩ (.cons (by repeat (first | exact .here | apply HRem.there | apply HRem.app)) (.cons (by repeat (first | exact .here | apply HRem.there | apply HRem.app)) (.cons (by repeat (first | exact .here | apply HRem.there | apply HRem.app)) (.cons (by repeat (first | exact .here | apply HRem.there | apply HRem.app)) (.cons (by repeat (first | exact .here | apply HRem.there | apply HRem.app)) (.cons (by repeat (first | exact .here | apply HRem.there | apply HRem.app)) (.skip (.skip .refl)))))))) (by
              try dsimp only
              exact ⟨hltk, hset.1.more (by omega), (hE2.grow hai.2).grow hset.2.1, (hE3.grow hai.2).grow hset.2.1, hE4.step (by rw [hm.fol hf2]; exact hltk) (fun y z h => hset.2.1 y z (hai.2 y z h)) (fun _ => by simp only [hm.fol hf2]; exact hset.2.2)⟩) (by
              try dsimp only
              omega)
          · skip
            refine RP.nil ?_
            refine WP.cond_f rfl ?_
            refine WP.skip ?_
            refine WP.region ?_
            refine RP.add rfl rfl rfl (by omega) (by omega) ?_
            refine RP.move rfl rfl ?_
            refine RP.nil ?_
            refine roundQ.mk (Q := fun _ _ _ => True) (k + 1, rows) ⟨rfl, rfl, rfl, rfl, rfl, rfl, rfl, rfl, rfl, rfl, rfl, rfl, rfl, rfl, trivial⟩ (.cons (by repeat (first | exact .here | apply HRem.there | apply HRem.app)) (.cons (by repeat (first | exact .here | apply HRem.there | apply HRem.app)) (.cons (by repeat (first | exact .here | apply HRem.there | apply HRem.app)) (.cons (by repeat (first | exact .here | apply HRem.there | apply HRem.app)) (.cons (by repeat (first | exact .here | apply HRem.there | apply HRem.app)) (.cons (by repeat (first | exact .here | apply HRem.there | apply HRem.app)) (.skip .refl))))))) (by
              try dsimp only
              exact ⟨hltk, hE1.more (by omega), hE2, hE3, hE4.step (by rw [hm.fol hf2]; exact hltk) (fun _ _ h => h) (fun h => absurd (isIn_pos.2 (by simpa only [hm.fol hf2] using h)) h85)⟩) (by
              try dsimp only
              omega)
        · skip
          refine RP.nil ?_
          refine WP.seq ?_
          refine WP.cond_f rfl ?_
          refine WP.exit ?_
          refine WP.region ?_
          refine RP.add rfl rfl rfl (by omega) (by omega) ?_
          refine RP.move rfl rfl ?_
          refine RP.nil ?_
          refine roundQ.mk (Q := fun _ _ _ => True) (j + 1, rows) ⟨rfl, rfl, rfl, rfl, rfl, rfl, rfl, rfl, rfl, rfl, trivial⟩ (.cons (by repeat (first | exact .here | apply HRem.there | apply HRem.app)) (.cons (by repeat (first | exact .here | apply HRem.there | apply HRem.app)) (.cons (by repeat (first | exact .here | apply HRem.there | apply HRem.app)) (.cons (by repeat (first | exact .here | apply HRem.there | apply HRem.app)) (.cons (by repeat (first | exact .here | apply HRem.there | apply HRem.app)) (.cons (by repeat (first | exact .here | apply HRem.there | apply HRem.app)) .refl)))))) (by
            try dsimp only
            exact ⟨hltj, hE1.more (by omega), hE2, hE3.step (by rw [hm.fol hf1]; exact hltj) (k := k) (by rw [hm.fol hf2]; omega) (by simp only [hm.fol hf1]; exact hE4)⟩) (by
            try dsimp only
            omega)
      · skip
        refine RP.nil ?_
        refine WP.seq ?_
        refine WP.cond_f rfl ?_
        refine WP.exit ?_
        refine WP.region ?_
        refine RP.add rfl rfl rfl (by omega) (by omega) ?_
        refine RP.move rfl rfl ?_
        refine RP.nil ?_
        refine roundQ.mk (Q := fun _ _ _ => True) (i + 1, vt, pt, td, rows) ⟨rfl, rfl, rfl, rfl, rfl, rfl, trivial⟩ (.cons (by repeat (first | exact .here | apply HRem.there | apply HRem.app)) (.cons (by repeat (first | exact .here | apply HRem.there | apply HRem.app)) (.cons (by repeat (first | exact .here | apply HRem.there | apply HRem.app)) (.cons (by repeat (first | exact .here | apply HRem.there | apply HRem.app)) (.cons (by repeat (first | exact .here | apply HRem.there | apply HRem.app)) (.skip .refl)))))) (by
          try dsimp only
          exact ⟨hltx, hlt2, hTI, hTL, hD1.more (by omega), hD2.step hxi (by rw [hm.fol hf1]; omega) hD3⟩) (by
          try dsimp only
          omega)
  · skip
    refine RP.nil ?_
    refine WP.seq ?_
    refine WP.cond_f rfl ?_
    refine WP.exit ?_
    refine WP.seq ?_
    refine WP.region ?_
    refine RP.mkmap rfl rfl (fun Lo => ?_)
    change RP _ _ _ _ _ _ _ _ ((some Lo, .map 60 (menc (onesM []))) :: _) _
    refine RP.assign rfl rfl ?_
    refine RP.nil ?_
    refine WP.seq ?_
    refine WP.block rfl ?_
    refine WP.loop (α := LV × HE × List PP × List PP) (fun gh => [(3, .map La), (4, gh.1), (12, .map Lo)]) (fun gh => (some Lo, .map 60 (menc (onesM gh.2.2.2))) :: (some La, .map 60 (menc (encR rows))) :: gh.2.1 :: (tailR rows ++ T)) (fun gh => Lin 2 fP2 false gh.1 gh.2.2.1 gh.2.1 ∧ BI m xs rows gh.2.2.2 gh.2.2.1 ∧ gh.2.2.1.length + (3600 - gh.2.2.2.length) * 20000000 ≤ 3600 + 3600 * 20000000) (fun gh => gh.2.2.1.length + (3600 - gh.2.2.2.length) * 20000000) ?_ (vt, pt, td, []) ⟨rfl, rfl, rfl, trivial⟩ (.cons (by repeat (first | exact .here | apply HRem.there | apply HRem.app)) (.cons (by repeat (first | exact .here | apply HRem.there | apply HRem.app)) (.cons (by repeat (first | exact .here | apply HRem.there | apply HRem.app)) (.skip (.skip (.skip .refl)))))) (by
      try dsimp only
      exact ⟨hI2.loose, BI.start hI3 (by omega), by simp only [List.length_nil]; omega⟩)
    rintro ⟨vt, pt, td, out⟩ hI
    change Lin 2 fP2 false vt td pt ∧ BI m xs rows out td ∧ td.length + (3600 - out.length) * 20000000 ≤ 3600 + 3600 * 20000000 at hI
    change WP _ _ _ _ _ [(3, .map La), (4, vt), (12, .map Lo)] ((some Lo, .map 60 (menc (onesM out))) :: (some La, .map 60 (menc (encR rows))) :: pt :: (tailR rows ++ T) : HL) _
    obtain ⟨hF1, hF2, hF3⟩ := hI
    have hol := hF2.len
    refine WP.seq ?_
    refine WP.seq ?_
    refine WP.region ?_
    refine RP.move rfl rfl ?_
    refine RP.len_sl rfl rfl (.lin fP2_len hF1 (by repeat (first | exact .here | apply HIn.there | apply HIn.app))) rfl ?_
    refine RP.gtr rfl rfl rfl (fun h100 => ?_) (fun h100 => ?_)
    · skip
      have hltd : td.length - 1 < td.length := by omega
      obtain ⟨x, hxq⟩ : ∃ x, x = td[td.length - 1] := ⟨_, rfl⟩
      have hxe : td[td.length - 1]? = some x := by rw [hxq]; exact List.getElem?_eq_getElem hltd
      refine RP.nil ?_
      refine WP.cond_t rfl ?_
      refine WP.skip ?_
      refine WP.block rfl ?_
      refine WP.seq ?_
      refine WP.region ?_
      refine RP.move rfl rfl ?_
      refine RP.move rfl rfl ?_
      refine RP.len_sl rfl rfl (.lin fP2_len hF1 (by repeat (first | exact .here | apply HIn.there | apply HIn.app))) rfl ?_
      refine RP.sub rfl rfl rfl (by omega) (by omega) ?_
      refine RP.at_ rfl rfl rfl (natOf_is (n := td.length - 1) (by omega)) rfl rfl (.lin fP2_len hF1 (by repeat (first | exact .here | apply HIn.there | apply HIn.app))) (by first | assumption | omega) ?_
      refine RP.load_elN rfl rfl rfl rfl rfl (.lin fP2_len hF1 (by repeat (first | exact .here | apply HIn.there | apply HIn.app))) (by first | assumption | omega) rfl ?_
      rw [← hxq]
      refine RP.alloc rfl rfl rfl (fun L13 => ?_)
      refine RP.store_box rfl rfl rfl rfl rfl rfl hlo (by repeat (first | exact .here | apply HUpd.there | apply HUpd.app)) ?_
      refine RP.nil ?_
      refine WP.seq ?_
      refine WP.region ?_
      refine RP.move rfl rfl ?_
      refine RP.move rfl rfl ?_
      refine RP.len_sl rfl rfl (.lin fP2_len hF1 (by repeat (first | exact .here | apply HIn.there | apply HIn.app))) rfl ?_
      refine RP.sub rfl rfl rfl (by omega) (by omega) ?_
      refine RP.head rfl rfl rfl (natOf_is (n := td.length - 1) (by omega)) rfl rfl hF1 fP2_len (by omega) ?_
      intro v111 hl111
      refine RP.assign rfl rfl ?_
      refine RP.nil ?_
      refine WP.seq ?_
      refine WP.region ?_
      refine RP.move rfl rfl ?_
      refine RP.load_boxN rfl rfl rfl rfl rfl (by repeat (first | exact .here | apply HIn.there | apply HIn.app)) rfl ?_
      refine RP.look1 x rfl rfl rfl rfl rfl rfl (by repeat (first | exact .here | apply HIn.there | apply HIn.app)) ?_
      refine RP.eql rfl rfl rfl (fun h115 => ?_) (fun h115 => ?_)
      · skip
        refine RP.nil ?_
        refine WP.cond_t rfl ?_
        refine WP.seq ?_
        refine WP.region ?_
        refine RP.move rfl rfl ?_
        refine RP.load_boxN rfl rfl rfl rfl rfl (by repeat (first | exact .here | apply HIn.there | apply HIn.app)) rfl ?_
        refine RP.mset x rfl rfl rfl rfl rfl (onesM_new (isIn_zero.1 h115)) hlo (by repeat (first | exact .here | apply HUpd.there | apply HUpd.app)) ?_
        rw [← onesM_put]
        refine RP.nil ?_
        refine WP.region ?_
        refine RP.move rfl rfl ?_
        refine RP.move rfl rfl ?_
        refine RP.load_boxN rfl rfl rfl rfl rfl (by repeat (first | exact .here | apply HIn.there | apply HIn.app)) rfl ?_
        refine RP.lookR x rfl rfl rfl rfl rfl rfl (by repeat (first | exact .here | apply HIn.there | apply HIn.app)) hI5 (fun q hq => (by repeat (first | exact HIn.left (HIn.of_mem hq) | apply HIn.there))) ?_
        intro v121 l0 hs121 hl0 hll
        have hmk := hF2.mark hI5 (fun p hp => (hcome p).1 hp) hxe (isIn_zero.1 h115) hl0
        refine RP.append rfl rfl rfl rfl rfl rfl rfl rfl hl111 (fun _ => (by repeat (first | exact .here | apply HUpd.there | apply HUpd.app))) hs121 (flat_all fP2_sc _) (by rw [List.length_take]; omega) (fun e => (by first | rfl | cases e)) hlo ?_
        intro v122 p122 hl122
        refine RP.assign rfl rfl ?_
        refine RP.nil ?_
        have hol2 := hmk.len
        rw [List.length_append] at hol2
        simp only [List.length_singleton] at hol2
        refine roundQ.mk (Q := fun _ _ _ => True) (v122, p122, td.take (td.length - 1) ++ l0, out ++ [x]) ⟨rfl, rfl, rfl, trivial⟩ (.cons (by repeat (first | exact .here | apply HRem.there | apply HRem.app)) (.cons (by repeat (first | exact .here | apply HRem.there | apply HRem.app)) (.cons (by repeat (first | exact .here | apply HRem.there | apply HRem.app)) (.skip .refl)))) (by
          try dsimp only
          exact ⟨hl122, hmk, by simp only [List.length_append, List.length_take, List.length_singleton]; omega⟩) (by simp only [List.length_append, List.length_take, List.length_singleton]; omega)
      · skip
        refine RP.nil ?_
        refine WP.cond_f rfl ?_
        refine WP.skip ?_
        refine roundQ.mk (Q := fun _ _ _ => True) (v111, pt, td.take (td.length - 1), out) ⟨rfl, rfl, rfl, trivial⟩ (.cons (by repeat (first | exact .here | apply HRem.there | apply HRem.app)) (.cons (by repeat (first | exact .here | apply HRem.there | apply HRem.app)) (.cons (by repeat (first | exact .here | apply HRem.there | apply HRem.app)) (.skip .refl)))) (by
          try dsimp only
          exact ⟨hl111, hF2.skip hxe (Classical.byContradiction fun h => h115 (isIn_zero.2 h)), by rw [List.length_take]; omega⟩) (by dsimp only; rw [List.length_take]; omega)
    · skip
      refine RP.nil ?_
      refine WP.cond_f rfl ?_
      refine WP.exit ?_
      refine WP.seq ?_
      refine WP.region ?_
      refine RP.move rfl rfl ?_
      refine RP.assign rfl rfl ?_
      refine RP.nil ?_
      refine WP.ret ?_
      have htd : td = [] := List.length_eq_zero_iff.1 (by omega)
      subst htd
      exact End.one (Or.inr rfl) rfl (.tmp rfl) (.cons (by repeat (first | exact .here | apply HRem.there | apply HRem.app)) (.skip (.skip (.skips .refl)))) ⟨Lo, out, rfl, rfl, hF2.fin hcome (by omega) hI6⟩
end
end Go.Proofs.Ytpkeggejofeeeaa
