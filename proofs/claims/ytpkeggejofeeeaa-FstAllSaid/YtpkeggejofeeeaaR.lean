/- Laws of the small machine, of how it stands to the model, and of what functions come to on it; a helper of the statement: no statement is proved here. -/
import Derived.Test.YtpkeggejofeeeaaQ
import Derived.WideShapes
set_option linter.unusedVariables false
namespace Go.Proofs.Ytpkeggejofeeeaa
open Go.Proofs.Ytpkeggejofeeeaa.Lvm Go

section
variable {bm : Nat → Nat → Option LV} {st : LSt} {lo : Nat} {a b c d : LV} {m : Mach} {fol : List (LV × List Int)}

theorem single_ok (hlo : lo ≤ st.nxt) (hm : MA (EE bm) st a b c d m fol) (h0 : Small60 m fol) (hok : ∀ s ∈ m.spots, SpotOk s) : Fin (EE bm) lo 17 [mv a b c d m] st (fun v H => ∃ r : Bool, v = .bool r ∧ H = [] ∧ (r = true ↔ SingleM m)) := by
  have h0' := h0
  obtain ⟨h01, h02, h03, h04, h05⟩ := h0
  have hfl := hm.len
  refine Fin.of_body (fn := Try.f17) (c := Try.f17.body.getD .skip) rfl rfl rfl rfl ?_
  refine WP.seq ?_
  refine WP.region ?_
  refine RP.box rfl rfl hm.sc (fun L1 => ?_)
  refine RP.assign rfl rfl ?_
  refine RP.nil ?_
  refine WP.seq ?_
  refine WP.seq ?_
  refine WP.region ?_
  refine RP.load_boxN rfl rfl rfl rfl rfl (by repeat (first | exact .here | apply HIn.there | apply HIn.app)) rfl ?_
  refine RP.call rfl rfl rfl hlo (fun st' lo' hi' hl' => right_ok hl' (hm.inv hi') (by omega) (fun j hj => by have := h05 j hj; omega)) ?_
  rintro _ _ (⟨hgd, rfl, rfl⟩ | ⟨hng, rfl, rfl⟩)
  · skip
    have hgf := hgd.flen
    refine RP.un rfl rfl rfl ?_
    refine RP.nil ?_
    refine WP.cond_f rfl ?_
    refine WP.skip ?_
    refine WP.seq ?_
    refine WP.region ?_
    refine RP.load_boxN rfl rfl rfl rfl rfl (by repeat (first | exact .here | apply HIn.there | apply HIn.app)) rfl ?_
    refine RP.mkmap rfl rfl (fun L9 => ?_)
    refine RP.build rfl rfl rfl ?_
    refine RP.box rfl rfl (by show [a, b, c, d, .bool m.empty, .nilsl, .map L9].all LV.scalar = true; simp only [List.all_cons, List.all_nil, hm.spots.scalar, hm.first.scalar, hm.follow.scalar, hm.last.scalar]; rfl) (fun L11 => ?_)
    refine RP.assign rfl rfl ?_
    refine RP.nil ?_
    refine WP.seq ?_
    refine WP.region ?_
    refine RP.move rfl rfl ?_
    refine RP.ghost .dead ?_
    refine RP.callM (Q := fun v H => ∃ va' pa' xs', H = (some L11, .cells (pcells a b c d m va' L9)) :: pa' :: (some L9, .map 60 (menc (onesM xs'))) :: [(some L1, .cells (mv a b c d m).cells)] ∧ Lin 2 fP2 true va' xs' pa' ∧ FoundP m xs' ∧ (∀ p, p ∈ xs' ↔ ComeP m p) ∧ v = .tup []) rfl rfl rfl (fun st' hi' => reach_ok (L := L11) (Lm := L9) (va0 := .nilsl) (pa0 := (none, .dead)) (T := [(some L1, .cells (mv a b c d m).cells)]) hlo hm h0' hgd hok .nil st' (hi'.pick (.cons (by repeat (first | exact .here | apply HRem.there | apply HRem.app)) (.cons (by repeat (first | exact .here | apply HRem.there | apply HRem.app)) (.cons (by repeat (first | exact .here | apply HRem.there | apply HRem.app)) .refl))))) ?_
    rintro _ _ ⟨va, pa, xs, rfl, hl13, hfd, hcome, rfl⟩
    refine RP.nil ?_
    refine WP.seq ?_
    refine WP.seq ?_
    refine WP.region ?_
    refine RP.move rfl rfl ?_
    refine RP.callM (Q := fun v H => ∃ Lo out, v = .map Lo ∧ H = (some Lo, .map 60 (menc (onesM out))) :: [(some L1, .cells (mv a b c d m).cells)] ∧ (∀ p, p ∈ out ↔ ComeP m p ∧ EndP m p)) rfl rfl rfl (fun st' hi' => pends_ok (L := L11) (Lm := L9) (T := [(some L1, .cells (mv a b c d m).cells)]) hlo hm h0' hgd hl13 hfd hcome st' hi') ?_
    rintro _ _ ⟨Lo, out, rfl, rfl, hout⟩
    refine RP.mrange rfl rfl rfl .here (fun L16 => ?_)
    refine RP.nil ?_
    refine WP.walk (r := 2) (w := false) [(1, .ptr (.own L1) 0), (16, .ptr (.own L16) 0)] (badK m) (fun o => (some L16, o) :: (some Lo, .map 60 (menc (onesM out))) :: (some L1, .cells (mv a b c d m).cells) :: []) rfl rfl ⟨rfl, rfl, trivial⟩ rfl rfl rfl hlo (fun _ => .here) (.there .here) ?_ ?_ ?_
    · skip
      intro i k v hkv st1 hi1 hmm
      obtain ⟨p, hpo, rfl, rfl⟩ := onesM_at hkv
      have hhL := hi1.has _ (List.mem_cons_self ..) L16 rfl
      have hhM := hi1.has _ (List.mem_cons_of_mem _ (List.mem_cons_self ..)) Lo rfl
      have hm1 := hm.inv hi1
      have hB1 : Old st1 L1 (mv a b c d m).cells := Inv.isOld hi1 (by repeat (first | exact .here | apply HIn.there | apply HIn.app))
      have hpc := ((hout p).1 hpo).1
      have hrr := hpc.range hgd
      have hp1 : p.1.toNat < m.spots.length := by omega
      have hp2 : p.2.toNat < m.spots.length := by omega
      have ht1 : tagOf m p.1.toNat = m.spots[p.1.toNat].tag := by unfold tagOf; rw [List.getElem?_eq_getElem hp1]
      have ht2 : tagOf m p.2.toNat = m.spots[p.2.toNat].tag := by unfold tagOf; rw [List.getElem?_eq_getElem hp2]
      change WP _ _ _ _ _ ((18, .bool true) :: (17, .tup [.bool true, keyV p, .int .i64 1]) :: [(1, .ptr (.own L1) 0), (16, .ptr (.own L16) 0)]) ([] : HL) _
      refine WP.block rfl ?_
      refine WP.seq ?_
      refine WP.region ?_
      refine RP.entry_old rfl rfl hhL.2.1 hhL.2.2 hhM.2.1 hhM.2.2 rfl hkv ?_
      refine RP.extract_ rfl rfl rfl ?_
      refine RP.alloc rfl rfl rfl (fun L4 => ?_)
      refine RP.store_box rfl rfl rfl rfl rfl rfl (Nat.le_refl _) (by repeat (first | exact .here | apply HUpd.there | apply HUpd.app)) ?_
      refine RP.nil ?_
      refine WP.seq ?_
      refine WP.drawn (by kernel_rfl) ?_
      refine RP.faddr rfl rfl rfl ?_
      refine RP.load_old rfl rfl rfl rfl hB1 rfl ?_
      refine RP.iaddr rfl rfl rfl rfl ?_
      refine RP.load_box rfl rfl rfl rfl (by repeat (first | exact .here | apply HIn.there | apply HIn.app)) rfl ?_
      refine RP.at_ rfl rfl rfl (natOf_is (n := p.1.toNat) (by omega)) rfl rfl (.arg hm1.spots) (by first | assumption | omega) ?_
      refine RP.faddr_p rfl rfl rfl rfl rfl (.arg hm1.spots) (by first | assumption | omega) ?_
      refine RP.load_el rfl rfl rfl rfl (.arg hm1.spots) (by first | assumption | omega) rfl ?_
      refine RP.faddr rfl rfl rfl ?_
      refine RP.load_old rfl rfl rfl rfl hB1 rfl ?_
      refine RP.iaddr rfl rfl rfl rfl ?_
      refine RP.load_box rfl rfl rfl rfl (by repeat (first | exact .here | apply HIn.there | apply HIn.app)) rfl ?_
      refine RP.at_ rfl rfl rfl (natOf_is (n := p.2.toNat) (by omega)) rfl rfl (.arg hm1.spots) (by first | assumption | omega) ?_
      refine RP.faddr_p rfl rfl rfl rfl rfl (.arg hm1.spots) (by first | assumption | omega) ?_
      refine RP.load_el rfl rfl rfl rfl (.arg hm1.spots) (by first | assumption | omega) rfl ?_
      refine RP.neq rfl rfl rfl (fun h35 => ?_) (fun h35 => ?_)
      · skip
        refine RP.nil ?_
        refine WP.cond_t rfl ?_
        refine WP.seq ?_
        refine WP.region ?_
        refine RP.assign rfl rfl ?_
        refine RP.nil ?_
        refine WP.ret ?_
        exact Or.inr ⟨by rw [badK_key, ht1, ht2]; simpa using h35, rfl, rfl⟩
      · skip
        refine RP.nil ?_
        refine WP.cond_f rfl ?_
        refine WP.skip ?_
        exact Or.inl ⟨by rw [badK_key, ht1, ht2]; simpa using h35, rfl⟩
    · skip
      intro hall
      refine WP.seq ?_
      refine WP.region ?_
      refine RP.assign rfl rfl ?_
      refine RP.nil ?_
      refine WP.ret ?_
      exact End.one (Or.inr rfl) rfl (.tmp rfl) .nil ⟨true, rfl, rfl, by simp only [true_iff]; exact single_yes hgd hout hall⟩
    · skip
      intro hex
      exact End.one (Or.inr rfl) rfl (.tmp rfl) .nil ⟨false, rfl, rfl, by simp only [Bool.false_eq_true, false_iff]; exact single_no hout hex⟩
  · skip
    refine RP.un rfl rfl rfl ?_
    refine RP.nil ?_
    refine WP.cond_t rfl ?_
    refine WP.seq ?_
    refine WP.region ?_
    refine RP.assign rfl rfl ?_
    refine RP.nil ?_
    refine WP.ret ?_
    exact End.one (Or.inr rfl) rfl (.tmp rfl) .nil ⟨false, rfl, rfl, by simp only [Bool.false_eq_true, false_iff]; exact fun h => hng h.1⟩
end
end Go.Proofs.Ytpkeggejofeeeaa

namespace Go.Proofs.Ytpkeggejofeeeaa
open Go.Proofs.Ytpkeggejofeeeaa.Lvm Go

section
variable {bm : Nat → Nat → Option LV} {st : LSt} {lo : Nat} {a b c d : LV} {m : Mach} {fol : List (LV × List Int)}

theorem small_ok (hlo : lo ≤ st.nxt) (hm : MA (EE bm) st a b c d m fol) : Fin (EE bm) lo 16 [mv a b c d m] st (fun v H => (v = .bool false ∧ H = []) ∨ (Small60 m fol ∧ v = .bool true ∧ H = [])) := by
  refine Fin.of_body (fn := Try.f16) (c := Try.f16.body.getD .skip) rfl rfl rfl rfl ?_
  refine WP.seq ?_
  refine WP.region ?_
  refine RP.box rfl rfl hm.sc (fun L1 => ?_)
  refine RP.assign rfl rfl ?_
  refine RP.nil ?_
  refine WP.seq ?_
  refine WP.seq ?_
  refine WP.region ?_
  refine RP.faddr rfl rfl rfl ?_
  refine RP.load_box rfl rfl rfl rfl (by repeat (first | exact .here | apply HIn.there | apply HIn.app)) rfl ?_
  first | refine RP.len_sl rfl rfl (.arg hm.spots) rfl ?_ | refine RP.len_sl rfl rfl (.arg hm.first) rfl ?_ | refine RP.len_sl rfl rfl (.arg hm.follow) rfl ?_ | refine RP.len_sl rfl rfl (.arg hm.last) rfl ?_
  refine RP.gtr rfl rfl rfl (fun h7 => ?_) (fun h7 => ?_)
  · skip
    refine RP.move rfl rfl ?_
    refine RP.gfalse rfl rfl ?_
    refine RP.gfalse rfl rfl ?_
    refine RP.gfalse rfl rfl ?_
    refine RP.gfalse rfl rfl ?_
    refine RP.pick_ rfl rfl rfl ?_
    refine RP.move rfl rfl ?_
    refine RP.gfalse rfl rfl ?_
    refine RP.gfalse rfl rfl ?_
    refine RP.gfalse rfl rfl ?_
    refine RP.gfalse rfl rfl ?_
    refine RP.pick_ rfl rfl rfl ?_
    refine RP.move rfl rfl ?_
    refine RP.gfalse rfl rfl ?_
    refine RP.gfalse rfl rfl ?_
    refine RP.gfalse rfl rfl ?_
    refine RP.gfalse rfl rfl ?_
    refine RP.pick_ rfl rfl rfl ?_
    refine RP.nil ?_
    refine WP.cond_t rfl ?_
    refine WP.seq ?_
    refine WP.region ?_
    refine RP.assign rfl rfl ?_
    refine RP.nil ?_
    refine WP.ret ?_
    exact End.one (Or.inr rfl) rfl (.tmp rfl) .nil (Or.inl ⟨rfl, rfl⟩)
  · skip
    refine RP.move rfl rfl ?_
    refine RP.gtrue rfl ?_
    refine RP.faddr rfl rfl rfl ?_
    refine RP.gtrue rfl ?_
    refine RP.load_box rfl rfl rfl rfl (by repeat (first | exact .here | apply HIn.there | apply HIn.app)) rfl ?_
    refine RP.gtrue rfl ?_
    first | refine RP.len_sl rfl rfl (.arg hm.spots) rfl ?_ | refine RP.len_sl rfl rfl (.arg hm.first) rfl ?_ | refine RP.len_sl rfl rfl (.arg hm.follow) rfl ?_ | refine RP.len_sl rfl rfl (.arg hm.last) rfl ?_
    refine RP.gtrue rfl ?_
    refine RP.gtr rfl rfl rfl (fun h12 => ?_) (fun h12 => ?_)
    · skip
      refine RP.pick_ rfl rfl rfl ?_
      refine RP.move rfl rfl ?_
      refine RP.gfalse rfl rfl ?_
      refine RP.gfalse rfl rfl ?_
      refine RP.gfalse rfl rfl ?_
      refine RP.gfalse rfl rfl ?_
      refine RP.pick_ rfl rfl rfl ?_
      refine RP.move rfl rfl ?_
      refine RP.gfalse rfl rfl ?_
      refine RP.gfalse rfl rfl ?_
      refine RP.gfalse rfl rfl ?_
      refine RP.gfalse rfl rfl ?_
      refine RP.pick_ rfl rfl rfl ?_
      refine RP.nil ?_
      refine WP.cond_t rfl ?_
      refine WP.seq ?_
      refine WP.region ?_
      refine RP.assign rfl rfl ?_
      refine RP.nil ?_
      refine WP.ret ?_
      exact End.one (Or.inr rfl) rfl (.tmp rfl) .nil (Or.inl ⟨rfl, rfl⟩)
    · skip
      refine RP.pick_ rfl rfl rfl ?_
      refine RP.move rfl rfl ?_
      refine RP.gtrue rfl ?_
      refine RP.faddr rfl rfl rfl ?_
      refine RP.gtrue rfl ?_
      refine RP.load_box rfl rfl rfl rfl (by repeat (first | exact .here | apply HIn.there | apply HIn.app)) rfl ?_
      refine RP.gtrue rfl ?_
      first | refine RP.len_sl rfl rfl (.arg hm.spots) rfl ?_ | refine RP.len_sl rfl rfl (.arg hm.first) rfl ?_ | refine RP.len_sl rfl rfl (.arg hm.follow) rfl ?_ | refine RP.len_sl rfl rfl (.arg hm.last) rfl ?_
      refine RP.gtrue rfl ?_
      refine RP.gtr rfl rfl rfl (fun h18 => ?_) (fun h18 => ?_)
      · skip
        refine RP.pick_ rfl rfl rfl ?_
        refine RP.move rfl rfl ?_
        refine RP.gfalse rfl rfl ?_
        refine RP.gfalse rfl rfl ?_
        refine RP.gfalse rfl rfl ?_
        refine RP.gfalse rfl rfl ?_
        refine RP.pick_ rfl rfl rfl ?_
        refine RP.nil ?_
        refine WP.cond_t rfl ?_
        refine WP.seq ?_
        refine WP.region ?_
        refine RP.assign rfl rfl ?_
        refine RP.nil ?_
        refine WP.ret ?_
        exact End.one (Or.inr rfl) rfl (.tmp rfl) .nil (Or.inl ⟨rfl, rfl⟩)
      · skip
        refine RP.pick_ rfl rfl rfl ?_
        refine RP.move rfl rfl ?_
        refine RP.gtrue rfl ?_
        refine RP.faddr rfl rfl rfl ?_
        refine RP.gtrue rfl ?_
        refine RP.load_box rfl rfl rfl rfl (by repeat (first | exact .here | apply HIn.there | apply HIn.app)) rfl ?_
        refine RP.gtrue rfl ?_
        first | refine RP.len_sl rfl rfl (.arg hm.spots) rfl ?_ | refine RP.len_sl rfl rfl (.arg hm.first) rfl ?_ | refine RP.len_sl rfl rfl (.arg hm.follow) rfl ?_ | refine RP.len_sl rfl rfl (.arg hm.last) rfl ?_
        refine RP.gtrue rfl ?_
        refine RP.gtr rfl rfl rfl (fun h24 => ?_) (fun h24 => ?_)
        · skip
          refine RP.pick_ rfl rfl rfl ?_
          refine RP.nil ?_
          refine WP.cond_t rfl ?_
          refine WP.seq ?_
          refine WP.region ?_
          refine RP.assign rfl rfl ?_
          refine RP.nil ?_
          refine WP.ret ?_
          exact End.one (Or.inr rfl) rfl (.tmp rfl) .nil (Or.inl ⟨rfl, rfl⟩)
        · skip
          refine RP.pick_ rfl rfl rfl ?_
          refine RP.nil ?_
          refine WP.cond_f rfl ?_
          refine WP.skip ?_
          refine WP.seq ?_
          refine WP.seq ?_
          refine WP.region ?_
          refine RP.assign rfl rfl ?_
          refine RP.nil ?_
          refine WP.block rfl ?_
          refine WP.loop (α := Nat) (fun gh => [(1, .ptr (.own L1) 0), (3, .int .i64 (gh : Int))]) (fun gh => [(some L1, .cells (mv a b c d m).cells)]) (fun gh => gh ≤ fol.length ∧ ∀ j (h : j < fol.length), j < gh → fol[j].2.length ≤ 60) (fun gh => fol.length - gh) ?_ 0 ⟨rfl, rfl, trivial⟩ (.cons (by repeat (first | exact .here | apply HRem.there | apply HRem.app)) .nil) (by
            try dsimp only
            exact ⟨Nat.zero_le _, fun _ _ h => absurd h (Nat.not_lt_zero _)⟩)
          rintro i hI
          change i ≤ fol.length ∧ ∀ j (h : j < fol.length), j < i → fol[j].2.length ≤ 60 at hI
          change WP _ _ _ _ _ [(1, .ptr (.own L1) 0), (3, .int .i64 (i : Int))] ([(some L1, .cells (mv a b c d m).cells)] : HL) _
          obtain ⟨hI1, hI2⟩ := hI
          refine WP.seq ?_
          refine WP.seq ?_
          refine WP.region ?_
          refine RP.move rfl rfl ?_
          refine RP.faddr rfl rfl rfl ?_
          refine RP.load_box rfl rfl rfl rfl (by repeat (first | exact .here | apply HIn.there | apply HIn.app)) rfl ?_
          first | refine RP.len_sl rfl rfl (.arg hm.spots) rfl ?_ | refine RP.len_sl rfl rfl (.arg hm.first) rfl ?_ | refine RP.len_sl rfl rfl (.arg hm.follow) rfl ?_ | refine RP.len_sl rfl rfl (.arg hm.last) rfl ?_
          refine RP.lss rfl rfl rfl (fun h30 => ?_) (fun h30 => ?_)
          · skip
            have hlt : i < fol.length := by omega
            have hrow := hm.row hlt
            refine RP.nil ?_
            refine WP.cond_t rfl ?_
            refine WP.skip ?_
            refine WP.seq ?_
            refine WP.block rfl ?_
            refine WP.seq ?_
            refine WP.region ?_
            refine RP.faddr rfl rfl rfl ?_
            refine RP.load_box rfl rfl rfl rfl (by repeat (first | exact .here | apply HIn.there | apply HIn.app)) rfl ?_
            refine RP.move rfl rfl ?_
            first | refine RP.at_ rfl rfl rfl rfl rfl rfl (.arg hm.spots) (by first | assumption | omega) ?_ | refine RP.at_ rfl rfl rfl rfl rfl rfl (.arg hm.first) (by first | assumption | omega) ?_ | refine RP.at_ rfl rfl rfl rfl rfl rfl (.arg hm.follow) (by first | assumption | omega) ?_ | refine RP.at_ rfl rfl rfl rfl rfl rfl (.arg hm.last) (by first | assumption | omega) ?_
            first | refine RP.load_el rfl rfl rfl rfl (.arg hm.spots) (by first | assumption | omega) rfl ?_ | refine RP.load_el rfl rfl rfl rfl (.arg hm.first) (by first | assumption | omega) rfl ?_ | refine RP.load_el rfl rfl rfl rfl (.arg hm.follow) (by first | assumption | omega) rfl ?_ | refine RP.load_el rfl rfl rfl rfl (.arg hm.last) (by first | assumption | omega) rfl ?_
            refine RP.len_sl rfl rfl (.arg hrow) rfl ?_
            refine RP.gtr rfl rfl rfl (fun h39 => ?_) (fun h39 => ?_)
            · skip
              refine RP.nil ?_
              refine WP.cond_t rfl ?_
              refine WP.seq ?_
              refine WP.region ?_
              refine RP.assign rfl rfl ?_
              refine RP.nil ?_
              refine WP.ret ?_
              exact End.one (Or.inr rfl) rfl (.tmp rfl) .nil (Or.inl ⟨rfl, rfl⟩)
            · skip
              refine RP.nil ?_
              refine WP.cond_f rfl ?_
              refine WP.skip ?_
              refine WP.region ?_
              refine RP.move rfl rfl ?_
              refine RP.add rfl rfl rfl (by omega) (by omega) ?_
              refine RP.assign rfl rfl ?_
              refine RP.nil ?_
              refine roundQ.mk (Q := fun _ _ _ => True) (i + 1) ⟨rfl, rfl, trivial⟩ (.cons (by repeat (first | exact .here | apply HRem.there | apply HRem.app)) .nil) (by
                try dsimp only
                exact ⟨hlt, fun j hj hji => if e : j = i then by subst e; omega else hI2 j hj (by omega)⟩) (by
                try dsimp only
                omega)
          · skip
            refine RP.nil ?_
            refine WP.cond_f rfl ?_
            refine WP.exit ?_
            refine WP.seq ?_
            refine WP.region ?_
            refine RP.assign rfl rfl ?_
            refine RP.nil ?_
            refine WP.ret ?_
            exact End.one (Or.inr rfl) rfl (.tmp rfl) .nil (Or.inr ⟨⟨by omega, by omega, by omega, by omega, fun j hj => hI2 j hj (by omega)⟩, rfl, rfl⟩)

end
end Go.Proofs.Ytpkeggejofeeeaa

namespace Go.Proofs.Ytpkeggejofeeeaa
open Go.Proofs.Ytpkeggejofeeeaa.Lvm Go

section
variable {bm : Nat → Nat → Option LV} {st : LSt} {lo : Nat} {a b c d : LV} {m : Mach} {fol : List (LV × List Int)}


theorem goes_ok (hlo : lo ≤ st.nxt) (hm : MA (EE bm) st a b c d m fol) (h0 : Small60 m fol) (hgd : GoodM m) (hok : ∀ s ∈ m.spots, SpotOk s) {w : ByteArray} (hw : w.size ≤ 1000000) {z : Int} {n : Nat} (hz : z = n) (hn : n < m.spots.length) :
    Fin (EE bm) lo 22 [mv a b c d m, .int .i64 z, .str w] st (fun v H => v = .bool (goW m w.data.toList n) ∧ H = []) := by
  subst hz
  obtain ⟨h01, h02, h03, h04, h05⟩ := h0
  have hfl := hm.len
  have hgf := hgd.flen
  have hgl := hgd.llen
  have hwl : w.data.toList.length = w.size := Array.length_toList
  refine Fin.of_body (fn := Try.f22) (c := Try.f22.body.getD .skip) rfl rfl rfl rfl ?_
  refine WP.seq ?_
  refine WP.region ?_
  refine RP.box rfl rfl hm.sc (fun L3 => ?_)
  refine RP.assign rfl rfl ?_
  refine RP.nil ?_
  refine WP.seq ?_
  refine WP.region ?_
  refine RP.move rfl rfl ?_
  refine RP.bslice [(n : Int)] rfl rfl rfl rfl rfl rfl rfl rfl rfl rfl fI_len ?_
  intro v11 p11 hl11
  refine RP.assign rfl rfl ?_
  refine RP.nil ?_
  refine WP.seq ?_
  refine WP.seq ?_
  refine WP.region ?_
  refine RP.assign rfl rfl ?_
  refine RP.nil ?_
  refine WP.block rfl ?_
  refine WP.loop (α := Nat × LV × HE × List Int) (fun gh => [(2, .str w), (3, .ptr (.own L3) 0), (7, gh.2.1), (8, .int .i64 (gh.1 : Int))]) (fun gh => [(some L3, .cells (mv a b c d m).cells), gh.2.2.1]) (fun gh => gh.1 ≤ w.size ∧ Lin 1 fI true gh.2.1 gh.2.2.2 gh.2.2.1 ∧ (∀ x ∈ gh.2.2.2, 0 ≤ x ∧ x.toNat < m.spots.length) ∧ gh.2.2.2.length ≤ 1000 ∧ goW m w.data.toList n = anyAt m.spots.length (memI gh.2.2.2) (goW m (w.data.toList.drop gh.1))) (fun gh => w.size - gh.1) ?_ (0, v11, p11, [(n : Int)]) ⟨rfl, rfl, rfl, rfl, trivial⟩ (.cons (by repeat (first | exact .here | apply HRem.there | apply HRem.app)) (.cons (by repeat (first | exact .here | apply HRem.there | apply HRem.app)) .nil)) (by
    try dsimp only
    exact ⟨Nat.zero_le _, hl11, by intro x hx; obtain rfl := List.mem_singleton.1 hx; exact ⟨by omega, by simpa using hn⟩, by simp, by rw [List.drop_zero, any_one hn]⟩)
  rintro ⟨i, va, pa, xs⟩ hI
  change i ≤ w.size ∧ Lin 1 fI true va xs pa ∧ (∀ x ∈ xs, 0 ≤ x ∧ x.toNat < m.spots.length) ∧ xs.length ≤ 1000 ∧ goW m w.data.toList n = anyAt m.spots.length (memI xs) (goW m (w.data.toList.drop i)) at hI
  change WP _ _ _ _ _ [(2, .str w), (3, .ptr (.own L3) 0), (7, va), (8, .int .i64 (i : Int))] ([(some L3, .cells (mv a b c d m).cells), pa] : HL) _
  obtain ⟨hI1, hI2, hI3, hI4, hI5⟩ := hI
  refine WP.seq ?_
  refine WP.seq ?_
  refine WP.region ?_
  refine RP.move rfl rfl ?_
  refine RP.move rfl rfl ?_
  refine RP.len_v rfl rfl (fun _ => rfl) ?_
  refine RP.lss rfl rfl rfl (fun h15 => ?_) (fun h15 => ?_)
  · skip
    have hlw : i < w.data.toList.length := by omega
    refine RP.nil ?_
    refine WP.cond_t rfl ?_
    refine WP.skip ?_
    refine WP.seq ?_
    refine WP.block rfl ?_
    refine WP.drawn (by kernel_rfl) ?_
    refine RP.load_boxN rfl rfl rfl rfl rfl (by repeat (first | exact .here | apply HIn.there | apply HIn.app)) rfl ?_
    refine RP.move rfl rfl ?_
    refine RP.move rfl rfl ?_
    refine RP.move rfl rfl ?_
    refine RP.idx_str rfl rfl rfl rfl rfl (List.getElem?_eq_getElem (by first | assumption | omega)) ?_
    refine RP.call rfl rfl rfl hlo (fun st' lo' hi' hl' => step_ok hl' (hm.inv hi') hgd hok (by omega) (by omega) (fun j hj => by have := h05 j hj; omega) (SlH.lin fI_len hI2 (by repeat (first | exact .here | apply HIn.there | apply HIn.app)) _ hi') (by omega) hI3) ?_
    rintro v23 _ ⟨p23, rfl, hl23⟩
    refine RP.assign rfl rfl ?_
    refine RP.nil ?_
    refine WP.region ?_
    refine RP.move rfl rfl ?_
    refine RP.add rfl rfl rfl (by omega) (by omega) ?_
    refine RP.assign rfl rfl ?_
    refine RP.nil ?_
    refine roundQ.mk (Q := fun _ _ _ => True) (i + 1, v23, p23, _) ⟨rfl, rfl, rfl, rfl, trivial⟩ (.cons (by repeat (first | exact .here | apply HRem.there | apply HRem.app)) (.cons (by repeat (first | exact .here | apply HRem.there | apply HRem.app)) .nil)) (by
      try dsimp only
      exact ⟨by omega, hl23, stepF_range, Nat.le_trans stepF_len (by omega), by rw [hI5, List.drop_eq_getElem_cons hlw, step_fol hgd hI3]⟩) (by
      try dsimp only
      omega)
  · skip
    refine RP.nil ?_
    refine WP.cond_f rfl ?_
    refine WP.exit ?_
    refine WP.seq ?_
    refine WP.seq ?_
    refine WP.region ?_
    refine RP.assign rfl rfl ?_
    refine RP.nil ?_
    refine WP.block rfl ?_
    refine WP.loop (α := Nat) (fun gh => [(2, .str w), (3, .ptr (.own L3) 0), (7, va), (9, .int .i64 (gh : Int))]) (fun gh => [(some L3, .cells (mv a b c d m).cells), pa]) (fun gh => gh ≤ xs.length ∧ anyAt m.spots.length (memI xs) (goW m []) = (xs.drop gh).any fun x => goW m [] x.toNat) (fun gh => xs.length - gh) ?_ 0 ⟨rfl, rfl, rfl, rfl, trivial⟩ (.cons (by repeat (first | exact .here | apply HRem.there | apply HRem.app)) (.cons (by repeat (first | exact .here | apply HRem.there | apply HRem.app)) .nil)) (by
      try dsimp only
      exact ⟨Nat.zero_le _, by rw [List.drop_zero, any_anyAt hI3]⟩)
    rintro k hI
    change k ≤ xs.length ∧ anyAt m.spots.length (memI xs) (goW m []) = (xs.drop k).any fun x => goW m [] x.toNat at hI
    change WP _ _ _ _ _ [(2, .str w), (3, .ptr (.own L3) 0), (7, va), (9, .int .i64 (k : Int))] ([(some L3, .cells (mv a b c d m).cells), pa] : HL) _
    obtain ⟨hK1, hK2⟩ := hI
    refine WP.seq ?_
    refine WP.seq ?_
    refine WP.region ?_
    refine RP.move rfl rfl ?_
    refine RP.move rfl rfl ?_
    refine RP.len_sl rfl rfl (.lin fI_len hI2 (by repeat (first | exact .here | apply HIn.there | apply HIn.app))) rfl ?_
    refine RP.lss rfl rfl rfl (fun h27 => ?_) (fun h27 => ?_)
    · skip
      have hlk : k < xs.length := by omega
      have hx := hI3 xs[k] (List.getElem_mem hlk)
      have hll : xs[k].toNat < m.last.length := by omega
      have hgo : goW m [] xs[k].toNat = m.last[xs[k].toNat] := by show (m.last[xs[k].toNat]?).getD false = _; rw [List.getElem?_eq_getElem hll]; rfl
      refine RP.nil ?_
      refine WP.cond_t rfl ?_
      refine WP.skip ?_
      refine WP.seq ?_
      refine WP.block rfl ?_
      refine WP.seq ?_
      refine WP.drawn (by kernel_rfl) ?_
      refine RP.faddr rfl rfl rfl ?_
      refine RP.load_box rfl rfl rfl rfl (by repeat (first | exact .here | apply HIn.there | apply HIn.app)) rfl ?_
      refine RP.move rfl rfl ?_
      refine RP.move rfl rfl ?_
      refine RP.at_ rfl rfl rfl rfl rfl rfl (.lin fI_len hI2 (by repeat (first | exact .here | apply HIn.there | apply HIn.app))) (by first | assumption | omega) ?_
      refine RP.load_el rfl rfl rfl rfl (.lin fI_len hI2 (by repeat (first | exact .here | apply HIn.there | apply HIn.app))) (by first | assumption | omega) rfl ?_
      refine RP.at_ rfl rfl rfl (natOf_is (n := xs[k].toNat) (by omega)) rfl rfl (.arg hm.last) (by first | assumption | omega) ?_
      refine RP.load_el rfl rfl rfl rfl (.arg hm.last) (by first | assumption | omega) rfl ?_
      refine RP.nil ?_
      refine WP.cond_b rfl (fun hc37 => ?_) (fun hc37 => ?_)
      · skip
        refine WP.seq ?_
        refine WP.region ?_
        refine RP.assign rfl rfl ?_
        refine RP.nil ?_
        refine WP.ret ?_
        have hres : goW m w.data.toList n = true := by
          rw [hI5, List.drop_of_length_le (by omega), hK2]; rw [List.drop_eq_getElem_cons hlk, List.any_cons, hgo, hc37, Bool.true_or]
        exact End.one (Or.inr rfl) rfl (.tmp rfl) .nil ⟨by rw [hres], rfl⟩
      · skip
        refine WP.skip ?_
        refine WP.region ?_
        refine RP.move rfl rfl ?_
        refine RP.add rfl rfl rfl (by omega) (by omega) ?_
        refine RP.assign rfl rfl ?_
        refine RP.nil ?_
        refine roundQ.mk (Q := fun _ _ _ => True) (k + 1) ⟨rfl, rfl, rfl, rfl, trivial⟩ (.cons (by repeat (first | exact .here | apply HRem.there | apply HRem.app)) (.cons (by repeat (first | exact .here | apply HRem.there | apply HRem.app)) .nil)) (by
          try dsimp only
          exact ⟨hlk, by rw [hK2, List.drop_eq_getElem_cons hlk, List.any_cons, hgo, show m.last[xs[k].toNat] = false by simpa using hc37, Bool.false_or]⟩) (by
          try dsimp only
          omega)
    · skip
      refine RP.nil ?_
      refine WP.cond_f rfl ?_
      refine WP.exit ?_
      refine WP.seq ?_
      refine WP.region ?_
      refine RP.assign rfl rfl ?_
      refine RP.nil ?_
      refine WP.ret ?_
      have hres : goW m w.data.toList n = false := by
        rw [hI5, List.drop_of_length_le (by omega), hK2]; rw [List.drop_of_length_le (by omega)]; rfl
      exact End.one (Or.inr rfl) rfl (.tmp rfl) .nil ⟨by rw [hres], rfl⟩

theorem fstAll_ok (hlo : lo ≤ st.nxt) (hm : MA (EE bm) st a b c d m fol) (hok : ∀ s ∈ m.spots, SpotOk s) {w : ByteArray} {vc : LV} {bs : List UInt8} (hvc : SlT (EE bm) st vc 1 fY bs) : Fin (EE bm) lo 6 [mv a b c d m, .str w, vc] st (fun v H => v = .bool true ∧ H = []) := by
  have hwl : w.data.toList.length = w.size := Array.length_toList
  refine Fin.of_body (fn := Try.f6) (c := Try.f6.body.getD .skip) rfl rfl rfl rfl ?_
  refine WP.seq ?_
  refine WP.region ?_
  refine RP.box rfl rfl hm.sc (fun L3 => ?_)
  refine RP.assign rfl rfl ?_
  refine RP.nil ?_
  refine WP.seq ?_
  refine WP.seq ?_
  refine WP.region ?_
  refine RP.load_boxN rfl rfl rfl rfl rfl (by repeat (first | exact .here | apply HIn.there | apply HIn.app)) rfl ?_
  refine RP.call rfl rfl rfl hlo (fun st' lo' hi' hl' => small_ok hl' (hm.inv hi')) ?_
  rintro _ _ (⟨rfl, rfl⟩ | ⟨h0, rfl, rfl⟩)
  · skip
    refine RP.un rfl rfl rfl ?_
    refine RP.move rfl rfl ?_
    refine RP.gfalse rfl rfl ?_
    refine RP.gfalse rfl rfl ?_
    refine RP.gfalse rfl rfl ?_
    refine RP.pick_ rfl rfl rfl ?_
    refine RP.nil ?_
    refine WP.cond_t rfl ?_
    refine WP.seq ?_
    refine WP.region ?_
    refine RP.call rfl rfl rfl hlo (fun st' lo' hi' hl' => awake_ok) ?_
    rintro _ _ ⟨rfl, rfl⟩
    refine RP.assign rfl rfl ?_
    refine RP.nil ?_
    refine WP.ret ?_
    exact End.one (Or.inr rfl) rfl (.tmp rfl) .nil ⟨rfl, rfl⟩
  · skip
    have hfl := hm.len
    have h0i := h0
    obtain ⟨h01, h02, h03, h04, h05⟩ := h0i
    refine RP.un rfl rfl rfl ?_
    refine RP.move rfl rfl ?_
    refine RP.gtrue rfl ?_
    refine RP.move rfl rfl ?_
    refine RP.gtrue rfl ?_
    refine RP.len_v rfl rfl (fun _ => rfl) ?_
    refine RP.gtrue rfl ?_
    refine RP.gtr rfl rfl rfl (fun h21 => ?_) (fun h21 => ?_)
    · skip
      refine RP.pick_ rfl rfl rfl ?_
      refine RP.nil ?_
      refine WP.cond_t rfl ?_
      refine WP.seq ?_
      refine WP.region ?_
      refine RP.call rfl rfl rfl hlo (fun st' lo' hi' hl' => awake_ok) ?_
      rintro _ _ ⟨rfl, rfl⟩
      refine RP.assign rfl rfl ?_
      refine RP.nil ?_
      refine WP.ret ?_
      exact End.one (Or.inr rfl) rfl (.tmp rfl) .nil ⟨rfl, rfl⟩
    · skip
      refine RP.pick_ rfl rfl rfl ?_
      refine RP.nil ?_
      refine WP.cond_f rfl ?_
      refine WP.skip ?_
      refine WP.seq ?_
      refine WP.seq ?_
      refine WP.region ?_
      refine RP.load_boxN rfl rfl rfl rfl rfl (by repeat (first | exact .here | apply HIn.there | apply HIn.app)) rfl ?_
      refine RP.call rfl rfl rfl hlo (fun st' lo' hi' hl' => single_ok hl' (hm.inv hi') h0 hok) ?_
      rintro _ _ ⟨r, rfl, rfl, hr⟩
      refine RP.un rfl rfl rfl ?_
      refine RP.nil ?_
      refine WP.cond_b rfl (fun hc26 => ?_) (fun hc26 => ?_)
      · skip
        refine WP.seq ?_
        refine WP.region ?_
        refine RP.call rfl rfl rfl hlo (fun st' lo' hi' hl' => awake_ok) ?_
        rintro _ _ ⟨rfl, rfl⟩
        refine RP.assign rfl rfl ?_
        refine RP.nil ?_
        refine WP.ret ?_
        exact End.one (Or.inr rfl) rfl (.tmp rfl) .nil ⟨rfl, rfl⟩
      · skip
        have hS := hr.1 (by simpa using hc26)
        have hgd := hS.1
        refine WP.skip ?_
        refine WP.seq ?_
        refine WP.region ?_
        refine RP.load_boxN rfl rfl rfl rfl rfl (by repeat (first | exact .here | apply HIn.there | apply HIn.app)) rfl ?_
        refine RP.move rfl rfl ?_
        refine RP.call rfl rfl rfl hlo (fun st' lo' hi' hl' => marks_ok hl' (hm.inv hi') h0 hok (by omega)) ?_
        rintro _ _ ⟨pm, v', ok, tags, rfl, hl31, rfl, hsp⟩
        have hsl := hsp.len
        refine RP.move rfl rfl ?_
        refine RP.extract_ rfl rfl rfl ?_
        refine RP.extract_ rfl rfl rfl ?_
        refine RP.assign rfl rfl ?_
        refine RP.assign rfl rfl ?_
        refine RP.nil ?_
        refine WP.seq ?_
        refine WP.seq ?_
        refine WP.region ?_
        refine RP.move rfl rfl ?_
        refine RP.load_boxN rfl rfl rfl rfl rfl (by repeat (first | exact .here | apply HIn.there | apply HIn.app)) rfl ?_
        refine RP.move rfl rfl ?_
        refine RP.call rfl rfl rfl hlo (fun st' lo' hi' hl' => nrun_ok hl' (hm.inv hi') h0 hok (by omega)) ?_
        rintro _ _ (⟨hb, rfl, rfl⟩ | ⟨_, rfl, rfl⟩)
        · exact absurd hgd hb
        have hok2 := hsp.takes hgd
        refine RP.bin (v := .bool false) rfl rfl rfl (by rw [← hok2]; cases ok <;> rfl) ?_
        refine RP.move rfl rfl ?_
        refine RP.gtrue rfl ?_
        refine RP.move rfl rfl ?_
        refine RP.gtrue rfl ?_
        refine RP.move rfl rfl ?_
        refine RP.cases (d := 41) rfl (fun hg41 => ?_) (fun hg41 => ?_)
        · skip
          have hlen := hsp.len_ok hg41
          refine RP.gtrue rfl ?_
          refine RP.move rfl rfl ?_
          refine RP.gtrue rfl ?_
          refine RP.len_sl rfl rfl (.lin fU_len hl31 (by repeat (first | exact .here | apply HIn.there | apply HIn.app))) rfl ?_
          refine RP.gtrue rfl ?_
          refine RP.move rfl rfl ?_
          refine RP.gtrue rfl ?_
          refine RP.len_v rfl rfl (fun _ => rfl) ?_
          refine RP.gtrue rfl ?_
          refine RP.neq_f rfl rfl rfl (by omega) ?_
          refine RP.gtrue rfl ?_
          refine RP.pick_ rfl rfl rfl ?_
          refine RP.pick_ rfl rfl rfl ?_
          refine RP.move rfl rfl ?_
          refine RP.gtrue rfl ?_
          refine RP.move rfl rfl ?_
          refine RP.gtrue rfl ?_
          refine RP.un rfl rfl rfl ?_
          refine RP.gtrue rfl ?_
          refine RP.move rfl rfl ?_
          refine RP.cases (d := 52) rfl (fun hg52 => ?_) (fun hg52 => ?_)
          · skip
            have hlen := congrArg List.length (hsp.nil (by simpa using hg52))
            simp only [List.length_nil] at hlen
            refine RP.gtrue rfl ?_
            refine RP.move rfl rfl ?_
            refine RP.gtrue rfl ?_
            refine RP.len_sl rfl rfl (.lin fU_len hl31 (by repeat (first | exact .here | apply HIn.there | apply HIn.app))) rfl ?_
            refine RP.gtrue rfl ?_
            refine RP.neq_f rfl rfl rfl (by omega) ?_
            refine RP.gtrue rfl ?_
            refine RP.pick_ rfl rfl rfl ?_
            refine RP.pick_ rfl rfl rfl ?_
            refine RP.nil ?_
            refine WP.cond_f rfl ?_
            refine WP.skip ?_
            refine WP.seq ?_
            refine WP.ghost .dead ?_
            refine WP.region ?_
            refine RP.assign rfl rfl ?_
            refine RP.nil ?_
            refine WP.seq ?_
            refine WP.seq ?_
            refine WP.region ?_
            refine RP.assign rfl rfl ?_
            refine RP.nil ?_
            refine WP.block rfl ?_
            refine WP.loop (α := Nat × LV × HE × List Int) (fun gh => [(1, .str w), (2, vc), (3, .ptr (.own L3) 0), (7, v'), (8, .bool ok), (9, gh.2.1), (10, .int .i64 (gh.1 : Int))]) (fun gh => [(some L3, .cells (mv a b c d m).cells), pm, gh.2.2.1]) (fun gh => gh.1 ≤ w.size ∧ Lin 1 fI true gh.2.1 gh.2.2.2 gh.2.2.1 ∧ (∀ x ∈ gh.2.2.2, 0 ≤ x ∧ x.toNat < m.spots.length) ∧ gh.2.2.2.length ≤ 1 ∧ (ok = true → AllI m w.data.toList tags gh.1 gh.2.2.2)) (fun gh => w.size - gh.1) ?_ (0, .nilsl, (none, .dead), []) ⟨rfl, rfl, rfl, rfl, rfl, rfl, rfl, trivial⟩ (.cons (by repeat (first | exact .here | apply HRem.there | apply HRem.app)) (.cons (by repeat (first | exact .here | apply HRem.there | apply HRem.app)) (.cons (by repeat (first | exact .here | apply HRem.there | apply HRem.app)) .nil))) (by
              try dsimp only
              exact ⟨Nat.zero_le _, .nil, by simp, Nat.zero_le _, fun ho => AllI.start (hsp.mark ho)⟩)
            rintro ⟨i, va, pa, ys⟩ hI
            change i ≤ w.size ∧ Lin 1 fI true va ys pa ∧ (∀ x ∈ ys, 0 ≤ x ∧ x.toNat < m.spots.length) ∧ ys.length ≤ 1 ∧ (ok = true → AllI m w.data.toList tags i ys) at hI
            change WP _ _ _ _ _ [(1, .str w), (2, vc), (3, .ptr (.own L3) 0), (7, v'), (8, .bool ok), (9, va), (10, .int .i64 (i : Int))] ([(some L3, .cells (mv a b c d m).cells), pm, pa] : HL) _
            obtain ⟨hI1, hI2, hI3, hI4, hI5⟩ := hI
            refine WP.seq ?_
            refine WP.seq ?_
            refine WP.region ?_
            refine RP.move rfl rfl ?_
            refine RP.move rfl rfl ?_
            refine RP.len_v rfl rfl (fun _ => rfl) ?_
            refine RP.lss rfl rfl rfl (fun h61 => ?_) (fun h61 => ?_)
            · skip
              have hlw : i < w.data.toList.length := by omega
              refine RP.move rfl rfl ?_
              refine RP.gtrue rfl ?_
              refine RP.move rfl rfl ?_
              refine RP.pick_ rfl rfl rfl ?_
              refine RP.nil ?_
              refine WP.cond_b rfl (fun hc64 => ?_) (fun hc64 => ?_)
              · skip
                refine WP.skip ?_
                refine WP.seq ?_
                refine WP.block rfl ?_
                refine WP.seq ?_
                refine WP.drawn (by kernel_rfl) ?_
                refine RP.load_boxN rfl rfl rfl rfl rfl (by repeat (first | exact .here | apply HIn.there | apply HIn.app)) rfl ?_
                refine RP.move rfl rfl ?_
                refine RP.move rfl rfl ?_
                refine RP.eql rfl rfl rfl (fun h70 => ?_) (fun h70 => ?_)
                · skip
                  refine RP.move rfl rfl ?_
                  refine RP.move rfl rfl ?_
                  refine RP.idx_str rfl rfl rfl rfl rfl (List.getElem?_eq_getElem (by first | assumption | omega)) ?_
                  refine RP.call rfl rfl rfl hlo (fun st' lo' hi' hl' => step_ok hl' (hm.inv hi') hgd hok (by omega) (by omega) (fun j hj => by have := h05 j hj; omega) (SlH.lin fI_len hI2 (by repeat (first | exact .here | apply HIn.there | apply HIn.app)) _ hi') (by omega) hI3) ?_
                  rintro v74 _ ⟨p74, rfl, hl74⟩
                  obtain ⟨ls, hls⟩ : ∃ ls, ls = stepF m ys (decide (i = 0)) w.data.toList[i] := ⟨_, rfl⟩
                  replace hl74 : Lin 1 fI true v74 ls p74 := by
                    have e : decide (i = 0) = true := decide_eq_true (by omega)
                    rw [hls, e]; exact hl74
                  have hlr : ∀ x ∈ ls, 0 ≤ x ∧ x.toNat < m.spots.length := hls ▸ stepF_range
                  have hll : ls.length ≤ 60 := by rw [hls]; exact Nat.le_trans stepF_len h01
                  refine RP.assign rfl rfl ?_
                  refine RP.nil ?_
                  refine WP.seq ?_
                  refine WP.ghost .dead ?_
                  refine WP.region ?_
                  refine RP.assign rfl rfl ?_
                  refine RP.nil ?_
                  refine WP.seq ?_
                  refine WP.seq ?_
                  refine WP.region ?_
                  refine RP.assign rfl rfl ?_
                  refine RP.nil ?_
                  refine WP.block rfl ?_
                  refine WP.loop (α := Nat × LV × HE) (fun gh => [(1, .str w), (2, vc), (3, .ptr (.own L3) 0), (7, v'), (8, .bool ok), (10, .int .i64 (i : Int)), (11, v74), (12, gh.2.1), (13, .int .i64 (gh.1 : Int))]) (fun gh => [(some L3, .cells (mv a b c d m).cells), pm, p74, gh.2.2]) (fun gh => gh.1 ≤ ls.length ∧ Lin 1 fI true gh.2.1 ((ls.take gh.1).filter fun x => goW m (w.data.toList.drop (i + 1)) x.toNat) gh.2.2) (fun gh => ls.length - gh.1) ?_ (0, .nilsl, (none, .dead)) ⟨rfl, rfl, rfl, rfl, rfl, rfl, rfl, rfl, rfl, trivial⟩ (.cons (by repeat (first | exact .here | apply HRem.there | apply HRem.app)) (.cons (by repeat (first | exact .here | apply HRem.there | apply HRem.app)) (.cons (by repeat (first | exact .here | apply HRem.there | apply HRem.app)) (.cons (by repeat (first | exact .here | apply HRem.there | apply HRem.app)) .nil)))) (by
                    try dsimp only
                    exact ⟨Nat.zero_le _, .nil⟩)
                  rintro ⟨k, vg, pg⟩ hI
                  change k ≤ ls.length ∧ Lin 1 fI true vg ((ls.take k).filter fun x => goW m (w.data.toList.drop (i + 1)) x.toNat) pg at hI
                  change WP _ _ _ _ _ [(1, .str w), (2, vc), (3, .ptr (.own L3) 0), (7, v'), (8, .bool ok), (10, .int .i64 (i : Int)), (11, v74), (12, vg), (13, .int .i64 (k : Int))] ([(some L3, .cells (mv a b c d m).cells), pm, p74, pg] : HL) _
                  obtain ⟨hK1, hK2⟩ := hI
                  have hkf := List.length_filter_le (fun x : Int => goW m (w.data.toList.drop (i + 1)) x.toNat) (ls.take k)
                  rw [List.length_take] at hkf
                  refine WP.seq ?_
                  refine WP.seq ?_
                  refine WP.region ?_
                  refine RP.move rfl rfl ?_
                  refine RP.move rfl rfl ?_
                  refine RP.len_sl rfl rfl (.lin fI_len hl74 (by repeat (first | exact .here | apply HIn.there | apply HIn.app))) rfl ?_
                  refine RP.lss rfl rfl rfl (fun h78 => ?_) (fun h78 => ?_)
                  · skip
                    have hlk : k < ls.length := by omega
                    have hx := hlr ls[k] (List.getElem_mem hlk)
                    have hws : (w.extract (i + 1) w.size).data.toList = w.data.toList.drop (i + 1) := by rw [ByteArray.data_extract, Array.toList_extract, List.extract, List.take_of_length_le (by rw [List.length_drop, hwl]; exact Nat.le_refl _)]
                    have hrs : (w.extract (i + 1) w.size).size = w.size - (i + 1) := by rw [size_list, hws, List.length_drop, hwl]
                    refine RP.nil ?_
                    refine WP.cond_t rfl ?_
                    refine WP.skip ?_
                    refine WP.seq ?_
                    refine WP.block rfl ?_
                    refine WP.seq ?_
                    refine WP.drawn (by kernel_rfl) ?_
                    refine RP.load_boxN rfl rfl rfl rfl rfl (by repeat (first | exact .here | apply HIn.there | apply HIn.app)) rfl ?_
                    refine RP.move rfl rfl ?_
                    refine RP.move rfl rfl ?_
                    refine RP.at_ rfl rfl rfl rfl rfl rfl (.lin fI_len hl74 (by repeat (first | exact .here | apply HIn.there | apply HIn.app))) (by first | assumption | omega) ?_
                    refine RP.load_el rfl rfl rfl rfl (.lin fI_len hl74 (by repeat (first | exact .here | apply HIn.there | apply HIn.app))) (by first | assumption | omega) rfl ?_
                    refine RP.move rfl rfl ?_
                    refine RP.move rfl rfl ?_
                    refine RP.add rfl rfl rfl (by omega) (by omega) ?_
                    refine RP.rest_str rfl rfl rfl (natOf_is (n := i + 1) (by omega)) rfl (by omega) ?_
                    refine RP.call (Q := fun v H => v = LV.bool (goW m (w.extract (i + 1) w.size).data.toList ls[k].toNat) ∧ H = []) rfl rfl rfl hlo (fun st' lo' hi' hl' => goes_ok hl' (hm.inv hi') h0 hgd hok (w := w.extract (i + 1) w.size) (z := ls[k]'hlk) (by rw [hrs]; omega) (n := (ls[k]'hlk).toNat) (by omega) hx.2) ?_
                    rintro _ _ ⟨rfl, rfl⟩
                    refine RP.nil ?_
                    refine WP.cond_b rfl (fun hc90 => ?_) (fun hc90 => ?_)
                    · skip
                      refine WP.region ?_
                      refine RP.move rfl rfl ?_
                      refine RP.move rfl rfl ?_
                      refine RP.move rfl rfl ?_
                      refine RP.at_ rfl rfl rfl rfl rfl rfl (.lin fI_len hl74 (by repeat (first | exact .here | apply HIn.there | apply HIn.app))) (by first | assumption | omega) ?_
                      refine RP.load_el rfl rfl rfl rfl (.lin fI_len hl74 (by repeat (first | exact .here | apply HIn.there | apply HIn.app))) (by first | assumption | omega) rfl ?_
                      refine RP.bslice [ls[k]] rfl rfl rfl rfl rfl rfl rfl rfl rfl rfl fI_len ?_
                      intro v96 p96 hl96
                      refine RP.append rfl rfl rfl rfl rfl rfl rfl rfl hK2 (fun _ => (by repeat (first | exact .here | apply HUpd.there | apply HUpd.app))) (.lin fI_len hl96 (by repeat (first | exact .here | apply HIn.there | apply HIn.app))) (flat_all fI_sc _) (by simp only [List.length_singleton]; omega) (fun e => (by first | rfl | cases e)) hlo ?_
                      intro v97 p97 hl97
                      refine RP.assign rfl rfl ?_
                      refine RP.nil ?_
                      refine WP.region ?_
                      refine RP.move rfl rfl ?_
                      refine RP.add rfl rfl rfl (by omega) (by omega) ?_
                      refine RP.assign rfl rfl ?_
                      refine RP.nil ?_
                      refine roundQ.mk (Q := fun _ _ _ => True) (k + 1, v97, p97) ⟨rfl, rfl, rfl, rfl, rfl, rfl, rfl, rfl, rfl, trivial⟩ (.cons (by repeat (first | exact .here | apply HRem.there | apply HRem.app)) (.cons (by repeat (first | exact .here | apply HRem.there | apply HRem.app)) (.cons (by repeat (first | exact .here | apply HRem.there | apply HRem.app)) (.cons (by repeat (first | exact .here | apply HRem.there | apply HRem.app)) .nil)))) (by
                        try dsimp only
                        exact ⟨by omega, by rw [filter_step hlk, if_pos (by rw [← hws]; exact hc90)]; exact hl97⟩) (by
                        try dsimp only
                        omega)
                    · skip
                      refine WP.skip ?_
                      refine WP.region ?_
                      refine RP.move rfl rfl ?_
                      refine RP.add rfl rfl rfl (by omega) (by omega) ?_
                      refine RP.assign rfl rfl ?_
                      refine RP.nil ?_
                      refine roundQ.mk (Q := fun _ _ _ => True) (k + 1, vg, pg) ⟨rfl, rfl, rfl, rfl, rfl, rfl, rfl, rfl, rfl, trivial⟩ (.cons (by repeat (first | exact .here | apply HRem.there | apply HRem.app)) (.cons (by repeat (first | exact .here | apply HRem.there | apply HRem.app)) (.cons (by repeat (first | exact .here | apply HRem.there | apply HRem.app)) (.cons (by repeat (first | exact .here | apply HRem.there | apply HRem.app)) .nil)))) (by
                        try dsimp only
                        exact ⟨by omega, by rw [filter_step hlk, if_neg (by rw [← hws, hc90]; exact Bool.false_ne_true), List.append_nil]; exact hK2⟩) (by
                        try dsimp only
                        omega)
                  · skip
                    refine RP.nil ?_
                    refine WP.cond_f rfl ?_
                    refine WP.exit ?_
                    refine WP.seq ?_
                    refine WP.seq ?_
                    have hlse : ls.take k = ls := List.take_of_length_le (by omega)
                    rw [hlse] at hK2 hkf
                    obtain ⟨gd, hgdE⟩ : ∃ gd, gd = ls.filter fun x => goW m (w.data.toList.drop (i + 1)) x.toNat := ⟨_, rfl⟩
                    rw [← hgdE] at hK2 hkf
                    have hstep := AllI.step (fs := decide (i = 0)) hS (hI5 hc64) hlw rfl
                    rw [← hls, ← hgdE] at hstep
                    have hgl : 0 < gd.length := List.length_pos_iff.2 hstep.1
                    refine WP.region ?_
                    refine RP.move rfl rfl ?_
                    refine RP.len_sl rfl rfl (.lin fI_len hK2 (by repeat (first | exact .here | apply HIn.there | apply HIn.app))) rfl ?_
                    refine RP.eql_f rfl rfl rfl (by omega) ?_
                    refine RP.nil ?_
                    refine WP.cond_f rfl ?_
                    refine WP.skip ?_
                    refine WP.seq ?_
                    refine WP.region ?_
                    refine RP.assign rfl rfl ?_
                    refine RP.nil ?_
                    refine WP.seq ?_
                    refine WP.seq ?_
                    refine WP.region ?_
                    refine RP.move rfl rfl ?_
                    refine RP.move rfl rfl ?_
                    refine RP.len_sl rfl rfl (.arg hvc) rfl ?_
                    refine RP.lss rfl rfl rfl (fun h104 => ?_) (fun h104 => ?_)
                    · skip
                      have hltb : i < bs.length := by omega
                      have hb8 : bs[i].toNat < 256 := bs[i].toNat_lt
                      refine RP.nil ?_
                      refine WP.cond_t rfl ?_
                      refine WP.region ?_
                      refine RP.move rfl rfl ?_
                      refine RP.move rfl rfl ?_
                      refine RP.at_ rfl rfl rfl rfl rfl rfl (.arg hvc) (by first | assumption | omega) ?_
                      refine RP.load_el rfl rfl rfl rfl (.arg hvc) (by first | assumption | omega) rfl ?_
                      refine RP.conv (v := .int .i64 (bs[i].toNat : Int)) rfl rfl (fun _ => by show some (LV.int .i64 _, _) = _; rw [IntWalk.i64_in _ ⟨by omega, by omega⟩]) ?_
                      refine RP.move rfl rfl ?_
                      refine RP.len_sl rfl rfl (.lin fI_len hK2 (by repeat (first | exact .here | apply HIn.there | apply HIn.app))) rfl ?_
                      obtain ⟨nn, hnn⟩ : ∃ nn : Nat, nn = bs[i].toNat % gd.length := ⟨_, rfl⟩
                      refine RP.bin (v := .int .i64 (nn : Int)) rfl rfl rfl (by show (if _ then _ else _) = some (LV.int .i64 _); rw [if_neg (by omega), Int.tmod_eq_emod_of_nonneg (by omega), hnn]; rfl) ?_
                      refine RP.assign rfl rfl ?_
                      refine RP.nil ?_
                      refine WP.seq ?_
                      have hnl : nn < gd.length := by first | (rw [hnn]; exact Nat.mod_lt _ hgl) | omega
                      have hz := hstep.2 gd[nn] (List.getElem_mem hnl)
                      have hzs := hz.1.2
                      have htl : i < tags.length := by have := hsp.len_ok hc64; omega
                      have htg : m.spots[gd[nn].toNat].tag = tags[i] := by
                        have h1 := hz.2.1
                        unfold tagOf at h1
                        rw [List.getElem?_eq_getElem hzs, List.getElem?_eq_getElem htl] at h1
                        exact (Option.some.inj h1).symm
                      refine WP.region ?_
                      refine RP.move rfl rfl ?_
                      refine RP.move rfl rfl ?_
                      refine RP.at_ rfl rfl rfl (natOf_is (n := nn) (by omega)) rfl rfl (.lin fI_len hK2 (by repeat (first | exact .here | apply HIn.there | apply HIn.app))) (by first | assumption | omega) ?_
                      refine RP.load_el rfl rfl rfl rfl (.lin fI_len hK2 (by repeat (first | exact .here | apply HIn.there | apply HIn.app))) (by first | assumption | omega) rfl ?_
                      refine RP.bslice [gd[nn]] rfl rfl rfl rfl rfl rfl rfl rfl rfl rfl fI_len ?_
                      intro v117 p117 hl117
                      refine RP.assign rfl rfl ?_
                      refine RP.nil ?_
                      refine WP.seq ?_
                      refine WP.drawn (by kernel_rfl) ?_
                      refine RP.faddr rfl rfl rfl ?_
                      refine RP.load_box rfl rfl rfl rfl (by repeat (first | exact .here | apply HIn.there | apply HIn.app)) rfl ?_
                      refine RP.move rfl rfl ?_
                      refine RP.move rfl rfl ?_
                      refine RP.at_ rfl rfl rfl (natOf_is (n := nn) (by omega)) rfl rfl (.lin fI_len hK2 (by repeat (first | exact .here | apply HIn.there | apply HIn.app))) (by first | assumption | omega) ?_
                      refine RP.load_el rfl rfl rfl rfl (.lin fI_len hK2 (by repeat (first | exact .here | apply HIn.there | apply HIn.app))) (by first | assumption | omega) rfl ?_
                      refine RP.at_ rfl rfl rfl (natOf_is (n := gd[nn].toNat) (by omega)) rfl rfl (.arg hm.spots) (by first | assumption | omega) ?_
                      first | refine RP.faddr_p rfl rfl rfl rfl rfl (.arg hm.spots) (by first | assumption | omega) ?_ | refine RP.faddr_p rfl rfl rfl rfl rfl (.arg hm.first) (by first | assumption | omega) ?_ | refine RP.faddr_p rfl rfl rfl rfl rfl (.arg hm.follow) (by first | assumption | omega) ?_ | refine RP.faddr_p rfl rfl rfl rfl rfl (.arg hm.last) (by first | assumption | omega) ?_
                      first | refine RP.load_el rfl rfl rfl rfl (.arg hm.spots) (by first | assumption | omega) rfl ?_ | refine RP.load_el rfl rfl rfl rfl (.arg hm.first) (by first | assumption | omega) rfl ?_ | refine RP.load_el rfl rfl rfl rfl (.arg hm.follow) (by first | assumption | omega) rfl ?_ | refine RP.load_el rfl rfl rfl rfl (.arg hm.last) (by first | assumption | omega) rfl ?_
                      refine RP.move rfl rfl ?_
                      refine RP.move rfl rfl ?_
                      refine RP.at_ rfl rfl rfl rfl rfl rfl (.lin fU_len hl31 (by repeat (first | exact .here | apply HIn.there | apply HIn.app))) (by first | assumption | omega) ?_
                      refine RP.load_el rfl rfl rfl rfl (.lin fU_len hl31 (by repeat (first | exact .here | apply HIn.there | apply HIn.app))) (by first | assumption | omega) rfl ?_
                      refine RP.neq_f rfl rfl rfl (by omega) ?_
                      refine RP.nil ?_
                      refine WP.cond_f rfl ?_
                      refine WP.skip ?_
                      refine WP.region ?_
                      refine RP.move rfl rfl ?_
                      refine RP.add rfl rfl rfl (by omega) (by omega) ?_
                      refine RP.assign rfl rfl ?_
                      refine RP.nil ?_
                      refine roundQ.mk (Q := fun _ _ _ => True) (i + 1, v117, p117, [gd[nn]]) ⟨rfl, rfl, rfl, rfl, rfl, rfl, rfl, trivial⟩ (.cons (by repeat (first | exact .here | apply HRem.there | apply HRem.app)) (.cons (by repeat (first | exact .here | apply HRem.there | apply HRem.app)) (.cons (by repeat (first | exact .here | apply HRem.there | apply HRem.app)) .nil))) (by
                        try dsimp only
                        exact ⟨by omega, hl117, fun x hx => by obtain rfl := List.mem_singleton.1 hx; exact hz.1, by simp, fun _ => hz.2.2⟩) (by
                        try dsimp only
                        omega)
                    · skip
                      obtain ⟨nn, hnn⟩ : ∃ nn : Nat, nn = 0 := ⟨_, rfl⟩
                      refine RP.nil ?_
                      refine WP.cond_f rfl ?_
                      refine WP.skip ?_
                      refine WP.seq ?_
                      have hnl : nn < gd.length := by first | (rw [hnn]; exact Nat.mod_lt _ hgl) | omega
                      have hz := hstep.2 gd[nn] (List.getElem_mem hnl)
                      have hzs := hz.1.2
                      have htl : i < tags.length := by have := hsp.len_ok hc64; omega
                      have htg : m.spots[gd[nn].toNat].tag = tags[i] := by
                        have h1 := hz.2.1
                        unfold tagOf at h1
                        rw [List.getElem?_eq_getElem hzs, List.getElem?_eq_getElem htl] at h1
                        exact (Option.some.inj h1).symm
                      refine WP.region ?_
                      refine RP.move rfl rfl ?_
                      refine RP.move rfl rfl ?_
                      refine RP.at_ rfl rfl rfl (natOf_is (n := nn) (by omega)) rfl rfl (.lin fI_len hK2 (by repeat (first | exact .here | apply HIn.there | apply HIn.app))) (by first | assumption | omega) ?_
                      refine RP.load_el rfl rfl rfl rfl (.lin fI_len hK2 (by repeat (first | exact .here | apply HIn.there | apply HIn.app))) (by first | assumption | omega) rfl ?_
                      refine RP.bslice [gd[nn]] rfl rfl rfl rfl rfl rfl rfl rfl rfl rfl fI_len ?_
                      intro v117 p117 hl117
                      refine RP.assign rfl rfl ?_
                      refine RP.nil ?_
                      refine WP.seq ?_
                      refine WP.drawn (by kernel_rfl) ?_
                      refine RP.faddr rfl rfl rfl ?_
                      refine RP.load_box rfl rfl rfl rfl (by repeat (first | exact .here | apply HIn.there | apply HIn.app)) rfl ?_
                      refine RP.move rfl rfl ?_
                      refine RP.move rfl rfl ?_
                      refine RP.at_ rfl rfl rfl (natOf_is (n := nn) (by omega)) rfl rfl (.lin fI_len hK2 (by repeat (first | exact .here | apply HIn.there | apply HIn.app))) (by first | assumption | omega) ?_
                      refine RP.load_el rfl rfl rfl rfl (.lin fI_len hK2 (by repeat (first | exact .here | apply HIn.there | apply HIn.app))) (by first | assumption | omega) rfl ?_
                      refine RP.at_ rfl rfl rfl (natOf_is (n := gd[nn].toNat) (by omega)) rfl rfl (.arg hm.spots) (by first | assumption | omega) ?_
                      first | refine RP.faddr_p rfl rfl rfl rfl rfl (.arg hm.spots) (by first | assumption | omega) ?_ | refine RP.faddr_p rfl rfl rfl rfl rfl (.arg hm.first) (by first | assumption | omega) ?_ | refine RP.faddr_p rfl rfl rfl rfl rfl (.arg hm.follow) (by first | assumption | omega) ?_ | refine RP.faddr_p rfl rfl rfl rfl rfl (.arg hm.last) (by first | assumption | omega) ?_
                      first | refine RP.load_el rfl rfl rfl rfl (.arg hm.spots) (by first | assumption | omega) rfl ?_ | refine RP.load_el rfl rfl rfl rfl (.arg hm.first) (by first | assumption | omega) rfl ?_ | refine RP.load_el rfl rfl rfl rfl (.arg hm.follow) (by first | assumption | omega) rfl ?_ | refine RP.load_el rfl rfl rfl rfl (.arg hm.last) (by first | assumption | omega) rfl ?_
                      refine RP.move rfl rfl ?_
                      refine RP.move rfl rfl ?_
                      refine RP.at_ rfl rfl rfl rfl rfl rfl (.lin fU_len hl31 (by repeat (first | exact .here | apply HIn.there | apply HIn.app))) (by first | assumption | omega) ?_
                      refine RP.load_el rfl rfl rfl rfl (.lin fU_len hl31 (by repeat (first | exact .here | apply HIn.there | apply HIn.app))) (by first | assumption | omega) rfl ?_
                      refine RP.neq_f rfl rfl rfl (by omega) ?_
                      refine RP.nil ?_
                      refine WP.cond_f rfl ?_
                      refine WP.skip ?_
                      refine WP.region ?_
                      refine RP.move rfl rfl ?_
                      refine RP.add rfl rfl rfl (by omega) (by omega) ?_
                      refine RP.assign rfl rfl ?_
                      refine RP.nil ?_
                      refine roundQ.mk (Q := fun _ _ _ => True) (i + 1, v117, p117, [gd[nn]]) ⟨rfl, rfl, rfl, rfl, rfl, rfl, rfl, trivial⟩ (.cons (by repeat (first | exact .here | apply HRem.there | apply HRem.app)) (.cons (by repeat (first | exact .here | apply HRem.there | apply HRem.app)) (.cons (by repeat (first | exact .here | apply HRem.there | apply HRem.app)) .nil))) (by
                        try dsimp only
                        exact ⟨by omega, hl117, fun x hx => by obtain rfl := List.mem_singleton.1 hx; exact hz.1, by simp, fun _ => hz.2.2⟩) (by
                        try dsimp only
                        omega)
                · skip
                  refine RP.move rfl rfl ?_
                  refine RP.move rfl rfl ?_
                  refine RP.idx_str rfl rfl rfl rfl rfl (List.getElem?_eq_getElem (by first | assumption | omega)) ?_
                  refine RP.call rfl rfl rfl hlo (fun st' lo' hi' hl' => step_ok hl' (hm.inv hi') hgd hok (by omega) (by omega) (fun j hj => by have := h05 j hj; omega) (SlH.lin fI_len hI2 (by repeat (first | exact .here | apply HIn.there | apply HIn.app)) _ hi') (by omega) hI3) ?_
                  rintro v74 _ ⟨p74, rfl, hl74⟩
                  obtain ⟨ls, hls⟩ : ∃ ls, ls = stepF m ys (decide (i = 0)) w.data.toList[i] := ⟨_, rfl⟩
                  replace hl74 : Lin 1 fI true v74 ls p74 := by
                    have e : decide (i = 0) = false := decide_eq_false (by omega)
                    rw [hls, e]; exact hl74
                  have hlr : ∀ x ∈ ls, 0 ≤ x ∧ x.toNat < m.spots.length := hls ▸ stepF_range
                  have hll : ls.length ≤ 60 := by rw [hls]; exact Nat.le_trans stepF_len h01
                  refine RP.assign rfl rfl ?_
                  refine RP.nil ?_
                  refine WP.seq ?_
                  refine WP.ghost .dead ?_
                  refine WP.region ?_
                  refine RP.assign rfl rfl ?_
                  refine RP.nil ?_
                  refine WP.seq ?_
                  refine WP.seq ?_
                  refine WP.region ?_
                  refine RP.assign rfl rfl ?_
                  refine RP.nil ?_
                  refine WP.block rfl ?_
                  refine WP.loop (α := Nat × LV × HE) (fun gh => [(1, .str w), (2, vc), (3, .ptr (.own L3) 0), (7, v'), (8, .bool ok), (10, .int .i64 (i : Int)), (11, v74), (12, gh.2.1), (13, .int .i64 (gh.1 : Int))]) (fun gh => [(some L3, .cells (mv a b c d m).cells), pm, p74, gh.2.2]) (fun gh => gh.1 ≤ ls.length ∧ Lin 1 fI true gh.2.1 ((ls.take gh.1).filter fun x => goW m (w.data.toList.drop (i + 1)) x.toNat) gh.2.2) (fun gh => ls.length - gh.1) ?_ (0, .nilsl, (none, .dead)) ⟨rfl, rfl, rfl, rfl, rfl, rfl, rfl, rfl, rfl, trivial⟩ (.cons (by repeat (first | exact .here | apply HRem.there | apply HRem.app)) (.cons (by repeat (first | exact .here | apply HRem.there | apply HRem.app)) (.cons (by repeat (first | exact .here | apply HRem.there | apply HRem.app)) (.cons (by repeat (first | exact .here | apply HRem.there | apply HRem.app)) .nil)))) (by
                    try dsimp only
                    exact ⟨Nat.zero_le _, .nil⟩)
                  rintro ⟨k, vg, pg⟩ hI
                  change k ≤ ls.length ∧ Lin 1 fI true vg ((ls.take k).filter fun x => goW m (w.data.toList.drop (i + 1)) x.toNat) pg at hI
                  change WP _ _ _ _ _ [(1, .str w), (2, vc), (3, .ptr (.own L3) 0), (7, v'), (8, .bool ok), (10, .int .i64 (i : Int)), (11, v74), (12, vg), (13, .int .i64 (k : Int))] ([(some L3, .cells (mv a b c d m).cells), pm, p74, pg] : HL) _
                  obtain ⟨hK1, hK2⟩ := hI
                  have hkf := List.length_filter_le (fun x : Int => goW m (w.data.toList.drop (i + 1)) x.toNat) (ls.take k)
                  rw [List.length_take] at hkf
                  refine WP.seq ?_
                  refine WP.seq ?_
                  refine WP.region ?_
                  refine RP.move rfl rfl ?_
                  refine RP.move rfl rfl ?_
                  refine RP.len_sl rfl rfl (.lin fI_len hl74 (by repeat (first | exact .here | apply HIn.there | apply HIn.app))) rfl ?_
                  refine RP.lss rfl rfl rfl (fun h78 => ?_) (fun h78 => ?_)
                  · skip
                    have hlk : k < ls.length := by omega
                    have hx := hlr ls[k] (List.getElem_mem hlk)
                    have hws : (w.extract (i + 1) w.size).data.toList = w.data.toList.drop (i + 1) := by rw [ByteArray.data_extract, Array.toList_extract, List.extract, List.take_of_length_le (by rw [List.length_drop, hwl]; exact Nat.le_refl _)]
                    have hrs : (w.extract (i + 1) w.size).size = w.size - (i + 1) := by rw [size_list, hws, List.length_drop, hwl]
                    refine RP.nil ?_
                    refine WP.cond_t rfl ?_
                    refine WP.skip ?_
                    refine WP.seq ?_
                    refine WP.block rfl ?_
                    refine WP.seq ?_
                    refine WP.drawn (by kernel_rfl) ?_
                    refine RP.load_boxN rfl rfl rfl rfl rfl (by repeat (first | exact .here | apply HIn.there | apply HIn.app)) rfl ?_
                    refine RP.move rfl rfl ?_
                    refine RP.move rfl rfl ?_
                    refine RP.at_ rfl rfl rfl rfl rfl rfl (.lin fI_len hl74 (by repeat (first | exact .here | apply HIn.there | apply HIn.app))) (by first | assumption | omega) ?_
                    refine RP.load_el rfl rfl rfl rfl (.lin fI_len hl74 (by repeat (first | exact .here | apply HIn.there | apply HIn.app))) (by first | assumption | omega) rfl ?_
                    refine RP.move rfl rfl ?_
                    refine RP.move rfl rfl ?_
                    refine RP.add rfl rfl rfl (by omega) (by omega) ?_
                    refine RP.rest_str rfl rfl rfl (natOf_is (n := i + 1) (by omega)) rfl (by omega) ?_
                    refine RP.call (Q := fun v H => v = LV.bool (goW m (w.extract (i + 1) w.size).data.toList ls[k].toNat) ∧ H = []) rfl rfl rfl hlo (fun st' lo' hi' hl' => goes_ok hl' (hm.inv hi') h0 hgd hok (w := w.extract (i + 1) w.size) (z := ls[k]'hlk) (by rw [hrs]; omega) (n := (ls[k]'hlk).toNat) (by omega) hx.2) ?_
                    rintro _ _ ⟨rfl, rfl⟩
                    refine RP.nil ?_
                    refine WP.cond_b rfl (fun hc90 => ?_) (fun hc90 => ?_)
                    · skip
                      refine WP.region ?_
                      refine RP.move rfl rfl ?_
                      refine RP.move rfl rfl ?_
                      refine RP.move rfl rfl ?_
                      refine RP.at_ rfl rfl rfl rfl rfl rfl (.lin fI_len hl74 (by repeat (first | exact .here | apply HIn.there | apply HIn.app))) (by first | assumption | omega) ?_
                      refine RP.load_el rfl rfl rfl rfl (.lin fI_len hl74 (by repeat (first | exact .here | apply HIn.there | apply HIn.app))) (by first | assumption | omega) rfl ?_
                      refine RP.bslice [ls[k]] rfl rfl rfl rfl rfl rfl rfl rfl rfl rfl fI_len ?_
                      intro v96 p96 hl96
                      refine RP.append rfl rfl rfl rfl rfl rfl rfl rfl hK2 (fun _ => (by repeat (first | exact .here | apply HUpd.there | apply HUpd.app))) (.lin fI_len hl96 (by repeat (first | exact .here | apply HIn.there | apply HIn.app))) (flat_all fI_sc _) (by simp only [List.length_singleton]; omega) (fun e => (by first | rfl | cases e)) hlo ?_
                      intro v97 p97 hl97
                      refine RP.assign rfl rfl ?_
                      refine RP.nil ?_
                      refine WP.region ?_
                      refine RP.move rfl rfl ?_
                      refine RP.add rfl rfl rfl (by omega) (by omega) ?_
                      refine RP.assign rfl rfl ?_
                      refine RP.nil ?_
                      refine roundQ.mk (Q := fun _ _ _ => True) (k + 1, v97, p97) ⟨rfl, rfl, rfl, rfl, rfl, rfl, rfl, rfl, rfl, trivial⟩ (.cons (by repeat (first | exact .here | apply HRem.there | apply HRem.app)) (.cons (by repeat (first | exact .here | apply HRem.there | apply HRem.app)) (.cons (by repeat (first | exact .here | apply HRem.there | apply HRem.app)) (.cons (by repeat (first | exact .here | apply HRem.there | apply HRem.app)) .nil)))) (by
                        try dsimp only
                        exact ⟨by omega, by rw [filter_step hlk, if_pos (by rw [← hws]; exact hc90)]; exact hl97⟩) (by
                        try dsimp only
                        omega)
                    · skip
                      refine WP.skip ?_
                      refine WP.region ?_
                      refine RP.move rfl rfl ?_
                      refine RP.add rfl rfl rfl (by omega) (by omega) ?_
                      refine RP.assign rfl rfl ?_
                      refine RP.nil ?_
                      refine roundQ.mk (Q := fun _ _ _ => True) (k + 1, vg, pg) ⟨rfl, rfl, rfl, rfl, rfl, rfl, rfl, rfl, rfl, trivial⟩ (.cons (by repeat (first | exact .here | apply HRem.there | apply HRem.app)) (.cons (by repeat (first | exact .here | apply HRem.there | apply HRem.app)) (.cons (by repeat (first | exact .here | apply HRem.there | apply HRem.app)) (.cons (by repeat (first | exact .here | apply HRem.there | apply HRem.app)) .nil)))) (by
                        try dsimp only
                        exact ⟨by omega, by rw [filter_step hlk, if_neg (by rw [← hws, hc90]; exact Bool.false_ne_true), List.append_nil]; exact hK2⟩) (by
                        try dsimp only
                        omega)
                  · skip
                    refine RP.nil ?_
                    refine WP.cond_f rfl ?_
                    refine WP.exit ?_
                    refine WP.seq ?_
                    refine WP.seq ?_
                    have hlse : ls.take k = ls := List.take_of_length_le (by omega)
                    rw [hlse] at hK2 hkf
                    obtain ⟨gd, hgdE⟩ : ∃ gd, gd = ls.filter fun x => goW m (w.data.toList.drop (i + 1)) x.toNat := ⟨_, rfl⟩
                    rw [← hgdE] at hK2 hkf
                    have hstep := AllI.step (fs := decide (i = 0)) hS (hI5 hc64) hlw rfl
                    rw [← hls, ← hgdE] at hstep
                    have hgl : 0 < gd.length := List.length_pos_iff.2 hstep.1
                    refine WP.region ?_
                    refine RP.move rfl rfl ?_
                    refine RP.len_sl rfl rfl (.lin fI_len hK2 (by repeat (first | exact .here | apply HIn.there | apply HIn.app))) rfl ?_
                    refine RP.eql_f rfl rfl rfl (by omega) ?_
                    refine RP.nil ?_
                    refine WP.cond_f rfl ?_
                    refine WP.skip ?_
                    refine WP.seq ?_
                    refine WP.region ?_
                    refine RP.assign rfl rfl ?_
                    refine RP.nil ?_
                    refine WP.seq ?_
                    refine WP.seq ?_
                    refine WP.region ?_
                    refine RP.move rfl rfl ?_
                    refine RP.move rfl rfl ?_
                    refine RP.len_sl rfl rfl (.arg hvc) rfl ?_
                    refine RP.lss rfl rfl rfl (fun h104 => ?_) (fun h104 => ?_)
                    · skip
                      have hltb : i < bs.length := by omega
                      have hb8 : bs[i].toNat < 256 := bs[i].toNat_lt
                      refine RP.nil ?_
                      refine WP.cond_t rfl ?_
                      refine WP.region ?_
                      refine RP.move rfl rfl ?_
                      refine RP.move rfl rfl ?_
                      refine RP.at_ rfl rfl rfl rfl rfl rfl (.arg hvc) (by first | assumption | omega) ?_
                      refine RP.load_el rfl rfl rfl rfl (.arg hvc) (by first | assumption | omega) rfl ?_
                      refine RP.conv (v := .int .i64 (bs[i].toNat : Int)) rfl rfl (fun _ => by show some (LV.int .i64 _, _) = _; rw [IntWalk.i64_in _ ⟨by omega, by omega⟩]) ?_
                      refine RP.move rfl rfl ?_
                      refine RP.len_sl rfl rfl (.lin fI_len hK2 (by repeat (first | exact .here | apply HIn.there | apply HIn.app))) rfl ?_
                      obtain ⟨nn, hnn⟩ : ∃ nn : Nat, nn = bs[i].toNat % gd.length := ⟨_, rfl⟩
                      refine RP.bin (v := .int .i64 (nn : Int)) rfl rfl rfl (by show (if _ then _ else _) = some (LV.int .i64 _); rw [if_neg (by omega), Int.tmod_eq_emod_of_nonneg (by omega), hnn]; rfl) ?_
                      refine RP.assign rfl rfl ?_
                      refine RP.nil ?_
                      refine WP.seq ?_
                      have hnl : nn < gd.length := by first | (rw [hnn]; exact Nat.mod_lt _ hgl) | omega
                      have hz := hstep.2 gd[nn] (List.getElem_mem hnl)
                      have hzs := hz.1.2
                      have htl : i < tags.length := by have := hsp.len_ok hc64; omega
                      have htg : m.spots[gd[nn].toNat].tag = tags[i] := by
                        have h1 := hz.2.1
                        unfold tagOf at h1
                        rw [List.getElem?_eq_getElem hzs, List.getElem?_eq_getElem htl] at h1
                        exact (Option.some.inj h1).symm
                      refine WP.region ?_
                      refine RP.move rfl rfl ?_
                      refine RP.move rfl rfl ?_
                      refine RP.at_ rfl rfl rfl (natOf_is (n := nn) (by omega)) rfl rfl (.lin fI_len hK2 (by repeat (first | exact .here | apply HIn.there | apply HIn.app))) (by first | assumption | omega) ?_
                      refine RP.load_el rfl rfl rfl rfl (.lin fI_len hK2 (by repeat (first | exact .here | apply HIn.there | apply HIn.app))) (by first | assumption | omega) rfl ?_
                      refine RP.bslice [gd[nn]] rfl rfl rfl rfl rfl rfl rfl rfl rfl rfl fI_len ?_
                      intro v117 p117 hl117
                      refine RP.assign rfl rfl ?_
                      refine RP.nil ?_
                      refine WP.seq ?_
                      refine WP.drawn (by kernel_rfl) ?_
                      refine RP.faddr rfl rfl rfl ?_
                      refine RP.load_box rfl rfl rfl rfl (by repeat (first | exact .here | apply HIn.there | apply HIn.app)) rfl ?_
                      refine RP.move rfl rfl ?_
                      refine RP.move rfl rfl ?_
                      refine RP.at_ rfl rfl rfl (natOf_is (n := nn) (by omega)) rfl rfl (.lin fI_len hK2 (by repeat (first | exact .here | apply HIn.there | apply HIn.app))) (by first | assumption | omega) ?_
                      refine RP.load_el rfl rfl rfl rfl (.lin fI_len hK2 (by repeat (first | exact .here | apply HIn.there | apply HIn.app))) (by first | assumption | omega) rfl ?_
                      refine RP.at_ rfl rfl rfl (natOf_is (n := gd[nn].toNat) (by omega)) rfl rfl (.arg hm.spots) (by first | assumption | omega) ?_
                      first | refine RP.faddr_p rfl rfl rfl rfl rfl (.arg hm.spots) (by first | assumption | omega) ?_ | refine RP.faddr_p rfl rfl rfl rfl rfl (.arg hm.first) (by first | assumption | omega) ?_ | refine RP.faddr_p rfl rfl rfl rfl rfl (.arg hm.follow) (by first | assumption | omega) ?_ | refine RP.faddr_p rfl rfl rfl rfl rfl (.arg hm.last) (by first | assumption | omega) ?_
                      first | refine RP.load_el rfl rfl rfl rfl (.arg hm.spots) (by first | assumption | omega) rfl ?_ | refine RP.load_el rfl rfl rfl rfl (.arg hm.first) (by first | assumption | omega) rfl ?_ | refine RP.load_el rfl rfl rfl rfl (.arg hm.follow) (by first | assumption | omega) rfl ?_ | refine RP.load_el rfl rfl rfl rfl (.arg hm.last) (by first | assumption | omega) rfl ?_
                      refine RP.move rfl rfl ?_
                      refine RP.move rfl rfl ?_
                      refine RP.at_ rfl rfl rfl rfl rfl rfl (.lin fU_len hl31 (by repeat (first | exact .here | apply HIn.there | apply HIn.app))) (by first | assumption | omega) ?_
                      refine RP.load_el rfl rfl rfl rfl (.lin fU_len hl31 (by repeat (first | exact .here | apply HIn.there | apply HIn.app))) (by first | assumption | omega) rfl ?_
                      refine RP.neq_f rfl rfl rfl (by omega) ?_
                      refine RP.nil ?_
                      refine WP.cond_f rfl ?_
                      refine WP.skip ?_
                      refine WP.region ?_
                      refine RP.move rfl rfl ?_
                      refine RP.add rfl rfl rfl (by omega) (by omega) ?_
                      refine RP.assign rfl rfl ?_
                      refine RP.nil ?_
                      refine roundQ.mk (Q := fun _ _ _ => True) (i + 1, v117, p117, [gd[nn]]) ⟨rfl, rfl, rfl, rfl, rfl, rfl, rfl, trivial⟩ (.cons (by repeat (first | exact .here | apply HRem.there | apply HRem.app)) (.cons (by repeat (first | exact .here | apply HRem.there | apply HRem.app)) (.cons (by repeat (first | exact .here | apply HRem.there | apply HRem.app)) .nil))) (by
                        try dsimp only
                        exact ⟨by omega, hl117, fun x hx => by obtain rfl := List.mem_singleton.1 hx; exact hz.1, by simp, fun _ => hz.2.2⟩) (by
                        try dsimp only
                        omega)
                    · skip
                      obtain ⟨nn, hnn⟩ : ∃ nn : Nat, nn = 0 := ⟨_, rfl⟩
                      refine RP.nil ?_
                      refine WP.cond_f rfl ?_
                      refine WP.skip ?_
                      refine WP.seq ?_
                      have hnl : nn < gd.length := by first | (rw [hnn]; exact Nat.mod_lt _ hgl) | omega
                      have hz := hstep.2 gd[nn] (List.getElem_mem hnl)
                      have hzs := hz.1.2
                      have htl : i < tags.length := by have := hsp.len_ok hc64; omega
                      have htg : m.spots[gd[nn].toNat].tag = tags[i] := by
                        have h1 := hz.2.1
                        unfold tagOf at h1
                        rw [List.getElem?_eq_getElem hzs, List.getElem?_eq_getElem htl] at h1
                        exact (Option.some.inj h1).symm
                      refine WP.region ?_
                      refine RP.move rfl rfl ?_
                      refine RP.move rfl rfl ?_
                      refine RP.at_ rfl rfl rfl (natOf_is (n := nn) (by omega)) rfl rfl (.lin fI_len hK2 (by repeat (first | exact .here | apply HIn.there | apply HIn.app))) (by first | assumption | omega) ?_
                      refine RP.load_el rfl rfl rfl rfl (.lin fI_len hK2 (by repeat (first | exact .here | apply HIn.there | apply HIn.app))) (by first | assumption | omega) rfl ?_
                      refine RP.bslice [gd[nn]] rfl rfl rfl rfl rfl rfl rfl rfl rfl rfl fI_len ?_
                      intro v117 p117 hl117
                      refine RP.assign rfl rfl ?_
                      refine RP.nil ?_
                      refine WP.seq ?_
                      refine WP.drawn (by kernel_rfl) ?_
                      refine RP.faddr rfl rfl rfl ?_
                      refine RP.load_box rfl rfl rfl rfl (by repeat (first | exact .here | apply HIn.there | apply HIn.app)) rfl ?_
                      refine RP.move rfl rfl ?_
                      refine RP.move rfl rfl ?_
                      refine RP.at_ rfl rfl rfl (natOf_is (n := nn) (by omega)) rfl rfl (.lin fI_len hK2 (by repeat (first | exact .here | apply HIn.there | apply HIn.app))) (by first | assumption | omega) ?_
                      refine RP.load_el rfl rfl rfl rfl (.lin fI_len hK2 (by repeat (first | exact .here | apply HIn.there | apply HIn.app))) (by first | assumption | omega) rfl ?_
                      refine RP.at_ rfl rfl rfl (natOf_is (n := gd[nn].toNat) (by omega)) rfl rfl (.arg hm.spots) (by first | assumption | omega) ?_
                      first | refine RP.faddr_p rfl rfl rfl rfl rfl (.arg hm.spots) (by first | assumption | omega) ?_ | refine RP.faddr_p rfl rfl rfl rfl rfl (.arg hm.first) (by first | assumption | omega) ?_ | refine RP.faddr_p rfl rfl rfl rfl rfl (.arg hm.follow) (by first | assumption | omega) ?_ | refine RP.faddr_p rfl rfl rfl rfl rfl (.arg hm.last) (by first | assumption | omega) ?_
                      first | refine RP.load_el rfl rfl rfl rfl (.arg hm.spots) (by first | assumption | omega) rfl ?_ | refine RP.load_el rfl rfl rfl rfl (.arg hm.first) (by first | assumption | omega) rfl ?_ | refine RP.load_el rfl rfl rfl rfl (.arg hm.follow) (by first | assumption | omega) rfl ?_ | refine RP.load_el rfl rfl rfl rfl (.arg hm.last) (by first | assumption | omega) rfl ?_
                      refine RP.move rfl rfl ?_
                      refine RP.move rfl rfl ?_
                      refine RP.at_ rfl rfl rfl rfl rfl rfl (.lin fU_len hl31 (by repeat (first | exact .here | apply HIn.there | apply HIn.app))) (by first | assumption | omega) ?_
                      refine RP.load_el rfl rfl rfl rfl (.lin fU_len hl31 (by repeat (first | exact .here | apply HIn.there | apply HIn.app))) (by first | assumption | omega) rfl ?_
                      refine RP.neq_f rfl rfl rfl (by omega) ?_
                      refine RP.nil ?_
                      refine WP.cond_f rfl ?_
                      refine WP.skip ?_
                      refine WP.region ?_
                      refine RP.move rfl rfl ?_
                      refine RP.add rfl rfl rfl (by omega) (by omega) ?_
                      refine RP.assign rfl rfl ?_
                      refine RP.nil ?_
                      refine roundQ.mk (Q := fun _ _ _ => True) (i + 1, v117, p117, [gd[nn]]) ⟨rfl, rfl, rfl, rfl, rfl, rfl, rfl, trivial⟩ (.cons (by repeat (first | exact .here | apply HRem.there | apply HRem.app)) (.cons (by repeat (first | exact .here | apply HRem.there | apply HRem.app)) (.cons (by repeat (first | exact .here | apply HRem.there | apply HRem.app)) .nil))) (by
                        try dsimp only
                        exact ⟨by omega, hl117, fun x hx => by obtain rfl := List.mem_singleton.1 hx; exact hz.1, by simp, fun _ => hz.2.2⟩) (by
                        try dsimp only
                        omega)
              · skip
                refine WP.exit ?_
                refine WP.seq ?_
                refine WP.region ?_
                refine RP.call rfl rfl rfl hlo (fun st' lo' hi' hl' => awake_ok) ?_
                rintro _ _ ⟨rfl, rfl⟩
                refine RP.assign rfl rfl ?_
                refine RP.nil ?_
                refine WP.ret ?_
                exact End.one (Or.inr rfl) rfl (.tmp rfl) .nil ⟨rfl, rfl⟩
            · skip
              refine RP.move rfl rfl ?_
              refine RP.gfalse rfl rfl ?_
              refine RP.pick_ rfl rfl rfl ?_
              refine RP.nil ?_
              refine WP.cond_f rfl ?_
              refine WP.exit ?_
              refine WP.seq ?_
              refine WP.region ?_
              refine RP.call rfl rfl rfl hlo (fun st' lo' hi' hl' => awake_ok) ?_
              rintro _ _ ⟨rfl, rfl⟩
              refine RP.assign rfl rfl ?_
              refine RP.nil ?_
              refine WP.ret ?_
              exact End.one (Or.inr rfl) rfl (.tmp rfl) .nil ⟨rfl, rfl⟩
          · skip
            refine RP.gfalse rfl rfl ?_
            refine RP.gfalse rfl rfl ?_
            refine RP.gfalse rfl rfl ?_
            refine RP.gtrue rfl ?_
            refine RP.pick_ rfl rfl rfl ?_
            refine RP.pick_ rfl rfl rfl ?_
            refine RP.nil ?_
            refine WP.cond_f rfl ?_
            refine WP.skip ?_
            refine WP.seq ?_
            refine WP.ghost .dead ?_
            refine WP.region ?_
            refine RP.assign rfl rfl ?_
            refine RP.nil ?_
            refine WP.seq ?_
            refine WP.seq ?_
            refine WP.region ?_
            refine RP.assign rfl rfl ?_
            refine RP.nil ?_
            refine WP.block rfl ?_
            refine WP.loop (α := Nat × LV × HE × List Int) (fun gh => [(1, .str w), (2, vc), (3, .ptr (.own L3) 0), (7, v'), (8, .bool ok), (9, gh.2.1), (10, .int .i64 (gh.1 : Int))]) (fun gh => [(some L3, .cells (mv a b c d m).cells), pm, gh.2.2.1]) (fun gh => gh.1 ≤ w.size ∧ Lin 1 fI true gh.2.1 gh.2.2.2 gh.2.2.1 ∧ (∀ x ∈ gh.2.2.2, 0 ≤ x ∧ x.toNat < m.spots.length) ∧ gh.2.2.2.length ≤ 1 ∧ (ok = true → AllI m w.data.toList tags gh.1 gh.2.2.2)) (fun gh => w.size - gh.1) ?_ (0, .nilsl, (none, .dead), []) ⟨rfl, rfl, rfl, rfl, rfl, rfl, rfl, trivial⟩ (.cons (by repeat (first | exact .here | apply HRem.there | apply HRem.app)) (.cons (by repeat (first | exact .here | apply HRem.there | apply HRem.app)) (.cons (by repeat (first | exact .here | apply HRem.there | apply HRem.app)) .nil))) (by
              try dsimp only
              exact ⟨Nat.zero_le _, .nil, by simp, Nat.zero_le _, fun ho => AllI.start (hsp.mark ho)⟩)
            rintro ⟨i, va, pa, ys⟩ hI
            change i ≤ w.size ∧ Lin 1 fI true va ys pa ∧ (∀ x ∈ ys, 0 ≤ x ∧ x.toNat < m.spots.length) ∧ ys.length ≤ 1 ∧ (ok = true → AllI m w.data.toList tags i ys) at hI
            change WP _ _ _ _ _ [(1, .str w), (2, vc), (3, .ptr (.own L3) 0), (7, v'), (8, .bool ok), (9, va), (10, .int .i64 (i : Int))] ([(some L3, .cells (mv a b c d m).cells), pm, pa] : HL) _
            obtain ⟨hI1, hI2, hI3, hI4, hI5⟩ := hI
            refine WP.seq ?_
            refine WP.seq ?_
            refine WP.region ?_
            refine RP.move rfl rfl ?_
            refine RP.move rfl rfl ?_
            refine RP.len_v rfl rfl (fun _ => rfl) ?_
            refine RP.lss rfl rfl rfl (fun h61 => ?_) (fun h61 => ?_)
            · skip
              have hlw : i < w.data.toList.length := by omega
              refine RP.move rfl rfl ?_
              refine RP.gtrue rfl ?_
              refine RP.move rfl rfl ?_
              refine RP.pick_ rfl rfl rfl ?_
              refine RP.nil ?_
              refine WP.cond_b rfl (fun hc64 => ?_) (fun hc64 => ?_)
              · skip
                refine WP.skip ?_
                refine WP.seq ?_
                refine WP.block rfl ?_
                refine WP.seq ?_
                refine WP.drawn (by kernel_rfl) ?_
                refine RP.load_boxN rfl rfl rfl rfl rfl (by repeat (first | exact .here | apply HIn.there | apply HIn.app)) rfl ?_
                refine RP.move rfl rfl ?_
                refine RP.move rfl rfl ?_
                refine RP.eql rfl rfl rfl (fun h70 => ?_) (fun h70 => ?_)
                · skip
                  refine RP.move rfl rfl ?_
                  refine RP.move rfl rfl ?_
                  refine RP.idx_str rfl rfl rfl rfl rfl (List.getElem?_eq_getElem (by first | assumption | omega)) ?_
                  refine RP.call rfl rfl rfl hlo (fun st' lo' hi' hl' => step_ok hl' (hm.inv hi') hgd hok (by omega) (by omega) (fun j hj => by have := h05 j hj; omega) (SlH.lin fI_len hI2 (by repeat (first | exact .here | apply HIn.there | apply HIn.app)) _ hi') (by omega) hI3) ?_
                  rintro v74 _ ⟨p74, rfl, hl74⟩
                  obtain ⟨ls, hls⟩ : ∃ ls, ls = stepF m ys (decide (i = 0)) w.data.toList[i] := ⟨_, rfl⟩
                  replace hl74 : Lin 1 fI true v74 ls p74 := by
                    have e : decide (i = 0) = true := decide_eq_true (by omega)
                    rw [hls, e]; exact hl74
                  have hlr : ∀ x ∈ ls, 0 ≤ x ∧ x.toNat < m.spots.length := hls ▸ stepF_range
                  have hll : ls.length ≤ 60 := by rw [hls]; exact Nat.le_trans stepF_len h01
                  refine RP.assign rfl rfl ?_
                  refine RP.nil ?_
                  refine WP.seq ?_
                  refine WP.ghost .dead ?_
                  refine WP.region ?_
                  refine RP.assign rfl rfl ?_
                  refine RP.nil ?_
                  refine WP.seq ?_
                  refine WP.seq ?_
                  refine WP.region ?_
                  refine RP.assign rfl rfl ?_
                  refine RP.nil ?_
                  refine WP.block rfl ?_
                  refine WP.loop (α := Nat × LV × HE) (fun gh => [(1, .str w), (2, vc), (3, .ptr (.own L3) 0), (7, v'), (8, .bool ok), (10, .int .i64 (i : Int)), (11, v74), (12, gh.2.1), (13, .int .i64 (gh.1 : Int))]) (fun gh => [(some L3, .cells (mv a b c d m).cells), pm, p74, gh.2.2]) (fun gh => gh.1 ≤ ls.length ∧ Lin 1 fI true gh.2.1 ((ls.take gh.1).filter fun x => goW m (w.data.toList.drop (i + 1)) x.toNat) gh.2.2) (fun gh => ls.length - gh.1) ?_ (0, .nilsl, (none, .dead)) ⟨rfl, rfl, rfl, rfl, rfl, rfl, rfl, rfl, rfl, trivial⟩ (.cons (by repeat (first | exact .here | apply HRem.there | apply HRem.app)) (.cons (by repeat (first | exact .here | apply HRem.there | apply HRem.app)) (.cons (by repeat (first | exact .here | apply HRem.there | apply HRem.app)) (.cons (by repeat (first | exact .here | apply HRem.there | apply HRem.app)) .nil)))) (by
                    try dsimp only
                    exact ⟨Nat.zero_le _, .nil⟩)
                  rintro ⟨k, vg, pg⟩ hI
                  change k ≤ ls.length ∧ Lin 1 fI true vg ((ls.take k).filter fun x => goW m (w.data.toList.drop (i + 1)) x.toNat) pg at hI
                  change WP _ _ _ _ _ [(1, .str w), (2, vc), (3, .ptr (.own L3) 0), (7, v'), (8, .bool ok), (10, .int .i64 (i : Int)), (11, v74), (12, vg), (13, .int .i64 (k : Int))] ([(some L3, .cells (mv a b c d m).cells), pm, p74, pg] : HL) _
                  obtain ⟨hK1, hK2⟩ := hI
                  have hkf := List.length_filter_le (fun x : Int => goW m (w.data.toList.drop (i + 1)) x.toNat) (ls.take k)
                  rw [List.length_take] at hkf
                  refine WP.seq ?_
                  refine WP.seq ?_
                  refine WP.region ?_
                  refine RP.move rfl rfl ?_
                  refine RP.move rfl rfl ?_
                  refine RP.len_sl rfl rfl (.lin fI_len hl74 (by repeat (first | exact .here | apply HIn.there | apply HIn.app))) rfl ?_
                  refine RP.lss rfl rfl rfl (fun h78 => ?_) (fun h78 => ?_)
                  · skip
                    have hlk : k < ls.length := by omega
                    have hx := hlr ls[k] (List.getElem_mem hlk)
                    have hws : (w.extract (i + 1) w.size).data.toList = w.data.toList.drop (i + 1) := by rw [ByteArray.data_extract, Array.toList_extract, List.extract, List.take_of_length_le (by rw [List.length_drop, hwl]; exact Nat.le_refl _)]
                    have hrs : (w.extract (i + 1) w.size).size = w.size - (i + 1) := by rw [size_list, hws, List.length_drop, hwl]
                    refine RP.nil ?_
                    refine WP.cond_t rfl ?_
                    refine WP.skip ?_
                    refine WP.seq ?_
                    refine WP.block rfl ?_
                    refine WP.seq ?_
                    refine WP.drawn (by kernel_rfl) ?_
                    refine RP.load_boxN rfl rfl rfl rfl rfl (by repeat (first | exact .here | apply HIn.there | apply HIn.app)) rfl ?_
                    refine RP.move rfl rfl ?_
                    refine RP.move rfl rfl ?_
                    refine RP.at_ rfl rfl rfl rfl rfl rfl (.lin fI_len hl74 (by repeat (first | exact .here | apply HIn.there | apply HIn.app))) (by first | assumption | omega) ?_
                    refine RP.load_el rfl rfl rfl rfl (.lin fI_len hl74 (by repeat (first | exact .here | apply HIn.there | apply HIn.app))) (by first | assumption | omega) rfl ?_
                    refine RP.move rfl rfl ?_
                    refine RP.move rfl rfl ?_
                    refine RP.add rfl rfl rfl (by omega) (by omega) ?_
                    refine RP.rest_str rfl rfl rfl (natOf_is (n := i + 1) (by omega)) rfl (by omega) ?_
                    refine RP.call (Q := fun v H => v = LV.bool (goW m (w.extract (i + 1) w.size).data.toList ls[k].toNat) ∧ H = []) rfl rfl rfl hlo (fun st' lo' hi' hl' => goes_ok hl' (hm.inv hi') h0 hgd hok (w := w.extract (i + 1) w.size) (z := ls[k]'hlk) (by rw [hrs]; omega) (n := (ls[k]'hlk).toNat) (by omega) hx.2) ?_
                    rintro _ _ ⟨rfl, rfl⟩
                    refine RP.nil ?_
                    refine WP.cond_b rfl (fun hc90 => ?_) (fun hc90 => ?_)
                    · skip
                      refine WP.region ?_
                      refine RP.move rfl rfl ?_
                      refine RP.move rfl rfl ?_
                      refine RP.move rfl rfl ?_
                      refine RP.at_ rfl rfl rfl rfl rfl rfl (.lin fI_len hl74 (by repeat (first | exact .here | apply HIn.there | apply HIn.app))) (by first | assumption | omega) ?_
                      refine RP.load_el rfl rfl rfl rfl (.lin fI_len hl74 (by repeat (first | exact .here | apply HIn.there | apply HIn.app))) (by first | assumption | omega) rfl ?_
                      refine RP.bslice [ls[k]] rfl rfl rfl rfl rfl rfl rfl rfl rfl rfl fI_len ?_
                      intro v96 p96 hl96
                      refine RP.append rfl rfl rfl rfl rfl rfl rfl rfl hK2 (fun _ => (by repeat (first | exact .here | apply HUpd.there | apply HUpd.app))) (.lin fI_len hl96 (by repeat (first | exact .here | apply HIn.there | apply HIn.app))) (flat_all fI_sc _) (by simp only [List.length_singleton]; omega) (fun e => (by first | rfl | cases e)) hlo ?_
                      intro v97 p97 hl97
                      refine RP.assign rfl rfl ?_
                      refine RP.nil ?_
                      refine WP.region ?_
                      refine RP.move rfl rfl ?_
                      refine RP.add rfl rfl rfl (by omega) (by omega) ?_
                      refine RP.assign rfl rfl ?_
                      refine RP.nil ?_
                      refine roundQ.mk (Q := fun _ _ _ => True) (k + 1, v97, p97) ⟨rfl, rfl, rfl, rfl, rfl, rfl, rfl, rfl, rfl, trivial⟩ (.cons (by repeat (first | exact .here | apply HRem.there | apply HRem.app)) (.cons (by repeat (first | exact .here | apply HRem.there | apply HRem.app)) (.cons (by repeat (first | exact .here | apply HRem.there | apply HRem.app)) (.cons (by repeat (first | exact .here | apply HRem.there | apply HRem.app)) .nil)))) (by
                        try dsimp only
                        exact ⟨by omega, by rw [filter_step hlk, if_pos (by rw [← hws]; exact hc90)]; exact hl97⟩) (by
                        try dsimp only
                        omega)
                    · skip
                      refine WP.skip ?_
                      refine WP.region ?_
                      refine RP.move rfl rfl ?_
                      refine RP.add rfl rfl rfl (by omega) (by omega) ?_
                      refine RP.assign rfl rfl ?_
                      refine RP.nil ?_
                      refine roundQ.mk (Q := fun _ _ _ => True) (k + 1, vg, pg) ⟨rfl, rfl, rfl, rfl, rfl, rfl, rfl, rfl, rfl, trivial⟩ (.cons (by repeat (first | exact .here | apply HRem.there | apply HRem.app)) (.cons (by repeat (first | exact .here | apply HRem.there | apply HRem.app)) (.cons (by repeat (first | exact .here | apply HRem.there | apply HRem.app)) (.cons (by repeat (first | exact .here | apply HRem.there | apply HRem.app)) .nil)))) (by
                        try dsimp only
                        exact ⟨by omega, by rw [filter_step hlk, if_neg (by rw [← hws, hc90]; exact Bool.false_ne_true), List.append_nil]; exact hK2⟩) (by
                        try dsimp only
                        omega)
                  · skip
                    refine RP.nil ?_
                    refine WP.cond_f rfl ?_
                    refine WP.exit ?_
                    refine WP.seq ?_
                    refine WP.seq ?_
                    have hlse : ls.take k = ls := List.take_of_length_le (by omega)
                    rw [hlse] at hK2 hkf
                    obtain ⟨gd, hgdE⟩ : ∃ gd, gd = ls.filter fun x => goW m (w.data.toList.drop (i + 1)) x.toNat := ⟨_, rfl⟩
                    rw [← hgdE] at hK2 hkf
                    have hstep := AllI.step (fs := decide (i = 0)) hS (hI5 hc64) hlw rfl
                    rw [← hls, ← hgdE] at hstep
                    have hgl : 0 < gd.length := List.length_pos_iff.2 hstep.1
                    refine WP.region ?_
                    refine RP.move rfl rfl ?_
                    refine RP.len_sl rfl rfl (.lin fI_len hK2 (by repeat (first | exact .here | apply HIn.there | apply HIn.app))) rfl ?_
                    refine RP.eql_f rfl rfl rfl (by omega) ?_
                    refine RP.nil ?_
                    refine WP.cond_f rfl ?_
                    refine WP.skip ?_
                    refine WP.seq ?_
                    refine WP.region ?_
                    refine RP.assign rfl rfl ?_
                    refine RP.nil ?_
                    refine WP.seq ?_
                    refine WP.seq ?_
                    refine WP.region ?_
                    refine RP.move rfl rfl ?_
                    refine RP.move rfl rfl ?_
                    refine RP.len_sl rfl rfl (.arg hvc) rfl ?_
                    refine RP.lss rfl rfl rfl (fun h104 => ?_) (fun h104 => ?_)
                    · skip
                      have hltb : i < bs.length := by omega
                      have hb8 : bs[i].toNat < 256 := bs[i].toNat_lt
                      refine RP.nil ?_
                      refine WP.cond_t rfl ?_
                      refine WP.region ?_
                      refine RP.move rfl rfl ?_
                      refine RP.move rfl rfl ?_
                      refine RP.at_ rfl rfl rfl rfl rfl rfl (.arg hvc) (by first | assumption | omega) ?_
                      refine RP.load_el rfl rfl rfl rfl (.arg hvc) (by first | assumption | omega) rfl ?_
                      refine RP.conv (v := .int .i64 (bs[i].toNat : Int)) rfl rfl (fun _ => by show some (LV.int .i64 _, _) = _; rw [IntWalk.i64_in _ ⟨by omega, by omega⟩]) ?_
                      refine RP.move rfl rfl ?_
                      refine RP.len_sl rfl rfl (.lin fI_len hK2 (by repeat (first | exact .here | apply HIn.there | apply HIn.app))) rfl ?_
                      obtain ⟨nn, hnn⟩ : ∃ nn : Nat, nn = bs[i].toNat % gd.length := ⟨_, rfl⟩
                      refine RP.bin (v := .int .i64 (nn : Int)) rfl rfl rfl (by show (if _ then _ else _) = some (LV.int .i64 _); rw [if_neg (by omega), Int.tmod_eq_emod_of_nonneg (by omega), hnn]; rfl) ?_
                      refine RP.assign rfl rfl ?_
                      refine RP.nil ?_
                      refine WP.seq ?_
                      have hnl : nn < gd.length := by first | (rw [hnn]; exact Nat.mod_lt _ hgl) | omega
                      have hz := hstep.2 gd[nn] (List.getElem_mem hnl)
                      have hzs := hz.1.2
                      have htl : i < tags.length := by have := hsp.len_ok hc64; omega
                      have htg : m.spots[gd[nn].toNat].tag = tags[i] := by
                        have h1 := hz.2.1
                        unfold tagOf at h1
                        rw [List.getElem?_eq_getElem hzs, List.getElem?_eq_getElem htl] at h1
                        exact (Option.some.inj h1).symm
                      refine WP.region ?_
                      refine RP.move rfl rfl ?_
                      refine RP.move rfl rfl ?_
                      refine RP.at_ rfl rfl rfl (natOf_is (n := nn) (by omega)) rfl rfl (.lin fI_len hK2 (by repeat (first | exact .here | apply HIn.there | apply HIn.app))) (by first | assumption | omega) ?_
                      refine RP.load_el rfl rfl rfl rfl (.lin fI_len hK2 (by repeat (first | exact .here | apply HIn.there | apply HIn.app))) (by first | assumption | omega) rfl ?_
                      refine RP.bslice [gd[nn]] rfl rfl rfl rfl rfl rfl rfl rfl rfl rfl fI_len ?_
                      intro v117 p117 hl117
                      refine RP.assign rfl rfl ?_
                      refine RP.nil ?_
                      refine WP.seq ?_
                      refine WP.drawn (by kernel_rfl) ?_
                      refine RP.faddr rfl rfl rfl ?_
                      refine RP.load_box rfl rfl rfl rfl (by repeat (first | exact .here | apply HIn.there | apply HIn.app)) rfl ?_
                      refine RP.move rfl rfl ?_
                      refine RP.move rfl rfl ?_
                      refine RP.at_ rfl rfl rfl (natOf_is (n := nn) (by omega)) rfl rfl (.lin fI_len hK2 (by repeat (first | exact .here | apply HIn.there | apply HIn.app))) (by first | assumption | omega) ?_
                      refine RP.load_el rfl rfl rfl rfl (.lin fI_len hK2 (by repeat (first | exact .here | apply HIn.there | apply HIn.app))) (by first | assumption | omega) rfl ?_
                      refine RP.at_ rfl rfl rfl (natOf_is (n := gd[nn].toNat) (by omega)) rfl rfl (.arg hm.spots) (by first | assumption | omega) ?_
                      first | refine RP.faddr_p rfl rfl rfl rfl rfl (.arg hm.spots) (by first | assumption | omega) ?_ | refine RP.faddr_p rfl rfl rfl rfl rfl (.arg hm.first) (by first | assumption | omega) ?_ | refine RP.faddr_p rfl rfl rfl rfl rfl (.arg hm.follow) (by first | assumption | omega) ?_ | refine RP.faddr_p rfl rfl rfl rfl rfl (.arg hm.last) (by first | assumption | omega) ?_
                      first | refine RP.load_el rfl rfl rfl rfl (.arg hm.spots) (by first | assumption | omega) rfl ?_ | refine RP.load_el rfl rfl rfl rfl (.arg hm.first) (by first | assumption | omega) rfl ?_ | refine RP.load_el rfl rfl rfl rfl (.arg hm.follow) (by first | assumption | omega) rfl ?_ | refine RP.load_el rfl rfl rfl rfl (.arg hm.last) (by first | assumption | omega) rfl ?_
                      refine RP.move rfl rfl ?_
                      refine RP.move rfl rfl ?_
                      refine RP.at_ rfl rfl rfl rfl rfl rfl (.lin fU_len hl31 (by repeat (first | exact .here | apply HIn.there | apply HIn.app))) (by first | assumption | omega) ?_
                      refine RP.load_el rfl rfl rfl rfl (.lin fU_len hl31 (by repeat (first | exact .here | apply HIn.there | apply HIn.app))) (by first | assumption | omega) rfl ?_
                      refine RP.neq_f rfl rfl rfl (by omega) ?_
                      refine RP.nil ?_
                      refine WP.cond_f rfl ?_
                      refine WP.skip ?_
                      refine WP.region ?_
                      refine RP.move rfl rfl ?_
                      refine RP.add rfl rfl rfl (by omega) (by omega) ?_
                      refine RP.assign rfl rfl ?_
                      refine RP.nil ?_
                      refine roundQ.mk (Q := fun _ _ _ => True) (i + 1, v117, p117, [gd[nn]]) ⟨rfl, rfl, rfl, rfl, rfl, rfl, rfl, trivial⟩ (.cons (by repeat (first | exact .here | apply HRem.there | apply HRem.app)) (.cons (by repeat (first | exact .here | apply HRem.there | apply HRem.app)) (.cons (by repeat (first | exact .here | apply HRem.there | apply HRem.app)) .nil))) (by
                        try dsimp only
                        exact ⟨by omega, hl117, fun x hx => by obtain rfl := List.mem_singleton.1 hx; exact hz.1, by simp, fun _ => hz.2.2⟩) (by
                        try dsimp only
                        omega)
                    · skip
                      obtain ⟨nn, hnn⟩ : ∃ nn : Nat, nn = 0 := ⟨_, rfl⟩
                      refine RP.nil ?_
                      refine WP.cond_f rfl ?_
                      refine WP.skip ?_
                      refine WP.seq ?_
                      have hnl : nn < gd.length := by first | (rw [hnn]; exact Nat.mod_lt _ hgl) | omega
                      have hz := hstep.2 gd[nn] (List.getElem_mem hnl)
                      have hzs := hz.1.2
                      have htl : i < tags.length := by have := hsp.len_ok hc64; omega
                      have htg : m.spots[gd[nn].toNat].tag = tags[i] := by
                        have h1 := hz.2.1
                        unfold tagOf at h1
                        rw [List.getElem?_eq_getElem hzs, List.getElem?_eq_getElem htl] at h1
                        exact (Option.some.inj h1).symm
                      refine WP.region ?_
                      refine RP.move rfl rfl ?_
                      refine RP.move rfl rfl ?_
                      refine RP.at_ rfl rfl rfl (natOf_is (n := nn) (by omega)) rfl rfl (.lin fI_len hK2 (by repeat (first | exact .here | apply HIn.there | apply HIn.app))) (by first | assumption | omega) ?_
                      refine RP.load_el rfl rfl rfl rfl (.lin fI_len hK2 (by repeat (first | exact .here | apply HIn.there | apply HIn.app))) (by first | assumption | omega) rfl ?_
                      refine RP.bslice [gd[nn]] rfl rfl rfl rfl rfl rfl rfl rfl rfl rfl fI_len ?_
                      intro v117 p117 hl117
                      refine RP.assign rfl rfl ?_
                      refine RP.nil ?_
                      refine WP.seq ?_
                      refine WP.drawn (by kernel_rfl) ?_
                      refine RP.faddr rfl rfl rfl ?_
                      refine RP.load_box rfl rfl rfl rfl (by repeat (first | exact .here | apply HIn.there | apply HIn.app)) rfl ?_
                      refine RP.move rfl rfl ?_
                      refine RP.move rfl rfl ?_
                      refine RP.at_ rfl rfl rfl (natOf_is (n := nn) (by omega)) rfl rfl (.lin fI_len hK2 (by repeat (first | exact .here | apply HIn.there | apply HIn.app))) (by first | assumption | omega) ?_
                      refine RP.load_el rfl rfl rfl rfl (.lin fI_len hK2 (by repeat (first | exact .here | apply HIn.there | apply HIn.app))) (by first | assumption | omega) rfl ?_
                      refine RP.at_ rfl rfl rfl (natOf_is (n := gd[nn].toNat) (by omega)) rfl rfl (.arg hm.spots) (by first | assumption | omega) ?_
                      first | refine RP.faddr_p rfl rfl rfl rfl rfl (.arg hm.spots) (by first | assumption | omega) ?_ | refine RP.faddr_p rfl rfl rfl rfl rfl (.arg hm.first) (by first | assumption | omega) ?_ | refine RP.faddr_p rfl rfl rfl rfl rfl (.arg hm.follow) (by first | assumption | omega) ?_ | refine RP.faddr_p rfl rfl rfl rfl rfl (.arg hm.last) (by first | assumption | omega) ?_
                      first | refine RP.load_el rfl rfl rfl rfl (.arg hm.spots) (by first | assumption | omega) rfl ?_ | refine RP.load_el rfl rfl rfl rfl (.arg hm.first) (by first | assumption | omega) rfl ?_ | refine RP.load_el rfl rfl rfl rfl (.arg hm.follow) (by first | assumption | omega) rfl ?_ | refine RP.load_el rfl rfl rfl rfl (.arg hm.last) (by first | assumption | omega) rfl ?_
                      refine RP.move rfl rfl ?_
                      refine RP.move rfl rfl ?_
                      refine RP.at_ rfl rfl rfl rfl rfl rfl (.lin fU_len hl31 (by repeat (first | exact .here | apply HIn.there | apply HIn.app))) (by first | assumption | omega) ?_
                      refine RP.load_el rfl rfl rfl rfl (.lin fU_len hl31 (by repeat (first | exact .here | apply HIn.there | apply HIn.app))) (by first | assumption | omega) rfl ?_
                      refine RP.neq_f rfl rfl rfl (by omega) ?_
                      refine RP.nil ?_
                      refine WP.cond_f rfl ?_
                      refine WP.skip ?_
                      refine WP.region ?_
                      refine RP.move rfl rfl ?_
                      refine RP.add rfl rfl rfl (by omega) (by omega) ?_
                      refine RP.assign rfl rfl ?_
                      refine RP.nil ?_
                      refine roundQ.mk (Q := fun _ _ _ => True) (i + 1, v117, p117, [gd[nn]]) ⟨rfl, rfl, rfl, rfl, rfl, rfl, rfl, trivial⟩ (.cons (by repeat (first | exact .here | apply HRem.there | apply HRem.app)) (.cons (by repeat (first | exact .here | apply HRem.there | apply HRem.app)) (.cons (by repeat (first | exact .here | apply HRem.there | apply HRem.app)) .nil))) (by
                        try dsimp only
                        exact ⟨by omega, hl117, fun x hx => by obtain rfl := List.mem_singleton.1 hx; exact hz.1, by simp, fun _ => hz.2.2⟩) (by
                        try dsimp only
                        omega)
                · skip
                  refine RP.move rfl rfl ?_
                  refine RP.move rfl rfl ?_
                  refine RP.idx_str rfl rfl rfl rfl rfl (List.getElem?_eq_getElem (by first | assumption | omega)) ?_
                  refine RP.call rfl rfl rfl hlo (fun st' lo' hi' hl' => step_ok hl' (hm.inv hi') hgd hok (by omega) (by omega) (fun j hj => by have := h05 j hj; omega) (SlH.lin fI_len hI2 (by repeat (first | exact .here | apply HIn.there | apply HIn.app)) _ hi') (by omega) hI3) ?_
                  rintro v74 _ ⟨p74, rfl, hl74⟩
                  obtain ⟨ls, hls⟩ : ∃ ls, ls = stepF m ys (decide (i = 0)) w.data.toList[i] := ⟨_, rfl⟩
                  replace hl74 : Lin 1 fI true v74 ls p74 := by
                    have e : decide (i = 0) = false := decide_eq_false (by omega)
                    rw [hls, e]; exact hl74
                  have hlr : ∀ x ∈ ls, 0 ≤ x ∧ x.toNat < m.spots.length := hls ▸ stepF_range
                  have hll : ls.length ≤ 60 := by rw [hls]; exact Nat.le_trans stepF_len h01
                  refine RP.assign rfl rfl ?_
                  refine RP.nil ?_
                  refine WP.seq ?_
                  refine WP.ghost .dead ?_
                  refine WP.region ?_
                  refine RP.assign rfl rfl ?_
                  refine RP.nil ?_
                  refine WP.seq ?_
                  refine WP.seq ?_
                  refine WP.region ?_
                  refine RP.assign rfl rfl ?_
                  refine RP.nil ?_
                  refine WP.block rfl ?_
                  refine WP.loop (α := Nat × LV × HE) (fun gh => [(1, .str w), (2, vc), (3, .ptr (.own L3) 0), (7, v'), (8, .bool ok), (10, .int .i64 (i : Int)), (11, v74), (12, gh.2.1), (13, .int .i64 (gh.1 : Int))]) (fun gh => [(some L3, .cells (mv a b c d m).cells), pm, p74, gh.2.2]) (fun gh => gh.1 ≤ ls.length ∧ Lin 1 fI true gh.2.1 ((ls.take gh.1).filter fun x => goW m (w.data.toList.drop (i + 1)) x.toNat) gh.2.2) (fun gh => ls.length - gh.1) ?_ (0, .nilsl, (none, .dead)) ⟨rfl, rfl, rfl, rfl, rfl, rfl, rfl, rfl, rfl, trivial⟩ (.cons (by repeat (first | exact .here | apply HRem.there | apply HRem.app)) (.cons (by repeat (first | exact .here | apply HRem.there | apply HRem.app)) (.cons (by repeat (first | exact .here | apply HRem.there | apply HRem.app)) (.cons (by repeat (first | exact .here | apply HRem.there | apply HRem.app)) .nil)))) (by
                    try dsimp only
                    exact ⟨Nat.zero_le _, .nil⟩)
                  rintro ⟨k, vg, pg⟩ hI
                  change k ≤ ls.length ∧ Lin 1 fI true vg ((ls.take k).filter fun x => goW m (w.data.toList.drop (i + 1)) x.toNat) pg at hI
                  change WP _ _ _ _ _ [(1, .str w), (2, vc), (3, .ptr (.own L3) 0), (7, v'), (8, .bool ok), (10, .int .i64 (i : Int)), (11, v74), (12, vg), (13, .int .i64 (k : Int))] ([(some L3, .cells (mv a b c d m).cells), pm, p74, pg] : HL) _
                  obtain ⟨hK1, hK2⟩ := hI
                  have hkf := List.length_filter_le (fun x : Int => goW m (w.data.toList.drop (i + 1)) x.toNat) (ls.take k)
                  rw [List.length_take] at hkf
                  refine WP.seq ?_
                  refine WP.seq ?_
                  refine WP.region ?_
                  refine RP.move rfl rfl ?_
                  refine RP.move rfl rfl ?_
                  refine RP.len_sl rfl rfl (.lin fI_len hl74 (by repeat (first | exact .here | apply HIn.there | apply HIn.app))) rfl ?_
                  refine RP.lss rfl rfl rfl (fun h78 => ?_) (fun h78 => ?_)
                  · skip
                    have hlk : k < ls.length := by omega
                    have hx := hlr ls[k] (List.getElem_mem hlk)
                    have hws : (w.extract (i + 1) w.size).data.toList = w.data.toList.drop (i + 1) := by rw [ByteArray.data_extract, Array.toList_extract, List.extract, List.take_of_length_le (by rw [List.length_drop, hwl]; exact Nat.le_refl _)]
                    have hrs : (w.extract (i + 1) w.size).size = w.size - (i + 1) := by rw [size_list, hws, List.length_drop, hwl]
                    refine RP.nil ?_
                    refine WP.cond_t rfl ?_
                    refine WP.skip ?_
                    refine WP.seq ?_
                    refine WP.block rfl ?_
                    refine WP.seq ?_
                    refine WP.drawn (by kernel_rfl) ?_
                    refine RP.load_boxN rfl rfl rfl rfl rfl (by repeat (first | exact .here | apply HIn.there | apply HIn.app)) rfl ?_
                    refine RP.move rfl rfl ?_
                    refine RP.move rfl rfl ?_
                    refine RP.at_ rfl rfl rfl rfl rfl rfl (.lin fI_len hl74 (by repeat (first | exact .here | apply HIn.there | apply HIn.app))) (by first | assumption | omega) ?_
                    refine RP.load_el rfl rfl rfl rfl (.lin fI_len hl74 (by repeat (first | exact .here | apply HIn.there | apply HIn.app))) (by first | assumption | omega) rfl ?_
                    refine RP.move rfl rfl ?_
                    refine RP.move rfl rfl ?_
                    refine RP.add rfl rfl rfl (by omega) (by omega) ?_
                    refine RP.rest_str rfl rfl rfl (natOf_is (n := i + 1) (by omega)) rfl (by omega) ?_
                    refine RP.call (Q := fun v H => v = LV.bool (goW m (w.extract (i + 1) w.size).data.toList ls[k].toNat) ∧ H = []) rfl rfl rfl hlo (fun st' lo' hi' hl' => goes_ok hl' (hm.inv hi') h0 hgd hok (w := w.extract (i + 1) w.size) (z := ls[k]'hlk) (by rw [hrs]; omega) (n := (ls[k]'hlk).toNat) (by omega) hx.2) ?_
                    rintro _ _ ⟨rfl, rfl⟩
                    refine RP.nil ?_
                    refine WP.cond_b rfl (fun hc90 => ?_) (fun hc90 => ?_)
                    · skip
                      refine WP.region ?_
                      refine RP.move rfl rfl ?_
                      refine RP.move rfl rfl ?_
                      refine RP.move rfl rfl ?_
                      refine RP.at_ rfl rfl rfl rfl rfl rfl (.lin fI_len hl74 (by repeat (first | exact .here | apply HIn.there | apply HIn.app))) (by first | assumption | omega) ?_
                      refine RP.load_el rfl rfl rfl rfl (.lin fI_len hl74 (by repeat (first | exact .here | apply HIn.there | apply HIn.app))) (by first | assumption | omega) rfl ?_
                      refine RP.bslice [ls[k]] rfl rfl rfl rfl rfl rfl rfl rfl rfl rfl fI_len ?_
                      intro v96 p96 hl96
                      refine RP.append rfl rfl rfl rfl rfl rfl rfl rfl hK2 (fun _ => (by repeat (first | exact .here | apply HUpd.there | apply HUpd.app))) (.lin fI_len hl96 (by repeat (first | exact .here | apply HIn.there | apply HIn.app))) (flat_all fI_sc _) (by simp only [List.length_singleton]; omega) (fun e => (by first | rfl | cases e)) hlo ?_
                      intro v97 p97 hl97
                      refine RP.assign rfl rfl ?_
                      refine RP.nil ?_
                      refine WP.region ?_
                      refine RP.move rfl rfl ?_
                      refine RP.add rfl rfl rfl (by omega) (by omega) ?_
                      refine RP.assign rfl rfl ?_
                      refine RP.nil ?_
                      refine roundQ.mk (Q := fun _ _ _ => True) (k + 1, v97, p97) ⟨rfl, rfl, rfl, rfl, rfl, rfl, rfl, rfl, rfl, trivial⟩ (.cons (by repeat (first | exact .here | apply HRem.there | apply HRem.app)) (.cons (by repeat (first | exact .here | apply HRem.there | apply HRem.app)) (.cons (by repeat (first | exact .here | apply HRem.there | apply HRem.app)) (.cons (by repeat (first | exact .here | apply HRem.there | apply HRem.app)) .nil)))) (by
                        try dsimp only
                        exact ⟨by omega, by rw [filter_step hlk, if_pos (by rw [← hws]; exact hc90)]; exact hl97⟩) (by
                        try dsimp only
                        omega)
                    · skip
                      refine WP.skip ?_
                      refine WP.region ?_
                      refine RP.move rfl rfl ?_
                      refine RP.add rfl rfl rfl (by omega) (by omega) ?_
                      refine RP.assign rfl rfl ?_
                      refine RP.nil ?_
                      refine roundQ.mk (Q := fun _ _ _ => True) (k + 1, vg, pg) ⟨rfl, rfl, rfl, rfl, rfl, rfl, rfl, rfl, rfl, trivial⟩ (.cons (by repeat (first | exact .here | apply HRem.there | apply HRem.app)) (.cons (by repeat (first | exact .here | apply HRem.there | apply HRem.app)) (.cons (by repeat (first | exact .here | apply HRem.there | apply HRem.app)) (.cons (by repeat (first | exact .here | apply HRem.there | apply HRem.app)) .nil)))) (by
                        try dsimp only
                        exact ⟨by omega, by rw [filter_step hlk, if_neg (by rw [← hws, hc90]; exact Bool.false_ne_true), List.append_nil]; exact hK2⟩) (by
                        try dsimp only
                        omega)
                  · skip
                    refine RP.nil ?_
                    refine WP.cond_f rfl ?_
                    refine WP.exit ?_
                    refine WP.seq ?_
                    refine WP.seq ?_
                    have hlse : ls.take k = ls := List.take_of_length_le (by omega)
                    rw [hlse] at hK2 hkf
                    obtain ⟨gd, hgdE⟩ : ∃ gd, gd = ls.filter fun x => goW m (w.data.toList.drop (i + 1)) x.toNat := ⟨_, rfl⟩
                    rw [← hgdE] at hK2 hkf
                    have hstep := AllI.step (fs := decide (i = 0)) hS (hI5 hc64) hlw rfl
                    rw [← hls, ← hgdE] at hstep
                    have hgl : 0 < gd.length := List.length_pos_iff.2 hstep.1
                    refine WP.region ?_
                    refine RP.move rfl rfl ?_
                    refine RP.len_sl rfl rfl (.lin fI_len hK2 (by repeat (first | exact .here | apply HIn.there | apply HIn.app))) rfl ?_
                    refine RP.eql_f rfl rfl rfl (by omega) ?_
                    refine RP.nil ?_
                    refine WP.cond_f rfl ?_
                    refine WP.skip ?_
                    refine WP.seq ?_
                    refine WP.region ?_
                    refine RP.assign rfl rfl ?_
                    refine RP.nil ?_
                    refine WP.seq ?_
                    refine WP.seq ?_
                    refine WP.region ?_
                    refine RP.move rfl rfl ?_
                    refine RP.move rfl rfl ?_
                    refine RP.len_sl rfl rfl (.arg hvc) rfl ?_
                    refine RP.lss rfl rfl rfl (fun h104 => ?_) (fun h104 => ?_)
                    · skip
                      have hltb : i < bs.length := by omega
                      have hb8 : bs[i].toNat < 256 := bs[i].toNat_lt
                      refine RP.nil ?_
                      refine WP.cond_t rfl ?_
                      refine WP.region ?_
                      refine RP.move rfl rfl ?_
                      refine RP.move rfl rfl ?_
                      refine RP.at_ rfl rfl rfl rfl rfl rfl (.arg hvc) (by first | assumption | omega) ?_
                      refine RP.load_el rfl rfl rfl rfl (.arg hvc) (by first | assumption | omega) rfl ?_
                      refine RP.conv (v := .int .i64 (bs[i].toNat : Int)) rfl rfl (fun _ => by show some (LV.int .i64 _, _) = _; rw [IntWalk.i64_in _ ⟨by omega, by omega⟩]) ?_
                      refine RP.move rfl rfl ?_
                      refine RP.len_sl rfl rfl (.lin fI_len hK2 (by repeat (first | exact .here | apply HIn.there | apply HIn.app))) rfl ?_
                      obtain ⟨nn, hnn⟩ : ∃ nn : Nat, nn = bs[i].toNat % gd.length := ⟨_, rfl⟩
                      refine RP.bin (v := .int .i64 (nn : Int)) rfl rfl rfl (by show (if _ then _ else _) = some (LV.int .i64 _); rw [if_neg (by omega), Int.tmod_eq_emod_of_nonneg (by omega), hnn]; rfl) ?_
                      refine RP.assign rfl rfl ?_
                      refine RP.nil ?_
                      refine WP.seq ?_
                      have hnl : nn < gd.length := by first | (rw [hnn]; exact Nat.mod_lt _ hgl) | omega
                      have hz := hstep.2 gd[nn] (List.getElem_mem hnl)
                      have hzs := hz.1.2
                      have htl : i < tags.length := by have := hsp.len_ok hc64; omega
                      have htg : m.spots[gd[nn].toNat].tag = tags[i] := by
                        have h1 := hz.2.1
                        unfold tagOf at h1
                        rw [List.getElem?_eq_getElem hzs, List.getElem?_eq_getElem htl] at h1
                        exact (Option.some.inj h1).symm
                      refine WP.region ?_
                      refine RP.move rfl rfl ?_
                      refine RP.move rfl rfl ?_
                      refine RP.at_ rfl rfl rfl (natOf_is (n := nn) (by omega)) rfl rfl (.lin fI_len hK2 (by repeat (first | exact .here | apply HIn.there | apply HIn.app))) (by first | assumption | omega) ?_
                      refine RP.load_el rfl rfl rfl rfl (.lin fI_len hK2 (by repeat (first | exact .here | apply HIn.there | apply HIn.app))) (by first | assumption | omega) rfl ?_
                      refine RP.bslice [gd[nn]] rfl rfl rfl rfl rfl rfl rfl rfl rfl rfl fI_len ?_
                      intro v117 p117 hl117
                      refine RP.assign rfl rfl ?_
                      refine RP.nil ?_
                      refine WP.seq ?_
                      refine WP.drawn (by kernel_rfl) ?_
                      refine RP.faddr rfl rfl rfl ?_
                      refine RP.load_box rfl rfl rfl rfl (by repeat (first | exact .here | apply HIn.there | apply HIn.app)) rfl ?_
                      refine RP.move rfl rfl ?_
                      refine RP.move rfl rfl ?_
                      refine RP.at_ rfl rfl rfl (natOf_is (n := nn) (by omega)) rfl rfl (.lin fI_len hK2 (by repeat (first | exact .here | apply HIn.there | apply HIn.app))) (by first | assumption | omega) ?_
                      refine RP.load_el rfl rfl rfl rfl (.lin fI_len hK2 (by repeat (first | exact .here | apply HIn.there | apply HIn.app))) (by first | assumption | omega) rfl ?_
                      refine RP.at_ rfl rfl rfl (natOf_is (n := gd[nn].toNat) (by omega)) rfl rfl (.arg hm.spots) (by first | assumption | omega) ?_
                      first | refine RP.faddr_p rfl rfl rfl rfl rfl (.arg hm.spots) (by first | assumption | omega) ?_ | refine RP.faddr_p rfl rfl rfl rfl rfl (.arg hm.first) (by first | assumption | omega) ?_ | refine RP.faddr_p rfl rfl rfl rfl rfl (.arg hm.follow) (by first | assumption | omega) ?_ | refine RP.faddr_p rfl rfl rfl rfl rfl (.arg hm.last) (by first | assumption | omega) ?_
                      first | refine RP.load_el rfl rfl rfl rfl (.arg hm.spots) (by first | assumption | omega) rfl ?_ | refine RP.load_el rfl rfl rfl rfl (.arg hm.first) (by first | assumption | omega) rfl ?_ | refine RP.load_el rfl rfl rfl rfl (.arg hm.follow) (by first | assumption | omega) rfl ?_ | refine RP.load_el rfl rfl rfl rfl (.arg hm.last) (by first | assumption | omega) rfl ?_
                      refine RP.move rfl rfl ?_
                      refine RP.move rfl rfl ?_
                      refine RP.at_ rfl rfl rfl rfl rfl rfl (.lin fU_len hl31 (by repeat (first | exact .here | apply HIn.there | apply HIn.app))) (by first | assumption | omega) ?_
                      refine RP.load_el rfl rfl rfl rfl (.lin fU_len hl31 (by repeat (first | exact .here | apply HIn.there | apply HIn.app))) (by first | assumption | omega) rfl ?_
                      refine RP.neq_f rfl rfl rfl (by omega) ?_
                      refine RP.nil ?_
                      refine WP.cond_f rfl ?_
                      refine WP.skip ?_
                      refine WP.region ?_
                      refine RP.move rfl rfl ?_
                      refine RP.add rfl rfl rfl (by omega) (by omega) ?_
                      refine RP.assign rfl rfl ?_
                      refine RP.nil ?_
                      refine roundQ.mk (Q := fun _ _ _ => True) (i + 1, v117, p117, [gd[nn]]) ⟨rfl, rfl, rfl, rfl, rfl, rfl, rfl, trivial⟩ (.cons (by repeat (first | exact .here | apply HRem.there | apply HRem.app)) (.cons (by repeat (first | exact .here | apply HRem.there | apply HRem.app)) (.cons (by repeat (first | exact .here | apply HRem.there | apply HRem.app)) .nil))) (by
                        try dsimp only
                        exact ⟨by omega, hl117, fun x hx => by obtain rfl := List.mem_singleton.1 hx; exact hz.1, by simp, fun _ => hz.2.2⟩) (by
                        try dsimp only
                        omega)
                    · skip
                      obtain ⟨nn, hnn⟩ : ∃ nn : Nat, nn = 0 := ⟨_, rfl⟩
                      refine RP.nil ?_
                      refine WP.cond_f rfl ?_
                      refine WP.skip ?_
                      refine WP.seq ?_
                      have hnl : nn < gd.length := by first | (rw [hnn]; exact Nat.mod_lt _ hgl) | omega
                      have hz := hstep.2 gd[nn] (List.getElem_mem hnl)
                      have hzs := hz.1.2
                      have htl : i < tags.length := by have := hsp.len_ok hc64; omega
                      have htg : m.spots[gd[nn].toNat].tag = tags[i] := by
                        have h1 := hz.2.1
                        unfold tagOf at h1
                        rw [List.getElem?_eq_getElem hzs, List.getElem?_eq_getElem htl] at h1
                        exact (Option.some.inj h1).symm
                      refine WP.region ?_
                      refine RP.move rfl rfl ?_
                      refine RP.move rfl rfl ?_
                      refine RP.at_ rfl rfl rfl (natOf_is (n := nn) (by omega)) rfl rfl (.lin fI_len hK2 (by repeat (first | exact .here | apply HIn.there | apply HIn.app))) (by first | assumption | omega) ?_
                      refine RP.load_el rfl rfl rfl rfl (.lin fI_len hK2 (by repeat (first | exact .here | apply HIn.there | apply HIn.app))) (by first | assumption | omega) rfl ?_
                      refine RP.bslice [gd[nn]] rfl rfl rfl rfl rfl rfl rfl rfl rfl rfl fI_len ?_
                      intro v117 p117 hl117
                      refine RP.assign rfl rfl ?_
                      refine RP.nil ?_
                      refine WP.seq ?_
                      refine WP.drawn (by kernel_rfl) ?_
                      refine RP.faddr rfl rfl rfl ?_
                      refine RP.load_box rfl rfl rfl rfl (by repeat (first | exact .here | apply HIn.there | apply HIn.app)) rfl ?_
                      refine RP.move rfl rfl ?_
                      refine RP.move rfl rfl ?_
                      refine RP.at_ rfl rfl rfl (natOf_is (n := nn) (by omega)) rfl rfl (.lin fI_len hK2 (by repeat (first | exact .here | apply HIn.there | apply HIn.app))) (by first | assumption | omega) ?_
                      refine RP.load_el rfl rfl rfl rfl (.lin fI_len hK2 (by repeat (first | exact .here | apply HIn.there | apply HIn.app))) (by first | assumption | omega) rfl ?_
                      refine RP.at_ rfl rfl rfl (natOf_is (n := gd[nn].toNat) (by omega)) rfl rfl (.arg hm.spots) (by first | assumption | omega) ?_
                      first | refine RP.faddr_p rfl rfl rfl rfl rfl (.arg hm.spots) (by first | assumption | omega) ?_ | refine RP.faddr_p rfl rfl rfl rfl rfl (.arg hm.first) (by first | assumption | omega) ?_ | refine RP.faddr_p rfl rfl rfl rfl rfl (.arg hm.follow) (by first | assumption | omega) ?_ | refine RP.faddr_p rfl rfl rfl rfl rfl (.arg hm.last) (by first | assumption | omega) ?_
                      first | refine RP.load_el rfl rfl rfl rfl (.arg hm.spots) (by first | assumption | omega) rfl ?_ | refine RP.load_el rfl rfl rfl rfl (.arg hm.first) (by first | assumption | omega) rfl ?_ | refine RP.load_el rfl rfl rfl rfl (.arg hm.follow) (by first | assumption | omega) rfl ?_ | refine RP.load_el rfl rfl rfl rfl (.arg hm.last) (by first | assumption | omega) rfl ?_
                      refine RP.move rfl rfl ?_
                      refine RP.move rfl rfl ?_
                      refine RP.at_ rfl rfl rfl rfl rfl rfl (.lin fU_len hl31 (by repeat (first | exact .here | apply HIn.there | apply HIn.app))) (by first | assumption | omega) ?_
                      refine RP.load_el rfl rfl rfl rfl (.lin fU_len hl31 (by repeat (first | exact .here | apply HIn.there | apply HIn.app))) (by first | assumption | omega) rfl ?_
                      refine RP.neq_f rfl rfl rfl (by omega) ?_
                      refine RP.nil ?_
                      refine WP.cond_f rfl ?_
                      refine WP.skip ?_
                      refine WP.region ?_
                      refine RP.move rfl rfl ?_
                      refine RP.add rfl rfl rfl (by omega) (by omega) ?_
                      refine RP.assign rfl rfl ?_
                      refine RP.nil ?_
                      refine roundQ.mk (Q := fun _ _ _ => True) (i + 1, v117, p117, [gd[nn]]) ⟨rfl, rfl, rfl, rfl, rfl, rfl, rfl, trivial⟩ (.cons (by repeat (first | exact .here | apply HRem.there | apply HRem.app)) (.cons (by repeat (first | exact .here | apply HRem.there | apply HRem.app)) (.cons (by repeat (first | exact .here | apply HRem.there | apply HRem.app)) .nil))) (by
                        try dsimp only
                        exact ⟨by omega, hl117, fun x hx => by obtain rfl := List.mem_singleton.1 hx; exact hz.1, by simp, fun _ => hz.2.2⟩) (by
                        try dsimp only
                        omega)
              · skip
                refine WP.exit ?_
                refine WP.seq ?_
                refine WP.region ?_
                refine RP.call rfl rfl rfl hlo (fun st' lo' hi' hl' => awake_ok) ?_
                rintro _ _ ⟨rfl, rfl⟩
                refine RP.assign rfl rfl ?_
                refine RP.nil ?_
                refine WP.ret ?_
                exact End.one (Or.inr rfl) rfl (.tmp rfl) .nil ⟨rfl, rfl⟩
            · skip
              refine RP.move rfl rfl ?_
              refine RP.gfalse rfl rfl ?_
              refine RP.pick_ rfl rfl rfl ?_
              refine RP.nil ?_
              refine WP.cond_f rfl ?_
              refine WP.exit ?_
              refine WP.seq ?_
              refine WP.region ?_
              refine RP.call rfl rfl rfl hlo (fun st' lo' hi' hl' => awake_ok) ?_
              rintro _ _ ⟨rfl, rfl⟩
              refine RP.assign rfl rfl ?_
              refine RP.nil ?_
              refine WP.ret ?_
              exact End.one (Or.inr rfl) rfl (.tmp rfl) .nil ⟨rfl, rfl⟩
        · skip
          refine RP.gfalse rfl rfl ?_
          refine RP.gfalse rfl rfl ?_
          refine RP.gfalse rfl rfl ?_
          refine RP.gfalse rfl rfl ?_
          refine RP.gfalse rfl rfl ?_
          refine RP.gtrue rfl ?_
          refine RP.pick_ rfl rfl rfl ?_
          refine RP.pick_ rfl rfl rfl ?_
          refine RP.move rfl rfl ?_
          refine RP.gtrue rfl ?_
          refine RP.move rfl rfl ?_
          refine RP.gtrue rfl ?_
          refine RP.un rfl rfl rfl ?_
          refine RP.gtrue rfl ?_
          refine RP.move rfl rfl ?_
          refine RP.cases (d := 52) rfl (fun hg52 => ?_) (fun hg52 => ?_)
          · skip
            have hlen := congrArg List.length (hsp.nil (by simpa using hg52))
            simp only [List.length_nil] at hlen
            refine RP.gtrue rfl ?_
            refine RP.move rfl rfl ?_
            refine RP.gtrue rfl ?_
            refine RP.len_sl rfl rfl (.lin fU_len hl31 (by repeat (first | exact .here | apply HIn.there | apply HIn.app))) rfl ?_
            refine RP.gtrue rfl ?_
            refine RP.neq_f rfl rfl rfl (by omega) ?_
            refine RP.gtrue rfl ?_
            refine RP.pick_ rfl rfl rfl ?_
            refine RP.pick_ rfl rfl rfl ?_
            refine RP.nil ?_
            refine WP.cond_f rfl ?_
            refine WP.skip ?_
            refine WP.seq ?_
            refine WP.ghost .dead ?_
            refine WP.region ?_
            refine RP.assign rfl rfl ?_
            refine RP.nil ?_
            refine WP.seq ?_
            refine WP.seq ?_
            refine WP.region ?_
            refine RP.assign rfl rfl ?_
            refine RP.nil ?_
            refine WP.block rfl ?_
            refine WP.loop (α := Nat × LV × HE × List Int) (fun gh => [(1, .str w), (2, vc), (3, .ptr (.own L3) 0), (7, v'), (8, .bool ok), (9, gh.2.1), (10, .int .i64 (gh.1 : Int))]) (fun gh => [(some L3, .cells (mv a b c d m).cells), pm, gh.2.2.1]) (fun gh => gh.1 ≤ w.size ∧ Lin 1 fI true gh.2.1 gh.2.2.2 gh.2.2.1 ∧ (∀ x ∈ gh.2.2.2, 0 ≤ x ∧ x.toNat < m.spots.length) ∧ gh.2.2.2.length ≤ 1 ∧ (ok = true → AllI m w.data.toList tags gh.1 gh.2.2.2)) (fun gh => w.size - gh.1) ?_ (0, .nilsl, (none, .dead), []) ⟨rfl, rfl, rfl, rfl, rfl, rfl, rfl, trivial⟩ (.cons (by repeat (first | exact .here | apply HRem.there | apply HRem.app)) (.cons (by repeat (first | exact .here | apply HRem.there | apply HRem.app)) (.cons (by repeat (first | exact .here | apply HRem.there | apply HRem.app)) .nil))) (by
              try dsimp only
              exact ⟨Nat.zero_le _, .nil, by simp, Nat.zero_le _, fun ho => AllI.start (hsp.mark ho)⟩)
            rintro ⟨i, va, pa, ys⟩ hI
            change i ≤ w.size ∧ Lin 1 fI true va ys pa ∧ (∀ x ∈ ys, 0 ≤ x ∧ x.toNat < m.spots.length) ∧ ys.length ≤ 1 ∧ (ok = true → AllI m w.data.toList tags i ys) at hI
            change WP _ _ _ _ _ [(1, .str w), (2, vc), (3, .ptr (.own L3) 0), (7, v'), (8, .bool ok), (9, va), (10, .int .i64 (i : Int))] ([(some L3, .cells (mv a b c d m).cells), pm, pa] : HL) _
            obtain ⟨hI1, hI2, hI3, hI4, hI5⟩ := hI
            refine WP.seq ?_
            refine WP.seq ?_
            refine WP.region ?_
            refine RP.move rfl rfl ?_
            refine RP.move rfl rfl ?_
            refine RP.len_v rfl rfl (fun _ => rfl) ?_
            refine RP.lss rfl rfl rfl (fun h61 => ?_) (fun h61 => ?_)
            · skip
              have hlw : i < w.data.toList.length := by omega
              refine RP.move rfl rfl ?_
              refine RP.gtrue rfl ?_
              refine RP.move rfl rfl ?_
              refine RP.pick_ rfl rfl rfl ?_
              refine RP.nil ?_
              refine WP.cond_b rfl (fun hc64 => ?_) (fun hc64 => ?_)
              · skip
                refine WP.skip ?_
                refine WP.seq ?_
                refine WP.block rfl ?_
                refine WP.seq ?_
                refine WP.drawn (by kernel_rfl) ?_
                refine RP.load_boxN rfl rfl rfl rfl rfl (by repeat (first | exact .here | apply HIn.there | apply HIn.app)) rfl ?_
                refine RP.move rfl rfl ?_
                refine RP.move rfl rfl ?_
                refine RP.eql rfl rfl rfl (fun h70 => ?_) (fun h70 => ?_)
                · skip
                  refine RP.move rfl rfl ?_
                  refine RP.move rfl rfl ?_
                  refine RP.idx_str rfl rfl rfl rfl rfl (List.getElem?_eq_getElem (by first | assumption | omega)) ?_
                  refine RP.call rfl rfl rfl hlo (fun st' lo' hi' hl' => step_ok hl' (hm.inv hi') hgd hok (by omega) (by omega) (fun j hj => by have := h05 j hj; omega) (SlH.lin fI_len hI2 (by repeat (first | exact .here | apply HIn.there | apply HIn.app)) _ hi') (by omega) hI3) ?_
                  rintro v74 _ ⟨p74, rfl, hl74⟩
                  obtain ⟨ls, hls⟩ : ∃ ls, ls = stepF m ys (decide (i = 0)) w.data.toList[i] := ⟨_, rfl⟩
                  replace hl74 : Lin 1 fI true v74 ls p74 := by
                    have e : decide (i = 0) = true := decide_eq_true (by omega)
                    rw [hls, e]; exact hl74
                  have hlr : ∀ x ∈ ls, 0 ≤ x ∧ x.toNat < m.spots.length := hls ▸ stepF_range
                  have hll : ls.length ≤ 60 := by rw [hls]; exact Nat.le_trans stepF_len h01
                  refine RP.assign rfl rfl ?_
                  refine RP.nil ?_
                  refine WP.seq ?_
                  refine WP.ghost .dead ?_
                  refine WP.region ?_
                  refine RP.assign rfl rfl ?_
                  refine RP.nil ?_
                  refine WP.seq ?_
                  refine WP.seq ?_
                  refine WP.region ?_
                  refine RP.assign rfl rfl ?_
                  refine RP.nil ?_
                  refine WP.block rfl ?_
                  refine WP.loop (α := Nat × LV × HE) (fun gh => [(1, .str w), (2, vc), (3, .ptr (.own L3) 0), (7, v'), (8, .bool ok), (10, .int .i64 (i : Int)), (11, v74), (12, gh.2.1), (13, .int .i64 (gh.1 : Int))]) (fun gh => [(some L3, .cells (mv a b c d m).cells), pm, p74, gh.2.2]) (fun gh => gh.1 ≤ ls.length ∧ Lin 1 fI true gh.2.1 ((ls.take gh.1).filter fun x => goW m (w.data.toList.drop (i + 1)) x.toNat) gh.2.2) (fun gh => ls.length - gh.1) ?_ (0, .nilsl, (none, .dead)) ⟨rfl, rfl, rfl, rfl, rfl, rfl, rfl, rfl, rfl, trivial⟩ (.cons (by repeat (first | exact .here | apply HRem.there | apply HRem.app)) (.cons (by repeat (first | exact .here | apply HRem.there | apply HRem.app)) (.cons (by repeat (first | exact .here | apply HRem.there | apply HRem.app)) (.cons (by repeat (first | exact .here | apply HRem.there | apply HRem.app)) .nil)))) (by
                    try dsimp only
                    exact ⟨Nat.zero_le _, .nil⟩)
                  rintro ⟨k, vg, pg⟩ hI
                  change k ≤ ls.length ∧ Lin 1 fI true vg ((ls.take k).filter fun x => goW m (w.data.toList.drop (i + 1)) x.toNat) pg at hI
                  change WP _ _ _ _ _ [(1, .str w), (2, vc), (3, .ptr (.own L3) 0), (7, v'), (8, .bool ok), (10, .int .i64 (i : Int)), (11, v74), (12, vg), (13, .int .i64 (k : Int))] ([(some L3, .cells (mv a b c d m).cells), pm, p74, pg] : HL) _
                  obtain ⟨hK1, hK2⟩ := hI
                  have hkf := List.length_filter_le (fun x : Int => goW m (w.data.toList.drop (i + 1)) x.toNat) (ls.take k)
                  rw [List.length_take] at hkf
                  refine WP.seq ?_
                  refine WP.seq ?_
                  refine WP.region ?_
                  refine RP.move rfl rfl ?_
                  refine RP.move rfl rfl ?_
                  refine RP.len_sl rfl rfl (.lin fI_len hl74 (by repeat (first | exact .here | apply HIn.there | apply HIn.app))) rfl ?_
                  refine RP.lss rfl rfl rfl (fun h78 => ?_) (fun h78 => ?_)
                  · skip
                    have hlk : k < ls.length := by omega
                    have hx := hlr ls[k] (List.getElem_mem hlk)
                    have hws : (w.extract (i + 1) w.size).data.toList = w.data.toList.drop (i + 1) := by rw [ByteArray.data_extract, Array.toList_extract, List.extract, List.take_of_length_le (by rw [List.length_drop, hwl]; exact Nat.le_refl _)]
                    have hrs : (w.extract (i + 1) w.size).size = w.size - (i + 1) := by rw [size_list, hws, List.length_drop, hwl]
                    refine RP.nil ?_
                    refine WP.cond_t rfl ?_
                    refine WP.skip ?_
                    refine WP.seq ?_
                    refine WP.block rfl ?_
                    refine WP.seq ?_
                    refine WP.drawn (by kernel_rfl) ?_
                    refine RP.load_boxN rfl rfl rfl rfl rfl (by repeat (first | exact .here | apply HIn.there | apply HIn.app)) rfl ?_
                    refine RP.move rfl rfl ?_
                    refine RP.move rfl rfl ?_
                    refine RP.at_ rfl rfl rfl rfl rfl rfl (.lin fI_len hl74 (by repeat (first | exact .here | apply HIn.there | apply HIn.app))) (by first | assumption | omega) ?_
                    refine RP.load_el rfl rfl rfl rfl (.lin fI_len hl74 (by repeat (first | exact .here | apply HIn.there | apply HIn.app))) (by first | assumption | omega) rfl ?_
                    refine RP.move rfl rfl ?_
                    refine RP.move rfl rfl ?_
                    refine RP.add rfl rfl rfl (by omega) (by omega) ?_
                    refine RP.rest_str rfl rfl rfl (natOf_is (n := i + 1) (by omega)) rfl (by omega) ?_
                    refine RP.call (Q := fun v H => v = LV.bool (goW m (w.extract (i + 1) w.size).data.toList ls[k].toNat) ∧ H = []) rfl rfl rfl hlo (fun st' lo' hi' hl' => goes_ok hl' (hm.inv hi') h0 hgd hok (w := w.extract (i + 1) w.size) (z := ls[k]'hlk) (by rw [hrs]; omega) (n := (ls[k]'hlk).toNat) (by omega) hx.2) ?_
                    rintro _ _ ⟨rfl, rfl⟩
                    refine RP.nil ?_
                    refine WP.cond_b rfl (fun hc90 => ?_) (fun hc90 => ?_)
                    · skip
                      refine WP.region ?_
                      refine RP.move rfl rfl ?_
                      refine RP.move rfl rfl ?_
                      refine RP.move rfl rfl ?_
                      refine RP.at_ rfl rfl rfl rfl rfl rfl (.lin fI_len hl74 (by repeat (first | exact .here | apply HIn.there | apply HIn.app))) (by first | assumption | omega) ?_
                      refine RP.load_el rfl rfl rfl rfl (.lin fI_len hl74 (by repeat (first | exact .here | apply HIn.there | apply HIn.app))) (by first | assumption | omega) rfl ?_
                      refine RP.bslice [ls[k]] rfl rfl rfl rfl rfl rfl rfl rfl rfl rfl fI_len ?_
                      intro v96 p96 hl96
                      refine RP.append rfl rfl rfl rfl rfl rfl rfl rfl hK2 (fun _ => (by repeat (first | exact .here | apply HUpd.there | apply HUpd.app))) (.lin fI_len hl96 (by repeat (first | exact .here | apply HIn.there | apply HIn.app))) (flat_all fI_sc _) (by simp only [List.length_singleton]; omega) (fun e => (by first | rfl | cases e)) hlo ?_
                      intro v97 p97 hl97
                      refine RP.assign rfl rfl ?_
                      refine RP.nil ?_
                      refine WP.region ?_
                      refine RP.move rfl rfl ?_
                      refine RP.add rfl rfl rfl (by omega) (by omega) ?_
                      refine RP.assign rfl rfl ?_
                      refine RP.nil ?_
                      refine roundQ.mk (Q := fun _ _ _ => True) (k + 1, v97, p97) ⟨rfl, rfl, rfl, rfl, rfl, rfl, rfl, rfl, rfl, trivial⟩ (.cons (by repeat (first | exact .here | apply HRem.there | apply HRem.app)) (.cons (by repeat (first | exact .here | apply HRem.there | apply HRem.app)) (.cons (by repeat (first | exact .here | apply HRem.there | apply HRem.app)) (.cons (by repeat (first | exact .here | apply HRem.there | apply HRem.app)) .nil)))) (by
                        try dsimp only
                        exact ⟨by omega, by rw [filter_step hlk, if_pos (by rw [← hws]; exact hc90)]; exact hl97⟩) (by
                        try dsimp only
                        omega)
                    · skip
                      refine WP.skip ?_
                      refine WP.region ?_
                      refine RP.move rfl rfl ?_
                      refine RP.add rfl rfl rfl (by omega) (by omega) ?_
                      refine RP.assign rfl rfl ?_
                      refine RP.nil ?_
                      refine roundQ.mk (Q := fun _ _ _ => True) (k + 1, vg, pg) ⟨rfl, rfl, rfl, rfl, rfl, rfl, rfl, rfl, rfl, trivial⟩ (.cons (by repeat (first | exact .here | apply HRem.there | apply HRem.app)) (.cons (by repeat (first | exact .here | apply HRem.there | apply HRem.app)) (.cons (by repeat (first | exact .here | apply HRem.there | apply HRem.app)) (.cons (by repeat (first | exact .here | apply HRem.there | apply HRem.app)) .nil)))) (by
                        try dsimp only
                        exact ⟨by omega, by rw [filter_step hlk, if_neg (by rw [← hws, hc90]; exact Bool.false_ne_true), List.append_nil]; exact hK2⟩) (by
                        try dsimp only
                        omega)
                  · skip
                    refine RP.nil ?_
                    refine WP.cond_f rfl ?_
                    refine WP.exit ?_
                    refine WP.seq ?_
                    refine WP.seq ?_
                    have hlse : ls.take k = ls := List.take_of_length_le (by omega)
                    rw [hlse] at hK2 hkf
                    obtain ⟨gd, hgdE⟩ : ∃ gd, gd = ls.filter fun x => goW m (w.data.toList.drop (i + 1)) x.toNat := ⟨_, rfl⟩
                    rw [← hgdE] at hK2 hkf
                    have hstep := AllI.step (fs := decide (i = 0)) hS (hI5 hc64) hlw rfl
                    rw [← hls, ← hgdE] at hstep
                    have hgl : 0 < gd.length := List.length_pos_iff.2 hstep.1
                    refine WP.region ?_
                    refine RP.move rfl rfl ?_
                    refine RP.len_sl rfl rfl (.lin fI_len hK2 (by repeat (first | exact .here | apply HIn.there | apply HIn.app))) rfl ?_
                    refine RP.eql_f rfl rfl rfl (by omega) ?_
                    refine RP.nil ?_
                    refine WP.cond_f rfl ?_
                    refine WP.skip ?_
                    refine WP.seq ?_
                    refine WP.region ?_
                    refine RP.assign rfl rfl ?_
                    refine RP.nil ?_
                    refine WP.seq ?_
                    refine WP.seq ?_
                    refine WP.region ?_
                    refine RP.move rfl rfl ?_
                    refine RP.move rfl rfl ?_
                    refine RP.len_sl rfl rfl (.arg hvc) rfl ?_
                    refine RP.lss rfl rfl rfl (fun h104 => ?_) (fun h104 => ?_)
                    · skip
                      have hltb : i < bs.length := by omega
                      have hb8 : bs[i].toNat < 256 := bs[i].toNat_lt
                      refine RP.nil ?_
                      refine WP.cond_t rfl ?_
                      refine WP.region ?_
                      refine RP.move rfl rfl ?_
                      refine RP.move rfl rfl ?_
                      refine RP.at_ rfl rfl rfl rfl rfl rfl (.arg hvc) (by first | assumption | omega) ?_
                      refine RP.load_el rfl rfl rfl rfl (.arg hvc) (by first | assumption | omega) rfl ?_
                      refine RP.conv (v := .int .i64 (bs[i].toNat : Int)) rfl rfl (fun _ => by show some (LV.int .i64 _, _) = _; rw [IntWalk.i64_in _ ⟨by omega, by omega⟩]) ?_
                      refine RP.move rfl rfl ?_
                      refine RP.len_sl rfl rfl (.lin fI_len hK2 (by repeat (first | exact .here | apply HIn.there | apply HIn.app))) rfl ?_
                      obtain ⟨nn, hnn⟩ : ∃ nn : Nat, nn = bs[i].toNat % gd.length := ⟨_, rfl⟩
                      refine RP.bin (v := .int .i64 (nn : Int)) rfl rfl rfl (by show (if _ then _ else _) = some (LV.int .i64 _); rw [if_neg (by omega), Int.tmod_eq_emod_of_nonneg (by omega), hnn]; rfl) ?_
                      refine RP.assign rfl rfl ?_
                      refine RP.nil ?_
                      refine WP.seq ?_
                      have hnl : nn < gd.length := by first | (rw [hnn]; exact Nat.mod_lt _ hgl) | omega
                      have hz := hstep.2 gd[nn] (List.getElem_mem hnl)
                      have hzs := hz.1.2
                      have htl : i < tags.length := by have := hsp.len_ok hc64; omega
                      have htg : m.spots[gd[nn].toNat].tag = tags[i] := by
                        have h1 := hz.2.1
                        unfold tagOf at h1
                        rw [List.getElem?_eq_getElem hzs, List.getElem?_eq_getElem htl] at h1
                        exact (Option.some.inj h1).symm
                      refine WP.region ?_
                      refine RP.move rfl rfl ?_
                      refine RP.move rfl rfl ?_
                      refine RP.at_ rfl rfl rfl (natOf_is (n := nn) (by omega)) rfl rfl (.lin fI_len hK2 (by repeat (first | exact .here | apply HIn.there | apply HIn.app))) (by first | assumption | omega) ?_
                      refine RP.load_el rfl rfl rfl rfl (.lin fI_len hK2 (by repeat (first | exact .here | apply HIn.there | apply HIn.app))) (by first | assumption | omega) rfl ?_
                      refine RP.bslice [gd[nn]] rfl rfl rfl rfl rfl rfl rfl rfl rfl rfl fI_len ?_
                      intro v117 p117 hl117
                      refine RP.assign rfl rfl ?_
                      refine RP.nil ?_
                      refine WP.seq ?_
                      refine WP.drawn (by kernel_rfl) ?_
                      refine RP.faddr rfl rfl rfl ?_
                      refine RP.load_box rfl rfl rfl rfl (by repeat (first | exact .here | apply HIn.there | apply HIn.app)) rfl ?_
                      refine RP.move rfl rfl ?_
                      refine RP.move rfl rfl ?_
                      refine RP.at_ rfl rfl rfl (natOf_is (n := nn) (by omega)) rfl rfl (.lin fI_len hK2 (by repeat (first | exact .here | apply HIn.there | apply HIn.app))) (by first | assumption | omega) ?_
                      refine RP.load_el rfl rfl rfl rfl (.lin fI_len hK2 (by repeat (first | exact .here | apply HIn.there | apply HIn.app))) (by first | assumption | omega) rfl ?_
                      refine RP.at_ rfl rfl rfl (natOf_is (n := gd[nn].toNat) (by omega)) rfl rfl (.arg hm.spots) (by first | assumption | omega) ?_
                      first | refine RP.faddr_p rfl rfl rfl rfl rfl (.arg hm.spots) (by first | assumption | omega) ?_ | refine RP.faddr_p rfl rfl rfl rfl rfl (.arg hm.first) (by first | assumption | omega) ?_ | refine RP.faddr_p rfl rfl rfl rfl rfl (.arg hm.follow) (by first | assumption | omega) ?_ | refine RP.faddr_p rfl rfl rfl rfl rfl (.arg hm.last) (by first | assumption | omega) ?_
                      first | refine RP.load_el rfl rfl rfl rfl (.arg hm.spots) (by first | assumption | omega) rfl ?_ | refine RP.load_el rfl rfl rfl rfl (.arg hm.first) (by first | assumption | omega) rfl ?_ | refine RP.load_el rfl rfl rfl rfl (.arg hm.follow) (by first | assumption | omega) rfl ?_ | refine RP.load_el rfl rfl rfl rfl (.arg hm.last) (by first | assumption | omega) rfl ?_
                      refine RP.move rfl rfl ?_
                      refine RP.move rfl rfl ?_
                      refine RP.at_ rfl rfl rfl rfl rfl rfl (.lin fU_len hl31 (by repeat (first | exact .here | apply HIn.there | apply HIn.app))) (by first | assumption | omega) ?_
                      refine RP.load_el rfl rfl rfl rfl (.lin fU_len hl31 (by repeat (first | exact .here | apply HIn.there | apply HIn.app))) (by first | assumption | omega) rfl ?_
                      refine RP.neq_f rfl rfl rfl (by omega) ?_
                      refine RP.nil ?_
                      refine WP.cond_f rfl ?_
                      refine WP.skip ?_
                      refine WP.region ?_
                      refine RP.move rfl rfl ?_
                      refine RP.add rfl rfl rfl (by omega) (by omega) ?_
                      refine RP.assign rfl rfl ?_
                      refine RP.nil ?_
                      refine roundQ.mk (Q := fun _ _ _ => True) (i + 1, v117, p117, [gd[nn]]) ⟨rfl, rfl, rfl, rfl, rfl, rfl, rfl, trivial⟩ (.cons (by repeat (first | exact .here | apply HRem.there | apply HRem.app)) (.cons (by repeat (first | exact .here | apply HRem.there | apply HRem.app)) (.cons (by repeat (first | exact .here | apply HRem.there | apply HRem.app)) .nil))) (by
                        try dsimp only
                        exact ⟨by omega, hl117, fun x hx => by obtain rfl := List.mem_singleton.1 hx; exact hz.1, by simp, fun _ => hz.2.2⟩) (by
                        try dsimp only
                        omega)
                    · skip
                      obtain ⟨nn, hnn⟩ : ∃ nn : Nat, nn = 0 := ⟨_, rfl⟩
                      refine RP.nil ?_
                      refine WP.cond_f rfl ?_
                      refine WP.skip ?_
                      refine WP.seq ?_
                      have hnl : nn < gd.length := by first | (rw [hnn]; exact Nat.mod_lt _ hgl) | omega
                      have hz := hstep.2 gd[nn] (List.getElem_mem hnl)
                      have hzs := hz.1.2
                      have htl : i < tags.length := by have := hsp.len_ok hc64; omega
                      have htg : m.spots[gd[nn].toNat].tag = tags[i] := by
                        have h1 := hz.2.1
                        unfold tagOf at h1
                        rw [List.getElem?_eq_getElem hzs, List.getElem?_eq_getElem htl] at h1
                        exact (Option.some.inj h1).symm
                      refine WP.region ?_
                      refine RP.move rfl rfl ?_
                      refine RP.move rfl rfl ?_
                      refine RP.at_ rfl rfl rfl (natOf_is (n := nn) (by omega)) rfl rfl (.lin fI_len hK2 (by repeat (first | exact .here | apply HIn.there | apply HIn.app))) (by first | assumption | omega) ?_
                      refine RP.load_el rfl rfl rfl rfl (.lin fI_len hK2 (by repeat (first | exact .here | apply HIn.there | apply HIn.app))) (by first | assumption | omega) rfl ?_
                      refine RP.bslice [gd[nn]] rfl rfl rfl rfl rfl rfl rfl rfl rfl rfl fI_len ?_
                      intro v117 p117 hl117
                      refine RP.assign rfl rfl ?_
                      refine RP.nil ?_
                      refine WP.seq ?_
                      refine WP.drawn (by kernel_rfl) ?_
                      refine RP.faddr rfl rfl rfl ?_
                      refine RP.load_box rfl rfl rfl rfl (by repeat (first | exact .here | apply HIn.there | apply HIn.app)) rfl ?_
                      refine RP.move rfl rfl ?_
                      refine RP.move rfl rfl ?_
                      refine RP.at_ rfl rfl rfl (natOf_is (n := nn) (by omega)) rfl rfl (.lin fI_len hK2 (by repeat (first | exact .here | apply HIn.there | apply HIn.app))) (by first | assumption | omega) ?_
                      refine RP.load_el rfl rfl rfl rfl (.lin fI_len hK2 (by repeat (first | exact .here | apply HIn.there | apply HIn.app))) (by first | assumption | omega) rfl ?_
                      refine RP.at_ rfl rfl rfl (natOf_is (n := gd[nn].toNat) (by omega)) rfl rfl (.arg hm.spots) (by first | assumption | omega) ?_
                      first | refine RP.faddr_p rfl rfl rfl rfl rfl (.arg hm.spots) (by first | assumption | omega) ?_ | refine RP.faddr_p rfl rfl rfl rfl rfl (.arg hm.first) (by first | assumption | omega) ?_ | refine RP.faddr_p rfl rfl rfl rfl rfl (.arg hm.follow) (by first | assumption | omega) ?_ | refine RP.faddr_p rfl rfl rfl rfl rfl (.arg hm.last) (by first | assumption | omega) ?_
                      first | refine RP.load_el rfl rfl rfl rfl (.arg hm.spots) (by first | assumption | omega) rfl ?_ | refine RP.load_el rfl rfl rfl rfl (.arg hm.first) (by first | assumption | omega) rfl ?_ | refine RP.load_el rfl rfl rfl rfl (.arg hm.follow) (by first | assumption | omega) rfl ?_ | refine RP.load_el rfl rfl rfl rfl (.arg hm.last) (by first | assumption | omega) rfl ?_
                      refine RP.move rfl rfl ?_
                      refine RP.move rfl rfl ?_
                      refine RP.at_ rfl rfl rfl rfl rfl rfl (.lin fU_len hl31 (by repeat (first | exact .here | apply HIn.there | apply HIn.app))) (by first | assumption | omega) ?_
                      refine RP.load_el rfl rfl rfl rfl (.lin fU_len hl31 (by repeat (first | exact .here | apply HIn.there | apply HIn.app))) (by first | assumption | omega) rfl ?_
                      refine RP.neq_f rfl rfl rfl (by omega) ?_
                      refine RP.nil ?_
                      refine WP.cond_f rfl ?_
                      refine WP.skip ?_
                      refine WP.region ?_
                      refine RP.move rfl rfl ?_
                      refine RP.add rfl rfl rfl (by omega) (by omega) ?_
                      refine RP.assign rfl rfl ?_
                      refine RP.nil ?_
                      refine roundQ.mk (Q := fun _ _ _ => True) (i + 1, v117, p117, [gd[nn]]) ⟨rfl, rfl, rfl, rfl, rfl, rfl, rfl, trivial⟩ (.cons (by repeat (first | exact .here | apply HRem.there | apply HRem.app)) (.cons (by repeat (first | exact .here | apply HRem.there | apply HRem.app)) (.cons (by repeat (first | exact .here | apply HRem.there | apply HRem.app)) .nil))) (by
                        try dsimp only
                        exact ⟨by omega, hl117, fun x hx => by obtain rfl := List.mem_singleton.1 hx; exact hz.1, by simp, fun _ => hz.2.2⟩) (by
                        try dsimp only
                        omega)
                · skip
                  refine RP.move rfl rfl ?_
                  refine RP.move rfl rfl ?_
                  refine RP.idx_str rfl rfl rfl rfl rfl (List.getElem?_eq_getElem (by first | assumption | omega)) ?_
                  refine RP.call rfl rfl rfl hlo (fun st' lo' hi' hl' => step_ok hl' (hm.inv hi') hgd hok (by omega) (by omega) (fun j hj => by have := h05 j hj; omega) (SlH.lin fI_len hI2 (by repeat (first | exact .here | apply HIn.there | apply HIn.app)) _ hi') (by omega) hI3) ?_
                  rintro v74 _ ⟨p74, rfl, hl74⟩
                  obtain ⟨ls, hls⟩ : ∃ ls, ls = stepF m ys (decide (i = 0)) w.data.toList[i] := ⟨_, rfl⟩
                  replace hl74 : Lin 1 fI true v74 ls p74 := by
                    have e : decide (i = 0) = false := decide_eq_false (by omega)
                    rw [hls, e]; exact hl74
                  have hlr : ∀ x ∈ ls, 0 ≤ x ∧ x.toNat < m.spots.length := hls ▸ stepF_range
                  have hll : ls.length ≤ 60 := by rw [hls]; exact Nat.le_trans stepF_len h01
                  refine RP.assign rfl rfl ?_
                  refine RP.nil ?_
                  refine WP.seq ?_
                  refine WP.ghost .dead ?_
                  refine WP.region ?_
                  refine RP.assign rfl rfl ?_
                  refine RP.nil ?_
                  refine WP.seq ?_
                  refine WP.seq ?_
                  refine WP.region ?_
                  refine RP.assign rfl rfl ?_
                  refine RP.nil ?_
                  refine WP.block rfl ?_
                  refine WP.loop (α := Nat × LV × HE) (fun gh => [(1, .str w), (2, vc), (3, .ptr (.own L3) 0), (7, v'), (8, .bool ok), (10, .int .i64 (i : Int)), (11, v74), (12, gh.2.1), (13, .int .i64 (gh.1 : Int))]) (fun gh => [(some L3, .cells (mv a b c d m).cells), pm, p74, gh.2.2]) (fun gh => gh.1 ≤ ls.length ∧ Lin 1 fI true gh.2.1 ((ls.take gh.1).filter fun x => goW m (w.data.toList.drop (i + 1)) x.toNat) gh.2.2) (fun gh => ls.length - gh.1) ?_ (0, .nilsl, (none, .dead)) ⟨rfl, rfl, rfl, rfl, rfl, rfl, rfl, rfl, rfl, trivial⟩ (.cons (by repeat (first | exact .here | apply HRem.there | apply HRem.app)) (.cons (by repeat (first | exact .here | apply HRem.there | apply HRem.app)) (.cons (by repeat (first | exact .here | apply HRem.there | apply HRem.app)) (.cons (by repeat (first | exact .here | apply HRem.there | apply HRem.app)) .nil)))) (by
                    try dsimp only
                    exact ⟨Nat.zero_le _, .nil⟩)
                  rintro ⟨k, vg, pg⟩ hI
                  change k ≤ ls.length ∧ Lin 1 fI true vg ((ls.take k).filter fun x => goW m (w.data.toList.drop (i + 1)) x.toNat) pg at hI
                  change WP _ _ _ _ _ [(1, .str w), (2, vc), (3, .ptr (.own L3) 0), (7, v'), (8, .bool ok), (10, .int .i64 (i : Int)), (11, v74), (12, vg), (13, .int .i64 (k : Int))] ([(some L3, .cells (mv a b c d m).cells), pm, p74, pg] : HL) _
                  obtain ⟨hK1, hK2⟩ := hI
                  have hkf := List.length_filter_le (fun x : Int => goW m (w.data.toList.drop (i + 1)) x.toNat) (ls.take k)
                  rw [List.length_take] at hkf
                  refine WP.seq ?_
                  refine WP.seq ?_
                  refine WP.region ?_
                  refine RP.move rfl rfl ?_
                  refine RP.move rfl rfl ?_
                  refine RP.len_sl rfl rfl (.lin fI_len hl74 (by repeat (first | exact .here | apply HIn.there | apply HIn.app))) rfl ?_
                  refine RP.lss rfl rfl rfl (fun h78 => ?_) (fun h78 => ?_)
                  · skip
                    have hlk : k < ls.length := by omega
                    have hx := hlr ls[k] (List.getElem_mem hlk)
                    have hws : (w.extract (i + 1) w.size).data.toList = w.data.toList.drop (i + 1) := by rw [ByteArray.data_extract, Array.toList_extract, List.extract, List.take_of_length_le (by rw [List.length_drop, hwl]; exact Nat.le_refl _)]
                    have hrs : (w.extract (i + 1) w.size).size = w.size - (i + 1) := by rw [size_list, hws, List.length_drop, hwl]
                    refine RP.nil ?_
                    refine WP.cond_t rfl ?_
                    refine WP.skip ?_
                    refine WP.seq ?_
                    refine WP.block rfl ?_
                    refine WP.seq ?_
                    refine WP.drawn (by kernel_rfl) ?_
                    refine RP.load_boxN rfl rfl rfl rfl rfl (by repeat (first | exact .here | apply HIn.there | apply HIn.app)) rfl ?_
                    refine RP.move rfl rfl ?_
                    refine RP.move rfl rfl ?_
                    refine RP.at_ rfl rfl rfl rfl rfl rfl (.lin fI_len hl74 (by repeat (first | exact .here | apply HIn.there | apply HIn.app))) (by first | assumption | omega) ?_
                    refine RP.load_el rfl rfl rfl rfl (.lin fI_len hl74 (by repeat (first | exact .here | apply HIn.there | apply HIn.app))) (by first | assumption | omega) rfl ?_
                    refine RP.move rfl rfl ?_
                    refine RP.move rfl rfl ?_
                    refine RP.add rfl rfl rfl (by omega) (by omega) ?_
                    refine RP.rest_str rfl rfl rfl (natOf_is (n := i + 1) (by omega)) rfl (by omega) ?_
                    refine RP.call (Q := fun v H => v = LV.bool (goW m (w.extract (i + 1) w.size).data.toList ls[k].toNat) ∧ H = []) rfl rfl rfl hlo (fun st' lo' hi' hl' => goes_ok hl' (hm.inv hi') h0 hgd hok (w := w.extract (i + 1) w.size) (z := ls[k]'hlk) (by rw [hrs]; omega) (n := (ls[k]'hlk).toNat) (by omega) hx.2) ?_
                    rintro _ _ ⟨rfl, rfl⟩
                    refine RP.nil ?_
                    refine WP.cond_b rfl (fun hc90 => ?_) (fun hc90 => ?_)
                    · skip
                      refine WP.region ?_
                      refine RP.move rfl rfl ?_
                      refine RP.move rfl rfl ?_
                      refine RP.move rfl rfl ?_
                      refine RP.at_ rfl rfl rfl rfl rfl rfl (.lin fI_len hl74 (by repeat (first | exact .here | apply HIn.there | apply HIn.app))) (by first | assumption | omega) ?_
                      refine RP.load_el rfl rfl rfl rfl (.lin fI_len hl74 (by repeat (first | exact .here | apply HIn.there | apply HIn.app))) (by first | assumption | omega) rfl ?_
                      refine RP.bslice [ls[k]] rfl rfl rfl rfl rfl rfl rfl rfl rfl rfl fI_len ?_
                      intro v96 p96 hl96
                      refine RP.append rfl rfl rfl rfl rfl rfl rfl rfl hK2 (fun _ => (by repeat (first | exact .here | apply HUpd.there | apply HUpd.app))) (.lin fI_len hl96 (by repeat (first | exact .here | apply HIn.there | apply HIn.app))) (flat_all fI_sc _) (by simp only [List.length_singleton]; omega) (fun e => (by first | rfl | cases e)) hlo ?_
                      intro v97 p97 hl97
                      refine RP.assign rfl rfl ?_
                      refine RP.nil ?_
                      refine WP.region ?_
                      refine RP.move rfl rfl ?_
                      refine RP.add rfl rfl rfl (by omega) (by omega) ?_
                      refine RP.assign rfl rfl ?_
                      refine RP.nil ?_
                      refine roundQ.mk (Q := fun _ _ _ => True) (k + 1, v97, p97) ⟨rfl, rfl, rfl, rfl, rfl, rfl, rfl, rfl, rfl, trivial⟩ (.cons (by repeat (first | exact .here | apply HRem.there | apply HRem.app)) (.cons (by repeat (first | exact .here | apply HRem.there | apply HRem.app)) (.cons (by repeat (first | exact .here | apply HRem.there | apply HRem.app)) (.cons (by repeat (first | exact .here | apply HRem.there | apply HRem.app)) .nil)))) (by
                        try dsimp only
                        exact ⟨by omega, by rw [filter_step hlk, if_pos (by rw [← hws]; exact hc90)]; exact hl97⟩) (by
                        try dsimp only
                        omega)
                    · skip
                      refine WP.skip ?_
                      refine WP.region ?_
                      refine RP.move rfl rfl ?_
                      refine RP.add rfl rfl rfl (by omega) (by omega) ?_
                      refine RP.assign rfl rfl ?_
                      refine RP.nil ?_
                      refine roundQ.mk (Q := fun _ _ _ => True) (k + 1, vg, pg) ⟨rfl, rfl, rfl, rfl, rfl, rfl, rfl, rfl, rfl, trivial⟩ (.cons (by repeat (first | exact .here | apply HRem.there | apply HRem.app)) (.cons (by repeat (first | exact .here | apply HRem.there | apply HRem.app)) (.cons (by repeat (first | exact .here | apply HRem.there | apply HRem.app)) (.cons (by repeat (first | exact .here | apply HRem.there | apply HRem.app)) .nil)))) (by
                        try dsimp only
                        exact ⟨by omega, by rw [filter_step hlk, if_neg (by rw [← hws, hc90]; exact Bool.false_ne_true), List.append_nil]; exact hK2⟩) (by
                        try dsimp only
                        omega)
                  · skip
                    refine RP.nil ?_
                    refine WP.cond_f rfl ?_
                    refine WP.exit ?_
                    refine WP.seq ?_
                    refine WP.seq ?_
                    have hlse : ls.take k = ls := List.take_of_length_le (by omega)
                    rw [hlse] at hK2 hkf
                    obtain ⟨gd, hgdE⟩ : ∃ gd, gd = ls.filter fun x => goW m (w.data.toList.drop (i + 1)) x.toNat := ⟨_, rfl⟩
                    rw [← hgdE] at hK2 hkf
                    have hstep := AllI.step (fs := decide (i = 0)) hS (hI5 hc64) hlw rfl
                    rw [← hls, ← hgdE] at hstep
                    have hgl : 0 < gd.length := List.length_pos_iff.2 hstep.1
                    refine WP.region ?_
                    refine RP.move rfl rfl ?_
                    refine RP.len_sl rfl rfl (.lin fI_len hK2 (by repeat (first | exact .here | apply HIn.there | apply HIn.app))) rfl ?_
                    refine RP.eql_f rfl rfl rfl (by omega) ?_
                    refine RP.nil ?_
                    refine WP.cond_f rfl ?_
                    refine WP.skip ?_
                    refine WP.seq ?_
                    refine WP.region ?_
                    refine RP.assign rfl rfl ?_
                    refine RP.nil ?_
                    refine WP.seq ?_
                    refine WP.seq ?_
                    refine WP.region ?_
                    refine RP.move rfl rfl ?_
                    refine RP.move rfl rfl ?_
                    refine RP.len_sl rfl rfl (.arg hvc) rfl ?_
                    refine RP.lss rfl rfl rfl (fun h104 => ?_) (fun h104 => ?_)
                    · skip
                      have hltb : i < bs.length := by omega
                      have hb8 : bs[i].toNat < 256 := bs[i].toNat_lt
                      refine RP.nil ?_
                      refine WP.cond_t rfl ?_
                      refine WP.region ?_
                      refine RP.move rfl rfl ?_
                      refine RP.move rfl rfl ?_
                      refine RP.at_ rfl rfl rfl rfl rfl rfl (.arg hvc) (by first | assumption | omega) ?_
                      refine RP.load_el rfl rfl rfl rfl (.arg hvc) (by first | assumption | omega) rfl ?_
                      refine RP.conv (v := .int .i64 (bs[i].toNat : Int)) rfl rfl (fun _ => by show some (LV.int .i64 _, _) = _; rw [IntWalk.i64_in _ ⟨by omega, by omega⟩]) ?_
                      refine RP.move rfl rfl ?_
                      refine RP.len_sl rfl rfl (.lin fI_len hK2 (by repeat (first | exact .here | apply HIn.there | apply HIn.app))) rfl ?_
                      obtain ⟨nn, hnn⟩ : ∃ nn : Nat, nn = bs[i].toNat % gd.length := ⟨_, rfl⟩
                      refine RP.bin (v := .int .i64 (nn : Int)) rfl rfl rfl (by show (if _ then _ else _) = some (LV.int .i64 _); rw [if_neg (by omega), Int.tmod_eq_emod_of_nonneg (by omega), hnn]; rfl) ?_
                      refine RP.assign rfl rfl ?_
                      refine RP.nil ?_
                      refine WP.seq ?_
                      have hnl : nn < gd.length := by first | (rw [hnn]; exact Nat.mod_lt _ hgl) | omega
                      have hz := hstep.2 gd[nn] (List.getElem_mem hnl)
                      have hzs := hz.1.2
                      have htl : i < tags.length := by have := hsp.len_ok hc64; omega
                      have htg : m.spots[gd[nn].toNat].tag = tags[i] := by
                        have h1 := hz.2.1
                        unfold tagOf at h1
                        rw [List.getElem?_eq_getElem hzs, List.getElem?_eq_getElem htl] at h1
                        exact (Option.some.inj h1).symm
                      refine WP.region ?_
                      refine RP.move rfl rfl ?_
                      refine RP.move rfl rfl ?_
                      refine RP.at_ rfl rfl rfl (natOf_is (n := nn) (by omega)) rfl rfl (.lin fI_len hK2 (by repeat (first | exact .here | apply HIn.there | apply HIn.app))) (by first | assumption | omega) ?_
                      refine RP.load_el rfl rfl rfl rfl (.lin fI_len hK2 (by repeat (first | exact .here | apply HIn.there | apply HIn.app))) (by first | assumption | omega) rfl ?_
                      refine RP.bslice [gd[nn]] rfl rfl rfl rfl rfl rfl rfl rfl rfl rfl fI_len ?_
                      intro v117 p117 hl117
                      refine RP.assign rfl rfl ?_
                      refine RP.nil ?_
                      refine WP.seq ?_
                      refine WP.drawn (by kernel_rfl) ?_
                      refine RP.faddr rfl rfl rfl ?_
                      refine RP.load_box rfl rfl rfl rfl (by repeat (first | exact .here | apply HIn.there | apply HIn.app)) rfl ?_
                      refine RP.move rfl rfl ?_
                      refine RP.move rfl rfl ?_
                      refine RP.at_ rfl rfl rfl (natOf_is (n := nn) (by omega)) rfl rfl (.lin fI_len hK2 (by repeat (first | exact .here | apply HIn.there | apply HIn.app))) (by first | assumption | omega) ?_
                      refine RP.load_el rfl rfl rfl rfl (.lin fI_len hK2 (by repeat (first | exact .here | apply HIn.there | apply HIn.app))) (by first | assumption | omega) rfl ?_
                      refine RP.at_ rfl rfl rfl (natOf_is (n := gd[nn].toNat) (by omega)) rfl rfl (.arg hm.spots) (by first | assumption | omega) ?_
                      first | refine RP.faddr_p rfl rfl rfl rfl rfl (.arg hm.spots) (by first | assumption | omega) ?_ | refine RP.faddr_p rfl rfl rfl rfl rfl (.arg hm.first) (by first | assumption | omega) ?_ | refine RP.faddr_p rfl rfl rfl rfl rfl (.arg hm.follow) (by first | assumption | omega) ?_ | refine RP.faddr_p rfl rfl rfl rfl rfl (.arg hm.last) (by first | assumption | omega) ?_
                      first | refine RP.load_el rfl rfl rfl rfl (.arg hm.spots) (by first | assumption | omega) rfl ?_ | refine RP.load_el rfl rfl rfl rfl (.arg hm.first) (by first | assumption | omega) rfl ?_ | refine RP.load_el rfl rfl rfl rfl (.arg hm.follow) (by first | assumption | omega) rfl ?_ | refine RP.load_el rfl rfl rfl rfl (.arg hm.last) (by first | assumption | omega) rfl ?_
                      refine RP.move rfl rfl ?_
                      refine RP.move rfl rfl ?_
                      refine RP.at_ rfl rfl rfl rfl rfl rfl (.lin fU_len hl31 (by repeat (first | exact .here | apply HIn.there | apply HIn.app))) (by first | assumption | omega) ?_
                      refine RP.load_el rfl rfl rfl rfl (.lin fU_len hl31 (by repeat (first | exact .here | apply HIn.there | apply HIn.app))) (by first | assumption | omega) rfl ?_
                      refine RP.neq_f rfl rfl rfl (by omega) ?_
                      refine RP.nil ?_
                      refine WP.cond_f rfl ?_
                      refine WP.skip ?_
                      refine WP.region ?_
                      refine RP.move rfl rfl ?_
                      refine RP.add rfl rfl rfl (by omega) (by omega) ?_
                      refine RP.assign rfl rfl ?_
                      refine RP.nil ?_
                      refine roundQ.mk (Q := fun _ _ _ => True) (i + 1, v117, p117, [gd[nn]]) ⟨rfl, rfl, rfl, rfl, rfl, rfl, rfl, trivial⟩ (.cons (by repeat (first | exact .here | apply HRem.there | apply HRem.app)) (.cons (by repeat (first | exact .here | apply HRem.there | apply HRem.app)) (.cons (by repeat (first | exact .here | apply HRem.there | apply HRem.app)) .nil))) (by
                        try dsimp only
                        exact ⟨by omega, hl117, fun x hx => by obtain rfl := List.mem_singleton.1 hx; exact hz.1, by simp, fun _ => hz.2.2⟩) (by
                        try dsimp only
                        omega)
                    · skip
                      obtain ⟨nn, hnn⟩ : ∃ nn : Nat, nn = 0 := ⟨_, rfl⟩
                      refine RP.nil ?_
                      refine WP.cond_f rfl ?_
                      refine WP.skip ?_
                      refine WP.seq ?_
                      have hnl : nn < gd.length := by first | (rw [hnn]; exact Nat.mod_lt _ hgl) | omega
                      have hz := hstep.2 gd[nn] (List.getElem_mem hnl)
                      have hzs := hz.1.2
                      have htl : i < tags.length := by have := hsp.len_ok hc64; omega
                      have htg : m.spots[gd[nn].toNat].tag = tags[i] := by
                        have h1 := hz.2.1
                        unfold tagOf at h1
                        rw [List.getElem?_eq_getElem hzs, List.getElem?_eq_getElem htl] at h1
                        exact (Option.some.inj h1).symm
                      refine WP.region ?_
                      refine RP.move rfl rfl ?_
                      refine RP.move rfl rfl ?_
                      refine RP.at_ rfl rfl rfl (natOf_is (n := nn) (by omega)) rfl rfl (.lin fI_len hK2 (by repeat (first | exact .here | apply HIn.there | apply HIn.app))) (by first | assumption | omega) ?_
                      refine RP.load_el rfl rfl rfl rfl (.lin fI_len hK2 (by repeat (first | exact .here | apply HIn.there | apply HIn.app))) (by first | assumption | omega) rfl ?_
                      refine RP.bslice [gd[nn]] rfl rfl rfl rfl rfl rfl rfl rfl rfl rfl fI_len ?_
                      intro v117 p117 hl117
                      refine RP.assign rfl rfl ?_
                      refine RP.nil ?_
                      refine WP.seq ?_
                      refine WP.drawn (by kernel_rfl) ?_
                      refine RP.faddr rfl rfl rfl ?_
                      refine RP.load_box rfl rfl rfl rfl (by repeat (first | exact .here | apply HIn.there | apply HIn.app)) rfl ?_
                      refine RP.move rfl rfl ?_
                      refine RP.move rfl rfl ?_
                      refine RP.at_ rfl rfl rfl (natOf_is (n := nn) (by omega)) rfl rfl (.lin fI_len hK2 (by repeat (first | exact .here | apply HIn.there | apply HIn.app))) (by first | assumption | omega) ?_
                      refine RP.load_el rfl rfl rfl rfl (.lin fI_len hK2 (by repeat (first | exact .here | apply HIn.there | apply HIn.app))) (by first | assumption | omega) rfl ?_
                      refine RP.at_ rfl rfl rfl (natOf_is (n := gd[nn].toNat) (by omega)) rfl rfl (.arg hm.spots) (by first | assumption | omega) ?_
                      first | refine RP.faddr_p rfl rfl rfl rfl rfl (.arg hm.spots) (by first | assumption | omega) ?_ | refine RP.faddr_p rfl rfl rfl rfl rfl (.arg hm.first) (by first | assumption | omega) ?_ | refine RP.faddr_p rfl rfl rfl rfl rfl (.arg hm.follow) (by first | assumption | omega) ?_ | refine RP.faddr_p rfl rfl rfl rfl rfl (.arg hm.last) (by first | assumption | omega) ?_
                      first | refine RP.load_el rfl rfl rfl rfl (.arg hm.spots) (by first | assumption | omega) rfl ?_ | refine RP.load_el rfl rfl rfl rfl (.arg hm.first) (by first | assumption | omega) rfl ?_ | refine RP.load_el rfl rfl rfl rfl (.arg hm.follow) (by first | assumption | omega) rfl ?_ | refine RP.load_el rfl rfl rfl rfl (.arg hm.last) (by first | assumption | omega) rfl ?_
                      refine RP.move rfl rfl ?_
                      refine RP.move rfl rfl ?_
                      refine RP.at_ rfl rfl rfl rfl rfl rfl (.lin fU_len hl31 (by repeat (first | exact .here | apply HIn.there | apply HIn.app))) (by first | assumption | omega) ?_
                      refine RP.load_el rfl rfl rfl rfl (.lin fU_len hl31 (by repeat (first | exact .here | apply HIn.there | apply HIn.app))) (by first | assumption | omega) rfl ?_
                      refine RP.neq_f rfl rfl rfl (by omega) ?_
                      refine RP.nil ?_
                      refine WP.cond_f rfl ?_
                      refine WP.skip ?_
                      refine WP.region ?_
                      refine RP.move rfl rfl ?_
                      refine RP.add rfl rfl rfl (by omega) (by omega) ?_
                      refine RP.assign rfl rfl ?_
                      refine RP.nil ?_
                      refine roundQ.mk (Q := fun _ _ _ => True) (i + 1, v117, p117, [gd[nn]]) ⟨rfl, rfl, rfl, rfl, rfl, rfl, rfl, trivial⟩ (.cons (by repeat (first | exact .here | apply HRem.there | apply HRem.app)) (.cons (by repeat (first | exact .here | apply HRem.there | apply HRem.app)) (.cons (by repeat (first | exact .here | apply HRem.there | apply HRem.app)) .nil))) (by
                        try dsimp only
                        exact ⟨by omega, hl117, fun x hx => by obtain rfl := List.mem_singleton.1 hx; exact hz.1, by simp, fun _ => hz.2.2⟩) (by
                        try dsimp only
                        omega)
              · skip
                refine WP.exit ?_
                refine WP.seq ?_
                refine WP.region ?_
                refine RP.call rfl rfl rfl hlo (fun st' lo' hi' hl' => awake_ok) ?_
                rintro _ _ ⟨rfl, rfl⟩
                refine RP.assign rfl rfl ?_
                refine RP.nil ?_
                refine WP.ret ?_
                exact End.one (Or.inr rfl) rfl (.tmp rfl) .nil ⟨rfl, rfl⟩
            · skip
              refine RP.move rfl rfl ?_
              refine RP.gfalse rfl rfl ?_
              refine RP.pick_ rfl rfl rfl ?_
              refine RP.nil ?_
              refine WP.cond_f rfl ?_
              refine WP.exit ?_
              refine WP.seq ?_
              refine WP.region ?_
              refine RP.call rfl rfl rfl hlo (fun st' lo' hi' hl' => awake_ok) ?_
              rintro _ _ ⟨rfl, rfl⟩
              refine RP.assign rfl rfl ?_
              refine RP.nil ?_
              refine WP.ret ?_
              exact End.one (Or.inr rfl) rfl (.tmp rfl) .nil ⟨rfl, rfl⟩
          · skip
            refine RP.gfalse rfl rfl ?_
            refine RP.gfalse rfl rfl ?_
            refine RP.gfalse rfl rfl ?_
            refine RP.gtrue rfl ?_
            refine RP.pick_ rfl rfl rfl ?_
            refine RP.pick_ rfl rfl rfl ?_
            refine RP.nil ?_
            refine WP.cond_f rfl ?_
            refine WP.skip ?_
            refine WP.seq ?_
            refine WP.ghost .dead ?_
            refine WP.region ?_
            refine RP.assign rfl rfl ?_
            refine RP.nil ?_
            refine WP.seq ?_
            refine WP.seq ?_
            refine WP.region ?_
            refine RP.assign rfl rfl ?_
            refine RP.nil ?_
            refine WP.block rfl ?_
            refine WP.loop (α := Nat × LV × HE × List Int) (fun gh => [(1, .str w), (2, vc), (3, .ptr (.own L3) 0), (7, v'), (8, .bool ok), (9, gh.2.1), (10, .int .i64 (gh.1 : Int))]) (fun gh => [(some L3, .cells (mv a b c d m).cells), pm, gh.2.2.1]) (fun gh => gh.1 ≤ w.size ∧ Lin 1 fI true gh.2.1 gh.2.2.2 gh.2.2.1 ∧ (∀ x ∈ gh.2.2.2, 0 ≤ x ∧ x.toNat < m.spots.length) ∧ gh.2.2.2.length ≤ 1 ∧ (ok = true → AllI m w.data.toList tags gh.1 gh.2.2.2)) (fun gh => w.size - gh.1) ?_ (0, .nilsl, (none, .dead), []) ⟨rfl, rfl, rfl, rfl, rfl, rfl, rfl, trivial⟩ (.cons (by repeat (first | exact .here | apply HRem.there | apply HRem.app)) (.cons (by repeat (first | exact .here | apply HRem.there | apply HRem.app)) (.cons (by repeat (first | exact .here | apply HRem.there | apply HRem.app)) .nil))) (by
              try dsimp only
              exact ⟨Nat.zero_le _, .nil, by simp, Nat.zero_le _, fun ho => AllI.start (hsp.mark ho)⟩)
            rintro ⟨i, va, pa, ys⟩ hI
            change i ≤ w.size ∧ Lin 1 fI true va ys pa ∧ (∀ x ∈ ys, 0 ≤ x ∧ x.toNat < m.spots.length) ∧ ys.length ≤ 1 ∧ (ok = true → AllI m w.data.toList tags i ys) at hI
            change WP _ _ _ _ _ [(1, .str w), (2, vc), (3, .ptr (.own L3) 0), (7, v'), (8, .bool ok), (9, va), (10, .int .i64 (i : Int))] ([(some L3, .cells (mv a b c d m).cells), pm, pa] : HL) _
            obtain ⟨hI1, hI2, hI3, hI4, hI5⟩ := hI
            refine WP.seq ?_
            refine WP.seq ?_
            refine WP.region ?_
            refine RP.move rfl rfl ?_
            refine RP.move rfl rfl ?_
            refine RP.len_v rfl rfl (fun _ => rfl) ?_
            refine RP.lss rfl rfl rfl (fun h61 => ?_) (fun h61 => ?_)
            · skip
              have hlw : i < w.data.toList.length := by omega
              refine RP.move rfl rfl ?_
              refine RP.gtrue rfl ?_
              refine RP.move rfl rfl ?_
              refine RP.pick_ rfl rfl rfl ?_
              refine RP.nil ?_
              refine WP.cond_b rfl (fun hc64 => ?_) (fun hc64 => ?_)
              · skip
                refine WP.skip ?_
                refine WP.seq ?_
                refine WP.block rfl ?_
                refine WP.seq ?_
                refine WP.drawn (by kernel_rfl) ?_
                refine RP.load_boxN rfl rfl rfl rfl rfl (by repeat (first | exact .here | apply HIn.there | apply HIn.app)) rfl ?_
                refine RP.move rfl rfl ?_
                refine RP.move rfl rfl ?_
                refine RP.eql rfl rfl rfl (fun h70 => ?_) (fun h70 => ?_)
                · skip
                  refine RP.move rfl rfl ?_
                  refine RP.move rfl rfl ?_
                  refine RP.idx_str rfl rfl rfl rfl rfl (List.getElem?_eq_getElem (by first | assumption | omega)) ?_
                  refine RP.call rfl rfl rfl hlo (fun st' lo' hi' hl' => step_ok hl' (hm.inv hi') hgd hok (by omega) (by omega) (fun j hj => by have := h05 j hj; omega) (SlH.lin fI_len hI2 (by repeat (first | exact .here | apply HIn.there | apply HIn.app)) _ hi') (by omega) hI3) ?_
                  rintro v74 _ ⟨p74, rfl, hl74⟩
                  obtain ⟨ls, hls⟩ : ∃ ls, ls = stepF m ys (decide (i = 0)) w.data.toList[i] := ⟨_, rfl⟩
                  replace hl74 : Lin 1 fI true v74 ls p74 := by
                    have e : decide (i = 0) = true := decide_eq_true (by omega)
                    rw [hls, e]; exact hl74
                  have hlr : ∀ x ∈ ls, 0 ≤ x ∧ x.toNat < m.spots.length := hls ▸ stepF_range
                  have hll : ls.length ≤ 60 := by rw [hls]; exact Nat.le_trans stepF_len h01
                  refine RP.assign rfl rfl ?_
                  refine RP.nil ?_
                  refine WP.seq ?_
                  refine WP.ghost .dead ?_
                  refine WP.region ?_
                  refine RP.assign rfl rfl ?_
                  refine RP.nil ?_
                  refine WP.seq ?_
                  refine WP.seq ?_
                  refine WP.region ?_
                  refine RP.assign rfl rfl ?_
                  refine RP.nil ?_
                  refine WP.block rfl ?_
                  refine WP.loop (α := Nat × LV × HE) (fun gh => [(1, .str w), (2, vc), (3, .ptr (.own L3) 0), (7, v'), (8, .bool ok), (10, .int .i64 (i : Int)), (11, v74), (12, gh.2.1), (13, .int .i64 (gh.1 : Int))]) (fun gh => [(some L3, .cells (mv a b c d m).cells), pm, p74, gh.2.2]) (fun gh => gh.1 ≤ ls.length ∧ Lin 1 fI true gh.2.1 ((ls.take gh.1).filter fun x => goW m (w.data.toList.drop (i + 1)) x.toNat) gh.2.2) (fun gh => ls.length - gh.1) ?_ (0, .nilsl, (none, .dead)) ⟨rfl, rfl, rfl, rfl, rfl, rfl, rfl, rfl, rfl, trivial⟩ (.cons (by repeat (first | exact .here | apply HRem.there | apply HRem.app)) (.cons (by repeat (first | exact .here | apply HRem.there | apply HRem.app)) (.cons (by repeat (first | exact .here | apply HRem.there | apply HRem.app)) (.cons (by repeat (first | exact .here | apply HRem.there | apply HRem.app)) .nil)))) (by
                    try dsimp only
                    exact ⟨Nat.zero_le _, .nil⟩)
                  rintro ⟨k, vg, pg⟩ hI
                  change k ≤ ls.length ∧ Lin 1 fI true vg ((ls.take k).filter fun x => goW m (w.data.toList.drop (i + 1)) x.toNat) pg at hI
                  change WP _ _ _ _ _ [(1, .str w), (2, vc), (3, .ptr (.own L3) 0), (7, v'), (8, .bool ok), (10, .int .i64 (i : Int)), (11, v74), (12, vg), (13, .int .i64 (k : Int))] ([(some L3, .cells (mv a b c d m).cells), pm, p74, pg] : HL) _
                  obtain ⟨hK1, hK2⟩ := hI
                  have hkf := List.length_filter_le (fun x : Int => goW m (w.data.toList.drop (i + 1)) x.toNat) (ls.take k)
                  rw [List.length_take] at hkf
                  refine WP.seq ?_
                  refine WP.seq ?_
                  refine WP.region ?_
                  refine RP.move rfl rfl ?_
                  refine RP.move rfl rfl ?_
                  refine RP.len_sl rfl rfl (.lin fI_len hl74 (by repeat (first | exact .here | apply HIn.there | apply HIn.app))) rfl ?_
                  refine RP.lss rfl rfl rfl (fun h78 => ?_) (fun h78 => ?_)
                  · skip
                    have hlk : k < ls.length := by omega
                    have hx := hlr ls[k] (List.getElem_mem hlk)
                    have hws : (w.extract (i + 1) w.size).data.toList = w.data.toList.drop (i + 1) := by rw [ByteArray.data_extract, Array.toList_extract, List.extract, List.take_of_length_le (by rw [List.length_drop, hwl]; exact Nat.le_refl _)]
                    have hrs : (w.extract (i + 1) w.size).size = w.size - (i + 1) := by rw [size_list, hws, List.length_drop, hwl]
                    refine RP.nil ?_
                    refine WP.cond_t rfl ?_
                    refine WP.skip ?_
                    refine WP.seq ?_
                    refine WP.block rfl ?_
                    refine WP.seq ?_
                    refine WP.drawn (by kernel_rfl) ?_
                    refine RP.load_boxN rfl rfl rfl rfl rfl (by repeat (first | exact .here | apply HIn.there | apply HIn.app)) rfl ?_
                    refine RP.move rfl rfl ?_
                    refine RP.move rfl rfl ?_
                    refine RP.at_ rfl rfl rfl rfl rfl rfl (.lin fI_len hl74 (by repeat (first | exact .here | apply HIn.there | apply HIn.app))) (by first | assumption | omega) ?_
                    refine RP.load_el rfl rfl rfl rfl (.lin fI_len hl74 (by repeat (first | exact .here | apply HIn.there | apply HIn.app))) (by first | assumption | omega) rfl ?_
                    refine RP.move rfl rfl ?_
                    refine RP.move rfl rfl ?_
                    refine RP.add rfl rfl rfl (by omega) (by omega) ?_
                    refine RP.rest_str rfl rfl rfl (natOf_is (n := i + 1) (by omega)) rfl (by omega) ?_
                    refine RP.call (Q := fun v H => v = LV.bool (goW m (w.extract (i + 1) w.size).data.toList ls[k].toNat) ∧ H = []) rfl rfl rfl hlo (fun st' lo' hi' hl' => goes_ok hl' (hm.inv hi') h0 hgd hok (w := w.extract (i + 1) w.size) (z := ls[k]'hlk) (by rw [hrs]; omega) (n := (ls[k]'hlk).toNat) (by omega) hx.2) ?_
                    rintro _ _ ⟨rfl, rfl⟩
                    refine RP.nil ?_
                    refine WP.cond_b rfl (fun hc90 => ?_) (fun hc90 => ?_)
                    · skip
                      refine WP.region ?_
                      refine RP.move rfl rfl ?_
                      refine RP.move rfl rfl ?_
                      refine RP.move rfl rfl ?_
                      refine RP.at_ rfl rfl rfl rfl rfl rfl (.lin fI_len hl74 (by repeat (first | exact .here | apply HIn.there | apply HIn.app))) (by first | assumption | omega) ?_
                      refine RP.load_el rfl rfl rfl rfl (.lin fI_len hl74 (by repeat (first | exact .here | apply HIn.there | apply HIn.app))) (by first | assumption | omega) rfl ?_
                      refine RP.bslice [ls[k]] rfl rfl rfl rfl rfl rfl rfl rfl rfl rfl fI_len ?_
                      intro v96 p96 hl96
                      refine RP.append rfl rfl rfl rfl rfl rfl rfl rfl hK2 (fun _ => (by repeat (first | exact .here | apply HUpd.there | apply HUpd.app))) (.lin fI_len hl96 (by repeat (first | exact .here | apply HIn.there | apply HIn.app))) (flat_all fI_sc _) (by simp only [List.length_singleton]; omega) (fun e => (by first | rfl | cases e)) hlo ?_
                      intro v97 p97 hl97
                      refine RP.assign rfl rfl ?_
                      refine RP.nil ?_
                      refine WP.region ?_
                      refine RP.move rfl rfl ?_
                      refine RP.add rfl rfl rfl (by omega) (by omega) ?_
                      refine RP.assign rfl rfl ?_
                      refine RP.nil ?_
                      refine roundQ.mk (Q := fun _ _ _ => True) (k + 1, v97, p97) ⟨rfl, rfl, rfl, rfl, rfl, rfl, rfl, rfl, rfl, trivial⟩ (.cons (by repeat (first | exact .here | apply HRem.there | apply HRem.app)) (.cons (by repeat (first | exact .here | apply HRem.there | apply HRem.app)) (.cons (by repeat (first | exact .here | apply HRem.there | apply HRem.app)) (.cons (by repeat (first | exact .here | apply HRem.there | apply HRem.app)) .nil)))) (by
                        try dsimp only
                        exact ⟨by omega, by rw [filter_step hlk, if_pos (by rw [← hws]; exact hc90)]; exact hl97⟩) (by
                        try dsimp only
                        omega)
                    · skip
                      refine WP.skip ?_
                      refine WP.region ?_
                      refine RP.move rfl rfl ?_
                      refine RP.add rfl rfl rfl (by omega) (by omega) ?_
                      refine RP.assign rfl rfl ?_
                      refine RP.nil ?_
                      refine roundQ.mk (Q := fun _ _ _ => True) (k + 1, vg, pg) ⟨rfl, rfl, rfl, rfl, rfl, rfl, rfl, rfl, rfl, trivial⟩ (.cons (by repeat (first | exact .here | apply HRem.there | apply HRem.app)) (.cons (by repeat (first | exact .here | apply HRem.there | apply HRem.app)) (.cons (by repeat (first | exact .here | apply HRem.there | apply HRem.app)) (.cons (by repeat (first | exact .here | apply HRem.there | apply HRem.app)) .nil)))) (by
                        try dsimp only
                        exact ⟨by omega, by rw [filter_step hlk, if_neg (by rw [← hws, hc90]; exact Bool.false_ne_true), List.append_nil]; exact hK2⟩) (by
                        try dsimp only
                        omega)
                  · skip
                    refine RP.nil ?_
                    refine WP.cond_f rfl ?_
                    refine WP.exit ?_
                    refine WP.seq ?_
                    refine WP.seq ?_
                    have hlse : ls.take k = ls := List.take_of_length_le (by omega)
                    rw [hlse] at hK2 hkf
                    obtain ⟨gd, hgdE⟩ : ∃ gd, gd = ls.filter fun x => goW m (w.data.toList.drop (i + 1)) x.toNat := ⟨_, rfl⟩
                    rw [← hgdE] at hK2 hkf
                    have hstep := AllI.step (fs := decide (i = 0)) hS (hI5 hc64) hlw rfl
                    rw [← hls, ← hgdE] at hstep
                    have hgl : 0 < gd.length := List.length_pos_iff.2 hstep.1
                    refine WP.region ?_
                    refine RP.move rfl rfl ?_
                    refine RP.len_sl rfl rfl (.lin fI_len hK2 (by repeat (first | exact .here | apply HIn.there | apply HIn.app))) rfl ?_
                    refine RP.eql_f rfl rfl rfl (by omega) ?_
                    refine RP.nil ?_
                    refine WP.cond_f rfl ?_
                    refine WP.skip ?_
                    refine WP.seq ?_
                    refine WP.region ?_
                    refine RP.assign rfl rfl ?_
                    refine RP.nil ?_
                    refine WP.seq ?_
                    refine WP.seq ?_
                    refine WP.region ?_
                    refine RP.move rfl rfl ?_
                    refine RP.move rfl rfl ?_
                    refine RP.len_sl rfl rfl (.arg hvc) rfl ?_
                    refine RP.lss rfl rfl rfl (fun h104 => ?_) (fun h104 => ?_)
                    · skip
                      have hltb : i < bs.length := by omega
                      have hb8 : bs[i].toNat < 256 := bs[i].toNat_lt
                      refine RP.nil ?_
                      refine WP.cond_t rfl ?_
                      refine WP.region ?_
                      refine RP.move rfl rfl ?_
                      refine RP.move rfl rfl ?_
                      refine RP.at_ rfl rfl rfl rfl rfl rfl (.arg hvc) (by first | assumption | omega) ?_
                      refine RP.load_el rfl rfl rfl rfl (.arg hvc) (by first | assumption | omega) rfl ?_
                      refine RP.conv (v := .int .i64 (bs[i].toNat : Int)) rfl rfl (fun _ => by show some (LV.int .i64 _, _) = _; rw [IntWalk.i64_in _ ⟨by omega, by omega⟩]) ?_
                      refine RP.move rfl rfl ?_
                      refine RP.len_sl rfl rfl (.lin fI_len hK2 (by repeat (first | exact .here | apply HIn.there | apply HIn.app))) rfl ?_
                      obtain ⟨nn, hnn⟩ : ∃ nn : Nat, nn = bs[i].toNat % gd.length := ⟨_, rfl⟩
                      refine RP.bin (v := .int .i64 (nn : Int)) rfl rfl rfl (by show (if _ then _ else _) = some (LV.int .i64 _); rw [if_neg (by omega), Int.tmod_eq_emod_of_nonneg (by omega), hnn]; rfl) ?_
                      refine RP.assign rfl rfl ?_
                      refine RP.nil ?_
                      refine WP.seq ?_
                      have hnl : nn < gd.length := by first | (rw [hnn]; exact Nat.mod_lt _ hgl) | omega
                      have hz := hstep.2 gd[nn] (List.getElem_mem hnl)
                      have hzs := hz.1.2
                      have htl : i < tags.length := by have := hsp.len_ok hc64; omega
                      have htg : m.spots[gd[nn].toNat].tag = tags[i] := by
                        have h1 := hz.2.1
                        unfold tagOf at h1
                        rw [List.getElem?_eq_getElem hzs, List.getElem?_eq_getElem htl] at h1
                        exact (Option.some.inj h1).symm
                      refine WP.region ?_
                      refine RP.move rfl rfl ?_
                      refine RP.move rfl rfl ?_
                      refine RP.at_ rfl rfl rfl (natOf_is (n := nn) (by omega)) rfl rfl (.lin fI_len hK2 (by repeat (first | exact .here | apply HIn.there | apply HIn.app))) (by first | assumption | omega) ?_
                      refine RP.load_el rfl rfl rfl rfl (.lin fI_len hK2 (by repeat (first | exact .here | apply HIn.there | apply HIn.app))) (by first | assumption | omega) rfl ?_
                      refine RP.bslice [gd[nn]] rfl rfl rfl rfl rfl rfl rfl rfl rfl rfl fI_len ?_
                      intro v117 p117 hl117
                      refine RP.assign rfl rfl ?_
                      refine RP.nil ?_
                      refine WP.seq ?_
                      refine WP.drawn (by kernel_rfl) ?_
                      refine RP.faddr rfl rfl rfl ?_
                      refine RP.load_box rfl rfl rfl rfl (by repeat (first | exact .here | apply HIn.there | apply HIn.app)) rfl ?_
                      refine RP.move rfl rfl ?_
                      refine RP.move rfl rfl ?_
                      refine RP.at_ rfl rfl rfl (natOf_is (n := nn) (by omega)) rfl rfl (.lin fI_len hK2 (by repeat (first | exact .here | apply HIn.there | apply HIn.app))) (by first | assumption | omega) ?_
                      refine RP.load_el rfl rfl rfl rfl (.lin fI_len hK2 (by repeat (first | exact .here | apply HIn.there | apply HIn.app))) (by first | assumption | omega) rfl ?_
                      refine RP.at_ rfl rfl rfl (natOf_is (n := gd[nn].toNat) (by omega)) rfl rfl (.arg hm.spots) (by first | assumption | omega) ?_
                      first | refine RP.faddr_p rfl rfl rfl rfl rfl (.arg hm.spots) (by first | assumption | omega) ?_ | refine RP.faddr_p rfl rfl rfl rfl rfl (.arg hm.first) (by first | assumption | omega) ?_ | refine RP.faddr_p rfl rfl rfl rfl rfl (.arg hm.follow) (by first | assumption | omega) ?_ | refine RP.faddr_p rfl rfl rfl rfl rfl (.arg hm.last) (by first | assumption | omega) ?_
                      first | refine RP.load_el rfl rfl rfl rfl (.arg hm.spots) (by first | assumption | omega) rfl ?_ | refine RP.load_el rfl rfl rfl rfl (.arg hm.first) (by first | assumption | omega) rfl ?_ | refine RP.load_el rfl rfl rfl rfl (.arg hm.follow) (by first | assumption | omega) rfl ?_ | refine RP.load_el rfl rfl rfl rfl (.arg hm.last) (by first | assumption | omega) rfl ?_
                      refine RP.move rfl rfl ?_
                      refine RP.move rfl rfl ?_
                      refine RP.at_ rfl rfl rfl rfl rfl rfl (.lin fU_len hl31 (by repeat (first | exact .here | apply HIn.there | apply HIn.app))) (by first | assumption | omega) ?_
                      refine RP.load_el rfl rfl rfl rfl (.lin fU_len hl31 (by repeat (first | exact .here | apply HIn.there | apply HIn.app))) (by first | assumption | omega) rfl ?_
                      refine RP.neq_f rfl rfl rfl (by omega) ?_
                      refine RP.nil ?_
                      refine WP.cond_f rfl ?_
                      refine WP.skip ?_
                      refine WP.region ?_
                      refine RP.move rfl rfl ?_
                      refine RP.add rfl rfl rfl (by omega) (by omega) ?_
                      refine RP.assign rfl rfl ?_
                      refine RP.nil ?_
                      refine roundQ.mk (Q := fun _ _ _ => True) (i + 1, v117, p117, [gd[nn]]) ⟨rfl, rfl, rfl, rfl, rfl, rfl, rfl, trivial⟩ (.cons (by repeat (first | exact .here | apply HRem.there | apply HRem.app)) (.cons (by repeat (first | exact .here | apply HRem.there | apply HRem.app)) (.cons (by repeat (first | exact .here | apply HRem.there | apply HRem.app)) .nil))) (by
                        try dsimp only
                        exact ⟨by omega, hl117, fun x hx => by obtain rfl := List.mem_singleton.1 hx; exact hz.1, by simp, fun _ => hz.2.2⟩) (by
                        try dsimp only
                        omega)
                    · skip
                      obtain ⟨nn, hnn⟩ : ∃ nn : Nat, nn = 0 := ⟨_, rfl⟩
                      refine RP.nil ?_
                      refine WP.cond_f rfl ?_
                      refine WP.skip ?_
                      refine WP.seq ?_
                      have hnl : nn < gd.length := by first | (rw [hnn]; exact Nat.mod_lt _ hgl) | omega
                      have hz := hstep.2 gd[nn] (List.getElem_mem hnl)
                      have hzs := hz.1.2
                      have htl : i < tags.length := by have := hsp.len_ok hc64; omega
                      have htg : m.spots[gd[nn].toNat].tag = tags[i] := by
                        have h1 := hz.2.1
                        unfold tagOf at h1
                        rw [List.getElem?_eq_getElem hzs, List.getElem?_eq_getElem htl] at h1
                        exact (Option.some.inj h1).symm
                      refine WP.region ?_
                      refine RP.move rfl rfl ?_
                      refine RP.move rfl rfl ?_
                      refine RP.at_ rfl rfl rfl (natOf_is (n := nn) (by omega)) rfl rfl (.lin fI_len hK2 (by repeat (first | exact .here | apply HIn.there | apply HIn.app))) (by first | assumption | omega) ?_
                      refine RP.load_el rfl rfl rfl rfl (.lin fI_len hK2 (by repeat (first | exact .here | apply HIn.there | apply HIn.app))) (by first | assumption | omega) rfl ?_
                      refine RP.bslice [gd[nn]] rfl rfl rfl rfl rfl rfl rfl rfl rfl rfl fI_len ?_
                      intro v117 p117 hl117
                      refine RP.assign rfl rfl ?_
                      refine RP.nil ?_
                      refine WP.seq ?_
                      refine WP.drawn (by kernel_rfl) ?_
                      refine RP.faddr rfl rfl rfl ?_
                      refine RP.load_box rfl rfl rfl rfl (by repeat (first | exact .here | apply HIn.there | apply HIn.app)) rfl ?_
                      refine RP.move rfl rfl ?_
                      refine RP.move rfl rfl ?_
                      refine RP.at_ rfl rfl rfl (natOf_is (n := nn) (by omega)) rfl rfl (.lin fI_len hK2 (by repeat (first | exact .here | apply HIn.there | apply HIn.app))) (by first | assumption | omega) ?_
                      refine RP.load_el rfl rfl rfl rfl (.lin fI_len hK2 (by repeat (first | exact .here | apply HIn.there | apply HIn.app))) (by first | assumption | omega) rfl ?_
                      refine RP.at_ rfl rfl rfl (natOf_is (n := gd[nn].toNat) (by omega)) rfl rfl (.arg hm.spots) (by first | assumption | omega) ?_
                      first | refine RP.faddr_p rfl rfl rfl rfl rfl (.arg hm.spots) (by first | assumption | omega) ?_ | refine RP.faddr_p rfl rfl rfl rfl rfl (.arg hm.first) (by first | assumption | omega) ?_ | refine RP.faddr_p rfl rfl rfl rfl rfl (.arg hm.follow) (by first | assumption | omega) ?_ | refine RP.faddr_p rfl rfl rfl rfl rfl (.arg hm.last) (by first | assumption | omega) ?_
                      first | refine RP.load_el rfl rfl rfl rfl (.arg hm.spots) (by first | assumption | omega) rfl ?_ | refine RP.load_el rfl rfl rfl rfl (.arg hm.first) (by first | assumption | omega) rfl ?_ | refine RP.load_el rfl rfl rfl rfl (.arg hm.follow) (by first | assumption | omega) rfl ?_ | refine RP.load_el rfl rfl rfl rfl (.arg hm.last) (by first | assumption | omega) rfl ?_
                      refine RP.move rfl rfl ?_
                      refine RP.move rfl rfl ?_
                      refine RP.at_ rfl rfl rfl rfl rfl rfl (.lin fU_len hl31 (by repeat (first | exact .here | apply HIn.there | apply HIn.app))) (by first | assumption | omega) ?_
                      refine RP.load_el rfl rfl rfl rfl (.lin fU_len hl31 (by repeat (first | exact .here | apply HIn.there | apply HIn.app))) (by first | assumption | omega) rfl ?_
                      refine RP.neq_f rfl rfl rfl (by omega) ?_
                      refine RP.nil ?_
                      refine WP.cond_f rfl ?_
                      refine WP.skip ?_
                      refine WP.region ?_
                      refine RP.move rfl rfl ?_
                      refine RP.add rfl rfl rfl (by omega) (by omega) ?_
                      refine RP.assign rfl rfl ?_
                      refine RP.nil ?_
                      refine roundQ.mk (Q := fun _ _ _ => True) (i + 1, v117, p117, [gd[nn]]) ⟨rfl, rfl, rfl, rfl, rfl, rfl, rfl, trivial⟩ (.cons (by repeat (first | exact .here | apply HRem.there | apply HRem.app)) (.cons (by repeat (first | exact .here | apply HRem.there | apply HRem.app)) (.cons (by repeat (first | exact .here | apply HRem.there | apply HRem.app)) .nil))) (by
                        try dsimp only
                        exact ⟨by omega, hl117, fun x hx => by obtain rfl := List.mem_singleton.1 hx; exact hz.1, by simp, fun _ => hz.2.2⟩) (by
                        try dsimp only
                        omega)
                · skip
                  refine RP.move rfl rfl ?_
                  refine RP.move rfl rfl ?_
                  refine RP.idx_str rfl rfl rfl rfl rfl (List.getElem?_eq_getElem (by first | assumption | omega)) ?_
                  refine RP.call rfl rfl rfl hlo (fun st' lo' hi' hl' => step_ok hl' (hm.inv hi') hgd hok (by omega) (by omega) (fun j hj => by have := h05 j hj; omega) (SlH.lin fI_len hI2 (by repeat (first | exact .here | apply HIn.there | apply HIn.app)) _ hi') (by omega) hI3) ?_
                  rintro v74 _ ⟨p74, rfl, hl74⟩
                  obtain ⟨ls, hls⟩ : ∃ ls, ls = stepF m ys (decide (i = 0)) w.data.toList[i] := ⟨_, rfl⟩
                  replace hl74 : Lin 1 fI true v74 ls p74 := by
                    have e : decide (i = 0) = false := decide_eq_false (by omega)
                    rw [hls, e]; exact hl74
                  have hlr : ∀ x ∈ ls, 0 ≤ x ∧ x.toNat < m.spots.length := hls ▸ stepF_range
                  have hll : ls.length ≤ 60 := by rw [hls]; exact Nat.le_trans stepF_len h01
                  refine RP.assign rfl rfl ?_
                  refine RP.nil ?_
                  refine WP.seq ?_
                  refine WP.ghost .dead ?_
                  refine WP.region ?_
                  refine RP.assign rfl rfl ?_
                  refine RP.nil ?_
                  refine WP.seq ?_
                  refine WP.seq ?_
                  refine WP.region ?_
                  refine RP.assign rfl rfl ?_
                  refine RP.nil ?_
                  refine WP.block rfl ?_
                  refine WP.loop (α := Nat × LV × HE) (fun gh => [(1, .str w), (2, vc), (3, .ptr (.own L3) 0), (7, v'), (8, .bool ok), (10, .int .i64 (i : Int)), (11, v74), (12, gh.2.1), (13, .int .i64 (gh.1 : Int))]) (fun gh => [(some L3, .cells (mv a b c d m).cells), pm, p74, gh.2.2]) (fun gh => gh.1 ≤ ls.length ∧ Lin 1 fI true gh.2.1 ((ls.take gh.1).filter fun x => goW m (w.data.toList.drop (i + 1)) x.toNat) gh.2.2) (fun gh => ls.length - gh.1) ?_ (0, .nilsl, (none, .dead)) ⟨rfl, rfl, rfl, rfl, rfl, rfl, rfl, rfl, rfl, trivial⟩ (.cons (by repeat (first | exact .here | apply HRem.there | apply HRem.app)) (.cons (by repeat (first | exact .here | apply HRem.there | apply HRem.app)) (.cons (by repeat (first | exact .here | apply HRem.there | apply HRem.app)) (.cons (by repeat (first | exact .here | apply HRem.there | apply HRem.app)) .nil)))) (by
                    try dsimp only
                    exact ⟨Nat.zero_le _, .nil⟩)
                  rintro ⟨k, vg, pg⟩ hI
                  change k ≤ ls.length ∧ Lin 1 fI true vg ((ls.take k).filter fun x => goW m (w.data.toList.drop (i + 1)) x.toNat) pg at hI
                  change WP _ _ _ _ _ [(1, .str w), (2, vc), (3, .ptr (.own L3) 0), (7, v'), (8, .bool ok), (10, .int .i64 (i : Int)), (11, v74), (12, vg), (13, .int .i64 (k : Int))] ([(some L3, .cells (mv a b c d m).cells), pm, p74, pg] : HL) _
                  obtain ⟨hK1, hK2⟩ := hI
                  have hkf := List.length_filter_le (fun x : Int => goW m (w.data.toList.drop (i + 1)) x.toNat) (ls.take k)
                  rw [List.length_take] at hkf
                  refine WP.seq ?_
                  refine WP.seq ?_
                  refine WP.region ?_
                  refine RP.move rfl rfl ?_
                  refine RP.move rfl rfl ?_
                  refine RP.len_sl rfl rfl (.lin fI_len hl74 (by repeat (first | exact .here | apply HIn.there | apply HIn.app))) rfl ?_
                  refine RP.lss rfl rfl rfl (fun h78 => ?_) (fun h78 => ?_)
                  · skip
                    have hlk : k < ls.length := by omega
                    have hx := hlr ls[k] (List.getElem_mem hlk)
                    have hws : (w.extract (i + 1) w.size).data.toList = w.data.toList.drop (i + 1) := by rw [ByteArray.data_extract, Array.toList_extract, List.extract, List.take_of_length_le (by rw [List.length_drop, hwl]; exact Nat.le_refl _)]
                    have hrs : (w.extract (i + 1) w.size).size = w.size - (i + 1) := by rw [size_list, hws, List.length_drop, hwl]
                    refine RP.nil ?_
                    refine WP.cond_t rfl ?_
                    refine WP.skip ?_
                    refine WP.seq ?_
                    refine WP.block rfl ?_
                    refine WP.seq ?_
                    refine WP.drawn (by kernel_rfl) ?_
                    refine RP.load_boxN rfl rfl rfl rfl rfl (by repeat (first | exact .here | apply HIn.there | apply HIn.app)) rfl ?_
                    refine RP.move rfl rfl ?_
                    refine RP.move rfl rfl ?_
                    refine RP.at_ rfl rfl rfl rfl rfl rfl (.lin fI_len hl74 (by repeat (first | exact .here | apply HIn.there | apply HIn.app))) (by first | assumption | omega) ?_
                    refine RP.load_el rfl rfl rfl rfl (.lin fI_len hl74 (by repeat (first | exact .here | apply HIn.there | apply HIn.app))) (by first | assumption | omega) rfl ?_
                    refine RP.move rfl rfl ?_
                    refine RP.move rfl rfl ?_
                    refine RP.add rfl rfl rfl (by omega) (by omega) ?_
                    refine RP.rest_str rfl rfl rfl (natOf_is (n := i + 1) (by omega)) rfl (by omega) ?_
                    refine RP.call (Q := fun v H => v = LV.bool (goW m (w.extract (i + 1) w.size).data.toList ls[k].toNat) ∧ H = []) rfl rfl rfl hlo (fun st' lo' hi' hl' => goes_ok hl' (hm.inv hi') h0 hgd hok (w := w.extract (i + 1) w.size) (z := ls[k]'hlk) (by rw [hrs]; omega) (n := (ls[k]'hlk).toNat) (by omega) hx.2) ?_
                    rintro _ _ ⟨rfl, rfl⟩
                    refine RP.nil ?_
                    refine WP.cond_b rfl (fun hc90 => ?_) (fun hc90 => ?_)
                    · skip
                      refine WP.region ?_
                      refine RP.move rfl rfl ?_
                      refine RP.move rfl rfl ?_
                      refine RP.move rfl rfl ?_
                      refine RP.at_ rfl rfl rfl rfl rfl rfl (.lin fI_len hl74 (by repeat (first | exact .here | apply HIn.there | apply HIn.app))) (by first | assumption | omega) ?_
                      refine RP.load_el rfl rfl rfl rfl (.lin fI_len hl74 (by repeat (first | exact .here | apply HIn.there | apply HIn.app))) (by first | assumption | omega) rfl ?_
                      refine RP.bslice [ls[k]] rfl rfl rfl rfl rfl rfl rfl rfl rfl rfl fI_len ?_
                      intro v96 p96 hl96
                      refine RP.append rfl rfl rfl rfl rfl rfl rfl rfl hK2 (fun _ => (by repeat (first | exact .here | apply HUpd.there | apply HUpd.app))) (.lin fI_len hl96 (by repeat (first | exact .here | apply HIn.there | apply HIn.app))) (flat_all fI_sc _) (by simp only [List.length_singleton]; omega) (fun e => (by first | rfl | cases e)) hlo ?_
                      intro v97 p97 hl97
                      refine RP.assign rfl rfl ?_
                      refine RP.nil ?_
                      refine WP.region ?_
                      refine RP.move rfl rfl ?_
                      refine RP.add rfl rfl rfl (by omega) (by omega) ?_
                      refine RP.assign rfl rfl ?_
                      refine RP.nil ?_
                      refine roundQ.mk (Q := fun _ _ _ => True) (k + 1, v97, p97) ⟨rfl, rfl, rfl, rfl, rfl, rfl, rfl, rfl, rfl, trivial⟩ (.cons (by repeat (first | exact .here | apply HRem.there | apply HRem.app)) (.cons (by repeat (first | exact .here | apply HRem.there | apply HRem.app)) (.cons (by repeat (first | exact .here | apply HRem.there | apply HRem.app)) (.cons (by repeat (first | exact .here | apply HRem.there | apply HRem.app)) .nil)))) (by
                        try dsimp only
                        exact ⟨by omega, by rw [filter_step hlk, if_pos (by rw [← hws]; exact hc90)]; exact hl97⟩) (by
                        try dsimp only
                        omega)
                    · skip
                      refine WP.skip ?_
                      refine WP.region ?_
                      refine RP.move rfl rfl ?_
                      refine RP.add rfl rfl rfl (by omega) (by omega) ?_
                      refine RP.assign rfl rfl ?_
                      refine RP.nil ?_
                      refine roundQ.mk (Q := fun _ _ _ => True) (k + 1, vg, pg) ⟨rfl, rfl, rfl, rfl, rfl, rfl, rfl, rfl, rfl, trivial⟩ (.cons (by repeat (first | exact .here | apply HRem.there | apply HRem.app)) (.cons (by repeat (first | exact .here | apply HRem.there | apply HRem.app)) (.cons (by repeat (first | exact .here | apply HRem.there | apply HRem.app)) (.cons (by repeat (first | exact .here | apply HRem.there | apply HRem.app)) .nil)))) (by
                        try dsimp only
                        exact ⟨by omega, by rw [filter_step hlk, if_neg (by rw [← hws, hc90]; exact Bool.false_ne_true), List.append_nil]; exact hK2⟩) (by
                        try dsimp only
                        omega)
                  · skip
                    refine RP.nil ?_
                    refine WP.cond_f rfl ?_
                    refine WP.exit ?_
                    refine WP.seq ?_
                    refine WP.seq ?_
                    have hlse : ls.take k = ls := List.take_of_length_le (by omega)
                    rw [hlse] at hK2 hkf
                    obtain ⟨gd, hgdE⟩ : ∃ gd, gd = ls.filter fun x => goW m (w.data.toList.drop (i + 1)) x.toNat := ⟨_, rfl⟩
                    rw [← hgdE] at hK2 hkf
                    have hstep := AllI.step (fs := decide (i = 0)) hS (hI5 hc64) hlw rfl
                    rw [← hls, ← hgdE] at hstep
                    have hgl : 0 < gd.length := List.length_pos_iff.2 hstep.1
                    refine WP.region ?_
                    refine RP.move rfl rfl ?_
                    refine RP.len_sl rfl rfl (.lin fI_len hK2 (by repeat (first | exact .here | apply HIn.there | apply HIn.app))) rfl ?_
                    refine RP.eql_f rfl rfl rfl (by omega) ?_
                    refine RP.nil ?_
                    refine WP.cond_f rfl ?_
                    refine WP.skip ?_
                    refine WP.seq ?_
                    refine WP.region ?_
                    refine RP.assign rfl rfl ?_
                    refine RP.nil ?_
                    refine WP.seq ?_
                    refine WP.seq ?_
                    refine WP.region ?_
                    refine RP.move rfl rfl ?_
                    refine RP.move rfl rfl ?_
                    refine RP.len_sl rfl rfl (.arg hvc) rfl ?_
                    refine RP.lss rfl rfl rfl (fun h104 => ?_) (fun h104 => ?_)
                    · skip
                      have hltb : i < bs.length := by omega
                      have hb8 : bs[i].toNat < 256 := bs[i].toNat_lt
                      refine RP.nil ?_
                      refine WP.cond_t rfl ?_
                      refine WP.region ?_
                      refine RP.move rfl rfl ?_
                      refine RP.move rfl rfl ?_
                      refine RP.at_ rfl rfl rfl rfl rfl rfl (.arg hvc) (by first | assumption | omega) ?_
                      refine RP.load_el rfl rfl rfl rfl (.arg hvc) (by first | assumption | omega) rfl ?_
                      refine RP.conv (v := .int .i64 (bs[i].toNat : Int)) rfl rfl (fun _ => by show some (LV.int .i64 _, _) = _; rw [IntWalk.i64_in _ ⟨by omega, by omega⟩]) ?_
                      refine RP.move rfl rfl ?_
                      refine RP.len_sl rfl rfl (.lin fI_len hK2 (by repeat (first | exact .here | apply HIn.there | apply HIn.app))) rfl ?_
                      obtain ⟨nn, hnn⟩ : ∃ nn : Nat, nn = bs[i].toNat % gd.length := ⟨_, rfl⟩
                      refine RP.bin (v := .int .i64 (nn : Int)) rfl rfl rfl (by show (if _ then _ else _) = some (LV.int .i64 _); rw [if_neg (by omega), Int.tmod_eq_emod_of_nonneg (by omega), hnn]; rfl) ?_
                      refine RP.assign rfl rfl ?_
                      refine RP.nil ?_
                      refine WP.seq ?_
                      have hnl : nn < gd.length := by first | (rw [hnn]; exact Nat.mod_lt _ hgl) | omega
                      have hz := hstep.2 gd[nn] (List.getElem_mem hnl)
                      have hzs := hz.1.2
                      have htl : i < tags.length := by have := hsp.len_ok hc64; omega
                      have htg : m.spots[gd[nn].toNat].tag = tags[i] := by
                        have h1 := hz.2.1
                        unfold tagOf at h1
                        rw [List.getElem?_eq_getElem hzs, List.getElem?_eq_getElem htl] at h1
                        exact (Option.some.inj h1).symm
                      refine WP.region ?_
                      refine RP.move rfl rfl ?_
                      refine RP.move rfl rfl ?_
                      refine RP.at_ rfl rfl rfl (natOf_is (n := nn) (by omega)) rfl rfl (.lin fI_len hK2 (by repeat (first | exact .here | apply HIn.there | apply HIn.app))) (by first | assumption | omega) ?_
                      refine RP.load_el rfl rfl rfl rfl (.lin fI_len hK2 (by repeat (first | exact .here | apply HIn.there | apply HIn.app))) (by first | assumption | omega) rfl ?_
                      refine RP.bslice [gd[nn]] rfl rfl rfl rfl rfl rfl rfl rfl rfl rfl fI_len ?_
                      intro v117 p117 hl117
                      refine RP.assign rfl rfl ?_
                      refine RP.nil ?_
                      refine WP.seq ?_
                      refine WP.drawn (by kernel_rfl) ?_
                      refine RP.faddr rfl rfl rfl ?_
                      refine RP.load_box rfl rfl rfl rfl (by repeat (first | exact .here | apply HIn.there | apply HIn.app)) rfl ?_
                      refine RP.move rfl rfl ?_
                      refine RP.move rfl rfl ?_
                      refine RP.at_ rfl rfl rfl (natOf_is (n := nn) (by omega)) rfl rfl (.lin fI_len hK2 (by repeat (first | exact .here | apply HIn.there | apply HIn.app))) (by first | assumption | omega) ?_
                      refine RP.load_el rfl rfl rfl rfl (.lin fI_len hK2 (by repeat (first | exact .here | apply HIn.there | apply HIn.app))) (by first | assumption | omega) rfl ?_
                      refine RP.at_ rfl rfl rfl (natOf_is (n := gd[nn].toNat) (by omega)) rfl rfl (.arg hm.spots) (by first | assumption | omega) ?_
                      first | refine RP.faddr_p rfl rfl rfl rfl rfl (.arg hm.spots) (by first | assumption | omega) ?_ | refine RP.faddr_p rfl rfl rfl rfl rfl (.arg hm.first) (by first | assumption | omega) ?_ | refine RP.faddr_p rfl rfl rfl rfl rfl (.arg hm.follow) (by first | assumption | omega) ?_ | refine RP.faddr_p rfl rfl rfl rfl rfl (.arg hm.last) (by first | assumption | omega) ?_
                      first | refine RP.load_el rfl rfl rfl rfl (.arg hm.spots) (by first | assumption | omega) rfl ?_ | refine RP.load_el rfl rfl rfl rfl (.arg hm.first) (by first | assumption | omega) rfl ?_ | refine RP.load_el rfl rfl rfl rfl (.arg hm.follow) (by first | assumption | omega) rfl ?_ | refine RP.load_el rfl rfl rfl rfl (.arg hm.last) (by first | assumption | omega) rfl ?_
                      refine RP.move rfl rfl ?_
                      refine RP.move rfl rfl ?_
                      refine RP.at_ rfl rfl rfl rfl rfl rfl (.lin fU_len hl31 (by repeat (first | exact .here | apply HIn.there | apply HIn.app))) (by first | assumption | omega) ?_
                      refine RP.load_el rfl rfl rfl rfl (.lin fU_len hl31 (by repeat (first | exact .here | apply HIn.there | apply HIn.app))) (by first | assumption | omega) rfl ?_
                      refine RP.neq_f rfl rfl rfl (by omega) ?_
                      refine RP.nil ?_
                      refine WP.cond_f rfl ?_
                      refine WP.skip ?_
                      refine WP.region ?_
                      refine RP.move rfl rfl ?_
                      refine RP.add rfl rfl rfl (by omega) (by omega) ?_
                      refine RP.assign rfl rfl ?_
                      refine RP.nil ?_
                      refine roundQ.mk (Q := fun _ _ _ => True) (i + 1, v117, p117, [gd[nn]]) ⟨rfl, rfl, rfl, rfl, rfl, rfl, rfl, trivial⟩ (.cons (by repeat (first | exact .here | apply HRem.there | apply HRem.app)) (.cons (by repeat (first | exact .here | apply HRem.there | apply HRem.app)) (.cons (by repeat (first | exact .here | apply HRem.there | apply HRem.app)) .nil))) (by
                        try dsimp only
                        exact ⟨by omega, hl117, fun x hx => by obtain rfl := List.mem_singleton.1 hx; exact hz.1, by simp, fun _ => hz.2.2⟩) (by
                        try dsimp only
                        omega)
                    · skip
                      obtain ⟨nn, hnn⟩ : ∃ nn : Nat, nn = 0 := ⟨_, rfl⟩
                      refine RP.nil ?_
                      refine WP.cond_f rfl ?_
                      refine WP.skip ?_
                      refine WP.seq ?_
                      have hnl : nn < gd.length := by first | (rw [hnn]; exact Nat.mod_lt _ hgl) | omega
                      have hz := hstep.2 gd[nn] (List.getElem_mem hnl)
                      have hzs := hz.1.2
                      have htl : i < tags.length := by have := hsp.len_ok hc64; omega
                      have htg : m.spots[gd[nn].toNat].tag = tags[i] := by
                        have h1 := hz.2.1
                        unfold tagOf at h1
                        rw [List.getElem?_eq_getElem hzs, List.getElem?_eq_getElem htl] at h1
                        exact (Option.some.inj h1).symm
                      refine WP.region ?_
                      refine RP.move rfl rfl ?_
                      refine RP.move rfl rfl ?_
                      refine RP.at_ rfl rfl rfl (natOf_is (n := nn) (by omega)) rfl rfl (.lin fI_len hK2 (by repeat (first | exact .here | apply HIn.there | apply HIn.app))) (by first | assumption | omega) ?_
                      refine RP.load_el rfl rfl rfl rfl (.lin fI_len hK2 (by repeat (first | exact .here | apply HIn.there | apply HIn.app))) (by first | assumption | omega) rfl ?_
                      refine RP.bslice [gd[nn]] rfl rfl rfl rfl rfl rfl rfl rfl rfl rfl fI_len ?_
                      intro v117 p117 hl117
                      refine RP.assign rfl rfl ?_
                      refine RP.nil ?_
                      refine WP.seq ?_
                      refine WP.drawn (by kernel_rfl) ?_
                      refine RP.faddr rfl rfl rfl ?_
                      refine RP.load_box rfl rfl rfl rfl (by repeat (first | exact .here | apply HIn.there | apply HIn.app)) rfl ?_
                      refine RP.move rfl rfl ?_
                      refine RP.move rfl rfl ?_
                      refine RP.at_ rfl rfl rfl (natOf_is (n := nn) (by omega)) rfl rfl (.lin fI_len hK2 (by repeat (first | exact .here | apply HIn.there | apply HIn.app))) (by first | assumption | omega) ?_
                      refine RP.load_el rfl rfl rfl rfl (.lin fI_len hK2 (by repeat (first | exact .here | apply HIn.there | apply HIn.app))) (by first | assumption | omega) rfl ?_
                      refine RP.at_ rfl rfl rfl (natOf_is (n := gd[nn].toNat) (by omega)) rfl rfl (.arg hm.spots) (by first | assumption | omega) ?_
                      first | refine RP.faddr_p rfl rfl rfl rfl rfl (.arg hm.spots) (by first | assumption | omega) ?_ | refine RP.faddr_p rfl rfl rfl rfl rfl (.arg hm.first) (by first | assumption | omega) ?_ | refine RP.faddr_p rfl rfl rfl rfl rfl (.arg hm.follow) (by first | assumption | omega) ?_ | refine RP.faddr_p rfl rfl rfl rfl rfl (.arg hm.last) (by first | assumption | omega) ?_
                      first | refine RP.load_el rfl rfl rfl rfl (.arg hm.spots) (by first | assumption | omega) rfl ?_ | refine RP.load_el rfl rfl rfl rfl (.arg hm.first) (by first | assumption | omega) rfl ?_ | refine RP.load_el rfl rfl rfl rfl (.arg hm.follow) (by first | assumption | omega) rfl ?_ | refine RP.load_el rfl rfl rfl rfl (.arg hm.last) (by first | assumption | omega) rfl ?_
                      refine RP.move rfl rfl ?_
                      refine RP.move rfl rfl ?_
                      refine RP.at_ rfl rfl rfl rfl rfl rfl (.lin fU_len hl31 (by repeat (first | exact .here | apply HIn.there | apply HIn.app))) (by first | assumption | omega) ?_
                      refine RP.load_el rfl rfl rfl rfl (.lin fU_len hl31 (by repeat (first | exact .here | apply HIn.there | apply HIn.app))) (by first | assumption | omega) rfl ?_
                      refine RP.neq_f rfl rfl rfl (by omega) ?_
                      refine RP.nil ?_
                      refine WP.cond_f rfl ?_
                      refine WP.skip ?_
                      refine WP.region ?_
                      refine RP.move rfl rfl ?_
                      refine RP.add rfl rfl rfl (by omega) (by omega) ?_
                      refine RP.assign rfl rfl ?_
                      refine RP.nil ?_
                      refine roundQ.mk (Q := fun _ _ _ => True) (i + 1, v117, p117, [gd[nn]]) ⟨rfl, rfl, rfl, rfl, rfl, rfl, rfl, trivial⟩ (.cons (by repeat (first | exact .here | apply HRem.there | apply HRem.app)) (.cons (by repeat (first | exact .here | apply HRem.there | apply HRem.app)) (.cons (by repeat (first | exact .here | apply HRem.there | apply HRem.app)) .nil))) (by
                        try dsimp only
                        exact ⟨by omega, hl117, fun x hx => by obtain rfl := List.mem_singleton.1 hx; exact hz.1, by simp, fun _ => hz.2.2⟩) (by
                        try dsimp only
                        omega)
              · skip
                refine WP.exit ?_
                refine WP.seq ?_
                refine WP.region ?_
                refine RP.call rfl rfl rfl hlo (fun st' lo' hi' hl' => awake_ok) ?_
                rintro _ _ ⟨rfl, rfl⟩
                refine RP.assign rfl rfl ?_
                refine RP.nil ?_
                refine WP.ret ?_
                exact End.one (Or.inr rfl) rfl (.tmp rfl) .nil ⟨rfl, rfl⟩
            · skip
              refine RP.move rfl rfl ?_
              refine RP.gfalse rfl rfl ?_
              refine RP.pick_ rfl rfl rfl ?_
              refine RP.nil ?_
              refine WP.cond_f rfl ?_
              refine WP.exit ?_
              refine WP.seq ?_
              refine WP.region ?_
              refine RP.call rfl rfl rfl hlo (fun st' lo' hi' hl' => awake_ok) ?_
              rintro _ _ ⟨rfl, rfl⟩
              refine RP.assign rfl rfl ?_
              refine RP.nil ?_
              refine WP.ret ?_
              exact End.one (Or.inr rfl) rfl (.tmp rfl) .nil ⟨rfl, rfl⟩
end
end Go.Proofs.Ytpkeggejofeeeaa

namespace Go.Proofs.Ytpkeggejofeeeaa
open Go.Proofs.Ytpkeggejofeeeaa.Lvm Go
section
variable {H : Type} {enc : TypeId × Value → H} {w : World}
theorem in_byte {n : Nat} {cs : List Value} {x : DataW H × List MemPlace} (h : DataW.trod enc Try.prog w 0 (fun _ => true) true n 5 cs = some x) : ∃ y : UInt8, True ∧ ∀ (i : Nat) (c : LV), (fY y)[i]? = some c → ∃ u, cs[i]? = some u ∧ liftB u = some c := by
  obtain ⟨y, rfl, _, h4⟩ := DataW.trod_int Try.underlying5 h
  have hy : 0 ≤ y ∧ y < 256 := by
    simp [Lit.wf, IntKind.min, IntKind.max, IntKind.signed, IntKind.bits] at h4
    omega
  obtain ⟨k, rfl⟩ := Int.eq_ofNat_of_zero_le hy.1
  have hk : (UInt8.ofNat k).toNat = k := by rw [UInt8.toNat_ofNat']; omega
  refine ⟨UInt8.ofNat k, trivial, fun i c hi => ?_⟩
  match i with
  | 0 =>
    refine ⟨_, rfl, ?_⟩
    rw [← hi]
    show some (LV.int .u8 (k : Int)) = some (LV.int .u8 ((UInt8.ofNat k).toNat : Int))
    rw [hk]
/-- An argument that is a row of bytes. -/
theorem in_bytes {r : Reach} {b0 : Nat} {v : Value} {x : DataW H} {ps : List MemPlace} (h : DataW.Trod enc Try.prog w 0 (fun _ => true) true 30 v x ps) (hv : Value.okWide Try.prog w r b0 30 v) {E : Env} (hb : E.bm = bmW w) :
    ∃ (lv : LV) (xs : List UInt8), (∀ inj, VRel inj lv v) ∧ ∀ st, SlT E st lv 1 fY xs := by
  obtain ⟨a, len, cap, rfl⟩ := Go.WideShapes.okWide_slice Try.underlying30 hv
  obtain ⟨fuel, h⟩ := h
  obtain ⟨v', lv, xs, e, hr, _, _, hs⟩ := slice_in (f := fY) (Q := fun _ => True) Try.underlying30 Try.cells5 (by decide) fY_len (fun n cs x hh => in_byte hh) hb h
  simp only [Value.cells, List.cons.injEq, and_true] at e
  subst e
  exact ⟨lv, xs, hr, hs⟩
end
end Go.Proofs.Ytpkeggejofeeeaa
