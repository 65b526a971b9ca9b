/- Laws of the small machine, of how it stands to the model, and of what functions come to on it; a helper of the statement: no statement is proved here. -/
import Derived.Test.YtpkeggejofeeeaaK
set_option linter.unusedVariables false
namespace Go.Proofs.Ytpkeggejofeeeaa
open Go.Proofs.Ytpkeggejofeeeaa.Lvm Go

section
variable {bm : Nat → Nat → Option LV} {st : LSt} {lo : Nat} {a b c d : LV} {m : Mach} {fol : List (LV × List Int)}

abbrev RowH := LV × HE
theorem goodsC_ok (hlo : lo ≤ st.nxt) {L5 L6 : Nat} {v11 : LV} {z : Int} {rows : List RowH} {k : Nat} {g : Nat → Bool} (h5 : Old st L5 [v11]) (h6 : Old st L6 [.int .i64 z]) (hz : z + 1 = k) (hk0 : k ≤ 1000000) (hr : SlT (EE bm) st v11 1 fP rows) (hk : k < rows.length) (hg : SlT (EE bm) st rows[k].1 1 fB (tab m.spots.length g)) {x : Int} (hx0 : 0 ≤ x) (hx : x.toNat < m.spots.length) :
    Fin (EE bm) lo 47 ([.int .i64 x] ++ [.ptr (.own L5) 0, .ptr (.own L6) 0]) st (fun r H => r = .bool (g x.toNat) ∧ H = []) := by
  have htl : x.toNat < (tab m.spots.length g).length := by rw [tab_len]; exact hx
  refine Fin.of_body (fn := Try.f47) (c := Try.f47.body.getD .skip) rfl rfl rfl rfl ?_
  refine WP.seq ?_
  refine WP.region ?_
  refine RP.assign rfl rfl ?_
  refine RP.nil ?_
  refine WP.seq ?_
  refine WP.region ?_
  refine RP.load_old rfl rfl rfl rfl h5 rfl ?_
  refine RP.load_old rfl rfl rfl rfl h6 rfl ?_
  refine RP.add rfl rfl rfl (by omega) (by omega) ?_
  refine RP.at_ rfl rfl rfl (natOf_is (n := k) (by omega)) rfl rfl (.arg hr) (by first | assumption | omega) ?_
  refine RP.load_el rfl rfl rfl rfl (.arg hr) (by first | assumption | omega) rfl ?_
  refine RP.move rfl rfl ?_
  refine RP.at_ rfl rfl rfl (natOf_is (n := x.toNat) (by omega)) rfl rfl (.arg hg) (by first | assumption | omega) ?_
  refine RP.load_el rfl rfl rfl rfl (.arg hg) (by first | assumption | omega) rfl ?_
  refine RP.assign rfl rfl ?_
  refine RP.nil ?_
  refine WP.ret ?_
  exact End.one (Or.inr rfl) rfl (.tmp rfl) .nil ⟨by rw [tab_at htl], rfl⟩
theorem marksC_ok (hlo : lo ≤ st.nxt) {L5 L6 : Nat} {v11 : LV} {rows : List RowH} {k : Nat} {g : Nat → Bool} (h5 : Old st L5 [v11]) (h6 : Old st L6 [.int .i64 (k : Int)]) (hr : SlT (EE bm) st v11 1 fP rows) (hk : k < rows.length) (hg : SlT (EE bm) st rows[k].1 1 fB (tab m.spots.length g)) {x : Int} (hx0 : 0 ≤ x) (hx : x.toNat < m.spots.length) :
    Fin (EE bm) lo 27 ([.int .i64 x] ++ [.ptr (.own L5) 0, .ptr (.own L6) 0]) st (fun r H => r = .bool (g x.toNat) ∧ H = []) := by
  have htl : x.toNat < (tab m.spots.length g).length := by rw [tab_len]; exact hx
  refine Fin.of_body (fn := Try.f27) (c := Try.f27.body.getD .skip) rfl rfl rfl rfl ?_
  refine WP.seq ?_
  refine WP.region ?_
  refine RP.assign rfl rfl ?_
  refine RP.nil ?_
  refine WP.seq ?_
  refine WP.region ?_
  refine RP.load_old rfl rfl rfl rfl h5 rfl ?_
  refine RP.load_old rfl rfl rfl rfl h6 rfl ?_
  refine RP.at_ rfl rfl rfl rfl rfl rfl (.arg hr) (by first | assumption | omega) ?_
  refine RP.load_el rfl rfl rfl rfl (.arg hr) (by first | assumption | omega) rfl ?_
  refine RP.move rfl rfl ?_
  refine RP.at_ rfl rfl rfl (natOf_is (n := x.toNat) (by omega)) rfl rfl (.arg hg) (by first | assumption | omega) ?_
  refine RP.load_el rfl rfl rfl rfl (.arg hg) (by first | assumption | omega) rfl ?_
  refine RP.assign rfl rfl ?_
  refine RP.nil ?_
  refine WP.ret ?_
  exact End.one (Or.inr rfl) rfl (.tmp rfl) .nil ⟨by rw [tab_at htl], rfl⟩

theorem goods_ok (hlo : lo ≤ st.nxt) (hm : MA (EE bm) st a b c d m fol) (h0 : Small60 m fol) (hg : GoodM m) (hok : ∀ s ∈ m.spots, SpotOk s) {w : ByteArray} (hw : w.size ≤ 1000000) :
    Fin (EE bm) lo 25 [mv a b c d m, .str w] st (fun v H => ∃ (p : HE) (rows : List RowH), H = p :: rows.map (fun r => r.2) ∧ Lin 1 fP true v rows p ∧ rows.length = w.size ∧ ∀ (k : Nat) (hk : k < rows.length), Lin 1 fB true rows[k].1 (tab m.spots.length (accept m (w.data.toList.drop k))) rows[k].2) := by
  obtain ⟨h01, h02, h03, h04, h05⟩ := h0
  have hfl := hm.len
  have hgf := hg.flen
  have hgl := hg.llen
  have hwl : w.data.toList.length = w.size := Array.length_toList
  refine Fin.of_body (fn := Try.f25) (c := Try.f25.body.getD .skip) rfl rfl rfl rfl ?_
  refine WP.seq ?_
  refine WP.region ?_
  refine RP.box rfl rfl hm.sc (fun L2 => ?_)
  refine RP.assign rfl rfl ?_
  refine RP.nil ?_
  refine WP.seq ?_
  refine WP.region ?_
  refine RP.move rfl rfl ?_
  refine RP.len_v rfl rfl (fun _ => rfl) ?_
  refine RP.make ((.nilsl, (none, .dead)) : RowH) rfl rfl rfl rfl rfl rfl rfl rfl rfl rfl rfl fP_len (Nat.le_refl _) (by omega) ?_
  rw [Nat.beq_refl]
  intro v11 p11 hl11
  refine RP.alloc rfl rfl rfl (fun L5 => ?_)
  refine RP.store_box1 rfl rfl hl11.scalar rfl rfl hlo (by repeat (first | exact .here | apply HUpd.there | apply HUpd.app)) ?_
  refine RP.nil ?_
  refine WP.seq ?_
  refine WP.seq ?_
  refine WP.region ?_
  refine RP.move rfl rfl ?_
  refine RP.len_v rfl rfl (fun _ => rfl) ?_
  refine RP.sub rfl rfl rfl (by omega) (by omega) ?_
  refine RP.alloc rfl rfl rfl (fun L6 => ?_)
  refine RP.store_box1 rfl rfl rfl rfl rfl hlo (by repeat (first | exact .here | apply HUpd.there | apply HUpd.app)) ?_
  refine RP.nil ?_
  refine WP.block rfl ?_
  refine WP.loop (α := Nat × Int × List RowH × HE × Nat) (fun gh => [(1, .str w), (2, .ptr (.own L2) 0), (5, .ptr (.own L5) 0), (6, .ptr (.own gh.2.2.2.2) 0)]) (fun gh => (some L2, .cells (mv a b c d m).cells) :: (some L5, .cells [v11]) :: (some gh.2.2.2.2, .cells [.int .i64 gh.2.1]) :: gh.2.2.2.1 :: (gh.2.2.1.drop gh.1).map (fun r => r.2)) (fun gh => gh.1 ≤ w.size ∧ gh.2.1 = (gh.1 : Int) - 1 ∧ gh.2.2.1.length = w.size ∧ Lin 1 fP true v11 gh.2.2.1 gh.2.2.2.1 ∧ ∀ (k : Nat) (hk : k < gh.2.2.1.length), gh.1 ≤ k → Lin 1 fB true gh.2.2.1[k].1 (tab m.spots.length (accept m (w.data.toList.drop k))) gh.2.2.1[k].2) (fun gh => gh.1) ?_ (w.size, (w.size : Int) - 1, List.replicate w.size (.nilsl, (none, .dead)), p11, L6) ⟨rfl, rfl, rfl, rfl, trivial⟩ (.cons (by repeat (first | exact .here | apply HRem.there | apply HRem.app)) (.cons (by repeat (first | exact .here | apply HRem.there | apply HRem.app)) (.cons (by repeat (first | exact .here | apply HRem.there | apply HRem.app)) (.cons (by repeat (first | exact .here | apply HRem.there | apply HRem.app)) (.perm (by rw [List.drop_of_length_le (by rw [List.length_replicate]; exact Nat.le_refl _)]; exact .refl _) .nil))))) (by
    try dsimp only
    exact ⟨Nat.le_refl _, rfl, List.length_replicate, hl11, fun k hk h => absurd h (by rw [List.length_replicate] at hk; omega)⟩)
  rintro ⟨j, z, rows, pO, L6⟩ hI
  change j ≤ w.size ∧ z = (j : Int) - 1 ∧ rows.length = w.size ∧ Lin 1 fP true v11 rows pO ∧ ∀ (k : Nat) (hk : k < rows.length), j ≤ k → Lin 1 fB true rows[k].1 (tab m.spots.length (accept m (w.data.toList.drop k))) rows[k].2 at hI
  change WP _ _ _ _ _ [(1, .str w), (2, .ptr (.own L2) 0), (5, .ptr (.own L5) 0), (6, .ptr (.own L6) 0)] ((some L2, .cells (mv a b c d m).cells) :: (some L5, .cells [v11]) :: (some L6, .cells [.int .i64 z]) :: pO :: (rows.drop j).map (fun r => r.2) : HL) _
  obtain ⟨hI1, hI2, hI3, hI4, hI5⟩ := hI
  refine WP.seq ?_
  refine WP.seq ?_
  refine WP.region ?_
  refine RP.load_box rfl rfl rfl rfl (by repeat (first | exact .here | apply HIn.there | apply HIn.app)) rfl ?_
  refine RP.geq rfl rfl rfl (fun h16 => ?_) (fun h16 => ?_)
  · skip
    have hj1r : j - 1 < rows.length := by omega
    have hjw : j - 1 < w.data.toList.length := by omega
    refine RP.nil ?_
    refine WP.cond_t rfl ?_
    refine WP.skip ?_
    refine WP.seq ?_
    refine WP.block rfl ?_
    refine WP.seq ?_
    refine WP.drawn (by kernel_rfl) ?_
    refine RP.load_box rfl rfl rfl rfl (by repeat (first | exact .here | apply HIn.there | apply HIn.app)) rfl ?_
    refine RP.load_box rfl rfl rfl rfl (by repeat (first | exact .here | apply HIn.there | apply HIn.app)) rfl ?_
    refine RP.faddr rfl rfl rfl ?_
    refine RP.load_box rfl rfl rfl rfl (by repeat (first | exact .here | apply HIn.there | apply HIn.app)) rfl ?_
    first | refine RP.len_sl rfl rfl (.arg hm.spots) rfl ?_ | refine RP.len_sl rfl rfl (.arg hm.first) rfl ?_ | refine RP.len_sl rfl rfl (.arg hm.follow) rfl ?_ | refine RP.len_sl rfl rfl (.arg hm.last) rfl ?_
    refine RP.make false rfl rfl rfl rfl rfl rfl rfl rfl rfl rfl rfl fB_len (Nat.le_refl _) (by omega) ?_
    rw [Nat.beq_refl]
    intro v24 p24 hl24
    refine RP.at_ rfl rfl rfl (natOf_is (n := j - 1) (by omega)) rfl rfl (.lin fP_len hI4 (by repeat (first | exact .here | apply HIn.there | apply HIn.app))) (by first | assumption | omega) ?_
    refine RP.store_el1 ((v24, p24) : RowH) rfl rfl hl24.scalar rfl hI4 (fun _ => (by repeat (first | exact .here | apply HUpd.there | apply HUpd.app))) fP_len (by first | assumption | omega) (by omega) rfl hlo ?_
    intro pO2 hpO2
    obtain ⟨rows2, hr2⟩ : ∃ r2, r2 = rows.set (j - 1) (v24, p24) := ⟨_, rfl⟩
    rw [← hr2] at hpO2
    have hr2l : rows2.length = w.size := by rw [hr2, List.length_set]; exact hI3
    have hj1 : j - 1 < rows2.length := by omega
    have hr24 : rows2[j - 1] = (v24, p24) := by subst hr2; simp
    refine RP.nil ?_
    refine WP.seq ?_
    refine WP.region ?_
    refine RP.faddr rfl rfl rfl ?_
    refine RP.load_box rfl rfl rfl rfl (by repeat (first | exact .here | apply HIn.there | apply HIn.app)) rfl ?_
    first | refine RP.len_sl rfl rfl (.arg hm.spots) rfl ?_ | refine RP.len_sl rfl rfl (.arg hm.first) rfl ?_ | refine RP.len_sl rfl rfl (.arg hm.follow) rfl ?_ | refine RP.len_sl rfl rfl (.arg hm.last) rfl ?_
    refine RP.move rfl rfl ?_
    refine RP.nil ?_
    refine WP.block rfl ?_
    refine WP.loop (α := Nat × HE) (fun gh => [(1, .str w), (2, .ptr (.own L2) 0), (5, .ptr (.own L5) 0), (6, .ptr (.own L6) 0), (27, a), (28, .int .i64 (m.spots.length : Int)), (29, .int .i64 (gh.1 : Int))]) (fun gh => (some L2, .cells (mv a b c d m).cells) :: (some L5, .cells [v11]) :: (some L6, .cells [.int .i64 z]) :: pO2 :: gh.2 :: (rows.drop j).map (fun r => r.2)) (fun gh => gh.1 ≤ m.spots.length ∧ Lin 1 fB true v24 (tab m.spots.length (upto gh.1 (accept m (w.data.toList.drop (j - 1))))) gh.2) (fun gh => m.spots.length - gh.1) ?_ (0, p24) ⟨rfl, rfl, rfl, rfl, rfl, rfl, rfl, trivial⟩ (.cons (by repeat (first | exact .here | apply HRem.there | apply HRem.app)) (.cons (by repeat (first | exact .here | apply HRem.there | apply HRem.app)) (.cons (by repeat (first | exact .here | apply HRem.there | apply HRem.app)) (.cons (by repeat (first | exact .here | apply HRem.there | apply HRem.app)) (.cons (by repeat (first | exact .here | apply HRem.there | apply HRem.app)) .refl))))) (by
      try dsimp only
      exact ⟨Nat.zero_le _, by rw [← upto_zero]; exact hl24⟩)
    rintro ⟨n, pR⟩ hI
    change n ≤ m.spots.length ∧ Lin 1 fB true v24 (tab m.spots.length (upto n (accept m (w.data.toList.drop (j - 1))))) pR at hI
    change WP _ _ _ _ _ [(1, .str w), (2, .ptr (.own L2) 0), (5, .ptr (.own L5) 0), (6, .ptr (.own L6) 0), (27, a), (28, .int .i64 (m.spots.length : Int)), (29, .int .i64 (n : Int))] ((some L2, .cells (mv a b c d m).cells) :: (some L5, .cells [v11]) :: (some L6, .cells [.int .i64 z]) :: pO2 :: pR :: (rows.drop j).map (fun r => r.2) : HL) _
    obtain ⟨hK1, hK2⟩ := hI
    have hltg : (tab m.spots.length (upto n (accept m (w.data.toList.drop (j - 1))))).length = m.spots.length := tab_len
    refine WP.seq ?_
    refine WP.region ?_
    refine RP.lss rfl rfl rfl (fun h30 => ?_) (fun h30 => ?_)
    · skip
      have hlt : n < m.spots.length := by omega
      have hlf : n < fol.length := by omega
      have hll : n < m.last.length := by omega
      have hltn : n < (tab m.spots.length (upto n (accept m (w.data.toList.drop (j - 1))))).length := by omega
      have hrow := hm.row hlf
      have hrli := h05 n hlf
      have hsp : ∀ ch, inSpot m ch n = inB m.spots[n] ch := fun ch => by unfold inSpot; rw [List.getElem?_eq_getElem hlt]
      have hdrop : w.data.toList.drop (j - 1) = w.data.toList[j - 1] :: w.data.toList.drop j := by have h1 := List.drop_eq_getElem_cons hjw; rwa [show j - 1 + 1 = j by omega] at h1
      refine RP.nil ?_
      refine WP.seq ?_
      refine WP.cond_t rfl ?_
      refine WP.skip ?_
      refine WP.seq ?_
      refine WP.block rfl ?_
      refine WP.seq ?_
      refine WP.region ?_
      refine RP.move rfl rfl ?_
      first | refine RP.at_ rfl rfl rfl rfl rfl rfl (.arg hm.spots) (by first | assumption | omega) ?_ | refine RP.at_ rfl rfl rfl rfl rfl rfl (.arg hm.first) (by first | assumption | omega) ?_ | refine RP.at_ rfl rfl rfl rfl rfl rfl (.arg hm.follow) (by first | assumption | omega) ?_ | refine RP.at_ rfl rfl rfl rfl rfl rfl (.arg hm.last) (by first | assumption | omega) ?_
      first | refine RP.load_elN rfl rfl rfl rfl rfl (.arg hm.spots) (by first | assumption | omega) rfl ?_ | refine RP.load_elN rfl rfl rfl rfl rfl (.arg hm.first) (by first | assumption | omega) rfl ?_ | refine RP.load_elN rfl rfl rfl rfl rfl (.arg hm.follow) (by first | assumption | omega) rfl ?_ | refine RP.load_elN rfl rfl rfl rfl rfl (.arg hm.last) (by first | assumption | omega) rfl ?_
      refine RP.alloc rfl rfl rfl (fun L8 => ?_)
      refine RP.assign rfl rfl ?_
      refine RP.store_box rfl rfl rfl rfl rfl rfl hlo (by repeat (first | exact .here | apply HUpd.there | apply HUpd.app)) ?_
      refine RP.nil ?_
      refine WP.seq ?_
      refine WP.seq ?_
      refine WP.drawn (by kernel_rfl) ?_
      refine RP.faddr rfl rfl rfl ?_
      refine RP.load_boxN rfl rfl rfl rfl rfl (by repeat (first | exact .here | apply HIn.there | apply HIn.app)) rfl ?_
      refine RP.move rfl rfl ?_
      refine RP.load_box rfl rfl rfl rfl (by repeat (first | exact .here | apply HIn.there | apply HIn.app)) rfl ?_
      refine RP.idx_str rfl rfl rfl (natOf_is (n := j - 1) (by omega)) rfl (List.getElem?_eq_getElem (by first | assumption | omega)) ?_
      refine RP.call rfl rfl rfl hlo (fun st' lo' hi' hl' => has_ok hl' (hok _ (List.getElem_mem hlt))) ?_
      rintro _ _ ⟨rfl, rfl⟩
      refine RP.un rfl rfl rfl ?_
      refine RP.nil ?_
      refine WP.cond_b rfl (fun hc40 => ?_) (fun hc40 => ?_)
      · skip
        refine WP.exit ?_
        refine WP.region ?_
        refine RP.add rfl rfl rfl (by omega) (by omega) ?_
        refine RP.move rfl rfl ?_
        refine RP.nil ?_
        refine roundQ.mk (Q := fun _ _ _ => True) (n + 1, pR) ⟨rfl, rfl, rfl, rfl, rfl, rfl, rfl, trivial⟩ (.cons (by repeat (first | exact .here | apply HRem.there | apply HRem.app)) (.cons (by repeat (first | exact .here | apply HRem.there | apply HRem.app)) (.cons (by repeat (first | exact .here | apply HRem.there | apply HRem.app)) (.cons (by repeat (first | exact .here | apply HRem.there | apply HRem.app)) (.cons (by repeat (first | exact .here | apply HRem.there | apply HRem.app)) (.skip .refl)))))) (by
          try dsimp only
          exact ⟨hlt, by rw [← upto_skip (by rw [hdrop]; show (inSpot m _ n && _) = false; rw [hsp, show inB m.spots[n] _ = false by simpa using hc40]; rfl)]; exact hK2⟩) (by
          try dsimp only
          omega)
      · skip
        refine WP.skip ?_
        refine WP.seq ?_
        refine WP.region ?_
        refine RP.load_box rfl rfl rfl rfl (by repeat (first | exact .here | apply HIn.there | apply HIn.app)) rfl ?_
        refine RP.move rfl rfl ?_
        refine RP.len_v rfl rfl (fun _ => rfl) ?_
        refine RP.sub rfl rfl rfl (by omega) (by omega) ?_
        refine RP.eql rfl rfl rfl (fun h45 => ?_) (fun h45 => ?_)
        · skip
          refine RP.nil ?_
          refine WP.cond_t rfl ?_
          refine WP.drawn (by kernel_rfl) ?_
          refine RP.load_box rfl rfl rfl rfl (by repeat (first | exact .here | apply HIn.there | apply HIn.app)) rfl ?_
          refine RP.load_box rfl rfl rfl rfl (by repeat (first | exact .here | apply HIn.there | apply HIn.app)) rfl ?_
          refine RP.at_ rfl rfl rfl (natOf_is (n := j - 1) (by omega)) rfl rfl (.lin fP_len hpO2 (by repeat (first | exact .here | apply HIn.there | apply HIn.app))) (by first | assumption | omega) ?_
          refine RP.load_el rfl rfl rfl rfl (.lin fP_len hpO2 (by repeat (first | exact .here | apply HIn.there | apply HIn.app))) (by first | assumption | omega) (show some rows2[j - 1].1 = some v24 by rw [hr24]) ?_
          refine RP.move rfl rfl ?_
          refine RP.faddr rfl rfl rfl ?_
          refine RP.load_box rfl rfl rfl rfl (by repeat (first | exact .here | apply HIn.there | apply HIn.app)) rfl ?_
          refine RP.move rfl rfl ?_
          first | refine RP.at_ rfl rfl rfl rfl rfl rfl (.arg hm.spots) (by first | assumption | omega) ?_ | refine RP.at_ rfl rfl rfl rfl rfl rfl (.arg hm.first) (by first | assumption | omega) ?_ | refine RP.at_ rfl rfl rfl rfl rfl rfl (.arg hm.follow) (by first | assumption | omega) ?_ | refine RP.at_ rfl rfl rfl rfl rfl rfl (.arg hm.last) (by first | assumption | omega) ?_
          first | refine RP.load_el rfl rfl rfl rfl (.arg hm.spots) (by first | assumption | omega) rfl ?_ | refine RP.load_el rfl rfl rfl rfl (.arg hm.first) (by first | assumption | omega) rfl ?_ | refine RP.load_el rfl rfl rfl rfl (.arg hm.follow) (by first | assumption | omega) rfl ?_ | refine RP.load_el rfl rfl rfl rfl (.arg hm.last) (by first | assumption | omega) rfl ?_
          refine RP.at_ rfl rfl rfl rfl rfl rfl (.lin fB_len hK2 (by repeat (first | exact .here | apply HIn.there | apply HIn.app))) (by first | assumption | omega) ?_
          refine RP.store_el1 _ rfl rfl rfl rfl hK2 (fun _ => (by repeat (first | exact .here | apply HUpd.there | apply HUpd.app))) fB_len (by first | assumption | omega) (by omega) rfl hlo ?_
          intro pR2 hR2
          refine RP.nil ?_
          refine WP.region ?_
          refine RP.add rfl rfl rfl (by omega) (by omega) ?_
          refine RP.move rfl rfl ?_
          refine RP.nil ?_
          refine roundQ.mk (Q := fun _ _ _ => True) (n + 1, pR2) ⟨rfl, rfl, rfl, rfl, rfl, rfl, rfl, trivial⟩ (.cons (by repeat (first | exact .here | apply HRem.there | apply HRem.app)) (.cons (by repeat (first | exact .here | apply HRem.there | apply HRem.app)) (.cons (by repeat (first | exact .here | apply HRem.there | apply HRem.app)) (.cons (by repeat (first | exact .here | apply HRem.there | apply HRem.app)) (.cons (by repeat (first | exact .here | apply HRem.there | apply HRem.app)) (.skip .refl)))))) (by
            try dsimp only
            exact ⟨hlt, by rw [upto_set (by rw [hdrop]; show _ = (inSpot m _ n && goW m _ n); rw [hsp, show inB m.spots[n] _ = true by simpa using hc40, List.drop_of_length_le (by omega)]; show _ = (m.last[n]?).getD false; rw [List.getElem?_eq_getElem hll]; rfl)] at hR2; exact hR2⟩) (by
            try dsimp only
            omega)
        · skip
          have hj2 : j < w.data.toList.length := by omega
          have hjr : j < rows2.length := by omega
          have hrj : rows2[j] = rows[j] := by subst hr2; rw [List.getElem_set_ne (by omega)]
          have hnext : Lin 1 fB true rows2[j].1 (tab m.spots.length (accept m (w.data.toList.drop j))) rows2[j].2 := by rw [hrj]; exact hI5 j (by omega) (Nat.le_refl _)
          have hmem : rows2[j].2 ∈ (rows.drop j).map (fun r => r.2) := by rw [hrj]; exact List.mem_map.2 ⟨rows[j], List.mem_iff_getElem.2 ⟨0, by rw [List.length_drop]; omega, by simp⟩, rfl⟩
          have hrx : ∀ x ∈ fol[n].2, 0 ≤ x ∧ x.toNat < m.spots.length := fun x hx => hg.range (n := n) (by rw [hm.fol hlf]; exact hx)
          refine RP.nil ?_
          refine WP.cond_f rfl ?_
          refine WP.drawn (by kernel_rfl) ?_
          refine RP.load_box rfl rfl rfl rfl (by repeat (first | exact .here | apply HIn.there | apply HIn.app)) rfl ?_
          refine RP.load_box rfl rfl rfl rfl (by repeat (first | exact .here | apply HIn.there | apply HIn.app)) rfl ?_
          refine RP.at_ rfl rfl rfl (natOf_is (n := j - 1) (by omega)) rfl rfl (.lin fP_len hpO2 (by repeat (first | exact .here | apply HIn.there | apply HIn.app))) (by first | assumption | omega) ?_
          refine RP.load_el rfl rfl rfl rfl (.lin fP_len hpO2 (by repeat (first | exact .here | apply HIn.there | apply HIn.app))) (by first | assumption | omega) (show some rows2[j - 1].1 = some v24 by rw [hr24]) ?_
          refine RP.move rfl rfl ?_
          refine RP.faddr rfl rfl rfl ?_
          refine RP.load_box rfl rfl rfl rfl (by repeat (first | exact .here | apply HIn.there | apply HIn.app)) rfl ?_
          refine RP.move rfl rfl ?_
          refine RP.at_ rfl rfl rfl rfl rfl rfl (.arg hm.follow) (by first | assumption | omega) ?_
          refine RP.load_el rfl rfl rfl rfl (.arg hm.follow) (by first | assumption | omega) rfl ?_
          refine RP.mfunc rfl rfl rfl ?_
          refine RP.call rfl rfl rfl hlo (fun st' lo' hi' hl' => containsFunc_ok hl' (fun x => accept m (w.data.toList.drop j) x.toNat) (hrow.inv hi') (by omega) (fun st2 lo2 hi2 hl2 x hx => goodsC_ok hl2 ((Inv.isOld hi' (by repeat (first | exact .here | apply HIn.there | apply HIn.app))).inv hi2) ((Inv.isOld hi' (by repeat (first | exact .here | apply HIn.there | apply HIn.app))).inv hi2) (by omega) (by omega) ((SlH.lin fP_len hpO2 (by repeat (first | exact .here | apply HIn.there | apply HIn.app)) _ hi').inv hi2) hjr ((SlH.lin fB_len hnext (by repeat (first | exact HIn.of_mem hmem | apply HIn.there)) _ hi').inv hi2) (hrx x hx).1 (hrx x hx).2)) ?_
          rintro _ _ ⟨rfl, rfl⟩
          refine RP.at_ rfl rfl rfl rfl rfl rfl (.lin fB_len hK2 (by repeat (first | exact .here | apply HIn.there | apply HIn.app))) (by first | assumption | omega) ?_
          refine RP.store_el1 _ rfl rfl rfl rfl hK2 (fun _ => (by repeat (first | exact .here | apply HUpd.there | apply HUpd.app))) fB_len (by first | assumption | omega) (by omega) rfl hlo ?_
          intro pR2 hR2
          refine RP.nil ?_
          refine WP.region ?_
          refine RP.add rfl rfl rfl (by omega) (by omega) ?_
          refine RP.move rfl rfl ?_
          refine RP.nil ?_
          refine roundQ.mk (Q := fun _ _ _ => True) (n + 1, pR2) ⟨rfl, rfl, rfl, rfl, rfl, rfl, rfl, trivial⟩ (.cons (by repeat (first | exact .here | apply HRem.there | apply HRem.app)) (.cons (by repeat (first | exact .here | apply HRem.there | apply HRem.app)) (.cons (by repeat (first | exact .here | apply HRem.there | apply HRem.app)) (.cons (by repeat (first | exact .here | apply HRem.there | apply HRem.app)) (.cons (by repeat (first | exact .here | apply HRem.there | apply HRem.app)) (.skip .refl)))))) (by
            try dsimp only
            exact ⟨hlt, by rw [upto_set (by rw [hdrop]; show _ = (inSpot m _ n && goW m _ n); rw [hsp, show inB m.spots[n] _ = true by simpa using hc40, Bool.true_and, List.drop_eq_getElem_cons hj2, goW_cons, hm.fol hlf])] at hR2; exact hR2⟩) (by
            try dsimp only
            omega)
    · skip
      refine RP.nil ?_
      refine WP.seq ?_
      refine WP.cond_f rfl ?_
      refine WP.exit ?_
      refine WP.seq ?_
      refine WP.seq ?_
      refine WP.region ?_
      refine RP.load_box rfl rfl rfl rfl (by repeat (first | exact .here | apply HIn.there | apply HIn.app)) rfl ?_
      refine RP.nil ?_
      have hpO3 : Lin 1 fP true v11 (rows2.set (j - 1) (v24, pR)) pO2 := by
        have h1 := Lin.map (f := fP) (f' := f1) (g := fun r : RowH => r.1) hpO2 (fun _ => rfl)
        exact Lin.unmap (g := fun r : RowH => r.1) h1 (by rw [List.map_set]; refine List.ext_getElem? fun i => ?_; by_cases e : j - 1 = i
                                                          · subst e; rw [List.getElem?_set_self (by rw [List.length_map]; omega), List.getElem?_map, List.getElem?_eq_getElem hj1, hr24]; rfl
                                                          · rw [List.getElem?_set_ne e]) (fun _ => rfl)
      have hperm : (((rows2.set (j - 1) (v24, pR)).drop (j - 1)).map (fun r : RowH => r.2)).Perm (pR :: (rows.drop j).map (fun r => r.2)) := by
        rw [List.drop_eq_getElem_cons (by rw [List.length_set]; exact hj1), List.map_cons, List.getElem_set_self, show j - 1 + 1 = j by omega]
        rw [show (rows2.set (j - 1) (v24, pR)).drop j = rows.drop j by rw [hr2, List.set_set, List.drop_set_of_lt (by omega)]]
      refine WP.region ?_
      refine RP.alloc rfl rfl rfl (fun L6 => ?_)
      refine RP.store_box1 rfl rfl rfl rfl rfl hlo (by repeat (first | exact .here | apply HUpd.there | apply HUpd.app)) ?_
      refine RP.nil ?_
      refine WP.region ?_
      refine RP.load_box rfl rfl rfl rfl (by repeat (first | exact .here | apply HIn.there | apply HIn.app)) rfl ?_
      refine RP.sub rfl rfl rfl (by omega) (by omega) ?_
      refine RP.store_box1 rfl rfl rfl rfl rfl hlo (by repeat (first | exact .here | apply HUpd.there | apply HUpd.app)) ?_
      refine RP.nil ?_
      refine roundQ.mk (Q := fun _ _ _ => True) (j - 1, z - 1, rows2.set (j - 1) (v24, pR), pO2, L6) ⟨rfl, rfl, rfl, rfl, trivial⟩ (.cons (by repeat (first | exact .here | apply HRem.there | apply HRem.app)) (.cons (by repeat (first | exact .here | apply HRem.there | apply HRem.app)) (.cons (by repeat (first | exact .here | apply HRem.there | apply HRem.app)) (.cons (by repeat (first | exact .here | apply HRem.there | apply HRem.app)) (.skip (.perm hperm .refl)))))) (by
        try dsimp only
        exact ⟨by omega, by omega, by rw [List.length_set]; exact hr2l, hpO3, fun k hk h => by
          rw [List.length_set] at hk
          by_cases e : k = j - 1
          · subst e; rw [upto_all (by omega)] at hK2; simpa using hK2
          · have h5 := hI5 k (by omega) (by omega)
            have h6 : (rows2.set (j - 1) (v24, pR))[k]? = rows[k]? := by rw [hr2, List.getElem?_set_ne (by omega), List.getElem?_set_ne (by omega)]
            have h7 : (rows2.set (j - 1) (v24, pR))[k]'(by rw [List.length_set]; exact hk) = rows[k] := by
              rw [List.getElem?_eq_getElem (by rw [List.length_set]; exact hk), List.getElem?_eq_getElem (by omega)] at h6; exact Option.some.inj h6
            rw [h7]; exact h5⟩) (by
        try dsimp only
        omega)
  · skip
    refine RP.nil ?_
    refine WP.cond_f rfl ?_
    refine WP.exit ?_
    refine WP.seq ?_
    refine WP.region ?_
    refine RP.load_box rfl rfl rfl rfl (by repeat (first | exact .here | apply HIn.there | apply HIn.app)) rfl ?_
    refine RP.assign rfl rfl ?_
    refine RP.nil ?_
    refine WP.ret ?_
    obtain rfl : j = 0 := by omega
    exact End.one (Or.inr rfl) rfl (.tmp rfl) (.cons (by repeat (first | exact .here | apply HRem.there | apply HRem.app)) (.skip (.skip (.skip .refl)))) ⟨pO, rows, rfl, hI4, hI3, fun k hk => hI5 k hk (Nat.zero_le _)⟩
end
end Go.Proofs.Ytpkeggejofeeeaa

namespace Go.Proofs.Ytpkeggejofeeeaa
open Go.Proofs.Ytpkeggejofeeeaa.Lvm Go

section
variable {bm : Nat → Nat → Option LV} {st : LSt} {lo : Nat} {a b c d : LV} {m : Mach} {fol : List (LV × List Int)}

theorem marks_ok (hlo : lo ≤ st.nxt) (hm : MA (EE bm) st a b c d m fol) (h0 : Small60 m fol) (hok : ∀ s ∈ m.spots, SpotOk s) {w : ByteArray} (hw : w.size ≤ 1000000) :
    Fin (EE bm) lo 11 [mv a b c d m, .str w] st (fun v H => ∃ (p : HE) (v' : LV) (ok : Bool) (tags : List Int), H = [p] ∧ Lin 1 fU true v' tags p ∧ v = .tup [v', .bool ok] ∧ MarksSpec m w.data.toList ok tags) := by
  have h0' := h0
  obtain ⟨h01, h02, h03, h04, h05⟩ := h0
  have hfl := hm.len
  have hwl : w.data.toList.length = w.size := Array.length_toList
  refine Fin.of_body (fn := Try.f11) (c := Try.f11.body.getD .skip) rfl rfl rfl rfl ?_
  refine WP.seq ?_
  refine WP.region ?_
  refine RP.box rfl rfl hm.sc (fun L2 => ?_)
  refine RP.assign rfl rfl ?_
  refine RP.assign rfl rfl ?_
  refine RP.nil ?_
  refine WP.seq ?_
  refine WP.seq ?_
  refine WP.region ?_
  refine RP.load_boxN rfl rfl rfl rfl rfl (by repeat (first | exact .here | apply HIn.there | apply HIn.app)) rfl ?_
  refine RP.call rfl rfl rfl hlo (fun st' lo' hi' hl' => right_ok hl' (hm.inv hi') (by omega) (fun j hj => by have := h05 j hj; omega)) ?_
  rintro _ _ (⟨hgd, rfl, rfl⟩ | ⟨hng, rfl, rfl⟩)
  · skip
    have hgf := hgd.flen
    refine RP.un rfl rfl rfl ?_
    refine RP.move rfl rfl ?_
    refine RP.gtrue rfl ?_
    refine RP.move rfl rfl ?_
    refine RP.gtrue rfl ?_
    refine RP.eqs rfl rfl rfl ?_
    refine RP.pick_ rfl rfl rfl ?_
    refine RP.nil ?_
    refine WP.cond_b rfl (fun hc18 => ?_) (fun hc18 => ?_)
    · skip
      refine WP.seq ?_
      refine WP.region ?_
      refine RP.load_boxN rfl rfl rfl rfl rfl (by repeat (first | exact .here | apply HIn.there | apply HIn.app)) rfl ?_
      refine RP.move rfl rfl ?_
      refine RP.call rfl rfl rfl hlo (fun st' lo' hi' hl' => nrun_ok hl' (hm.inv hi') h0' hok hw) ?_
      rintro _ _ (⟨hb, rfl, rfl⟩ | ⟨_, rfl, rfl⟩)
      · exact absurd hgd hb
      have hwe : w.data.toList = [] := by simpa using hc18
      have hres : MarksSpec m w.data.toList (takesF m w.data.toList) [] := by rw [hwe]; exact .none hgd rfl
      refine RP.ghost .dead ?_
      refine RP.assign rfl rfl ?_
      refine RP.assign rfl rfl ?_
      refine RP.nil ?_
      refine WP.ret ?_
      exact End.two (Or.inr rfl) rfl (.tmp rfl) (.tmp rfl) (.cons (by repeat (first | exact .here | apply HRem.there | apply HRem.app)) .nil) ⟨_, _, _, _, rfl, .nil, rfl, hres⟩
    · skip
      have hne : w.data.toList ≠ [] := fun h => by rw [h] at hc18; exact absurd hc18 (by decide)
      refine WP.skip ?_
      refine WP.seq ?_
      refine WP.region ?_
      refine RP.load_boxN rfl rfl rfl rfl rfl (by repeat (first | exact .here | apply HIn.there | apply HIn.app)) rfl ?_
      refine RP.move rfl rfl ?_
      refine RP.call rfl rfl rfl hlo (fun st' lo' hi' hl' => goods_ok hl' (hm.inv hi') h0' hgd hok hw) ?_
      rintro vg _ ⟨pg, rows, rfl, hg1, hg2, hg3⟩
      refine RP.alloc rfl rfl rfl (fun L6 => ?_)
      refine RP.store_box1 rfl rfl hg1.scalar rfl rfl hlo (by repeat (first | exact .here | apply HUpd.there | apply HUpd.app)) ?_
      refine RP.nil ?_
      refine WP.seq ?_
      refine WP.ghost .dead ?_
      refine WP.region ?_
      refine RP.assign rfl rfl ?_
      refine RP.nil ?_
      refine WP.seq ?_
      refine WP.region ?_
      refine RP.faddr rfl rfl rfl ?_
      refine RP.load_box rfl rfl rfl rfl (by repeat (first | exact .here | apply HIn.there | apply HIn.app)) rfl ?_
      refine RP.assign rfl rfl ?_
      refine RP.nil ?_
      refine WP.seq ?_
      refine WP.seq ?_
      refine WP.region ?_
      refine RP.move rfl rfl ?_
      refine RP.len_v rfl rfl (fun _ => rfl) ?_
      refine RP.move rfl rfl ?_
      refine RP.nil ?_
      refine WP.block rfl ?_
      refine WP.loop (α := Nat × LV × List Int × LV × HE × List Int) (fun gh => [(1, .str w), (2, .ptr (.own L2) 0), (6, .ptr (.own L6) 0), (7, gh.2.2.2.1), (8, gh.2.1), (28, .int .i64 (w.size : Int)), (29, .int .i64 (gh.1 : Int))]) (fun gh => (some L2, .cells (mv a b c d m).cells) :: (some L6, .cells [vg]) :: pg :: gh.2.2.2.2.1 :: rows.map (fun r => r.2)) (fun gh => gh.1 ≤ w.size ∧ SlT (EE bm) st gh.2.1 1 fI gh.2.2.1 ∧ (∀ x ∈ gh.2.2.1, 0 ≤ x ∧ x.toNat < m.spots.length) ∧ gh.2.2.1.length ≤ 60 ∧ Lin 1 fU true gh.2.2.2.1 gh.2.2.2.2.2 gh.2.2.2.2.1 ∧ gh.2.2.2.2.2.length ≤ gh.1 ∧ markF m w.data.toList m.first = (markF m (w.data.toList.drop gh.1) gh.2.2.1).map (gh.2.2.2.2.2 ++ ·)) (fun gh => w.size - gh.1) ?_ (0, b, m.first, .nilsl, (none, .dead), []) ⟨rfl, rfl, rfl, rfl, rfl, rfl, rfl, trivial⟩ (.cons (by repeat (first | exact .here | apply HRem.there | apply HRem.app)) (.cons (by repeat (first | exact .here | apply HRem.there | apply HRem.app)) (.cons (by repeat (first | exact .here | apply HRem.there | apply HRem.app)) (.cons (by repeat (first | exact .here | apply HRem.there | apply HRem.app)) (.perm (by rw [List.append_nil]) .refl))))) (by
        try dsimp only
        exact ⟨Nat.zero_le _, hm.first, fun x hx => hgd.start hx, h04, .nil, Nat.le_refl _, by rw [List.drop_zero]; cases markF m w.data.toList m.first <;> rfl⟩)
      rintro ⟨i, vn, xs, vo, po, tags⟩ hI
      change i ≤ w.size ∧ SlT (EE bm) st vn 1 fI xs ∧ (∀ x ∈ xs, 0 ≤ x ∧ x.toNat < m.spots.length) ∧ xs.length ≤ 60 ∧ Lin 1 fU true vo tags po ∧ tags.length ≤ i ∧ markF m w.data.toList m.first = (markF m (w.data.toList.drop i) xs).map (tags ++ ·) at hI
      change WP _ _ _ _ _ [(1, .str w), (2, .ptr (.own L2) 0), (6, .ptr (.own L6) 0), (7, vo), (8, vn), (28, .int .i64 (w.size : Int)), (29, .int .i64 (i : Int))] ((some L2, .cells (mv a b c d m).cells) :: (some L6, .cells [vg]) :: pg :: po :: rows.map (fun r => r.2) : HL) _
      obtain ⟨hI1, hI2, hI3, hI4, hI5, hI6, hI7⟩ := hI
      refine WP.seq ?_
      refine WP.region ?_
      refine RP.lss rfl rfl rfl (fun h30 => ?_) (fun h30 => ?_)
      · skip
        have hlt : i < w.size := by omega
        have hlw : i < w.data.toList.length := by omega
        have hir : i < rows.length := by omega
        have hmem : rows[i].2 ∈ rows.map (fun r => r.2) := List.mem_map.2 ⟨_, List.getElem_mem hir, rfl⟩
        have hdrop := List.drop_eq_getElem_cons hlw
        refine RP.nil ?_
        refine WP.seq ?_
        refine WP.cond_t rfl ?_
        refine WP.skip ?_
        refine WP.seq ?_
        refine WP.block rfl ?_
        refine WP.seq ?_
        refine WP.region ?_
        refine RP.move rfl rfl ?_
        refine RP.alloc rfl rfl rfl (fun L9 => ?_)
        refine RP.store_box1 rfl rfl rfl rfl rfl hlo (by repeat (first | exact .here | apply HUpd.there | apply HUpd.app)) ?_
        refine RP.nil ?_
        refine WP.seq ?_
        refine WP.region ?_
        refine RP.move rfl rfl ?_
        refine RP.mfunc rfl rfl rfl ?_
        refine RP.call rfl rfl rfl hlo (fun st' lo' hi' hl' => indexFunc_ok hl' (fun x => accept m (w.data.toList.drop i) x.toNat) (hI2.inv hi') (by omega) (fun st2 lo2 hi2 hl2 x hx => marksC_ok hl2 ((Inv.isOld hi' (by repeat (first | exact .here | apply HIn.there | apply HIn.app))).inv hi2) ((Inv.isOld hi' (by repeat (first | exact .here | apply HIn.there | apply HIn.app))).inv hi2) ((SlH.lin fP_len hg1 (by repeat (first | exact .here | apply HIn.there | apply HIn.app)) _ hi').inv hi2) hir ((SlH.lin fB_len (hg3 i hir) (by repeat (first | exact HIn.of_mem hmem | apply HIn.there)) _ hi').inv hi2) (hI3 x hx).1 (hI3 x hx).2)) ?_
        rintro _ _ ⟨k, rfl, hk, rfl⟩
        refine RP.assign rfl rfl ?_
        refine RP.nil ?_
        refine WP.seq ?_
        refine WP.seq ?_
        refine WP.region ?_
        refine RP.move rfl rfl ?_
        refine RP.lss rfl rfl rfl (fun h36 => ?_) (fun h36 => ?_)
        · skip
          have hfind : xs.find? (fun x => accept m (w.data.toList[i] :: w.data.toList.drop (i + 1)) x.toNat) = none := by
            rcases hk with ⟨_, h⟩ | ⟨i0, _, he, _⟩
            · rw [← hdrop]; exact find_none h
            · omega
          refine RP.ghost .dead ?_
          refine RP.nil ?_
          refine WP.cond_t rfl ?_
          refine WP.seq ?_
          refine WP.region ?_
          refine RP.assign rfl rfl ?_
          refine RP.assign rfl rfl ?_
          refine RP.nil ?_
          refine WP.ret ?_
          exact End.two (Or.inr rfl) rfl (.tmp rfl) (.tmp rfl) (.cons (by repeat (first | exact .here | apply HRem.there | apply HRem.app)) .nil) ⟨_, _, _, _, rfl, .nil, rfl, .no hgd hne (by rw [hI7, hdrop, markF, hfind]; rfl)⟩
        · skip
          obtain ⟨i0, hi0, rfl, hp, hmin⟩ := hk.resolve_left (fun h => by have := h.1; omega)
          have hfind : xs.find? (fun x => accept m (w.data.toList[i] :: w.data.toList.drop (i + 1)) x.toNat) = some xs[i0] := by rw [← hdrop]; exact find_first hi0 hp hmin
          refine RP.nil ?_
          refine WP.cond_f rfl ?_
          refine WP.skip ?_
          refine WP.seq ?_
          refine WP.region ?_
          refine RP.move rfl rfl ?_
          refine RP.move rfl rfl ?_
          refine RP.at_ rfl rfl rfl rfl rfl rfl (.arg hI2) (by first | assumption | omega) ?_
          refine RP.load_el rfl rfl rfl rfl (.arg hI2) (by first | assumption | omega) rfl ?_
          obtain ⟨hx0, hx1⟩ := hI3 xs[i0] (List.getElem_mem hi0)
          generalize xs[i0] = x at hx0 hx1 hfind ⊢
          have hxs : x.toNat < m.spots.length := hx1
          have hxf : x.toNat < fol.length := by omega
          have hrow := hm.row hxf
          have hrl := h05 _ hxf
          refine RP.assign rfl rfl ?_
          refine RP.nil ?_
          refine WP.drawn (by kernel_rfl) ?_
          refine RP.move rfl rfl ?_
          refine RP.faddr rfl rfl rfl ?_
          refine RP.load_box rfl rfl rfl rfl (by repeat (first | exact .here | apply HIn.there | apply HIn.app)) rfl ?_
          refine RP.move rfl rfl ?_
          first | refine RP.at_ rfl rfl rfl (natOf_is (n := x.toNat) (by omega)) rfl rfl (.arg hm.spots) (by first | assumption | omega) ?_ | refine RP.at_ rfl rfl rfl (natOf_is (n := x.toNat) (by omega)) rfl rfl (.arg hm.first) (by first | assumption | omega) ?_ | refine RP.at_ rfl rfl rfl (natOf_is (n := x.toNat) (by omega)) rfl rfl (.arg hm.follow) (by first | assumption | omega) ?_ | refine RP.at_ rfl rfl rfl (natOf_is (n := x.toNat) (by omega)) rfl rfl (.arg hm.last) (by first | assumption | omega) ?_
          first | refine RP.faddr_p rfl rfl rfl rfl rfl (.arg hm.spots) (by first | assumption | omega) ?_ | refine RP.faddr_p rfl rfl rfl rfl rfl (.arg hm.first) (by first | assumption | omega) ?_ | refine RP.faddr_p rfl rfl rfl rfl rfl (.arg hm.follow) (by first | assumption | omega) ?_ | refine RP.faddr_p rfl rfl rfl rfl rfl (.arg hm.last) (by first | assumption | omega) ?_
          first | refine RP.load_el rfl rfl rfl rfl (.arg hm.spots) (by first | assumption | omega) rfl ?_ | refine RP.load_el rfl rfl rfl rfl (.arg hm.first) (by first | assumption | omega) rfl ?_ | refine RP.load_el rfl rfl rfl rfl (.arg hm.follow) (by first | assumption | omega) rfl ?_ | refine RP.load_el rfl rfl rfl rfl (.arg hm.last) (by first | assumption | omega) rfl ?_
          refine RP.bslice [m.spots[x.toNat].tag] rfl rfl rfl rfl rfl rfl rfl rfl rfl rfl fU_len ?_
          intro v48 p48 hl48
          refine RP.append rfl rfl rfl rfl rfl rfl rfl rfl hI5 (fun _ => (by repeat (first | exact .here | apply HUpd.there | apply HUpd.app))) (.lin fU_len hl48 (by repeat (first | exact .here | apply HIn.there | apply HIn.app))) (flat_all fU_sc _) (by simp only [List.length_singleton]; omega) (fun e => (by first | rfl | cases e)) hlo ?_
          intro v49 p49 hl49
          refine RP.faddr rfl rfl rfl ?_
          refine RP.load_box rfl rfl rfl rfl (by repeat (first | exact .here | apply HIn.there | apply HIn.app)) rfl ?_
          refine RP.move rfl rfl ?_
          first | refine RP.at_ rfl rfl rfl (natOf_is (n := x.toNat) (by omega)) rfl rfl (.arg hm.spots) (by first | assumption | omega) ?_ | refine RP.at_ rfl rfl rfl (natOf_is (n := x.toNat) (by omega)) rfl rfl (.arg hm.first) (by first | assumption | omega) ?_ | refine RP.at_ rfl rfl rfl (natOf_is (n := x.toNat) (by omega)) rfl rfl (.arg hm.follow) (by first | assumption | omega) ?_ | refine RP.at_ rfl rfl rfl (natOf_is (n := x.toNat) (by omega)) rfl rfl (.arg hm.last) (by first | assumption | omega) ?_
          first | refine RP.load_el rfl rfl rfl rfl (.arg hm.spots) (by first | assumption | omega) rfl ?_ | refine RP.load_el rfl rfl rfl rfl (.arg hm.first) (by first | assumption | omega) rfl ?_ | refine RP.load_el rfl rfl rfl rfl (.arg hm.follow) (by first | assumption | omega) rfl ?_ | refine RP.load_el rfl rfl rfl rfl (.arg hm.last) (by first | assumption | omega) rfl ?_
          refine RP.assign rfl rfl ?_
          refine RP.assign rfl rfl ?_
          refine RP.nil ?_
          refine WP.region ?_
          refine RP.add rfl rfl rfl (by omega) (by omega) ?_
          refine RP.move rfl rfl ?_
          refine RP.nil ?_
          refine roundQ.mk (Q := fun _ _ _ => True) (i + 1, fol[x.toNat].1, fol[x.toNat].2, v49, p49, tags ++ [m.spots[x.toNat].tag]) ⟨rfl, rfl, rfl, rfl, rfl, rfl, rfl, trivial⟩ (.cons (by repeat (first | exact .here | apply HRem.there | apply HRem.app)) (.cons (by repeat (first | exact .here | apply HRem.there | apply HRem.app)) (.cons (by repeat (first | exact .here | apply HRem.there | apply HRem.app)) (.cons (by repeat (first | exact .here | apply HRem.there | apply HRem.app)) (.skip (.skip .refl)))))) (by
            try dsimp only
            exact ⟨hlt, hrow, fun y hy => hgd.range (n := x.toNat) (by rw [hm.fol hxf]; exact hy), hrl, hl49, by rw [List.length_append]; simp only [List.length_singleton]; omega, by
              rw [hI7, hdrop, markF, hfind]
              show ((markF m _ (folOf m x.toNat)).map (tagOf m x.toNat :: ·)).map (tags ++ ·) = _
              rw [hm.fol hxf, show tagOf m x.toNat = m.spots[x.toNat].tag by unfold tagOf; rw [List.getElem?_eq_getElem hxs], Option.map_map]
              cases markF m (w.data.toList.drop (i + 1)) fol[x.toNat].2 with
              | none => rfl
              | some l => simp⟩) (by
            try dsimp only
            omega)
      · skip
        refine RP.nil ?_
        refine WP.seq ?_
        refine WP.cond_f rfl ?_
        refine WP.exit ?_
        refine WP.seq ?_
        refine WP.region ?_
        refine RP.move rfl rfl ?_
        refine RP.assign rfl rfl ?_
        refine RP.assign rfl rfl ?_
        refine RP.nil ?_
        refine WP.ret ?_
        exact End.two (Or.inr rfl) rfl (.tmp rfl) (.tmp rfl) (.cons (by repeat (first | exact .here | apply HRem.there | apply HRem.app)) .nil) ⟨po, _, _, _, rfl, hI5, rfl, .yes hgd hne (by rw [hI7, List.drop_of_length_le (by omega)]; simp [markF])⟩
  · skip
    refine RP.un rfl rfl rfl ?_
    refine RP.move rfl rfl ?_
    refine RP.gfalse rfl rfl ?_
    refine RP.gfalse rfl rfl ?_
    refine RP.pick_ rfl rfl rfl ?_
    refine RP.nil ?_
    refine WP.cond_t rfl ?_
    refine WP.seq ?_
    refine WP.region ?_
    refine RP.load_boxN rfl rfl rfl rfl rfl (by repeat (first | exact .here | apply HIn.there | apply HIn.app)) rfl ?_
    refine RP.move rfl rfl ?_
    refine RP.call rfl rfl rfl hlo (fun st' lo' hi' hl' => nrun_ok hl' (hm.inv hi') h0' hok hw) ?_
    rintro _ _ (⟨_, rfl, rfl⟩ | ⟨hb, rfl, rfl⟩)
    rotate_left
    · exact absurd hb hng
    refine RP.ghost .dead ?_
    refine RP.assign rfl rfl ?_
    refine RP.assign rfl rfl ?_
    refine RP.nil ?_
    refine WP.ret ?_
    exact End.two (Or.inr rfl) rfl (.tmp rfl) (.tmp rfl) (.cons (by repeat (first | exact .here | apply HRem.there | apply HRem.app)) .nil) ⟨_, _, _, _, rfl, .nil, rfl, .bad hng⟩
end
end Go.Proofs.Ytpkeggejofeeeaa

namespace Go.Proofs.Ytpkeggejofeeeaa
open Go.Proofs.Ytpkeggejofeeeaa.Lvm Go

section
variable {bm : Nat → Nat → Option LV} {st : LSt} {lo : Nat} {a b c d : LV} {m : Mach} {fol : List (LV × List Int)}

theorem frun_ok (hlo : lo ≤ st.nxt) (hm : MA (EE bm) st a b c d m fol) (h0 : Small60 m fol) (hok : ∀ s ∈ m.spots, SpotOk s) {w : ByteArray} (hw : w.size ≤ 1000000) :
    Fin (EE bm) lo 14 [mv a b c d m, .str w] st (fun v H => ∃ ok tags, MarksSpec m w.data.toList ok tags ∧ v = parsedV ok tags w.data.toList ∧ H = []) := by
  have hwl : w.data.toList.length = w.size := Array.length_toList
  refine Fin.of_body (fn := Try.f14) (c := Try.f14.body.getD .skip) rfl rfl rfl rfl ?_
  refine WP.seq ?_
  refine WP.region ?_
  refine RP.box rfl rfl hm.sc (fun L2 => ?_)
  refine RP.alloc rfl rfl rfl (fun L4 => ?_)
  refine RP.nil ?_
  refine WP.seq ?_
  refine WP.region ?_
  refine RP.load_boxN rfl rfl rfl rfl rfl (by repeat (first | exact .here | apply HIn.there | apply HIn.app)) rfl ?_
  refine RP.move rfl rfl ?_
  refine RP.call rfl rfl rfl hlo (fun st' lo' hi' hl' => marks_ok hl' (hm.inv hi') h0 hok hw) ?_
  rintro _ _ ⟨pm, v', ok, tags, rfl, hl14, rfl, hsp⟩
  have hsl := hsp.len
  refine RP.move rfl rfl ?_
  refine RP.extract_ rfl rfl rfl ?_
  refine RP.extract_ rfl rfl rfl ?_
  refine RP.assign rfl rfl ?_
  refine RP.assign rfl rfl ?_
  refine RP.nil ?_
  refine WP.seq ?_
  refine WP.seq ?_
  refine WP.region ?_
  refine RP.move rfl rfl ?_
  refine RP.un rfl rfl rfl ?_
  refine RP.nil ?_
  refine WP.cond_b rfl (fun hc18 => ?_) (fun hc18 => ?_)
  · skip
    refine WP.seq ?_
    refine WP.region ?_
    refine RP.build rfl rfl rfl ?_
    refine RP.store_box rfl rfl rfl rfl rfl rfl hlo (by repeat (first | exact .here | apply HUpd.there | apply HUpd.app)) ?_
    refine RP.nil ?_
    refine WP.ret ?_
    obtain rfl := hsp.nil (by simpa using hc18)
    obtain rfl : ok = false := by simpa using hc18
    exact End.one (by first | exact Or.inl rfl | exact Or.inr rfl) rfl (.cellN rfl rfl rfl rfl (by repeat (first | exact .here | apply HIn.there | apply HIn.app)) rfl) .nil ⟨false, [], hsp, rfl, rfl⟩
  · skip
    refine WP.skip ?_
    refine WP.seq ?_
    refine WP.ghost .dead ?_
    refine WP.ghost .dead ?_
    refine WP.region ?_
    refine RP.assign rfl rfl ?_
    refine RP.assign rfl rfl ?_
    refine RP.nil ?_
    refine WP.seq ?_
    refine WP.seq ?_
    refine WP.region ?_
    refine RP.move rfl rfl ?_
    refine RP.len_sl rfl rfl (.lin fU_len hl14 (by repeat (first | exact .here | apply HIn.there | apply HIn.app))) rfl ?_
    refine RP.move rfl rfl ?_
    refine RP.nil ?_
    refine WP.block rfl ?_
    refine WP.loop (α := Nat × LV × HE × LV × HE) (fun gh => [(1, .str w), (4, .ptr (.own L4) 0), (7, gh.2.1), (8, gh.2.2.2.1), (20, v'), (21, .int .i64 (tags.length : Int)), (22, .int .i64 (gh.1 : Int))]) (fun gh => [(some L4, .cells [.bool false, .str .empty, .str .empty]), pm, gh.2.2.1, gh.2.2.2.2]) (fun gh => gh.1 ≤ tags.length ∧ Lin 1 fY true gh.2.1 (pickF 1 (tags.take gh.1) (w.data.toList.take gh.1)) gh.2.2.1 ∧ Lin 1 fY true gh.2.2.2.1 (pickF 2 (tags.take gh.1) (w.data.toList.take gh.1)) gh.2.2.2.2) (fun gh => tags.length - gh.1) ?_ (0, .nilsl, (none, .dead), .nilsl, (none, .dead)) ⟨rfl, rfl, rfl, rfl, rfl, rfl, rfl, trivial⟩ (.cons (by repeat (first | exact .here | apply HRem.there | apply HRem.app)) (.cons (by repeat (first | exact .here | apply HRem.there | apply HRem.app)) (.cons (by repeat (first | exact .here | apply HRem.there | apply HRem.app)) (.cons (by repeat (first | exact .here | apply HRem.there | apply HRem.app)) .nil)))) (by
      try dsimp only
      exact ⟨Nat.zero_le _, .nil, .nil⟩)
    rintro ⟨i, vh, ph, vp, pp⟩ hI
    change i ≤ tags.length ∧ Lin 1 fY true vh (pickF 1 (tags.take i) (w.data.toList.take i)) ph ∧ Lin 1 fY true vp (pickF 2 (tags.take i) (w.data.toList.take i)) pp at hI
    change WP _ _ _ _ _ [(1, .str w), (4, .ptr (.own L4) 0), (7, vh), (8, vp), (20, v'), (21, .int .i64 (tags.length : Int)), (22, .int .i64 (i : Int))] ([(some L4, .cells [.bool false, .str .empty, .str .empty]), pm, ph, pp] : HL) _
    obtain ⟨hI1, hI2, hI3⟩ := hI
    have hb1 := pickF_len (t := 1) (l := tags.take i) (w := w.data.toList.take i)
    have hb2 := pickF_len (t := 2) (l := tags.take i) (w := w.data.toList.take i)
    rw [List.length_take] at hb1 hb2
    refine WP.seq ?_
    refine WP.region ?_
    refine RP.lss rfl rfl rfl (fun h23 => ?_) (fun h23 => ?_)
    · skip
      have hlt : i < tags.length := by omega
      have hlw : i < w.data.toList.length := by omega
      refine RP.nil ?_
      refine WP.seq ?_
      refine WP.cond_t rfl ?_
      refine WP.skip ?_
      refine WP.seq ?_
      refine WP.block rfl ?_
      refine WP.seq ?_
      refine WP.region ?_
      refine RP.move rfl rfl ?_
      refine RP.at_ rfl rfl rfl rfl rfl rfl (.lin fU_len hl14 (by repeat (first | exact .here | apply HIn.there | apply HIn.app))) (by first | assumption | omega) ?_
      refine RP.load_el rfl rfl rfl rfl (.lin fU_len hl14 (by repeat (first | exact .here | apply HIn.there | apply HIn.app))) (by first | assumption | omega) rfl ?_
      refine RP.assign rfl rfl ?_
      refine RP.assign rfl rfl ?_
      refine RP.nil ?_
      refine WP.seq ?_
      refine WP.region ?_
      refine RP.move rfl rfl ?_
      refine RP.nil ?_
      refine WP.block rfl ?_
      refine WP.seq ?_
      refine WP.region ?_
      refine RP.eql rfl rfl rfl (fun h29 => ?_) (fun h29 => ?_)
      · skip
        refine RP.assign rfl rfl ?_
        refine RP.nil ?_
        refine WP.cond_t rfl ?_
        refine WP.region ?_
        refine RP.move rfl rfl ?_
        refine RP.move rfl rfl ?_
        refine RP.move rfl rfl ?_
        refine RP.idx_str rfl rfl rfl rfl rfl (List.getElem?_eq_getElem (by first | assumption | omega)) ?_
        refine RP.bslice [w.data.toList[i]] rfl rfl rfl rfl rfl rfl rfl rfl rfl rfl fY_len ?_
        intro v34 p34 hl34
        refine RP.append rfl rfl rfl rfl rfl rfl rfl rfl hI2 (fun _ => (by repeat (first | exact .here | apply HUpd.there | apply HUpd.app))) (.lin fY_len hl34 (by repeat (first | exact .here | apply HIn.there | apply HIn.app))) (flat_all fY_sc _) (by simp only [List.length_singleton]; omega) (fun e => (by first | rfl | cases e)) hlo ?_
        intro v35 p35 hl35
        refine RP.assign rfl rfl ?_
        refine RP.nil ?_
        refine WP.region ?_
        refine RP.add rfl rfl rfl (by omega) (by omega) ?_
        refine RP.move rfl rfl ?_
        refine RP.nil ?_
        refine roundQ.mk (Q := fun _ _ _ => True) (i + 1, v35, p35, vp, pp) ⟨rfl, rfl, rfl, rfl, rfl, rfl, rfl, trivial⟩ (.cons (by repeat (first | exact .here | apply HRem.there | apply HRem.app)) (.cons (by repeat (first | exact .here | apply HRem.there | apply HRem.app)) (.cons (by repeat (first | exact .here | apply HRem.there | apply HRem.app)) (.cons (by repeat (first | exact .here | apply HRem.there | apply HRem.app)) .nil)))) (by
          try dsimp only
          exact ⟨hlt, by rw [pickF_step (t := 1) hlt hlw, if_pos h29]; exact hl35, by rw [pickF_step (t := 2) hlt hlw, if_neg (by omega), List.append_nil]; exact hI3⟩) (by
          try dsimp only
          omega)
      · skip
        refine RP.assign rfl rfl ?_
        refine RP.nil ?_
        refine WP.cond_f rfl ?_
        refine WP.seq ?_
        refine WP.region ?_
        refine RP.eql rfl rfl rfl (fun h37 => ?_) (fun h37 => ?_)
        · skip
          refine RP.assign rfl rfl ?_
          refine RP.nil ?_
          refine WP.cond_t rfl ?_
          refine WP.region ?_
          refine RP.move rfl rfl ?_
          refine RP.move rfl rfl ?_
          refine RP.move rfl rfl ?_
          refine RP.idx_str rfl rfl rfl rfl rfl (List.getElem?_eq_getElem (by first | assumption | omega)) ?_
          refine RP.bslice [w.data.toList[i]] rfl rfl rfl rfl rfl rfl rfl rfl rfl rfl fY_len ?_
          intro v42 p42 hl42
          refine RP.append rfl rfl rfl rfl rfl rfl rfl rfl hI3 (fun _ => (by repeat (first | exact .here | apply HUpd.there | apply HUpd.app))) (.lin fY_len hl42 (by repeat (first | exact .here | apply HIn.there | apply HIn.app))) (flat_all fY_sc _) (by simp only [List.length_singleton]; omega) (fun e => (by first | rfl | cases e)) hlo ?_
          intro v43 p43 hl43
          refine RP.assign rfl rfl ?_
          refine RP.nil ?_
          refine WP.region ?_
          refine RP.add rfl rfl rfl (by omega) (by omega) ?_
          refine RP.move rfl rfl ?_
          refine RP.nil ?_
          refine roundQ.mk (Q := fun _ _ _ => True) (i + 1, vh, ph, v43, p43) ⟨rfl, rfl, rfl, rfl, rfl, rfl, rfl, trivial⟩ (.cons (by repeat (first | exact .here | apply HRem.there | apply HRem.app)) (.cons (by repeat (first | exact .here | apply HRem.there | apply HRem.app)) (.cons (by repeat (first | exact .here | apply HRem.there | apply HRem.app)) (.cons (by repeat (first | exact .here | apply HRem.there | apply HRem.app)) .nil)))) (by
            try dsimp only
            exact ⟨hlt, by rw [pickF_step (t := 1) hlt hlw, if_neg h29, List.append_nil]; exact hI2, by rw [pickF_step (t := 2) hlt hlw, if_pos h37]; exact hl43⟩) (by
            try dsimp only
            omega)
        · skip
          refine RP.assign rfl rfl ?_
          refine RP.nil ?_
          refine WP.cond_f rfl ?_
          refine WP.skip ?_
          refine WP.region ?_
          refine RP.add rfl rfl rfl (by omega) (by omega) ?_
          refine RP.move rfl rfl ?_
          refine RP.nil ?_
          refine roundQ.mk (Q := fun _ _ _ => True) (i + 1, vh, ph, vp, pp) ⟨rfl, rfl, rfl, rfl, rfl, rfl, rfl, trivial⟩ (.cons (by repeat (first | exact .here | apply HRem.there | apply HRem.app)) (.cons (by repeat (first | exact .here | apply HRem.there | apply HRem.app)) (.cons (by repeat (first | exact .here | apply HRem.there | apply HRem.app)) (.cons (by repeat (first | exact .here | apply HRem.there | apply HRem.app)) .nil)))) (by
            try dsimp only
            exact ⟨hlt, by rw [pickF_step (t := 1) hlt hlw, if_neg h29, List.append_nil]; exact hI2, by rw [pickF_step (t := 2) hlt hlw, if_neg h37, List.append_nil]; exact hI3⟩) (by
            try dsimp only
            omega)
    · skip
      refine RP.nil ?_
      refine WP.seq ?_
      refine WP.cond_f rfl ?_
      refine WP.exit ?_
      refine WP.seq ?_
      refine WP.region ?_
      refine RP.move rfl rfl ?_
      refine RP.conv_bytes rfl rfl rfl rfl rfl (.lin fY_len hI2 (by repeat (first | exact .here | apply HIn.there | apply HIn.app))) ?_
      refine RP.move rfl rfl ?_
      refine RP.conv_bytes rfl rfl rfl rfl rfl (.lin fY_len hI3 (by repeat (first | exact .here | apply HIn.there | apply HIn.app))) ?_
      refine RP.build rfl rfl rfl ?_
      refine RP.store_box rfl rfl rfl rfl rfl rfl hlo (by repeat (first | exact .here | apply HUpd.there | apply HUpd.app)) ?_
      refine RP.nil ?_
      refine WP.ret ?_
      have ht1 : pickF 1 (tags.take i) (w.data.toList.take i) = pickF 1 tags w.data.toList := pickF_all (by omega) hsl
      have ht2 : pickF 2 (tags.take i) (w.data.toList.take i) = pickF 2 tags w.data.toList := pickF_all (by omega) hsl
      obtain rfl : ok = true := by simpa using hc18
      exact End.one (by first | exact Or.inl rfl | exact Or.inr rfl) rfl (.cellN rfl rfl rfl rfl (by repeat (first | exact .here | apply HIn.there | apply HIn.app)) rfl) .nil ⟨true, tags, hsp, by show _ = LV.agg _; rw [← ht1, ← ht2]; rfl, rfl⟩
theorem fstFields_ok (hlo : lo ≤ st.nxt) (hm : MA (EE bm) st a b c d m fol) (hok : ∀ s ∈ m.spots, SpotOk s) {w : ByteArray} : Fin (EE bm) lo 7 [mv a b c d m, .str w] st (fun v H => v = .bool true ∧ H = []) := by
  have hwl : w.data.toList.length = w.size := Array.length_toList
  refine Fin.of_body (fn := Try.f7) (c := Try.f7.body.getD .skip) rfl rfl rfl rfl ?_
  refine WP.seq ?_
  refine WP.region ?_
  refine RP.box rfl rfl hm.sc (fun L2 => ?_)
  refine RP.assign rfl rfl ?_
  refine RP.nil ?_
  refine WP.seq ?_
  refine WP.seq ?_
  refine WP.region ?_
  refine RP.load_boxN rfl rfl rfl rfl rfl (by repeat (first | exact .here | apply HIn.there | apply HIn.app)) rfl ?_
  refine RP.call rfl rfl rfl hlo (fun st' lo' hi' hl' => great_ok hl' (hm.inv hi')) ?_
  rintro _ _ (⟨rfl, rfl⟩ | ⟨h0, rfl, rfl⟩)
  · skip
    refine RP.move rfl rfl ?_
    refine RP.gfalse rfl rfl ?_
    refine RP.gfalse rfl rfl ?_
    refine RP.gfalse rfl rfl ?_
    refine RP.pick_ rfl rfl rfl ?_
    refine RP.nil ?_
    refine WP.cond_t rfl ?_
    refine WP.seq ?_
    refine WP.region ?_
    refine RP.call rfl rfl rfl hlo (fun st' lo' hi' hl' => awake_ok) ?_
    rintro _ _ ⟨rfl, rfl⟩
    refine RP.assign rfl rfl ?_
    refine RP.nil ?_
    refine WP.ret ?_
    exact End.one (Or.inr rfl) rfl (.tmp rfl) .nil ⟨rfl, rfl⟩
  · skip
    have h0i := h0
    obtain ⟨h01, h02, h03, h04, h05⟩ := h0i
    refine RP.move rfl rfl ?_
    refine RP.gtrue rfl ?_
    refine RP.move rfl rfl ?_
    refine RP.gtrue rfl ?_
    refine RP.len_v rfl rfl (fun _ => rfl) ?_
    refine RP.gtrue rfl ?_
    refine RP.gtr rfl rfl rfl (fun h16 => ?_) (fun h16 => ?_)
    · skip
      refine RP.pick_ rfl rfl rfl ?_
      refine RP.nil ?_
      refine WP.cond_t rfl ?_
      refine WP.seq ?_
      refine WP.region ?_
      refine RP.call rfl rfl rfl hlo (fun st' lo' hi' hl' => awake_ok) ?_
      rintro _ _ ⟨rfl, rfl⟩
      refine RP.assign rfl rfl ?_
      refine RP.nil ?_
      refine WP.ret ?_
      exact End.one (Or.inr rfl) rfl (.tmp rfl) .nil ⟨rfl, rfl⟩
    · skip
      refine RP.pick_ rfl rfl rfl ?_
      refine RP.nil ?_
      refine WP.cond_f rfl ?_
      refine WP.skip ?_
      refine WP.seq ?_
      refine WP.region ?_
      refine RP.load_boxN rfl rfl rfl rfl rfl (by repeat (first | exact .here | apply HIn.there | apply HIn.app)) rfl ?_
      refine RP.move rfl rfl ?_
      refine RP.call rfl rfl rfl hlo (fun st' lo' hi' hl' => marks_ok hl' (hm.inv hi') h0 hok (by omega)) ?_
      rintro _ _ ⟨pm, v', ok, tags, rfl, hl22, rfl, hsp⟩
      have hsl := hsp.len
      refine RP.move rfl rfl ?_
      refine RP.extract_ rfl rfl rfl ?_
      refine RP.extract_ rfl rfl rfl ?_
      refine RP.assign rfl rfl ?_
      refine RP.assign rfl rfl ?_
      refine RP.nil ?_
      refine WP.seq ?_
      refine WP.region ?_
      refine RP.load_boxN rfl rfl rfl rfl rfl (by repeat (first | exact .here | apply HIn.there | apply HIn.app)) rfl ?_
      refine RP.move rfl rfl ?_
      refine RP.call rfl rfl rfl hlo (fun st' lo' hi' hl' => frun_ok hl' (hm.inv hi') h0 hok (by omega)) ?_
      rintro _ _ ⟨ok2, tags2, hsp2, rfl, rfl⟩
      obtain rfl := hsp.same_ok hsp2
      refine RP.alloc rfl rfl rfl (fun L7 => ?_)
      refine RP.store_box rfl rfl rfl rfl rfl rfl hlo (by repeat (first | exact .here | apply HUpd.there | apply HUpd.app)) ?_
      refine RP.nil ?_
      refine WP.seq ?_
      refine WP.region ?_
      refine RP.assign rfl rfl ?_
      refine RP.assign rfl rfl ?_
      refine RP.nil ?_
      refine WP.seq ?_
      refine WP.seq ?_
      refine WP.region ?_
      refine RP.assign rfl rfl ?_
      refine RP.nil ?_
      refine WP.block rfl ?_
      refine WP.loop (α := Nat × ByteArray × ByteArray) (fun gh => [(1, .str w), (2, .ptr (.own L2) 0), (5, v'), (6, .bool ok), (7, .ptr (.own L7) 0), (8, .str gh.2.1), (9, .str gh.2.2), (10, .int .i64 (gh.1 : Int))]) (fun gh => [(some L2, .cells (mv a b c d m).cells), (some L7, .cells [.bool ok, .str ⟨(pickF 1 tags2 w.data.toList).toArray⟩, .str ⟨(pickF 2 tags2 w.data.toList).toArray⟩]), pm]) (fun gh => gh.1 ≤ tags.length ∧ gh.2.1.data.toList = pickF 1 (tags.take gh.1) (w.data.toList.take gh.1) ∧ gh.2.2.data.toList = pickF 2 (tags.take gh.1) (w.data.toList.take gh.1)) (fun gh => tags.length - gh.1) ?_ (0, ⟨#[]⟩, ⟨#[]⟩) ⟨rfl, rfl, rfl, rfl, rfl, rfl, rfl, rfl, trivial⟩ (.cons (by repeat (first | exact .here | apply HRem.there | apply HRem.app)) (.cons (by repeat (first | exact .here | apply HRem.there | apply HRem.app)) (.cons (by repeat (first | exact .here | apply HRem.there | apply HRem.app)) .nil))) (by
        try dsimp only
        exact ⟨Nat.zero_le _, rfl, rfl⟩)
      rintro ⟨i, hs, qs⟩ hI
      change i ≤ tags.length ∧ hs.data.toList = pickF 1 (tags.take i) (w.data.toList.take i) ∧ qs.data.toList = pickF 2 (tags.take i) (w.data.toList.take i) at hI
      change WP _ _ _ _ _ [(1, .str w), (2, .ptr (.own L2) 0), (5, v'), (6, .bool ok), (7, .ptr (.own L7) 0), (8, .str hs), (9, .str qs), (10, .int .i64 (i : Int))] ([(some L2, .cells (mv a b c d m).cells), (some L7, .cells [.bool ok, .str ⟨(pickF 1 tags2 w.data.toList).toArray⟩, .str ⟨(pickF 2 tags2 w.data.toList).toArray⟩]), pm] : HL) _
      obtain ⟨hI1, hI2, hI3⟩ := hI
      have hb1 := pickF_len (t := 1) (l := tags.take i) (w := w.data.toList.take i)
      have hb2 := pickF_len (t := 2) (l := tags.take i) (w := w.data.toList.take i)
      rw [List.length_take] at hb1 hb2
      rw [← hI2, ← size_list] at hb1
      rw [← hI3, ← size_list] at hb2
      refine WP.seq ?_
      refine WP.seq ?_
      refine WP.region ?_
      refine RP.move rfl rfl ?_
      refine RP.move rfl rfl ?_
      refine RP.len_sl rfl rfl (.lin fU_len hl22 (by repeat (first | exact .here | apply HIn.there | apply HIn.app))) rfl ?_
      refine RP.lss rfl rfl rfl (fun h31 => ?_) (fun h31 => ?_)
      · skip
        refine RP.move rfl rfl ?_
        refine RP.gtrue rfl ?_
        refine RP.move rfl rfl ?_
        refine RP.gtrue rfl ?_
        refine RP.move rfl rfl ?_
        refine RP.gtrue rfl ?_
        refine RP.len_v rfl rfl (fun _ => rfl) ?_
        refine RP.gtrue rfl ?_
        refine RP.lss rfl rfl rfl (fun h36 => ?_) (fun h36 => ?_)
        · skip
          have hlt : i < tags.length := by omega
          have hlw : i < w.data.toList.length := by omega
          refine RP.pick_ rfl rfl rfl ?_
          refine RP.nil ?_
          refine WP.cond_t rfl ?_
          refine WP.skip ?_
          refine WP.seq ?_
          refine WP.block rfl ?_
          refine WP.seq ?_
          refine WP.seq ?_
          refine WP.region ?_
          refine RP.move rfl rfl ?_
          refine RP.move rfl rfl ?_
          refine RP.at_ rfl rfl rfl rfl rfl rfl (.lin fU_len hl22 (by repeat (first | exact .here | apply HIn.there | apply HIn.app))) (by first | assumption | omega) ?_
          refine RP.load_el rfl rfl rfl rfl (.lin fU_len hl22 (by repeat (first | exact .here | apply HIn.there | apply HIn.app))) (by first | assumption | omega) rfl ?_
          refine RP.eql rfl rfl rfl (fun h44 => ?_) (fun h44 => ?_)
          · skip
            refine RP.nil ?_
            refine WP.cond_t rfl ?_
            refine WP.region ?_
            refine RP.move rfl rfl ?_
            refine RP.move rfl rfl ?_
            refine RP.move rfl rfl ?_
            refine RP.move rfl rfl ?_
            refine RP.add rfl rfl rfl (by omega) (by omega) ?_
            refine RP.sub_str rfl rfl rfl rfl rfl (natOf_is (n := i + 1) (by omega)) rfl (by omega) (by omega) ?_
            refine RP.cat rfl rfl rfl (by rw [size_list (w.extract i (i + 1)), sub_list hlw]; simp only [List.length_singleton]; omega) ?_
            refine RP.assign rfl rfl ?_
            refine RP.nil ?_
            refine WP.seq ?_
            refine WP.region ?_
            refine RP.move rfl rfl ?_
            refine RP.move rfl rfl ?_
            refine RP.at_ rfl rfl rfl rfl rfl rfl (.lin fU_len hl22 (by repeat (first | exact .here | apply HIn.there | apply HIn.app))) (by first | assumption | omega) ?_
            refine RP.load_el rfl rfl rfl rfl (.lin fU_len hl22 (by repeat (first | exact .here | apply HIn.there | apply HIn.app))) (by first | assumption | omega) rfl ?_
            refine RP.eql rfl rfl rfl (fun h56 => ?_) (fun h56 => ?_)
            · skip
              refine RP.nil ?_
              refine WP.cond_t rfl ?_
              refine WP.region ?_
              refine RP.move rfl rfl ?_
              refine RP.move rfl rfl ?_
              refine RP.move rfl rfl ?_
              refine RP.move rfl rfl ?_
              refine RP.add rfl rfl rfl (by omega) (by omega) ?_
              refine RP.sub_str rfl rfl rfl rfl rfl (natOf_is (n := i + 1) (by omega)) rfl (by omega) (by omega) ?_
              refine RP.cat rfl rfl rfl (by rw [size_list (w.extract i (i + 1)), sub_list hlw]; simp only [List.length_singleton]; omega) ?_
              refine RP.assign rfl rfl ?_
              refine RP.nil ?_
              refine WP.region ?_
              refine RP.move rfl rfl ?_
              refine RP.add rfl rfl rfl (by omega) (by omega) ?_
              refine RP.assign rfl rfl ?_
              refine RP.nil ?_
              refine roundQ.mk (Q := fun _ _ _ => True) (i + 1, hs ++ w.extract i (i + 1), qs ++ w.extract i (i + 1)) ⟨rfl, rfl, rfl, rfl, rfl, rfl, rfl, rfl, trivial⟩ (.cons (by repeat (first | exact .here | apply HRem.there | apply HRem.app)) (.cons (by repeat (first | exact .here | apply HRem.there | apply HRem.app)) (.cons (by repeat (first | exact .here | apply HRem.there | apply HRem.app)) .nil))) (by
                try dsimp only
                exact ⟨hlt, by rw [cat_list, sub_list hlw, pickF_step hlt hlw, if_pos h44, hI2], by rw [cat_list, sub_list hlw, pickF_step hlt hlw, if_pos h56, hI3]⟩) (by
                try dsimp only
                omega)
            · skip
              refine RP.nil ?_
              refine WP.cond_f rfl ?_
              refine WP.skip ?_
              refine WP.region ?_
              refine RP.move rfl rfl ?_
              refine RP.add rfl rfl rfl (by omega) (by omega) ?_
              refine RP.assign rfl rfl ?_
              refine RP.nil ?_
              refine roundQ.mk (Q := fun _ _ _ => True) (i + 1, hs ++ w.extract i (i + 1), qs) ⟨rfl, rfl, rfl, rfl, rfl, rfl, rfl, rfl, trivial⟩ (.cons (by repeat (first | exact .here | apply HRem.there | apply HRem.app)) (.cons (by repeat (first | exact .here | apply HRem.there | apply HRem.app)) (.cons (by repeat (first | exact .here | apply HRem.there | apply HRem.app)) .nil))) (by
                try dsimp only
                exact ⟨hlt, by rw [cat_list, sub_list hlw, pickF_step hlt hlw, if_pos h44, hI2], by rw [pickF_step hlt hlw, if_neg h56, List.append_nil]; exact hI3⟩) (by
                try dsimp only
                omega)
          · skip
            refine RP.nil ?_
            refine WP.cond_f rfl ?_
            refine WP.skip ?_
            refine WP.seq ?_
            refine WP.region ?_
            refine RP.move rfl rfl ?_
            refine RP.move rfl rfl ?_
            refine RP.at_ rfl rfl rfl rfl rfl rfl (.lin fU_len hl22 (by repeat (first | exact .here | apply HIn.there | apply HIn.app))) (by first | assumption | omega) ?_
            refine RP.load_el rfl rfl rfl rfl (.lin fU_len hl22 (by repeat (first | exact .here | apply HIn.there | apply HIn.app))) (by first | assumption | omega) rfl ?_
            refine RP.eql rfl rfl rfl (fun h56 => ?_) (fun h56 => ?_)
            · skip
              refine RP.nil ?_
              refine WP.cond_t rfl ?_
              refine WP.region ?_
              refine RP.move rfl rfl ?_
              refine RP.move rfl rfl ?_
              refine RP.move rfl rfl ?_
              refine RP.move rfl rfl ?_
              refine RP.add rfl rfl rfl (by omega) (by omega) ?_
              refine RP.sub_str rfl rfl rfl rfl rfl (natOf_is (n := i + 1) (by omega)) rfl (by omega) (by omega) ?_
              refine RP.cat rfl rfl rfl (by rw [size_list (w.extract i (i + 1)), sub_list hlw]; simp only [List.length_singleton]; omega) ?_
              refine RP.assign rfl rfl ?_
              refine RP.nil ?_
              refine WP.region ?_
              refine RP.move rfl rfl ?_
              refine RP.add rfl rfl rfl (by omega) (by omega) ?_
              refine RP.assign rfl rfl ?_
              refine RP.nil ?_
              refine roundQ.mk (Q := fun _ _ _ => True) (i + 1, hs, qs ++ w.extract i (i + 1)) ⟨rfl, rfl, rfl, rfl, rfl, rfl, rfl, rfl, trivial⟩ (.cons (by repeat (first | exact .here | apply HRem.there | apply HRem.app)) (.cons (by repeat (first | exact .here | apply HRem.there | apply HRem.app)) (.cons (by repeat (first | exact .here | apply HRem.there | apply HRem.app)) .nil))) (by
                try dsimp only
                exact ⟨hlt, by rw [pickF_step hlt hlw, if_neg h44, List.append_nil]; exact hI2, by rw [cat_list, sub_list hlw, pickF_step hlt hlw, if_pos h56, hI3]⟩) (by
                try dsimp only
                omega)
            · skip
              refine RP.nil ?_
              refine WP.cond_f rfl ?_
              refine WP.skip ?_
              refine WP.region ?_
              refine RP.move rfl rfl ?_
              refine RP.add rfl rfl rfl (by omega) (by omega) ?_
              refine RP.assign rfl rfl ?_
              refine RP.nil ?_
              refine roundQ.mk (Q := fun _ _ _ => True) (i + 1, hs, qs) ⟨rfl, rfl, rfl, rfl, rfl, rfl, rfl, rfl, trivial⟩ (.cons (by repeat (first | exact .here | apply HRem.there | apply HRem.app)) (.cons (by repeat (first | exact .here | apply HRem.there | apply HRem.app)) (.cons (by repeat (first | exact .here | apply HRem.there | apply HRem.app)) .nil))) (by
                try dsimp only
                exact ⟨hlt, by rw [pickF_step hlt hlw, if_neg h44, List.append_nil]; exact hI2, by rw [pickF_step hlt hlw, if_neg h56, List.append_nil]; exact hI3⟩) (by
                try dsimp only
                omega)
        · skip
          refine RP.pick_ rfl rfl rfl ?_
          refine RP.nil ?_
          refine WP.cond_f rfl ?_
          refine WP.exit ?_
          refine WP.seq ?_
          have hti : tags2 = tags := (hsp.same hsp2).symm
          have ht1 : pickF 1 (tags.take i) (w.data.toList.take i) = pickF 1 tags w.data.toList := pickF_all (by omega) hsl
          have ht2 : pickF 2 (tags.take i) (w.data.toList.take i) = pickF 2 tags w.data.toList := pickF_all (by omega) hsl
          subst hti
          refine WP.region ?_
          refine RP.faddr rfl rfl rfl ?_
          refine RP.load_box rfl rfl rfl rfl (by repeat (first | exact .here | apply HIn.there | apply HIn.app)) rfl ?_
          refine RP.move rfl rfl ?_
          refine RP.bin (v := .bool true) rfl rfl rfl (by cases ok <;> rfl) ?_
          refine RP.move rfl rfl ?_
          refine RP.gtrue rfl ?_
          refine RP.move rfl rfl ?_
          refine RP.gtrue rfl ?_
          refine RP.load_boxN rfl rfl rfl rfl rfl (by repeat (first | exact .here | apply HIn.there | apply HIn.app)) rfl ?_
          refine RP.gtrue rfl ?_
          refine RP.move rfl rfl ?_
          refine RP.gtrue rfl ?_
          refine RP.call rfl rfl rfl hlo (fun st' lo' hi' hl' => nrun_ok hl' (hm.inv hi') h0 hok (by omega)) ?_
          intro v72 _ h72
          obtain ⟨rfl, rfl⟩ : v72 = .bool ok ∧ _ = ([] : HL) := by
            rcases h72 with ⟨hb, h1, h2⟩ | ⟨hb, h1, h2⟩
            · exact ⟨by rw [h1, hsp.bad_ok hb], h2⟩
            · exact ⟨by rw [h1, hsp.takes hb], h2⟩
          refine RP.gtrue rfl ?_
          refine RP.bin (v := .bool true) rfl rfl rfl (by cases ok <;> rfl) ?_
          refine RP.pick_ rfl rfl rfl ?_
          refine RP.move rfl rfl ?_
          refine RP.gtrue rfl ?_
          refine RP.faddr rfl rfl rfl ?_
          refine RP.gtrue rfl ?_
          refine RP.load_box rfl rfl rfl rfl (by repeat (first | exact .here | apply HIn.there | apply HIn.app)) rfl ?_
          refine RP.gtrue rfl ?_
          refine RP.move rfl rfl ?_
          refine RP.gtrue rfl ?_
          refine RP.bin (v := .bool true) rfl rfl rfl (binL_eqs (by rw [hI2, ht1])) ?_
          refine RP.pick_ rfl rfl rfl ?_
          refine RP.move rfl rfl ?_
          refine RP.gtrue rfl ?_
          refine RP.faddr rfl rfl rfl ?_
          refine RP.gtrue rfl ?_
          refine RP.load_box rfl rfl rfl rfl (by repeat (first | exact .here | apply HIn.there | apply HIn.app)) rfl ?_
          refine RP.gtrue rfl ?_
          refine RP.move rfl rfl ?_
          refine RP.gtrue rfl ?_
          refine RP.bin (v := .bool true) rfl rfl rfl (binL_eqs (by rw [hI3, ht2])) ?_
          refine RP.pick_ rfl rfl rfl ?_
          refine RP.move rfl rfl ?_
          refine RP.gtrue rfl ?_
          refine RP.call rfl rfl rfl hlo (fun st' lo' hi' hl' => awake_ok) ?_
          rintro _ _ ⟨rfl, rfl⟩
          refine RP.pick_ rfl rfl rfl ?_
          refine RP.assign rfl rfl ?_
          refine RP.nil ?_
          refine WP.ret ?_
          exact End.one (Or.inr rfl) rfl (.tmp rfl) .nil ⟨rfl, rfl⟩
      · skip
        refine RP.move rfl rfl ?_
        refine RP.gfalse rfl rfl ?_
        refine RP.gfalse rfl rfl ?_
        refine RP.gfalse rfl rfl ?_
        refine RP.gfalse rfl rfl ?_
        refine RP.pick_ rfl rfl rfl ?_
        refine RP.nil ?_
        refine WP.cond_f rfl ?_
        refine WP.exit ?_
        refine WP.seq ?_
        have hti : tags2 = tags := (hsp.same hsp2).symm
        have ht1 : pickF 1 (tags.take i) (w.data.toList.take i) = pickF 1 tags w.data.toList := pickF_all (by omega) hsl
        have ht2 : pickF 2 (tags.take i) (w.data.toList.take i) = pickF 2 tags w.data.toList := pickF_all (by omega) hsl
        subst hti
        refine WP.region ?_
        refine RP.faddr rfl rfl rfl ?_
        refine RP.load_box rfl rfl rfl rfl (by repeat (first | exact .here | apply HIn.there | apply HIn.app)) rfl ?_
        refine RP.move rfl rfl ?_
        refine RP.bin (v := .bool true) rfl rfl rfl (by cases ok <;> rfl) ?_
        refine RP.move rfl rfl ?_
        refine RP.gtrue rfl ?_
        refine RP.move rfl rfl ?_
        refine RP.gtrue rfl ?_
        refine RP.load_boxN rfl rfl rfl rfl rfl (by repeat (first | exact .here | apply HIn.there | apply HIn.app)) rfl ?_
        refine RP.gtrue rfl ?_
        refine RP.move rfl rfl ?_
        refine RP.gtrue rfl ?_
        refine RP.call rfl rfl rfl hlo (fun st' lo' hi' hl' => nrun_ok hl' (hm.inv hi') h0 hok (by omega)) ?_
        intro v72 _ h72
        obtain ⟨rfl, rfl⟩ : v72 = .bool ok ∧ _ = ([] : HL) := by
          rcases h72 with ⟨hb, h1, h2⟩ | ⟨hb, h1, h2⟩
          · exact ⟨by rw [h1, hsp.bad_ok hb], h2⟩
          · exact ⟨by rw [h1, hsp.takes hb], h2⟩
        refine RP.gtrue rfl ?_
        refine RP.bin (v := .bool true) rfl rfl rfl (by cases ok <;> rfl) ?_
        refine RP.pick_ rfl rfl rfl ?_
        refine RP.move rfl rfl ?_
        refine RP.gtrue rfl ?_
        refine RP.faddr rfl rfl rfl ?_
        refine RP.gtrue rfl ?_
        refine RP.load_box rfl rfl rfl rfl (by repeat (first | exact .here | apply HIn.there | apply HIn.app)) rfl ?_
        refine RP.gtrue rfl ?_
        refine RP.move rfl rfl ?_
        refine RP.gtrue rfl ?_
        refine RP.bin (v := .bool true) rfl rfl rfl (binL_eqs (by rw [hI2, ht1])) ?_
        refine RP.pick_ rfl rfl rfl ?_
        refine RP.move rfl rfl ?_
        refine RP.gtrue rfl ?_
        refine RP.faddr rfl rfl rfl ?_
        refine RP.gtrue rfl ?_
        refine RP.load_box rfl rfl rfl rfl (by repeat (first | exact .here | apply HIn.there | apply HIn.app)) rfl ?_
        refine RP.gtrue rfl ?_
        refine RP.move rfl rfl ?_
        refine RP.gtrue rfl ?_
        refine RP.bin (v := .bool true) rfl rfl rfl (binL_eqs (by rw [hI3, ht2])) ?_
        refine RP.pick_ rfl rfl rfl ?_
        refine RP.move rfl rfl ?_
        refine RP.gtrue rfl ?_
        refine RP.call rfl rfl rfl hlo (fun st' lo' hi' hl' => awake_ok) ?_
        rintro _ _ ⟨rfl, rfl⟩
        refine RP.pick_ rfl rfl rfl ?_
        refine RP.assign rfl rfl ?_
        refine RP.nil ?_
        refine WP.ret ?_
        exact End.one (Or.inr rfl) rfl (.tmp rfl) .nil ⟨rfl, rfl⟩
end
end Go.Proofs.Ytpkeggejofeeeaa

namespace Go.Proofs.Ytpkeggejofeeeaa
open Go.Proofs.Ytpkeggejofeeeaa.Lvm Go
section
variable {H : Type} {enc : TypeId × Value → H} {w : World}
theorem Try.cells43 : Try.prog.cellsOf 43 = 5 := by kernel_rfl
theorem Try.cells41 : Try.prog.cellsOf 41 = 4 := by kernel_rfl
theorem Try.cells39 : Try.prog.cellsOf 39 = 1 := by kernel_rfl
theorem Try.cells5 : Try.prog.cellsOf 5 = 1 := by kernel_rfl
theorem Try.cells27 : Try.prog.cellsOf 27 = 5 := by kernel_rfl
theorem Try.cells22 : Try.prog.cellsOf 22 = 1 := by kernel_rfl
theorem Try.cells23 : Try.prog.cellsOf 23 = 1 := by kernel_rfl
theorem Try.cells24 : Try.prog.cellsOf 24 = 1 := by kernel_rfl
theorem Try.cells25 : Try.prog.cellsOf 25 = 1 := by kernel_rfl
theorem Try.cells3 : Try.prog.cellsOf 3 = 1 := by kernel_rfl
theorem Try.cells4 : Try.prog.cellsOf 4 = 1 := by kernel_rfl

theorem in_int {n : Nat} {cs : List Value} {x : DataW H × List MemPlace} (h : DataW.trod enc Try.prog w 0 (fun _ => true) true n 3 cs = some x) : ∃ y : Int, True ∧ ∀ (i : Nat) (c : LV), (fI y)[i]? = some c → ∃ u, cs[i]? = some u ∧ liftB u = some c := by
  obtain ⟨y, rfl, _, _⟩ := DataW.trod_int Try.underlying3 h
  refine ⟨y, trivial, fun i c hi => ?_⟩
  match i with
  | 0 => exact ⟨_, rfl, hi⟩
theorem in_bool {n : Nat} {cs : List Value} {x : DataW H × List MemPlace} (h : DataW.trod enc Try.prog w 0 (fun _ => true) true n 4 cs = some x) : ∃ y : Bool, True ∧ ∀ (i : Nat) (c : LV), (fB y)[i]? = some c → ∃ u, cs[i]? = some u ∧ liftB u = some c := by
  obtain ⟨y, rfl, _⟩ := DataW.trod_bool Try.underlying4 h
  refine ⟨y, trivial, fun i c hi => ?_⟩
  match i with
  | 0 => exact ⟨_, rfl, hi⟩
theorem in_set {n : Nat} {cs : List Value} {x : DataW H × List MemPlace} (h : DataW.trod enc Try.prog w 0 (fun _ => true) true n 41 cs = some x) : ∃ a b c d : Int, cs = [.int .u64 a, .int .u64 b, .int .u64 c, .int .u64 d] ∧ ∀ y ∈ [a, b, c, d], 0 ≤ y ∧ y < 18446744073709551616 := by
  obtain ⟨xs, m, rfl, _, hl, hx, hg⟩ := DataW.trod_array Try.underlying41 h
  rw [Try.cells41] at hl
  have e : ∃ c0 c1 c2 c3, cs = [c0, c1, c2, c3] := by
    match cs, hl with
    | [c0, c1, c2, c3], _ => exact ⟨c0, c1, c2, c3, rfl⟩
  obtain ⟨c0, c1, c2, c3, rfl⟩ := e
  rw [Try.cells39] at hg
  have one : ∀ (i : Nat) (hi : i < 4) (c : Value), (([c0, c1, c2, c3] : List Value).drop (i * 1)).take 1 = [c] → ∃ y : Int, c = .int .u64 y ∧ 0 ≤ y ∧ y < 18446744073709551616 := fun i hi c hc => by
    have h1 := hg i hi
    rw [hc, List.getElem?_eq_getElem (by omega)] at h1
    obtain ⟨y, h2, _, h3⟩ := DataW.trod_int Try.underlying39 h1
    simp only [List.cons.injEq, and_true] at h2
    refine ⟨y, h2, ?_⟩
    simp [Lit.wf, IntKind.min, IntKind.max, IntKind.signed, IntKind.bits] at h3
    omega
  obtain ⟨a, rfl, ha⟩ := one 0 (by omega) c0 rfl
  obtain ⟨b, rfl, hb⟩ := one 1 (by omega) c1 rfl
  obtain ⟨c, rfl, hc⟩ := one 2 (by omega) c2 rfl
  obtain ⟨d, rfl, hd⟩ := one 3 (by omega) c3 rfl
  exact ⟨a, b, c, d, rfl, by simp [ha, hb, hc, hd]⟩
theorem in_spot {n : Nat} {cs : List Value} {x : DataW H × List MemPlace} (h : DataW.trod enc Try.prog w 0 (fun _ => true) true n 43 cs = some x) : ∃ y : Spot, SpotOk y ∧ ∀ (i : Nat) (c : LV), (fS y)[i]? = some c → ∃ u, cs[i]? = some u ∧ liftB u = some c := by
  obtain ⟨xs, m, rfl, _, hl, hx, hg⟩ := DataW.trod_struct Try.underlying43 h
  rw [Try.cells43] at hl
  have e : ∃ c0 c1 c2 c3 c4, cs = [c0, c1, c2, c3, c4] := by
    match cs, hl with
    | [c0, c1, c2, c3, c4], _ => exact ⟨c0, c1, c2, c3, c4, rfl⟩
  obtain ⟨c0, c1, c2, c3, c4, rfl⟩ := e
  have g0 : DataW.trod enc Try.prog w 0 (fun _ => true) true m 41 (([c0, c1, c2, c3, c4].drop 0).take (Try.prog.cellsOf 41)) = xs[0]? := hg 0 _ rfl
  have g1 : DataW.trod enc Try.prog w 0 (fun _ => true) true m 5 (([c0, c1, c2, c3, c4].drop 4).take (Try.prog.cellsOf 5)) = xs[1]? := hg 1 _ rfl
  rw [Try.cells41, List.getElem?_eq_getElem (by rw [hx]; decide)] at g0
  rw [Try.cells5, List.getElem?_eq_getElem (by rw [hx]; decide)] at g1
  obtain ⟨a, b, c, d, h1, h2⟩ := in_set g0
  obtain ⟨t, h3, _, h4⟩ := DataW.trod_int Try.underlying5 g1
  simp only [List.drop_zero, List.take_succ_cons, List.take_zero, List.cons.injEq, and_true] at h1
  simp only [List.drop_succ_cons, List.drop_zero, List.take_succ_cons, List.take_zero, List.cons.injEq, and_true] at h3
  obtain ⟨rfl, rfl, rfl, rfl⟩ := h1
  subst h3
  refine ⟨⟨a, b, c, d, t⟩, ⟨h2, ?_⟩, fun i c hi => ?_⟩
  · simp [Lit.wf, IntKind.min, IntKind.max, IntKind.signed, IntKind.bits] at h4
    show 0 ≤ t ∧ t < 256
    omega
  · match i with
    | 0 | 1 | 2 | 3 | 4 => exact ⟨_, rfl, hi⟩

/-- An argument that is a machine. -/
theorem in_mach {v : Value} {x : DataW H} {ps : List MemPlace} (h : DataW.Trod enc Try.prog w 0 (fun _ => true) true 27 v x ps) {E : Env} (hb : E.bm = bmW w) :
    ∃ (a b c d : LV) (m : Mach) (fol : List (LV × List Int)), (∀ inj, VRel inj (mv a b c d m) v) ∧ (∀ s ∈ m.spots, SpotOk s) ∧ ∀ st, MA E st a b c d m fol := by
  obtain ⟨fuel, h⟩ := h
  obtain ⟨xs, m, rfl, _, hl, hx, hg⟩ := DataW.trod_struct Try.underlying27 h
  rw [Try.cells27] at hl
  have e : ∃ c0 c1 c2 c3 c4, v = .agg #[c0, c1, c2, c3, c4] := by
    cases v with
    | agg vs =>
      obtain ⟨l⟩ := vs
      match l, hl with
      | [c0, c1, c2, c3, c4], _ => exact ⟨c0, c1, c2, c3, c4, rfl⟩
    | _ => simp [Value.cells] at hl
  obtain ⟨c0, c1, c2, c3, c4, rfl⟩ := e
  have g0 : DataW.trod enc Try.prog w 0 (fun _ => true) true m 22 (([c0, c1, c2, c3, c4].drop 0).take (Try.prog.cellsOf 22)) = xs[0]? := hg 0 _ rfl
  have g1 : DataW.trod enc Try.prog w 0 (fun _ => true) true m 23 (([c0, c1, c2, c3, c4].drop 1).take (Try.prog.cellsOf 23)) = xs[1]? := hg 1 _ rfl
  have g2 : DataW.trod enc Try.prog w 0 (fun _ => true) true m 24 (([c0, c1, c2, c3, c4].drop 2).take (Try.prog.cellsOf 24)) = xs[2]? := hg 2 _ rfl
  have g3 : DataW.trod enc Try.prog w 0 (fun _ => true) true m 25 (([c0, c1, c2, c3, c4].drop 3).take (Try.prog.cellsOf 25)) = xs[3]? := hg 3 _ rfl
  have g4 : DataW.trod enc Try.prog w 0 (fun _ => true) true m 4 (([c0, c1, c2, c3, c4].drop 4).take (Try.prog.cellsOf 4)) = xs[4]? := hg 4 _ rfl
  rw [Try.cells22, List.getElem?_eq_getElem (by rw [hx]; decide)] at g0
  rw [Try.cells23, List.getElem?_eq_getElem (by rw [hx]; decide)] at g1
  rw [Try.cells24, List.getElem?_eq_getElem (by rw [hx]; decide)] at g2
  rw [Try.cells25, List.getElem?_eq_getElem (by rw [hx]; decide)] at g3
  rw [Try.cells4, List.getElem?_eq_getElem (by rw [hx]; decide)] at g4
  obtain ⟨v0, a, spots, e0, r0, _, q0, s0⟩ := slice_in Try.underlying22 Try.cells43 (by decide) fS_len (fun _ _ _ => in_spot) hb g0
  obtain ⟨v1, b, first, e1, r1, _, _, s1⟩ := slice_in Try.underlying23 Try.cells3 (by decide) fI_len (fun _ _ _ => in_int) hb g1
  obtain ⟨v2, c, fol, e2, r2, _, q2, s2⟩ := slice_in (f := fP) (Q := fun p : LV × List Int => ∀ st, SlT E st p.1 1 fI p.2) Try.underlying24 Try.cells23 (by decide) fP_len (fun n cs x hh => by
    obtain ⟨v, lv, row, rfl, _, hv, _, hs⟩ := slice_in Try.underlying23 Try.cells3 (by decide) fI_len (fun _ _ _ => in_int) hb hh
    refine ⟨(lv, row), hs, fun i c hi => ?_⟩
    match i with
    | 0 => exact ⟨v, rfl, by rw [hv rfl]; exact hi⟩) hb g2
  obtain ⟨v3, d, last, e3, r3, _, _, s3⟩ := slice_in Try.underlying25 Try.cells4 (by decide) fB_len (fun _ _ _ => in_bool) hb g3
  obtain ⟨em, e4, _⟩ := DataW.trod_bool Try.underlying4 g4
  simp only [List.drop_zero, List.drop_succ_cons, List.take_succ_cons, List.take_zero, List.cons.injEq, and_true] at e0 e1 e2 e3 e4
  subst e0 e1 e2 e3 e4
  refine ⟨a, b, c, d, ⟨spots, first, fol.map (·.2), last, em⟩, fol, fun inj => ?_, q0, fun st => ⟨s0 st, s1 st, s2 st, fun p hp => q2 p hp st, s3 st, rfl⟩⟩
  simp only [mv, VRel]
  exact ⟨_, rfl, VRels.cons (r0 inj) (VRels.cons (r1 inj) (VRels.cons (r2 inj) (VRels.cons (r3 inj) (VRels.cons (by simp [VRel]) VRels.nil))))⟩
end
end Go.Proofs.Ytpkeggejofeeeaa
