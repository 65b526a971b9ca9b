/- Laws of the small machine, of how it stands to the model, and of what functions come to on it; a helper of the statement: no statement is proved here. -/
import Derived.Test.YtpkeggejofeeeaaJ
set_option linter.unusedVariables false
namespace Go.Proofs.Ytpkeggejofeeeaa
open Go.Proofs.Ytpkeggejofeeeaa.Lvm Go

section
variable {bm : Nat → Nat → Option LV} {st : LSt} {lo : Nat} {a b c d : LV} {m : Mach} {fol : List (LV × List Int)}

theorem indexFunc_ok (hlo : lo ≤ st.nxt) {v : LV} {xs : List Int} {g : FuncId} {cap : List LV} (p : Int → Bool) (hv : SlT (EE bm) st v 1 fI xs) (hn : xs.length ≤ 1000000) (hf : ∀ st' lo', Inv st [] st' → lo' ≤ st'.nxt → ∀ x ∈ xs, Fin (EE bm) lo' g ([.int .i64 x] ++ cap) st' (fun r H => r = .bool (p x) ∧ H = [])) :
    Fin (EE bm) lo 26 [v, .fn g [] cap] st (fun r H => ∃ k, r = .int .i64 k ∧ IdxSpec p xs k ∧ H = []) := by
  refine Fin.of_body (fn := Try.f26) (c := Try.f26.body.getD .skip) rfl rfl rfl rfl ?_
  refine WP.seq ?_
  refine WP.region ?_
  refine RP.assign rfl rfl ?_
  refine RP.nil ?_
  refine WP.seq ?_
  refine WP.seq ?_
  refine WP.region ?_
  refine RP.move rfl rfl ?_
  refine RP.len_sl rfl rfl (.arg hv) rfl ?_
  refine RP.move rfl rfl ?_
  refine RP.nil ?_
  refine WP.block rfl ?_
  refine WP.loop (α := Nat) (fun gh => [(0, v), (1, .fn g [] cap), (7, .int .i64 (xs.length : Int)), (8, .int .i64 (gh : Int))]) (fun gh => []) (fun gh => gh ≤ xs.length ∧ ∀ (j : Nat) (h : j < xs.length), j < gh → p xs[j] = false) (fun gh => xs.length - gh) ?_ 0 ⟨rfl, rfl, rfl, rfl, trivial⟩ .nil (by
    try dsimp only
    exact ⟨Nat.zero_le _, fun _ _ h => absurd h (Nat.not_lt_zero _)⟩)
  rintro i hI
  change i ≤ xs.length ∧ ∀ (j : Nat) (h : j < xs.length), j < i → p xs[j] = false at hI
  change WP _ _ _ _ _ [(0, v), (1, .fn g [] cap), (7, .int .i64 (xs.length : Int)), (8, .int .i64 (i : Int))] ([] : HL) _
  obtain ⟨hI1, hI2⟩ := hI
  refine WP.seq ?_
  refine WP.region ?_
  refine RP.lss rfl rfl rfl (fun h9 => ?_) (fun h9 => ?_)
  · skip
    have hlt : i < xs.length := by omega
    refine RP.nil ?_
    refine WP.seq ?_
    refine WP.cond_t rfl ?_
    refine WP.skip ?_
    refine WP.seq ?_
    refine WP.block rfl ?_
    refine WP.seq ?_
    refine WP.region ?_
    refine RP.move rfl rfl ?_
    refine RP.assign rfl rfl ?_
    refine RP.nil ?_
    refine WP.seq ?_
    refine WP.region ?_
    refine RP.move rfl rfl ?_
    refine RP.move rfl rfl ?_
    refine RP.move rfl rfl ?_
    refine RP.at_ rfl rfl rfl rfl rfl rfl (.arg hv) (by first | assumption | omega) ?_
    refine RP.load_el rfl rfl rfl rfl (.arg hv) (by first | assumption | omega) rfl ?_
    refine RP.call rfl rfl rfl hlo (fun st' lo' hi' hl' => hf _ _ (hi'.pick .nil) hl' _ (List.getElem_mem hlt)) ?_
    rintro _ _ ⟨rfl, rfl⟩
    refine RP.nil ?_
    refine WP.cond_b rfl (fun hc16 => ?_) (fun hc16 => ?_)
    · skip
      refine WP.seq ?_
      refine WP.region ?_
      refine RP.move rfl rfl ?_
      refine RP.assign rfl rfl ?_
      refine RP.nil ?_
      refine WP.ret ?_
      exact End.one (Or.inr rfl) rfl (.tmp rfl) .nil ⟨_, rfl, .yes hlt hc16 hI2, rfl⟩
    · skip
      refine WP.skip ?_
      refine WP.region ?_
      refine RP.add rfl rfl rfl (by omega) (by omega) ?_
      refine RP.move rfl rfl ?_
      refine RP.nil ?_
      refine roundQ.mk (Q := fun _ _ _ => True) (i + 1) ⟨rfl, rfl, rfl, rfl, trivial⟩ .nil (by
        try dsimp only
        exact ⟨hlt, fun j hj hji => if e : j = i then by subst e; exact hc16 else hI2 j hj (by omega)⟩) (by
        try dsimp only
        omega)
  · skip
    refine RP.nil ?_
    refine WP.seq ?_
    refine WP.cond_f rfl ?_
    refine WP.exit ?_
    refine WP.seq ?_
    refine WP.region ?_
    refine RP.assign rfl rfl ?_
    refine RP.nil ?_
    refine WP.ret ?_
    exact End.one (Or.inr rfl) rfl (.tmp rfl) .nil ⟨_, rfl, .no h9 hI2, rfl⟩
theorem containsFunc_ok (hlo : lo ≤ st.nxt) {v : LV} {xs : List Int} {g : FuncId} {cap : List LV} (p : Int → Bool) (hv : SlT (EE bm) st v 1 fI xs) (hn : xs.length ≤ 1000000) (hf : ∀ st' lo', Inv st [] st' → lo' ≤ st'.nxt → ∀ x ∈ xs, Fin (EE bm) lo' g ([.int .i64 x] ++ cap) st' (fun r H => r = .bool (p x) ∧ H = [])) :
    Fin (EE bm) lo 46 [v, .fn g [] cap] st (fun r H => r = .bool (xs.any p) ∧ H = []) := by
  refine Fin.of_body (fn := Try.f46) (c := Try.f46.body.getD .skip) rfl rfl rfl rfl ?_
  refine WP.seq ?_
  refine WP.region ?_
  refine RP.assign rfl rfl ?_
  refine RP.nil ?_
  refine WP.seq ?_
  refine WP.region ?_
  refine RP.move rfl rfl ?_
  refine RP.move rfl rfl ?_
  refine RP.call rfl rfl rfl hlo (fun st' lo' hi' hl' => indexFunc_ok hl' p (hv.inv hi') hn (fun st2 lo2 hi2 hl2 x hx => hf st2 lo2 ((hi'.on hi2).pick .nil) hl2 x hx)) ?_
  rintro _ _ ⟨k, rfl, hk, rfl⟩
  refine RP.geq rfl rfl rfl (fun h8 => ?_) (fun h8 => ?_)
  · skip
    refine RP.assign rfl rfl ?_
    refine RP.nil ?_
    refine WP.ret ?_
    exact End.one (Or.inr rfl) rfl (.tmp rfl) .nil ⟨by rw [hk.any, decide_eq_true (by omega)], rfl⟩
  · skip
    refine RP.assign rfl rfl ?_
    refine RP.nil ?_
    refine WP.ret ?_
    exact End.one (Or.inr rfl) rfl (.tmp rfl) .nil ⟨by rw [hk.any, decide_eq_false (by omega)], rfl⟩
theorem usefulC_ok (hlo : lo ≤ st.nxt) {L : Nat} {v : LV} {out : List Bool} (hL : Old st L [v]) (hv : SlT (EE bm) st v 1 fB out) {x : Int} (hx0 : 0 ≤ x) (hx : x.toNat < out.length) :
    Fin (EE bm) lo 52 ([.int .i64 x] ++ [.ptr (.own L) 0]) st (fun r H => r = .bool out[x.toNat] ∧ H = []) := by
  refine Fin.of_body (fn := Try.f52) (c := Try.f52.body.getD .skip) rfl rfl rfl rfl ?_
  refine WP.seq ?_
  refine WP.region ?_
  refine RP.assign rfl rfl ?_
  refine RP.nil ?_
  refine WP.seq ?_
  refine WP.region ?_
  refine RP.load_old rfl rfl rfl rfl hL rfl ?_
  refine RP.move rfl rfl ?_
  refine RP.at_ rfl rfl rfl (natOf_is (n := x.toNat) (by omega)) rfl rfl (.arg hv) (by first | assumption | omega) ?_
  refine RP.load_el rfl rfl rfl rfl (.arg hv) (by first | assumption | omega) rfl ?_
  refine RP.assign rfl rfl ?_
  refine RP.nil ?_
  refine WP.ret ?_
  exact End.one (Or.inr rfl) rfl (.tmp rfl) .nil ⟨rfl, rfl⟩
theorem useful_ok (hlo : lo ≤ st.nxt) (hm : MA (EE bm) st a b c d m fol) (h0 : Small60 m fol) (hg : GoodM m) : Fin (EE bm) lo 42 [mv a b c d m] st (fun v H => ∃ p out, H = [p] ∧ Lin 1 fB true v out p ∧ out.length = m.spots.length ∧ ∀ i : Nat, out[i]? = some true ↔ UsefulM m i) := by
  have h0' := h0
  obtain ⟨h01, h02, h03, h04, h05⟩ := h0
  have hfl := hm.len
  have hgf := hg.flen
  have hgl := hg.llen
  refine Fin.of_body (fn := Try.f42) (c := Try.f42.body.getD .skip) rfl rfl rfl rfl ?_
  refine WP.seq ?_
  refine WP.region ?_
  refine RP.box rfl rfl hm.sc (fun L1 => ?_)
  refine RP.assign rfl rfl ?_
  refine RP.nil ?_
  refine WP.seq ?_
  refine WP.region ?_
  refine RP.load_boxN rfl rfl rfl rfl rfl (by repeat (first | exact .here | apply HIn.there | apply HIn.app)) rfl ?_
  refine RP.call rfl rfl rfl hlo (fun st' lo' hi' hl' => reached_ok hl' (hm.inv hi') h0' hg) ?_
  rintro vc _ ⟨pc, come, rfl, hc1, hc2, hc3⟩
  refine RP.assign rfl rfl ?_
  refine RP.nil ?_
  refine WP.seq ?_
  refine WP.region ?_
  refine RP.faddr rfl rfl rfl ?_
  refine RP.load_box rfl rfl rfl rfl (by repeat (first | exact .here | apply HIn.there | apply HIn.app)) rfl ?_
  first | refine RP.len_sl rfl rfl (.arg hm.spots) rfl ?_ | refine RP.len_sl rfl rfl (.arg hm.first) rfl ?_ | refine RP.len_sl rfl rfl (.arg hm.follow) rfl ?_ | refine RP.len_sl rfl rfl (.arg hm.last) rfl ?_
  refine RP.make false rfl rfl rfl rfl rfl rfl rfl rfl rfl rfl rfl fB_len (Nat.le_refl _) (by omega) ?_
  rw [Nat.beq_refl]
  intro v12 p12 hl12
  refine RP.alloc rfl rfl rfl (fun L4 => ?_)
  refine RP.store_box1 rfl rfl hl12.scalar rfl rfl hlo (by repeat (first | exact .here | apply HUpd.there | apply HUpd.app)) ?_
  refine RP.nil ?_
  refine WP.seq ?_
  refine WP.seq ?_
  refine WP.region ?_
  refine RP.assign rfl rfl ?_
  refine RP.nil ?_
  refine WP.block rfl ?_
  refine WP.loop (α := Bool × List Bool × HE) (fun gh => [(1, .ptr (.own L1) 0), (3, vc), (4, .ptr (.own L4) 0), (5, .bool gh.1)]) (fun gh => [(some L1, .cells (mv a b c d m).cells), (some L4, .cells [v12]), pc, gh.2.2]) (fun gh => gh.2.1.length = m.spots.length ∧ Lin 1 fB true v12 gh.2.1 gh.2.2 ∧ UInv m gh.2.1 ∧ (gh.1 = false → UEnd m gh.2.1 m.spots.length)) (fun gh => 2 * gh.2.1.count false + (if gh.1 then 1 else 0)) ?_ (true, List.replicate m.spots.length false, p12) ⟨rfl, rfl, rfl, rfl, trivial⟩ (.cons (by repeat (first | exact .here | apply HRem.there | apply HRem.app)) (.cons (by repeat (first | exact .here | apply HRem.there | apply HRem.app)) (.cons (by repeat (first | exact .here | apply HRem.there | apply HRem.app)) (.cons (by repeat (first | exact .here | apply HRem.there | apply HRem.app)) .nil)))) (by
    try dsimp only
    exact ⟨List.length_replicate, by simpa using hl12, .init, fun h => by cases h⟩)
  rintro ⟨more, out, pO⟩ hI
  change out.length = m.spots.length ∧ Lin 1 fB true v12 out pO ∧ UInv m out ∧ (more = false → UEnd m out m.spots.length) at hI
  change WP _ _ _ _ _ [(1, .ptr (.own L1) 0), (3, vc), (4, .ptr (.own L4) 0), (5, .bool more)] ([(some L1, .cells (mv a b c d m).cells), (some L4, .cells [v12]), pc, pO] : HL) _
  obtain ⟨hI1, hI2, hI3, hI4⟩ := hI
  refine WP.seq ?_
  refine WP.seq ?_
  refine WP.region ?_
  refine RP.move rfl rfl ?_
  refine RP.nil ?_
  refine WP.cond_b rfl (fun hc13 => ?_) (fun hc13 => ?_)
  · skip
    refine WP.skip ?_
    refine WP.block rfl ?_
    refine WP.seq ?_
    refine WP.region ?_
    refine RP.assign rfl rfl ?_
    refine RP.nil ?_
    refine WP.seq ?_
    refine WP.region ?_
    refine RP.load_box rfl rfl rfl rfl (by repeat (first | exact .here | apply HIn.there | apply HIn.app)) rfl ?_
    refine RP.len_sl rfl rfl (.lin fB_len hI2 (by repeat (first | exact .here | apply HIn.there | apply HIn.app))) rfl ?_
    refine RP.move rfl rfl ?_
    refine RP.nil ?_
    refine WP.block rfl ?_
    refine WP.loop (α := Bool × List Bool × HE × Nat) (fun gh => [(1, .ptr (.own L1) 0), (3, vc), (4, .ptr (.own L4) 0), (5, .bool gh.1), (15, .int .i64 (out.length : Int)), (16, .int .i64 (gh.2.2.2 : Int))]) (fun gh => [(some L1, .cells (mv a b c d m).cells), (some L4, .cells [v12]), pc, gh.2.2.1]) (fun gh => gh.2.2.2 ≤ m.spots.length ∧ gh.2.1.length = m.spots.length ∧ Lin 1 fB true v12 gh.2.1 gh.2.2.1 ∧ UInv m gh.2.1 ∧ (gh.1 = false → gh.2.1 = out ∧ UEnd m gh.2.1 gh.2.2.2) ∧ (gh.1 = true → gh.2.1.count false < out.count false)) (fun gh => m.spots.length - gh.2.2.2) ?_ (false, out, pO, 0) ⟨rfl, rfl, rfl, rfl, rfl, rfl, trivial⟩ (.cons (by repeat (first | exact .here | apply HRem.there | apply HRem.app)) (.cons (by repeat (first | exact .here | apply HRem.there | apply HRem.app)) (.cons (by repeat (first | exact .here | apply HRem.there | apply HRem.app)) (.cons (by repeat (first | exact .here | apply HRem.there | apply HRem.app)) .nil)))) (by
      try dsimp only
      exact ⟨Nat.zero_le _, hI1, hI2, hI3, fun _ => ⟨rfl, .zero⟩, fun h => by cases h⟩)
    rintro ⟨more2, out2, pO2, i⟩ hI
    change i ≤ m.spots.length ∧ out2.length = m.spots.length ∧ Lin 1 fB true v12 out2 pO2 ∧ UInv m out2 ∧ (more2 = false → out2 = out ∧ UEnd m out2 i) ∧ (more2 = true → out2.count false < out.count false) at hI
    change WP _ _ _ _ _ [(1, .ptr (.own L1) 0), (3, vc), (4, .ptr (.own L4) 0), (5, .bool more2), (15, .int .i64 (out.length : Int)), (16, .int .i64 (i : Int))] ([(some L1, .cells (mv a b c d m).cells), (some L4, .cells [v12]), pc, pO2] : HL) _
    obtain ⟨hJ1, hJ2, hJ3, hJ4, hJ5, hJ6⟩ := hI
    refine WP.seq ?_
    refine WP.region ?_
    refine RP.lss rfl rfl rfl (fun h17 => ?_) (fun h17 => ?_)
    · skip
      have hlt : i < m.spots.length := by omega
      have hlf : i < fol.length := by omega
      have hll : i < m.last.length := by omega
      have hrow := hm.row hlf
      have hrl := h05 i hlf
      have hci : i < come.length := by omega
      have hrng : ∀ x ∈ fol[i].2, 0 ≤ x ∧ x.toNat < out2.length := fun y hy => by have h1 := hg.rows i (by omega); simp only [hm.same, List.getElem_map] at h1; have := risingF_mem h1 y hy; omega
      refine RP.nil ?_
      refine WP.seq ?_
      refine WP.cond_t rfl ?_
      refine WP.skip ?_
      refine WP.seq ?_
      refine WP.block rfl ?_
      refine WP.seq ?_
      refine WP.region ?_
      refine RP.move rfl rfl ?_
      refine RP.assign rfl rfl ?_
      refine RP.nil ?_
      refine WP.seq ?_
      refine WP.seq ?_
      refine WP.region ?_
      refine RP.load_box rfl rfl rfl rfl (by repeat (first | exact .here | apply HIn.there | apply HIn.app)) rfl ?_
      refine RP.move rfl rfl ?_
      refine RP.at_ rfl rfl rfl rfl rfl rfl (.lin fB_len hJ3 (by repeat (first | exact .here | apply HIn.there | apply HIn.app))) (by first | assumption | omega) ?_
      refine RP.load_el rfl rfl rfl rfl (.lin fB_len hJ3 (by repeat (first | exact .here | apply HIn.there | apply HIn.app))) (by first | assumption | omega) rfl ?_
      refine RP.move rfl rfl ?_
      refine RP.cases (d := 23) rfl (fun hg23 => ?_) (fun hg23 => ?_)
      · skip
        refine RP.gfalse rfl rfl ?_
        refine RP.gfalse rfl rfl ?_
        refine RP.gfalse rfl rfl ?_
        refine RP.gfalse rfl rfl ?_
        refine RP.gfalse rfl rfl ?_
        refine RP.pick_ rfl rfl rfl ?_
        refine RP.nil ?_
        refine WP.cond_t rfl ?_
        refine WP.exit ?_
        refine WP.region ?_
        refine RP.add rfl rfl rfl (by omega) (by omega) ?_
        refine RP.move rfl rfl ?_
        refine RP.nil ?_
        refine roundQ.mk (Q := fun _ _ _ => True) (more2, out2, pO2, i + 1) ⟨rfl, rfl, rfl, rfl, rfl, rfl, trivial⟩ (.cons (by repeat (first | exact .here | apply HRem.there | apply HRem.app)) (.cons (by repeat (first | exact .here | apply HRem.there | apply HRem.app)) (.cons (by repeat (first | exact .here | apply HRem.there | apply HRem.app)) (.cons (by repeat (first | exact .here | apply HRem.there | apply HRem.app)) .nil)))) (by
          try dsimp only
          exact ⟨hlt, hJ2, hJ3, hJ4, fun h => ⟨(hJ5 h).1, (hJ5 h).2.succ (.out (by rw [List.getElem?_eq_getElem (by omega), hg23]))⟩, hJ6⟩) (by
          try dsimp only
          omega)
      · skip
        refine RP.gtrue rfl ?_
        refine RP.move rfl rfl ?_
        refine RP.gtrue rfl ?_
        refine RP.move rfl rfl ?_
        refine RP.gtrue rfl ?_
        refine RP.at_ rfl rfl rfl rfl rfl rfl (.lin fB_len hc1 (by repeat (first | exact .here | apply HIn.there | apply HIn.app))) (by first | assumption | omega) ?_
        refine RP.gtrue rfl ?_
        refine RP.load_el rfl rfl rfl rfl (.lin fB_len hc1 (by repeat (first | exact .here | apply HIn.there | apply HIn.app))) (by first | assumption | omega) rfl ?_
        refine RP.gtrue rfl ?_
        refine RP.un rfl rfl rfl ?_
        refine RP.pick_ rfl rfl rfl ?_
        refine RP.nil ?_
        refine WP.cond_b rfl (fun hc29 => ?_) (fun hc29 => ?_)
        · skip
          refine WP.exit ?_
          refine WP.region ?_
          refine RP.add rfl rfl rfl (by omega) (by omega) ?_
          refine RP.move rfl rfl ?_
          refine RP.nil ?_
          refine roundQ.mk (Q := fun _ _ _ => True) (more2, out2, pO2, i + 1) ⟨rfl, rfl, rfl, rfl, rfl, rfl, trivial⟩ (.cons (by repeat (first | exact .here | apply HRem.there | apply HRem.app)) (.cons (by repeat (first | exact .here | apply HRem.there | apply HRem.app)) (.cons (by repeat (first | exact .here | apply HRem.there | apply HRem.app)) (.cons (by repeat (first | exact .here | apply HRem.there | apply HRem.app)) .nil)))) (by
            try dsimp only
            exact ⟨hlt, hJ2, hJ3, hJ4, fun h => ⟨(hJ5 h).1, (hJ5 h).2.succ (.come (fun h => by have := (hc3 i).2 h; rw [List.getElem?_eq_getElem hci] at this; simp at this; simp [this] at hc29))⟩, hJ6⟩) (by
            try dsimp only
            omega)
        · skip
          refine WP.skip ?_
          refine WP.seq ?_
          refine WP.region ?_
          refine RP.faddr rfl rfl rfl ?_
          refine RP.load_box rfl rfl rfl rfl (by repeat (first | exact .here | apply HIn.there | apply HIn.app)) rfl ?_
          refine RP.move rfl rfl ?_
          first | refine RP.at_ rfl rfl rfl rfl rfl rfl (.arg hm.spots) (by first | assumption | omega) ?_ | refine RP.at_ rfl rfl rfl rfl rfl rfl (.arg hm.first) (by first | assumption | omega) ?_ | refine RP.at_ rfl rfl rfl rfl rfl rfl (.arg hm.follow) (by first | assumption | omega) ?_ | refine RP.at_ rfl rfl rfl rfl rfl rfl (.arg hm.last) (by first | assumption | omega) ?_
          first | refine RP.load_el rfl rfl rfl rfl (.arg hm.spots) (by first | assumption | omega) rfl ?_ | refine RP.load_el rfl rfl rfl rfl (.arg hm.first) (by first | assumption | omega) rfl ?_ | refine RP.load_el rfl rfl rfl rfl (.arg hm.follow) (by first | assumption | omega) rfl ?_ | refine RP.load_el rfl rfl rfl rfl (.arg hm.last) (by first | assumption | omega) rfl ?_
          refine RP.move rfl rfl ?_
          refine RP.cases (d := 35) rfl (fun hg35 => ?_) (fun hg35 => ?_)
          · skip
            refine RP.gfalse rfl rfl ?_
            refine RP.gfalse rfl rfl ?_
            refine RP.gfalse rfl rfl ?_
            refine RP.gfalse rfl rfl ?_
            refine RP.gfalse rfl rfl ?_
            refine RP.gfalse rfl rfl ?_
            refine RP.gfalse rfl rfl ?_
            refine RP.pick_ rfl rfl rfl ?_
            refine RP.nil ?_
            refine WP.cond_t rfl ?_
            refine WP.region ?_
            refine RP.load_box rfl rfl rfl rfl (by repeat (first | exact .here | apply HIn.there | apply HIn.app)) rfl ?_
            refine RP.move rfl rfl ?_
            refine RP.at_ rfl rfl rfl rfl rfl rfl (.lin fB_len hJ3 (by repeat (first | exact .here | apply HIn.there | apply HIn.app))) (by first | assumption | omega) ?_
            refine RP.store_el1 true rfl rfl rfl rfl hJ3 (fun _ => (by repeat (first | exact .here | apply HUpd.there | apply HUpd.app))) fB_len (by first | assumption | omega) (by omega) rfl hlo ?_
            intro pO3 hO3
            refine RP.assign rfl rfl ?_
            refine RP.nil ?_
            refine WP.region ?_
            refine RP.add rfl rfl rfl (by omega) (by omega) ?_
            refine RP.move rfl rfl ?_
            refine RP.nil ?_
            have hcm := count_mark (show i < out2.length by omega) hg23
            refine roundQ.mk (Q := fun _ _ _ => True) (true, out2.set i true, pO3, i + 1) ⟨rfl, rfl, rfl, rfl, rfl, rfl, trivial⟩ (.cons (by repeat (first | exact .here | apply HRem.there | apply HRem.app)) (.cons (by repeat (first | exact .here | apply HRem.there | apply HRem.app)) (.cons (by repeat (first | exact .here | apply HRem.there | apply HRem.app)) (.cons (by repeat (first | exact .here | apply HRem.there | apply HRem.app)) .nil)))) (by
              try dsimp only
              exact ⟨hlt, by rw [List.length_set]; exact hJ2, hO3, hJ4.mark ((hc3 i).1 (by rw [List.getElem?_eq_getElem hci]; simpa using hc29)) (Or.inl (by rw [List.getElem?_eq_getElem hll, hg35])), fun h => (by cases h), fun _ => (by
                  cases hm2 : more2 with
                  | true => have := hJ6 hm2; omega
                  | false => have := (hJ5 hm2).1; subst this; omega)⟩) (by
              try dsimp only
              omega)
          · skip
            refine RP.gtrue rfl ?_
            refine RP.faddr rfl rfl rfl ?_
            refine RP.gtrue rfl ?_
            refine RP.load_box rfl rfl rfl rfl (by repeat (first | exact .here | apply HIn.there | apply HIn.app)) rfl ?_
            refine RP.gtrue rfl ?_
            refine RP.move rfl rfl ?_
            refine RP.gtrue rfl ?_
            first | refine RP.at_ rfl rfl rfl rfl rfl rfl (.arg hm.spots) (by first | assumption | omega) ?_ | refine RP.at_ rfl rfl rfl rfl rfl rfl (.arg hm.first) (by first | assumption | omega) ?_ | refine RP.at_ rfl rfl rfl rfl rfl rfl (.arg hm.follow) (by first | assumption | omega) ?_ | refine RP.at_ rfl rfl rfl rfl rfl rfl (.arg hm.last) (by first | assumption | omega) ?_
            refine RP.gtrue rfl ?_
            first | refine RP.load_el rfl rfl rfl rfl (.arg hm.spots) (by first | assumption | omega) rfl ?_ | refine RP.load_el rfl rfl rfl rfl (.arg hm.first) (by first | assumption | omega) rfl ?_ | refine RP.load_el rfl rfl rfl rfl (.arg hm.follow) (by first | assumption | omega) rfl ?_ | refine RP.load_el rfl rfl rfl rfl (.arg hm.last) (by first | assumption | omega) rfl ?_
            refine RP.gtrue rfl ?_
            refine RP.mfunc rfl rfl rfl ?_
            refine RP.gtrue rfl ?_
            refine RP.call rfl rfl rfl hlo (fun st' lo' hi' hl' => containsFunc_ok hl' (fun x => (out2[x.toNat]?).getD false) (hrow.inv hi') (by omega) (fun st2 lo2 hi2 hl2 x hx => (usefulC_ok hl2 ((Inv.isOld hi' (by repeat (first | exact .here | apply HIn.there | apply HIn.app))).inv hi2) ((SlH.lin fB_len hJ3 (by repeat (first | exact .here | apply HIn.there | apply HIn.app)) _ hi').inv hi2) (hrng x hx).1 (hrng x hx).2).mono (fun _ _ h => by rw [List.getElem?_eq_getElem (hrng x hx).2]; exact h))) ?_
            rintro _ _ ⟨rfl, rfl⟩
            refine RP.pick_ rfl rfl rfl ?_
            refine RP.nil ?_
            refine WP.cond_b rfl (fun hc43 => ?_) (fun hc43 => ?_)
            · skip
              refine WP.region ?_
              refine RP.load_box rfl rfl rfl rfl (by repeat (first | exact .here | apply HIn.there | apply HIn.app)) rfl ?_
              refine RP.move rfl rfl ?_
              refine RP.at_ rfl rfl rfl rfl rfl rfl (.lin fB_len hJ3 (by repeat (first | exact .here | apply HIn.there | apply HIn.app))) (by first | assumption | omega) ?_
              refine RP.store_el1 true rfl rfl rfl rfl hJ3 (fun _ => (by repeat (first | exact .here | apply HUpd.there | apply HUpd.app))) fB_len (by first | assumption | omega) (by omega) rfl hlo ?_
              intro pO3 hO3
              refine RP.assign rfl rfl ?_
              refine RP.nil ?_
              refine WP.region ?_
              refine RP.add rfl rfl rfl (by omega) (by omega) ?_
              refine RP.move rfl rfl ?_
              refine RP.nil ?_
              have hcm := count_mark (show i < out2.length by omega) hg23
              refine roundQ.mk (Q := fun _ _ _ => True) (true, out2.set i true, pO3, i + 1) ⟨rfl, rfl, rfl, rfl, rfl, rfl, trivial⟩ (.cons (by repeat (first | exact .here | apply HRem.there | apply HRem.app)) (.cons (by repeat (first | exact .here | apply HRem.there | apply HRem.app)) (.cons (by repeat (first | exact .here | apply HRem.there | apply HRem.app)) (.cons (by repeat (first | exact .here | apply HRem.there | apply HRem.app)) .nil)))) (by
                try dsimp only
                exact ⟨hlt, by rw [List.length_set]; exact hJ2, hO3, hJ4.mark ((hc3 i).1 (by rw [List.getElem?_eq_getElem hci]; simpa using hc29)) (Or.inr ⟨_, hm.at_ hlf, hc43⟩), fun h => (by cases h), fun _ => (by
                    cases hm2 : more2 with
                    | true => have := hJ6 hm2; omega
                    | false => have := (hJ5 hm2).1; subst this; omega)⟩) (by
                try dsimp only
                omega)
            · skip
              refine WP.skip ?_
              refine WP.region ?_
              refine RP.add rfl rfl rfl (by omega) (by omega) ?_
              refine RP.move rfl rfl ?_
              refine RP.nil ?_
              refine roundQ.mk (Q := fun _ _ _ => True) (more2, out2, pO2, i + 1) ⟨rfl, rfl, rfl, rfl, rfl, rfl, trivial⟩ (.cons (by repeat (first | exact .here | apply HRem.there | apply HRem.app)) (.cons (by repeat (first | exact .here | apply HRem.there | apply HRem.app)) (.cons (by repeat (first | exact .here | apply HRem.there | apply HRem.app)) (.cons (by repeat (first | exact .here | apply HRem.there | apply HRem.app)) .nil)))) (by
                try dsimp only
                exact ⟨hlt, hJ2, hJ3, hJ4, fun h => ⟨(hJ5 h).1, (hJ5 h).2.succ (.dead (by rw [List.getElem?_eq_getElem hll, hg35]) (hm.at_ hlf) hc43)⟩, hJ6⟩) (by
                try dsimp only
                omega)
    · skip
      refine RP.nil ?_
      refine WP.seq ?_
      refine WP.cond_f rfl ?_
      refine WP.exit ?_
      refine roundQ.mk (Q := fun _ _ _ => True) (more2, out2, pO2) ⟨rfl, rfl, rfl, rfl, trivial⟩ (.cons (by repeat (first | exact .here | apply HRem.there | apply HRem.app)) (.cons (by repeat (first | exact .here | apply HRem.there | apply HRem.app)) (.cons (by repeat (first | exact .here | apply HRem.there | apply HRem.app)) (.cons (by repeat (first | exact .here | apply HRem.there | apply HRem.app)) .nil)))) (by
        try dsimp only
        exact ⟨hJ2, hJ3, hJ4, fun h => by have := (hJ5 h).2; rwa [show i = m.spots.length by omega] at this⟩) (by
        dsimp only
        cases more2 with
        | true => have := hJ6 rfl; simp; omega
        | false => have := (hJ5 rfl).1; subst this; simp [hc13])
  · skip
    refine WP.exit ?_
    refine WP.seq ?_
    refine WP.region ?_
    refine RP.load_box rfl rfl rfl rfl (by repeat (first | exact .here | apply HIn.there | apply HIn.app)) rfl ?_
    refine RP.assign rfl rfl ?_
    refine RP.nil ?_
    refine WP.ret ?_
    exact End.one (Or.inr rfl) rfl (.tmp rfl) (.cons (by repeat (first | exact .here | apply HRem.there | apply HRem.app)) .nil) ⟨_, out, rfl, hI2, hI1, hI3.fin (hI4 hc13)⟩
end
end Go.Proofs.Ytpkeggejofeeeaa

namespace Go.Proofs.Ytpkeggejofeeeaa
open Go.Proofs.Ytpkeggejofeeeaa.Lvm Go

section
variable {bm : Nat → Nat → Option LV} {st : LSt} {lo : Nat} {a b c d : LV} {m : Mach} {fol : List (LV × List Int)}

theorem left_ok (hlo : lo ≤ st.nxt) {L4 L5 : Nat} {vk vn vl : LV} {keep : List Bool} {nums xs : List Int} (hK : Old st L4 [vk]) (hN : Old st L5 [vn]) (hk : SlT (EE bm) st vk 1 fB keep) (hn : SlT (EE bm) st vn 1 fI nums) (hx : SlT (EE bm) st vl 1 fI xs)
    (hrng : ∀ x ∈ xs, 0 ≤ x ∧ x.toNat < keep.length) (hlen : nums.length = keep.length) (hxl : xs.length ≤ 1000000) :
    Fin (EE bm) lo 43 ([vl] ++ [.ptr (.own L4) 0, .ptr (.own L5) 0]) st (fun r H => ∃ p, H = [p] ∧ Lin 1 fI true r (leftF keep nums xs) p) := by
  refine Fin.of_body (fn := Try.f43) (c := Try.f43.body.getD .skip) rfl rfl rfl rfl ?_
  refine WP.seq ?_
  refine WP.region ?_
  refine RP.assign rfl rfl ?_
  refine RP.nil ?_
  refine WP.seq ?_
  refine WP.region ?_
  refine RP.assign rfl rfl ?_
  refine RP.nil ?_
  refine WP.seq ?_
  refine WP.seq ?_
  refine WP.ghost .dead ?_
  refine WP.region ?_
  refine RP.move rfl rfl ?_
  refine RP.len_sl rfl rfl (.arg hx) rfl ?_
  refine RP.move rfl rfl ?_
  refine RP.nil ?_
  refine WP.block rfl ?_
  refine WP.loop (α := Nat × LV × HE) (fun gh => [(1, .ptr (.own L4) 0), (2, .ptr (.own L5) 0), (5, gh.2.1), (8, vl), (9, .int .i64 (xs.length : Int)), (10, .int .i64 (gh.1 : Int))]) (fun gh => [gh.2.2]) (fun gh => gh.1 ≤ xs.length ∧ Lin 1 fI true gh.2.1 (leftF keep nums (xs.take gh.1)) gh.2.2) (fun gh => xs.length - gh.1) ?_ (0, .nilsl, (none, .dead)) ⟨rfl, rfl, rfl, rfl, rfl, rfl, trivial⟩ (.cons (by repeat (first | exact .here | apply HRem.there | apply HRem.app)) .nil) (by
    try dsimp only
    exact ⟨Nat.zero_le _, .nil⟩)
  rintro ⟨i, vo, po⟩ hI
  change i ≤ xs.length ∧ Lin 1 fI true vo (leftF keep nums (xs.take i)) po at hI
  change WP _ _ _ _ _ [(1, .ptr (.own L4) 0), (2, .ptr (.own L5) 0), (5, vo), (8, vl), (9, .int .i64 (xs.length : Int)), (10, .int .i64 (i : Int))] ([po] : HL) _
  obtain ⟨hI1, hI2⟩ := hI
  refine WP.seq ?_
  refine WP.region ?_
  refine RP.lss rfl rfl rfl (fun h11 => ?_) (fun h11 => ?_)
  · skip
    have hlt : i < xs.length := by omega
    refine RP.nil ?_
    refine WP.seq ?_
    refine WP.cond_t rfl ?_
    refine WP.skip ?_
    refine WP.seq ?_
    refine WP.block rfl ?_
    refine WP.seq ?_
    refine WP.region ?_
    refine RP.at_ rfl rfl rfl rfl rfl rfl (.arg hx) (by first | assumption | omega) ?_
    refine RP.load_el rfl rfl rfl rfl (.arg hx) (by first | assumption | omega) rfl ?_
    obtain ⟨hx0, hx1⟩ := hrng xs[i] (List.getElem_mem _)
    have hst := leftF_step (keep := keep) (number := nums) hlt
    generalize xs[i] = x at hx0 hx1 hst ⊢
    have hx2 : x.toNat < nums.length := by omega
    rw [List.getElem?_eq_getElem hx1, List.getElem?_eq_getElem hx2, Option.getD_some] at hst
    refine RP.assign rfl rfl ?_
    refine RP.nil ?_
    refine WP.seq ?_
    refine WP.region ?_
    refine RP.load_old rfl rfl rfl rfl hK rfl ?_
    refine RP.move rfl rfl ?_
    refine RP.at_ rfl rfl rfl (natOf_is (n := x.toNat) (by omega)) rfl rfl (.arg hk) (by first | assumption | omega) ?_
    refine RP.load_el rfl rfl rfl rfl (.arg hk) (by first | assumption | omega) rfl ?_
    refine RP.nil ?_
    refine WP.cond_b rfl (fun hc17 => ?_) (fun hc17 => ?_)
    · skip
      refine WP.region ?_
      refine RP.move rfl rfl ?_
      refine RP.load_old rfl rfl rfl rfl hN rfl ?_
      refine RP.move rfl rfl ?_
      refine RP.at_ rfl rfl rfl (natOf_is (n := x.toNat) (by omega)) rfl rfl (.arg hn) (by first | assumption | omega) ?_
      refine RP.load_el rfl rfl rfl rfl (.arg hn) (by first | assumption | omega) rfl ?_
      refine RP.bslice [nums[x.toNat]] rfl rfl rfl rfl rfl rfl rfl rfl rfl rfl fI_len ?_
      intro v23 p23 hl23
      refine RP.append rfl rfl rfl rfl rfl rfl rfl rfl hI2 (fun _ => (by repeat (first | exact .here | apply HUpd.there | apply HUpd.app))) (.lin fI_len hl23 (by repeat (first | exact .here | apply HIn.there | apply HIn.app))) (flat_all fI_sc _) (by have h1 := leftF_le (keep := keep) (number := nums) (xs := xs.take i); rw [List.length_take] at h1; simp only [List.length_singleton]; omega) (fun e => (by first | rfl | cases e)) hlo ?_
      intro v24 p24 hl24
      refine RP.assign rfl rfl ?_
      refine RP.nil ?_
      refine WP.region ?_
      refine RP.add rfl rfl rfl (by omega) (by omega) ?_
      refine RP.move rfl rfl ?_
      refine RP.nil ?_
      refine roundQ.mk (Q := fun _ _ _ => True) (i + 1, v24, p24) ⟨rfl, rfl, rfl, rfl, rfl, rfl, trivial⟩ (.cons (by repeat (first | exact .here | apply HRem.there | apply HRem.app)) .nil) (by
        try dsimp only
        exact ⟨hlt, by rw [hst, hc17]; simpa using hl24⟩) (by
        try dsimp only
        omega)
    · skip
      refine WP.skip ?_
      refine WP.region ?_
      refine RP.add rfl rfl rfl (by omega) (by omega) ?_
      refine RP.move rfl rfl ?_
      refine RP.nil ?_
      refine roundQ.mk (Q := fun _ _ _ => True) (i + 1, vo, po) ⟨rfl, rfl, rfl, rfl, rfl, rfl, trivial⟩ (.cons (by repeat (first | exact .here | apply HRem.there | apply HRem.app)) .nil) (by
        try dsimp only
        exact ⟨hlt, by rw [hst, hc17]; simpa using hI2⟩) (by
        try dsimp only
        omega)
  · skip
    refine RP.nil ?_
    refine WP.seq ?_
    refine WP.cond_f rfl ?_
    refine WP.exit ?_
    refine WP.seq ?_
    refine WP.region ?_
    refine RP.move rfl rfl ?_
    refine RP.assign rfl rfl ?_
    refine RP.nil ?_
    refine WP.ret ?_
    exact End.one (Or.inr rfl) rfl (.tmp rfl) (.cons (by repeat (first | exact .here | apply HRem.there | apply HRem.app)) .nil) ⟨_, rfl, by rw [List.take_of_length_le (by omega)] at hI2; exact hI2⟩
theorem trim_ok (hlo : lo ≤ st.nxt) (hm : MA (EE bm) st a b c d m fol) (h0 : Small60 m fol) : Fin (EE bm) lo 23 [mv a b c d m] st (fun v H => (¬ GoodM m ∧ v = .tup [.agg [.nilsl, .nilsl, .nilsl, .nilsl, .bool false], .int .i64 1] ∧ H = []) ∨
    (GoodM m ∧ ∃ keep, keep.length = m.spots.length ∧ (∀ i : Nat, keep[i]? = some true ↔ UsefulM m i) ∧ ∃ a' b' c' d' pa pb pc pd rows, v = .tup [mv a' b' c' d' (trimF keep m), .int .i64 0] ∧ H = heapO pa pb pc pd rows ∧ MO a' b' c' d' pa pb pc pd rows (trimF keep m))) := by
  have h0' := h0
  obtain ⟨h01, h02, h03, h04, h05⟩ := h0
  have hfl := hm.len
  refine Fin.of_body (fn := Try.f23) (c := Try.f23.body.getD .skip) rfl rfl rfl rfl ?_
  refine WP.seq ?_
  refine WP.region ?_
  refine RP.box rfl rfl hm.sc (fun L1 => ?_)
  refine RP.alloc rfl rfl rfl (fun L2 => ?_)
  refine RP.assign rfl rfl ?_
  refine RP.nil ?_
  refine WP.seq ?_
  refine WP.seq ?_
  refine WP.region ?_
  refine RP.load_boxN rfl rfl rfl rfl rfl (by repeat (first | exact .here | apply HIn.there | apply HIn.app)) rfl ?_
  refine RP.call rfl rfl rfl hlo (fun st' lo' hi' hl' => right_ok hl' (hm.inv hi') (by omega) (fun j hj => by have := h05 j hj; omega)) ?_
  rintro _ _ (⟨hgd, rfl, rfl⟩ | ⟨hng, rfl, rfl⟩)
  · skip
    have hgl := hgd.llen
    have hgf := hgd.flen
    have hrng : ∀ l ∈ m.first :: m.follow, ∀ x ∈ l, 0 ≤ x ∧ x.toNat < m.spots.length := fun l hl x hx => by
      rcases List.mem_cons.1 hl with rfl | hl
      · have := risingF_mem hgd.first x hx; omega
      · obtain ⟨j, hj, rfl⟩ := List.mem_iff_getElem.1 hl
        have := risingF_mem (hgd.rows j hj) x hx; omega
    refine RP.un rfl rfl rfl ?_
    refine RP.nil ?_
    refine WP.cond_f rfl ?_
    refine WP.skip ?_
    refine WP.seq ?_
    refine WP.region ?_
    refine RP.load_boxN rfl rfl rfl rfl rfl (by repeat (first | exact .here | apply HIn.there | apply HIn.app)) rfl ?_
    refine RP.call rfl rfl rfl hlo (fun st' lo' hi' hl' => useful_ok hl' (hm.inv hi') h0' hgd) ?_
    rintro v18 _ ⟨p18, keep, rfl, hk1, hk2, hk3⟩
    refine RP.alloc rfl rfl rfl (fun L4 => ?_)
    refine RP.store_box1 rfl rfl hk1.scalar rfl rfl hlo (by repeat (first | exact .here | apply HUpd.there | apply HUpd.app)) ?_
    refine RP.nil ?_
    refine WP.seq ?_
    refine WP.region ?_
    refine RP.load_box rfl rfl rfl rfl (by repeat (first | exact .here | apply HIn.there | apply HIn.app)) rfl ?_
    refine RP.len_sl rfl rfl (.lin fB_len hk1 (by repeat (first | exact .here | apply HIn.there | apply HIn.app))) rfl ?_
    refine RP.make (0 : Int) rfl rfl rfl rfl rfl rfl rfl rfl rfl rfl rfl fI_len (Nat.le_refl _) (by omega) ?_
    rw [Nat.beq_refl]
    intro v21 p21 hl21
    refine RP.alloc rfl rfl rfl (fun L5 => ?_)
    refine RP.store_box1 rfl rfl hl21.scalar rfl rfl hlo (by repeat (first | exact .here | apply HUpd.there | apply HUpd.app)) ?_
    refine RP.nil ?_
    refine WP.seq ?_
    refine WP.region ?_
    refine RP.assign rfl rfl ?_
    refine RP.nil ?_
    refine WP.seq ?_
    refine WP.seq ?_
    refine WP.region ?_
    refine RP.load_box rfl rfl rfl rfl (by repeat (first | exact .here | apply HIn.there | apply HIn.app)) rfl ?_
    refine RP.len_sl rfl rfl (.lin fB_len hk1 (by repeat (first | exact .here | apply HIn.there | apply HIn.app))) rfl ?_
    refine RP.move rfl rfl ?_
    refine RP.nil ?_
    refine WP.block rfl ?_
    refine WP.loop (α := Nat × List Int × HE) (fun gh => [(1, .ptr (.own L1) 0), (2, .ptr (.own L2) 0), (4, .ptr (.own L4) 0), (5, .ptr (.own L5) 0), (6, .int .i64 ((keep.take gh.1).count true : Int)), (22, v18), (23, .int .i64 (keep.length : Int)), (24, .int .i64 (gh.1 : Int))]) (fun gh => [(some L1, .cells (mv a b c d m).cells), (some L2, .cells [.nilsl, .nilsl, .nilsl, .nilsl, .bool false]), (some L4, .cells [v18]), p18, (some L5, .cells [v21]), gh.2.2]) (fun gh => gh.1 ≤ keep.length ∧ gh.2.1.length = keep.length ∧ Lin 1 fI true v21 gh.2.1 gh.2.2 ∧ ∀ j : Nat, j < gh.1 → gh.2.1[j]? = some ((keep.take j).count true : Int)) (fun gh => keep.length - gh.1) ?_ (0, List.replicate keep.length 0, p21) ⟨rfl, rfl, rfl, rfl, rfl, rfl, rfl, rfl, trivial⟩ (.cons (by repeat (first | exact .here | apply HRem.there | apply HRem.app)) (.cons (by repeat (first | exact .here | apply HRem.there | apply HRem.app)) (.cons (by repeat (first | exact .here | apply HRem.there | apply HRem.app)) (.cons (by repeat (first | exact .here | apply HRem.there | apply HRem.app)) (.cons (by repeat (first | exact .here | apply HRem.there | apply HRem.app)) (.cons (by repeat (first | exact .here | apply HRem.there | apply HRem.app)) .nil)))))) (by
      try dsimp only
      exact ⟨Nat.zero_le _, List.length_replicate, hl21, fun _ h => absurd h (Nat.not_lt_zero _)⟩)
    rintro ⟨i, nums, pN⟩ hI
    change i ≤ keep.length ∧ nums.length = keep.length ∧ Lin 1 fI true v21 nums pN ∧ ∀ j : Nat, j < i → nums[j]? = some ((keep.take j).count true : Int) at hI
    change WP _ _ _ _ _ [(1, .ptr (.own L1) 0), (2, .ptr (.own L2) 0), (4, .ptr (.own L4) 0), (5, .ptr (.own L5) 0), (6, .int .i64 ((keep.take i).count true : Int)), (22, v18), (23, .int .i64 (keep.length : Int)), (24, .int .i64 (i : Int))] ([(some L1, .cells (mv a b c d m).cells), (some L2, .cells [.nilsl, .nilsl, .nilsl, .nilsl, .bool false]), (some L4, .cells [v18]), p18, (some L5, .cells [v21]), pN] : HL) _
    obtain ⟨hI1, hI2, hI3, hI4⟩ := hI
    refine WP.seq ?_
    refine WP.region ?_
    refine RP.lss rfl rfl rfl (fun h25 => ?_) (fun h25 => ?_)
    · skip
      have hlt : i < keep.length := by omega
      have hcl : (keep.take i).count true ≤ (keep.take i).length := List.count_le_length
      rw [List.length_take] at hcl
      refine RP.nil ?_
      refine WP.seq ?_
      refine WP.cond_t rfl ?_
      refine WP.skip ?_
      refine WP.seq ?_
      refine WP.block rfl ?_
      refine WP.seq ?_
      refine WP.region ?_
      refine RP.move rfl rfl ?_
      refine RP.at_ rfl rfl rfl rfl rfl rfl (.lin fB_len hk1 (by repeat (first | exact .here | apply HIn.there | apply HIn.app))) (by first | assumption | omega) ?_
      refine RP.load_el rfl rfl rfl rfl (.lin fB_len hk1 (by repeat (first | exact .here | apply HIn.there | apply HIn.app))) (by first | assumption | omega) rfl ?_
      refine RP.assign rfl rfl ?_
      refine RP.assign rfl rfl ?_
      refine RP.nil ?_
      refine WP.seq ?_
      refine WP.region ?_
      refine RP.load_box rfl rfl rfl rfl (by repeat (first | exact .here | apply HIn.there | apply HIn.app)) rfl ?_
      refine RP.move rfl rfl ?_
      refine RP.move rfl rfl ?_
      refine RP.at_ rfl rfl rfl rfl rfl rfl (.lin fI_len hI3 (by repeat (first | exact .here | apply HIn.there | apply HIn.app))) (by first | assumption | omega) ?_
      refine RP.store_el1 ((keep.take i).count true : Int) rfl rfl rfl rfl hI3 (fun _ => (by repeat (first | exact .here | apply HUpd.there | apply HUpd.app))) fI_len (by first | assumption | omega) (by omega) rfl hlo ?_
      intro pN2 hN2
      refine RP.nil ?_
      refine WP.seq ?_
      refine WP.region ?_
      refine RP.move rfl rfl ?_
      refine RP.nil ?_
      refine WP.cond_b rfl (fun hc33 => ?_) (fun hc33 => ?_)
      · skip
        refine WP.region ?_
        refine RP.move rfl rfl ?_
        refine RP.add rfl rfl rfl (by omega) (by omega) ?_
        refine RP.assign rfl rfl ?_
        refine RP.nil ?_
        refine WP.region ?_
        refine RP.add rfl rfl rfl (by omega) (by omega) ?_
        refine RP.move rfl rfl ?_
        refine RP.nil ?_
        have hcs := count_step hlt
        rw [hc33] at hcs
        simp only [if_true] at hcs
        refine roundQ.mk (Q := fun _ _ _ => True) (i + 1, nums.set i ((keep.take i).count true : Int), pN2) ⟨rfl, rfl, rfl, rfl, by show some (LV.int .i64 _) = some (LV.int .i64 _); rw [hcs] <;> rfl, rfl, rfl, rfl, trivial⟩ (.cons (by repeat (first | exact .here | apply HRem.there | apply HRem.app)) (.cons (by repeat (first | exact .here | apply HRem.there | apply HRem.app)) (.cons (by repeat (first | exact .here | apply HRem.there | apply HRem.app)) (.cons (by repeat (first | exact .here | apply HRem.there | apply HRem.app)) (.cons (by repeat (first | exact .here | apply HRem.there | apply HRem.app)) (.cons (by repeat (first | exact .here | apply HRem.there | apply HRem.app)) .nil)))))) (by
          try dsimp only
          exact ⟨hlt, by rw [List.length_set]; exact hI2, hN2, fun j hj => (by
            by_cases e : i = j
            · subst e; rw [List.getElem?_set_self (by omega)]
            · rw [List.getElem?_set_ne e]; exact hI4 j (by omega))⟩) (by
          try dsimp only
          omega)
      · skip
        refine WP.skip ?_
        refine WP.region ?_
        refine RP.add rfl rfl rfl (by omega) (by omega) ?_
        refine RP.move rfl rfl ?_
        refine RP.nil ?_
        have hcs := count_step hlt
        rw [hc33] at hcs
        simp only [Bool.false_eq_true, if_false, Nat.add_zero] at hcs
        refine roundQ.mk (Q := fun _ _ _ => True) (i + 1, nums.set i ((keep.take i).count true : Int), pN2) ⟨rfl, rfl, rfl, rfl, by show some (LV.int .i64 _) = some (LV.int .i64 _); rw [hcs] <;> rfl, rfl, rfl, rfl, trivial⟩ (.cons (by repeat (first | exact .here | apply HRem.there | apply HRem.app)) (.cons (by repeat (first | exact .here | apply HRem.there | apply HRem.app)) (.cons (by repeat (first | exact .here | apply HRem.there | apply HRem.app)) (.cons (by repeat (first | exact .here | apply HRem.there | apply HRem.app)) (.cons (by repeat (first | exact .here | apply HRem.there | apply HRem.app)) (.cons (by repeat (first | exact .here | apply HRem.there | apply HRem.app)) .nil)))))) (by
          try dsimp only
          exact ⟨hlt, by rw [List.length_set]; exact hI2, hN2, fun j hj => (by
            by_cases e : i = j
            · subst e; rw [List.getElem?_set_self (by omega)]
            · rw [List.getElem?_set_ne e]; exact hI4 j (by omega))⟩) (by
          try dsimp only
          omega)
    · skip
      refine RP.nil ?_
      refine WP.seq ?_
      refine WP.cond_f rfl ?_
      refine WP.exit ?_
      refine WP.seq ?_
      obtain rfl := numF_is hI2 (fun j hj => hI4 j (by omega))
      refine WP.region ?_
      refine RP.mfunc rfl rfl rfl ?_
      refine RP.assign rfl rfl ?_
      refine RP.nil ?_
      refine WP.seq ?_
      refine WP.drawn (by kernel_rfl) ?_
      refine RP.move rfl rfl ?_
      refine RP.faddr rfl rfl rfl ?_
      refine RP.load_box rfl rfl rfl rfl (by repeat (first | exact .here | apply HIn.there | apply HIn.app)) rfl ?_
      refine RP.call rfl rfl rfl hlo (fun st' lo' hi' hl' => left_ok hl' (Inv.isOld hi' (by repeat (first | exact .here | apply HIn.there | apply HIn.app))) (Inv.isOld hi' (by repeat (first | exact .here | apply HIn.there | apply HIn.app))) (SlH.lin fB_len hk1 (by repeat (first | exact .here | apply HIn.there | apply HIn.app)) _ hi') (SlH.lin fI_len hI3 (by repeat (first | exact .here | apply HIn.there | apply HIn.app)) _ hi') (hm.first.inv hi') (fun x hx => by have := hrng _ (List.mem_cons_self ..) x hx; omega) hI2 (by omega)) ?_
      rintro v41 _ ⟨p41, rfl, hl41⟩
      refine RP.faddr rfl rfl rfl ?_
      refine RP.load_box rfl rfl rfl rfl (by repeat (first | exact .here | apply HIn.there | apply HIn.app)) rfl ?_
      refine RP.build (v := .agg [.nilsl, v41, .nilsl, .nilsl, .bool m.empty]) rfl rfl (by rcases hl41.kind with rfl | ⟨_, _, _, _, _, _, rfl⟩ <;> rfl) ?_
      refine RP.alloc rfl rfl rfl (fun L10 => ?_)
      refine RP.store_box rfl rfl rfl rfl rfl (by show [LV.nilsl, v41, .nilsl, .nilsl, .bool m.empty].all LV.scalar = true; simp only [List.all_cons, List.all_nil, hl41.scalar]; rfl) hlo (by repeat (first | exact .here | apply HUpd.there | apply HUpd.app)) ?_
      refine RP.nil ?_
      refine WP.seq ?_
      refine WP.seq ?_
      refine WP.ghost .dead ?_
      refine WP.ghost .dead ?_
      refine WP.ghost .dead ?_
      refine WP.region ?_
      refine RP.load_box rfl rfl rfl rfl (by repeat (first | exact .here | apply HIn.there | apply HIn.app)) rfl ?_
      refine RP.len_sl rfl rfl (.lin fB_len hk1 (by repeat (first | exact .here | apply HIn.there | apply HIn.app))) rfl ?_
      refine RP.move rfl rfl ?_
      refine RP.nil ?_
      refine WP.block rfl ?_
      refine WP.loop (α := Nat × LV × LV × LV × HE × HE × HE × List Row) (fun gh => [(1, .ptr (.own L1) 0), (2, .ptr (.own L2) 0), (9, .fn 43 [] [.ptr (.own L4) 0, .ptr (.own L5) 0]), (10, .ptr (.own L10) 0), (45, v18), (46, .int .i64 (keep.length : Int)), (47, .int .i64 (gh.1 : Int))]) (fun gh => (some L1, .cells (mv a b c d m).cells) :: (some L2, .cells [.nilsl, .nilsl, .nilsl, .nilsl, .bool false]) :: (some L4, .cells [v18]) :: p18 :: (some L5, .cells [v21]) :: pN :: (some L10, .cells [gh.2.1, v41, gh.2.2.1, gh.2.2.2.1, .bool m.empty]) :: gh.2.2.2.2.1 :: p41 :: gh.2.2.2.2.2.1 :: gh.2.2.2.2.2.2.1 :: gh.2.2.2.2.2.2.2.map (fun r => r.2.2)) (fun gh => gh.1 ≤ keep.length ∧ Lin 5 fS true gh.2.1 (keptF (keep.take gh.1) (m.spots.take gh.1)) gh.2.2.2.2.1 ∧ Lin 1 fP true gh.2.2.1 gh.2.2.2.2.2.2.2 gh.2.2.2.2.2.1 ∧ (∀ r ∈ gh.2.2.2.2.2.2.2, Lin 1 fI false r.1 r.2.1 r.2.2) ∧ gh.2.2.2.2.2.2.2.map (·.2.1) = (keptF (keep.take gh.1) ((fol.map (·.2)).take gh.1)).map (leftF keep (numF keep)) ∧ Lin 1 fB true gh.2.2.2.1 (keptF (keep.take gh.1) (m.last.take gh.1)) gh.2.2.2.2.2.2.1) (fun gh => keep.length - gh.1) ?_ (0, .nilsl, .nilsl, .nilsl, (none, .dead), (none, .dead), (none, .dead), []) ⟨rfl, rfl, rfl, rfl, rfl, rfl, rfl, trivial⟩ (.cons (by repeat (first | exact .here | apply HRem.there | apply HRem.app)) (.cons (by repeat (first | exact .here | apply HRem.there | apply HRem.app)) (.cons (by repeat (first | exact .here | apply HRem.there | apply HRem.app)) (.cons (by repeat (first | exact .here | apply HRem.there | apply HRem.app)) (.cons (by repeat (first | exact .here | apply HRem.there | apply HRem.app)) (.cons (by repeat (first | exact .here | apply HRem.there | apply HRem.app)) (.cons (by repeat (first | exact .here | apply HRem.there | apply HRem.app)) (.cons (by repeat (first | exact .here | apply HRem.there | apply HRem.app)) (.cons (by repeat (first | exact .here | apply HRem.there | apply HRem.app)) (.cons (by repeat (first | exact .here | apply HRem.there | apply HRem.app)) (.cons (by repeat (first | exact .here | apply HRem.there | apply HRem.app)) .nil))))))))))) (by
        try dsimp only
        exact ⟨Nat.zero_le _, .nil, .nil, by simp, rfl, .nil⟩)
      rintro ⟨i, sa, sc, sd, pa, pc, pd, rows⟩ hI
      change i ≤ keep.length ∧ Lin 5 fS true sa (keptF (keep.take i) (m.spots.take i)) pa ∧ Lin 1 fP true sc rows pc ∧ (∀ r ∈ rows, Lin 1 fI false r.1 r.2.1 r.2.2) ∧ rows.map (·.2.1) = (keptF (keep.take i) ((fol.map (·.2)).take i)).map (leftF keep (numF keep)) ∧ Lin 1 fB true sd (keptF (keep.take i) (m.last.take i)) pd at hI
      change WP _ _ _ _ _ [(1, .ptr (.own L1) 0), (2, .ptr (.own L2) 0), (9, .fn 43 [] [.ptr (.own L4) 0, .ptr (.own L5) 0]), (10, .ptr (.own L10) 0), (45, v18), (46, .int .i64 (keep.length : Int)), (47, .int .i64 (i : Int))] ((some L1, .cells (mv a b c d m).cells) :: (some L2, .cells [.nilsl, .nilsl, .nilsl, .nilsl, .bool false]) :: (some L4, .cells [v18]) :: p18 :: (some L5, .cells [v21]) :: pN :: (some L10, .cells [sa, v41, sc, sd, .bool m.empty]) :: pa :: p41 :: pc :: pd :: rows.map (fun r => r.2.2) : HL) _
      obtain ⟨hJ1, hJ2, hJ3, hJ4, hJ5, hJ6⟩ := hI
      have hJ7 : rows.length ≤ i := by have h1 := congrArg List.length hJ5; simp only [List.length_map] at h1; have h2 := keptF_le (keep := keep.take i) (l := (fol.map (·.2)).take i); rw [List.length_take] at h2; omega
      have hJ8 := keptF_le (keep := keep.take i) (l := m.spots.take i)
      rw [List.length_take] at hJ8
      have hJ9 := keptF_le (keep := keep.take i) (l := m.last.take i)
      rw [List.length_take] at hJ9
      refine WP.seq ?_
      refine WP.region ?_
      refine RP.lss rfl rfl rfl (fun h48 => ?_) (fun h48 => ?_)
      · skip
        have hlt : i < keep.length := by omega
        have hls : i < m.spots.length := by omega
        have hll : i < m.last.length := by omega
        have hlf : i < fol.length := by omega
        have hrow := hm.row hlf
        have hrl := h05 i hlf
        refine RP.nil ?_
        refine WP.seq ?_
        refine WP.cond_t rfl ?_
        refine WP.skip ?_
        refine WP.seq ?_
        refine WP.block rfl ?_
        refine WP.seq ?_
        refine WP.region ?_
        refine RP.move rfl rfl ?_
        refine RP.at_ rfl rfl rfl rfl rfl rfl (.lin fB_len hk1 (by repeat (first | exact .here | apply HIn.there | apply HIn.app))) (by first | assumption | omega) ?_
        refine RP.load_el rfl rfl rfl rfl (.lin fB_len hk1 (by repeat (first | exact .here | apply HIn.there | apply HIn.app))) (by first | assumption | omega) rfl ?_
        refine RP.assign rfl rfl ?_
        refine RP.assign rfl rfl ?_
        refine RP.nil ?_
        refine WP.seq ?_
        refine WP.region ?_
        refine RP.move rfl rfl ?_
        refine RP.nil ?_
        refine WP.cond_b rfl (fun hc52 => ?_) (fun hc52 => ?_)
        · skip
          refine WP.seq ?_
          refine WP.drawn (by kernel_rfl) ?_
          refine RP.faddr rfl rfl rfl ?_
          refine RP.load_box rfl rfl rfl rfl (by repeat (first | exact .here | apply HIn.there | apply HIn.app)) rfl ?_
          refine RP.faddr rfl rfl rfl ?_
          refine RP.load_box rfl rfl rfl rfl (by repeat (first | exact .here | apply HIn.there | apply HIn.app)) rfl ?_
          refine RP.move rfl rfl ?_
          first | refine RP.at_ rfl rfl rfl rfl rfl rfl (.arg hm.spots) (by first | assumption | omega) ?_ | refine RP.at_ rfl rfl rfl rfl rfl rfl (.arg hm.first) (by first | assumption | omega) ?_ | refine RP.at_ rfl rfl rfl rfl rfl rfl (.arg hm.follow) (by first | assumption | omega) ?_ | refine RP.at_ rfl rfl rfl rfl rfl rfl (.arg hm.last) (by first | assumption | omega) ?_
          first | refine RP.load_elN rfl rfl rfl rfl rfl (.arg hm.spots) (by first | assumption | omega) rfl ?_ | refine RP.load_elN rfl rfl rfl rfl rfl (.arg hm.first) (by first | assumption | omega) rfl ?_ | refine RP.load_elN rfl rfl rfl rfl rfl (.arg hm.follow) (by first | assumption | omega) rfl ?_ | refine RP.load_elN rfl rfl rfl rfl rfl (.arg hm.last) (by first | assumption | omega) rfl ?_
          refine RP.bslice [m.spots[i]] rfl rfl rfl rfl rfl rfl rfl rfl rfl rfl fS_len ?_
          intro v60 p60 hl60
          refine RP.append rfl rfl rfl rfl rfl rfl rfl rfl hJ2 (fun _ => (by repeat (first | exact .here | apply HUpd.there | apply HUpd.app))) (.lin fS_len hl60 (by repeat (first | exact .here | apply HIn.there | apply HIn.app))) (flat_all fS_sc _) (by simp only [List.length_singleton]; omega) (fun e => (by first | rfl | cases e)) hlo ?_
          intro v61 p61 hl61
          refine RP.faddr rfl rfl rfl ?_
          refine RP.load_box rfl rfl rfl rfl (by repeat (first | exact .here | apply HIn.there | apply HIn.app)) rfl ?_
          refine RP.faddr rfl rfl rfl ?_
          refine RP.load_box rfl rfl rfl rfl (by repeat (first | exact .here | apply HIn.there | apply HIn.app)) rfl ?_
          refine RP.move rfl rfl ?_
          first | refine RP.at_ rfl rfl rfl rfl rfl rfl (.arg hm.spots) (by first | assumption | omega) ?_ | refine RP.at_ rfl rfl rfl rfl rfl rfl (.arg hm.first) (by first | assumption | omega) ?_ | refine RP.at_ rfl rfl rfl rfl rfl rfl (.arg hm.follow) (by first | assumption | omega) ?_ | refine RP.at_ rfl rfl rfl rfl rfl rfl (.arg hm.last) (by first | assumption | omega) ?_
          first | refine RP.load_el rfl rfl rfl rfl (.arg hm.spots) (by first | assumption | omega) rfl ?_ | refine RP.load_el rfl rfl rfl rfl (.arg hm.first) (by first | assumption | omega) rfl ?_ | refine RP.load_el rfl rfl rfl rfl (.arg hm.follow) (by first | assumption | omega) rfl ?_ | refine RP.load_el rfl rfl rfl rfl (.arg hm.last) (by first | assumption | omega) rfl ?_
          refine RP.bslice [m.last[i]] rfl rfl rfl rfl rfl rfl rfl rfl rfl rfl fB_len ?_
          intro v69 p69 hl69
          refine RP.append rfl rfl rfl rfl rfl rfl rfl rfl hJ6 (fun _ => (by repeat (first | exact .here | apply HUpd.there | apply HUpd.app))) (.lin fB_len hl69 (by repeat (first | exact .here | apply HIn.there | apply HIn.app))) (flat_all fB_sc _) (by simp only [List.length_singleton]; omega) (fun e => (by first | rfl | cases e)) hlo ?_
          intro v70 p70 hl70
          refine RP.faddr rfl rfl rfl ?_
          refine RP.store_box1 rfl rfl hl61.scalar rfl rfl hlo (by repeat (first | exact .here | apply HUpd.there | apply HUpd.app)) ?_
          refine RP.faddr rfl rfl rfl ?_
          refine RP.store_box1 rfl rfl hl70.scalar rfl rfl hlo (by repeat (first | exact .here | apply HUpd.there | apply HUpd.app)) ?_
          refine RP.nil ?_
          refine WP.drawn (by kernel_rfl) ?_
          refine RP.faddr rfl rfl rfl ?_
          refine RP.load_box rfl rfl rfl rfl (by repeat (first | exact .here | apply HIn.there | apply HIn.app)) rfl ?_
          refine RP.move rfl rfl ?_
          refine RP.faddr rfl rfl rfl ?_
          refine RP.load_box rfl rfl rfl rfl (by repeat (first | exact .here | apply HIn.there | apply HIn.app)) rfl ?_
          refine RP.move rfl rfl ?_
          first | refine RP.at_ rfl rfl rfl rfl rfl rfl (.arg hm.spots) (by first | assumption | omega) ?_ | refine RP.at_ rfl rfl rfl rfl rfl rfl (.arg hm.first) (by first | assumption | omega) ?_ | refine RP.at_ rfl rfl rfl rfl rfl rfl (.arg hm.follow) (by first | assumption | omega) ?_ | refine RP.at_ rfl rfl rfl rfl rfl rfl (.arg hm.last) (by first | assumption | omega) ?_
          first | refine RP.load_el rfl rfl rfl rfl (.arg hm.spots) (by first | assumption | omega) rfl ?_ | refine RP.load_el rfl rfl rfl rfl (.arg hm.first) (by first | assumption | omega) rfl ?_ | refine RP.load_el rfl rfl rfl rfl (.arg hm.follow) (by first | assumption | omega) rfl ?_ | refine RP.load_el rfl rfl rfl rfl (.arg hm.last) (by first | assumption | omega) rfl ?_
          refine RP.call rfl rfl rfl hlo (fun st' lo' hi' hl' => left_ok hl' (Inv.isOld hi' (by repeat (first | exact .here | apply HIn.there | apply HIn.app))) (Inv.isOld hi' (by repeat (first | exact .here | apply HIn.there | apply HIn.app))) (SlH.lin fB_len hk1 (by repeat (first | exact .here | apply HIn.there | apply HIn.app)) _ hi') (SlH.lin fI_len hI3 (by repeat (first | exact .here | apply HIn.there | apply HIn.app)) _ hi') (hrow.inv hi') (fun x hx => by have := hrng _ (List.mem_cons_of_mem _ (by rw [hm.same]; exact List.mem_map.2 ⟨_, List.getElem_mem hlf, rfl⟩)) x hx; omega) hI2 (by omega)) ?_
          rintro v81 _ ⟨p81, rfl, hl81⟩
          refine RP.bslice1 ((v81, leftF keep (numF keep) fol[i].2, p81) : Row) rfl rfl rfl rfl rfl rfl hl81.scalar rfl fP_len ?_
          intro v82 p82 hl82
          refine RP.append rfl rfl rfl rfl rfl rfl rfl rfl hJ3 (fun _ => (by repeat (first | exact .here | apply HUpd.there | apply HUpd.app))) (.lin fP_len hl82 (by repeat (first | exact .here | apply HIn.there | apply HIn.app))) (by simp [fP, hl81.scalar]) (by simp only [List.length_singleton]; omega) (fun e => (by first | rfl | cases e)) hlo ?_
          intro v83 p83 hl83
          refine RP.faddr rfl rfl rfl ?_
          refine RP.store_box1 rfl rfl hl83.scalar rfl rfl hlo (by repeat (first | exact .here | apply HUpd.there | apply HUpd.app)) ?_
          refine RP.nil ?_
          refine WP.region ?_
          refine RP.add rfl rfl rfl (by omega) (by omega) ?_
          refine RP.move rfl rfl ?_
          refine RP.nil ?_
          have e1 := keptF_step (l := m.spots) hlt hls
          have e2 := keptF_step (l := m.last) hlt hll
          have e3 := keptF_step (l := fol.map (·.2)) hlt (by rw [List.length_map]; exact hlf)
          rw [hc52] at e1 e2 e3
          refine roundQ.mk (Q := fun _ _ _ => True) (i + 1, v61, v83, v70, p61, p83, p70, rows ++ [(v81, leftF keep (numF keep) fol[i].2, p81)]) ⟨rfl, rfl, rfl, rfl, rfl, rfl, rfl, trivial⟩ (.cons (by repeat (first | exact .here | apply HRem.there | apply HRem.app)) (.cons (by repeat (first | exact .here | apply HRem.there | apply HRem.app)) (.cons (by repeat (first | exact .here | apply HRem.there | apply HRem.app)) (.cons (by repeat (first | exact .here | apply HRem.there | apply HRem.app)) (.cons (by repeat (first | exact .here | apply HRem.there | apply HRem.app)) (.cons (by repeat (first | exact .here | apply HRem.there | apply HRem.app)) (.cons (by repeat (first | exact .here | apply HRem.there | apply HRem.app)) (.cons (by repeat (first | exact .here | apply HRem.there | apply HRem.app)) (.cons (by repeat (first | exact .here | apply HRem.there | apply HRem.app)) (.cons (by repeat (first | exact .here | apply HRem.there | apply HRem.app)) (.cons (by repeat (first | exact .here | apply HRem.there | apply HRem.app)) (.skip (.perm (by rw [List.map_append]; exact List.perm_append_singleton _ _) (.cons .here (.skip (.skip .refl)))))))))))))))) (by
            try dsimp only
            exact ⟨hlt, by rw [e1]; exact hl61, hl83, fun r hr => (by
                rcases List.mem_append.1 hr with h | h
                · exact hJ4 r h
                · obtain rfl := List.mem_singleton.1 h; exact hl81.loose), by rw [List.map_append, hJ5, e3, List.map_append, if_pos rfl, List.getElem_map]; rfl, by rw [e2]; exact hl70⟩) (by
            try dsimp only
            omega)
        · skip
          refine WP.skip ?_
          refine WP.region ?_
          refine RP.add rfl rfl rfl (by omega) (by omega) ?_
          refine RP.move rfl rfl ?_
          refine RP.nil ?_
          have e1 := keptF_step (l := m.spots) hlt hls
          have e2 := keptF_step (l := m.last) hlt hll
          have e3 := keptF_step (l := fol.map (·.2)) hlt (by rw [List.length_map]; exact hlf)
          rw [hc52] at e1 e2 e3
          refine roundQ.mk (Q := fun _ _ _ => True) (i + 1, sa, sc, sd, pa, pc, pd, rows) ⟨rfl, rfl, rfl, rfl, rfl, rfl, rfl, trivial⟩ (.cons (by repeat (first | exact .here | apply HRem.there | apply HRem.app)) (.cons (by repeat (first | exact .here | apply HRem.there | apply HRem.app)) (.cons (by repeat (first | exact .here | apply HRem.there | apply HRem.app)) (.cons (by repeat (first | exact .here | apply HRem.there | apply HRem.app)) (.cons (by repeat (first | exact .here | apply HRem.there | apply HRem.app)) (.cons (by repeat (first | exact .here | apply HRem.there | apply HRem.app)) (.cons (by repeat (first | exact .here | apply HRem.there | apply HRem.app)) (.cons (by repeat (first | exact .here | apply HRem.there | apply HRem.app)) (.cons (by repeat (first | exact .here | apply HRem.there | apply HRem.app)) (.cons (by repeat (first | exact .here | apply HRem.there | apply HRem.app)) (.cons (by repeat (first | exact .here | apply HRem.there | apply HRem.app)) .refl))))))))))) (by
            try dsimp only
            exact ⟨hlt, by rw [e1]; simpa using hJ2, hJ3, hJ4, by rw [hJ5, e3]; simp, by rw [e2]; simpa using hJ6⟩) (by
            try dsimp only
            omega)
      · skip
        refine RP.nil ?_
        refine WP.seq ?_
        refine WP.cond_f rfl ?_
        refine WP.exit ?_
        refine WP.seq ?_
        refine WP.region ?_
        refine RP.load_boxN rfl rfl rfl rfl rfl (by repeat (first | exact .here | apply HIn.there | apply HIn.app)) rfl ?_
        refine RP.store_box rfl rfl rfl rfl rfl (by show [sa, v41, sc, sd, .bool m.empty].all LV.scalar = true; simp only [List.all_cons, List.all_nil, hJ2.scalar, hl41.scalar, hJ3.scalar, hJ6.scalar]; rfl) hlo (by repeat (first | exact .here | apply HUpd.there | apply HUpd.app)) ?_
        refine RP.assign rfl rfl ?_
        refine RP.nil ?_
        refine WP.ret ?_
        rw [keptF_all (by omega) (by omega)] at hJ2 hJ6
        rw [keptF_all (by omega) (by rw [List.length_map]; omega), ← hm.same] at hJ5
        exact End.two (Or.inr rfl) rfl (.cellN rfl rfl rfl rfl (by repeat (first | exact .here | apply HIn.there | apply HIn.app)) rfl) (.tmp rfl) (.cons (by repeat (first | exact .here | apply HRem.there | apply HRem.app)) (.cons (by repeat (first | exact .here | apply HRem.there | apply HRem.app)) (.cons (by repeat (first | exact .here | apply HRem.there | apply HRem.app)) (.cons (by repeat (first | exact .here | apply HRem.there | apply HRem.app)) (.skip (.skip (.skip (.skip (.skip (.skip (.skip .refl))))))))))) (Or.inr ⟨hgd, keep, hk2, hk3, _, _, _, _, pa, p41, pc, pd, rows, rfl, rfl, (⟨hJ2.loose, hl41.loose, hJ3.loose, hJ4, hJ6.loose, hJ5.symm⟩ : MO sa v41 sc sd pa p41 pc pd rows (trimF keep m))⟩)
  · skip
    refine RP.un rfl rfl rfl ?_
    refine RP.nil ?_
    refine WP.cond_t rfl ?_
    refine WP.seq ?_
    refine WP.region ?_
    refine RP.build rfl rfl rfl ?_
    refine RP.store_box rfl rfl rfl rfl rfl rfl hlo (by repeat (first | exact .here | apply HUpd.there | apply HUpd.app)) ?_
    refine RP.assign rfl rfl ?_
    refine RP.nil ?_
    refine WP.ret ?_
    exact End.two (Or.inr rfl) rfl (.cellN rfl rfl rfl rfl (by repeat (first | exact .here | apply HIn.there | apply HIn.app)) rfl) (.tmp rfl) .nil (Or.inl ⟨hng, rfl, rfl⟩)
end
end Go.Proofs.Ytpkeggejofeeeaa

namespace Go.Proofs.Ytpkeggejofeeeaa
open Go.Proofs.Ytpkeggejofeeeaa.Lvm Go

section
variable {bm : Nat → Nat → Option LV} {st : LSt} {lo : Nat} {a b c d : LV} {m : Mach} {fol : List (LV × List Int)}

theorem bit_ok {c : UInt8} : Fin (EE bm) lo 50 [.int .u8 (c.toNat : Int)] st (fun v H => v = .tup [.int .i64 ((c.toNat / 64 : Nat) : Int), .int .u64 (bitV c)] ∧ H = []) := by
  refine Fin.of_body (fn := Try.f50) (c := Try.f50.body.getD .skip) rfl rfl rfl rfl ?_
  refine WP.seq ?_
  refine WP.region ?_
  refine RP.assign rfl rfl ?_
  refine RP.assign rfl rfl ?_
  refine RP.nil ?_
  refine WP.seq ?_
  refine WP.region ?_
  refine RP.move rfl rfl ?_
  refine RP.bin rfl rfl rfl rfl ?_
  refine RP.conv rfl rfl (fun _ => rfl) ?_
  refine RP.move rfl rfl ?_
  refine RP.bin rfl rfl rfl rfl ?_
  refine RP.shl rfl rfl rfl (Int.tmod_nonneg _ (by omega)) ?_
  refine RP.assign rfl rfl ?_
  refine RP.assign rfl rfl ?_
  refine RP.nil ?_
  refine WP.ret ?_
  exact End.two (Or.inr rfl) rfl (.tmp rfl) (.tmp rfl) .nil ⟨by rw [← quo_val, ← bit_val], rfl⟩
theorem has_ok (hlo : lo ≤ st.nxt) {s : Spot} (hs : SpotOk s) {c : UInt8} : Fin (EE bm) lo 45 [.agg [.int .u64 s.a, .int .u64 s.b, .int .u64 s.c, .int .u64 s.d], .int .u8 (c.toNat : Int)] st (fun v H => v = .bool (inB s c) ∧ H = []) := by
  have hc := c.toNat_lt
  have hj : c.toNat / 64 < 4 := by omega
  refine Fin.of_body (fn := Try.f45) (c := Try.f45.body.getD .skip) rfl rfl rfl rfl ?_
  refine WP.seq ?_
  refine WP.region ?_
  refine RP.box rfl rfl rfl (fun L2 => ?_)
  refine RP.assign rfl rfl ?_
  refine RP.nil ?_
  refine WP.seq ?_
  refine WP.region ?_
  refine RP.move rfl rfl ?_
  refine RP.call rfl rfl rfl hlo (fun st' lo' hi' hl' => bit_ok) ?_
  rintro _ _ ⟨rfl, rfl⟩
  refine RP.move rfl rfl ?_
  refine RP.extract_ rfl rfl rfl ?_
  refine RP.extract_ rfl rfl rfl ?_
  refine RP.assign rfl rfl ?_
  refine RP.assign rfl rfl ?_
  refine RP.nil ?_
  refine WP.seq ?_
  refine WP.region ?_
  refine RP.move rfl rfl ?_
  refine RP.at_arr rfl rfl rfl rfl rfl rfl hj ?_
  refine RP.load_box_at (.int .u64 (word s (c.toNat / 64))) rfl rfl rfl rfl (by repeat (first | exact .here | apply HIn.there | apply HIn.app)) (word_at hj) ?_
  refine RP.move rfl rfl ?_
  refine RP.bin rfl rfl rfl rfl ?_
  refine RP.bin rfl rfl rfl rfl ?_
  refine RP.assign rfl rfl ?_
  refine RP.nil ?_
  refine WP.ret ?_
  exact End.one (Or.inr rfl) rfl (.tmp rfl) .nil ⟨by rw [← has_val hs c], rfl⟩
theorem into_ok (hlo : lo ≤ st.nxt) (hm : MA (EE bm) st a b c d m fol) (hok : ∀ s ∈ m.spots, SpotOk s) (hN : m.spots.length ≤ 1000) {vn : LV} {nx : Nat → Bool} (hn : SlT (EE bm) st vn 1 fB (tab m.spots.length nx)) {ch : UInt8} :
    Fin (EE bm) lo 37 [mv a b c d m, vn, .int .u8 (ch.toNat : Int)] st (fun v H => ∃ p, H = [p] ∧ Lin 1 fB true v (tab m.spots.length fun n => nx n && inSpot m ch n) p) := by
  refine Fin.of_body (fn := Try.f37) (c := Try.f37.body.getD .skip) rfl rfl rfl rfl ?_
  refine WP.seq ?_
  refine WP.region ?_
  refine RP.box rfl rfl hm.sc (fun L3 => ?_)
  refine RP.assign rfl rfl ?_
  refine RP.nil ?_
  refine WP.seq ?_
  refine WP.region ?_
  refine RP.faddr rfl rfl rfl ?_
  refine RP.load_box rfl rfl rfl rfl (by repeat (first | exact .here | apply HIn.there | apply HIn.app)) rfl ?_
  first | refine RP.len_sl rfl rfl (.arg hm.spots) rfl ?_ | refine RP.len_sl rfl rfl (.arg hm.first) rfl ?_ | refine RP.len_sl rfl rfl (.arg hm.follow) rfl ?_ | refine RP.len_sl rfl rfl (.arg hm.last) rfl ?_
  refine RP.make false rfl rfl rfl rfl rfl rfl rfl rfl rfl rfl rfl fB_len (Nat.le_refl _) (by omega) ?_
  rw [Nat.beq_refl]
  intro v13 p13 hl13
  refine RP.assign rfl rfl ?_
  refine RP.nil ?_
  refine WP.seq ?_
  refine WP.seq ?_
  refine WP.region ?_
  refine RP.faddr rfl rfl rfl ?_
  refine RP.load_box rfl rfl rfl rfl (by repeat (first | exact .here | apply HIn.there | apply HIn.app)) rfl ?_
  first | refine RP.len_sl rfl rfl (.arg hm.spots) rfl ?_ | refine RP.len_sl rfl rfl (.arg hm.first) rfl ?_ | refine RP.len_sl rfl rfl (.arg hm.follow) rfl ?_ | refine RP.len_sl rfl rfl (.arg hm.last) rfl ?_
  refine RP.move rfl rfl ?_
  refine RP.nil ?_
  refine WP.block rfl ?_
  refine WP.loop (α := Nat × HE) (fun gh => [(1, vn), (2, .int .u8 (ch.toNat : Int)), (3, .ptr (.own L3) 0), (7, v13), (15, a), (16, .int .i64 (m.spots.length : Int)), (17, .int .i64 (gh.1 : Int))]) (fun gh => [(some L3, .cells (mv a b c d m).cells), gh.2]) (fun gh => gh.1 ≤ m.spots.length ∧ Lin 1 fB true v13 (tab m.spots.length (upto gh.1 (fun n => (nx n && inSpot m ch n)))) gh.2) (fun gh => m.spots.length - gh.1) ?_ (0, p13) ⟨rfl, rfl, rfl, rfl, rfl, rfl, rfl, trivial⟩ (.cons (by repeat (first | exact .here | apply HRem.there | apply HRem.app)) (.cons (by repeat (first | exact .here | apply HRem.there | apply HRem.app)) .nil)) (by
    try dsimp only
    exact ⟨Nat.zero_le _, by rw [← upto_zero]; exact hl13⟩)
  rintro ⟨i, pO⟩ hI
  change i ≤ m.spots.length ∧ Lin 1 fB true v13 (tab m.spots.length (upto i (fun n => (nx n && inSpot m ch n)))) pO at hI
  change WP _ _ _ _ _ [(1, vn), (2, .int .u8 (ch.toNat : Int)), (3, .ptr (.own L3) 0), (7, v13), (15, a), (16, .int .i64 (m.spots.length : Int)), (17, .int .i64 (i : Int))] ([(some L3, .cells (mv a b c d m).cells), pO] : HL) _
  obtain ⟨hI1, hI2⟩ := hI
  refine WP.seq ?_
  refine WP.region ?_
  refine RP.lss rfl rfl rfl (fun h18 => ?_) (fun h18 => ?_)
  · skip
    have hlt : i < m.spots.length := by omega
    have hltn : i < (tab m.spots.length nx).length := by rw [tab_len]; exact hlt
    have hltg : i < (tab m.spots.length (upto i (fun n => (nx n && inSpot m ch n)))).length := by rw [tab_len]; exact hlt
    have hat : (tab m.spots.length nx)[i] = nx i := tab_at hltn
    have hsp : inSpot m ch i = inB m.spots[i] ch := by unfold inSpot; rw [List.getElem?_eq_getElem hlt]
    refine RP.nil ?_
    refine WP.seq ?_
    refine WP.cond_t rfl ?_
    refine WP.skip ?_
    refine WP.seq ?_
    refine WP.block rfl ?_
    refine WP.seq ?_
    refine WP.region ?_
    refine RP.move rfl rfl ?_
    first | refine RP.at_ rfl rfl rfl rfl rfl rfl (.arg hm.spots) (by first | assumption | omega) ?_ | refine RP.at_ rfl rfl rfl rfl rfl rfl (.arg hm.first) (by first | assumption | omega) ?_ | refine RP.at_ rfl rfl rfl rfl rfl rfl (.arg hm.follow) (by first | assumption | omega) ?_ | refine RP.at_ rfl rfl rfl rfl rfl rfl (.arg hm.last) (by first | assumption | omega) ?_
    first | refine RP.load_elN rfl rfl rfl rfl rfl (.arg hm.spots) (by first | assumption | omega) rfl ?_ | refine RP.load_elN rfl rfl rfl rfl rfl (.arg hm.first) (by first | assumption | omega) rfl ?_ | refine RP.load_elN rfl rfl rfl rfl rfl (.arg hm.follow) (by first | assumption | omega) rfl ?_ | refine RP.load_elN rfl rfl rfl rfl rfl (.arg hm.last) (by first | assumption | omega) rfl ?_
    refine RP.alloc rfl rfl rfl (fun L9 => ?_)
    refine RP.assign rfl rfl ?_
    refine RP.store_box rfl rfl rfl rfl rfl rfl hlo (by repeat (first | exact .here | apply HUpd.there | apply HUpd.app)) ?_
    refine RP.nil ?_
    refine WP.region ?_
    refine RP.move rfl rfl ?_
    refine RP.move rfl rfl ?_
    refine RP.move rfl rfl ?_
    refine RP.move rfl rfl ?_
    refine RP.at_ rfl rfl rfl rfl rfl rfl (.arg hn) (by first | assumption | omega) ?_
    refine RP.load_el rfl rfl rfl rfl (.arg hn) (by first | assumption | omega) rfl ?_
    refine RP.move rfl rfl ?_
    refine RP.cases (d := 28) rfl (fun hg28 => ?_) (fun hg28 => ?_)
    · skip
      refine RP.gtrue rfl ?_
      refine RP.faddr rfl rfl rfl ?_
      refine RP.gtrue rfl ?_
      refine RP.load_boxN rfl rfl rfl rfl rfl (by repeat (first | exact .here | apply HIn.there | apply HIn.app)) rfl ?_
      refine RP.gtrue rfl ?_
      refine RP.move rfl rfl ?_
      refine RP.gtrue rfl ?_
      refine RP.call rfl rfl rfl hlo (fun st' lo' hi' hl' => has_ok hl' (hok _ (List.getElem_mem hlt))) ?_
      rintro _ _ ⟨rfl, rfl⟩
      refine RP.pick_ rfl rfl rfl ?_
      refine RP.at_ rfl rfl rfl rfl rfl rfl (.lin fB_len hI2 (by repeat (first | exact .here | apply HIn.there | apply HIn.app))) (by first | assumption | omega) ?_
      refine RP.store_el1 _ rfl rfl rfl rfl hI2 (fun _ => (by repeat (first | exact .here | apply HUpd.there | apply HUpd.app))) fB_len (by first | assumption | omega) (by omega) rfl hlo ?_
      intro pO2 hO2
      refine RP.nil ?_
      refine WP.region ?_
      refine RP.add rfl rfl rfl (by omega) (by omega) ?_
      refine RP.move rfl rfl ?_
      refine RP.nil ?_
      refine roundQ.mk (Q := fun _ _ _ => True) (i + 1, pO2) ⟨rfl, rfl, rfl, rfl, rfl, rfl, rfl, trivial⟩ (.cons (by repeat (first | exact .here | apply HRem.there | apply HRem.app)) (.cons (by repeat (first | exact .here | apply HRem.there | apply HRem.app)) .nil)) (by
        try dsimp only
        exact ⟨hlt, by rw [upto_set (by show _ = (nx i && inSpot m ch i); rw [hsp, ← hat, hg28]; rfl)] at hO2; exact hO2⟩) (by
        try dsimp only
        omega)
    · skip
      refine RP.gfalse rfl rfl ?_
      refine RP.gfalse rfl rfl ?_
      refine RP.gfalse rfl rfl ?_
      refine RP.gfalse rfl rfl ?_
      refine RP.pick_ rfl rfl rfl ?_
      refine RP.at_ rfl rfl rfl rfl rfl rfl (.lin fB_len hI2 (by repeat (first | exact .here | apply HIn.there | apply HIn.app))) (by first | assumption | omega) ?_
      refine RP.store_el1 _ rfl rfl rfl rfl hI2 (fun _ => (by repeat (first | exact .here | apply HUpd.there | apply HUpd.app))) fB_len (by first | assumption | omega) (by omega) rfl hlo ?_
      intro pO2 hO2
      refine RP.nil ?_
      refine WP.region ?_
      refine RP.add rfl rfl rfl (by omega) (by omega) ?_
      refine RP.move rfl rfl ?_
      refine RP.nil ?_
      refine roundQ.mk (Q := fun _ _ _ => True) (i + 1, pO2) ⟨rfl, rfl, rfl, rfl, rfl, rfl, rfl, trivial⟩ (.cons (by repeat (first | exact .here | apply HRem.there | apply HRem.app)) (.cons (by repeat (first | exact .here | apply HRem.there | apply HRem.app)) .nil)) (by
        try dsimp only
        exact ⟨hlt, by rw [upto_set (by show _ = (nx i && inSpot m ch i); rw [hsp, ← hat, hg28]; rfl)] at hO2; exact hO2⟩) (by
        try dsimp only
        omega)
  · skip
    refine RP.nil ?_
    refine WP.seq ?_
    refine WP.cond_f rfl ?_
    refine WP.exit ?_
    refine WP.seq ?_
    refine WP.region ?_
    refine RP.move rfl rfl ?_
    refine RP.assign rfl rfl ?_
    refine RP.nil ?_
    refine WP.ret ?_
    exact End.one (Or.inr rfl) rfl (.tmp rfl) (.cons (by repeat (first | exact .here | apply HRem.there | apply HRem.app)) .nil) ⟨pO, rfl, by rw [upto_all (by omega)] at hI2; exact hI2⟩

theorem marked_ok (hlo : lo ≤ st.nxt) (hm : MA (EE bm) st a b c d m fol) (hN : m.spots.length ≤ 1000) {vl : LV} {xs : List Int} (hv : SlT (EE bm) st vl 1 fI xs) (hxl : xs.length ≤ 1000) (hr : ∀ x ∈ xs, 0 ≤ x ∧ x.toNat < m.spots.length) :
    Fin (EE bm) lo 38 [mv a b c d m, vl] st (fun v H => ∃ p, H = [p] ∧ Lin 1 fB true v (tab m.spots.length (memI xs)) p) := by
  refine Fin.of_body (fn := Try.f38) (c := Try.f38.body.getD .skip) rfl rfl rfl rfl ?_
  refine WP.seq ?_
  refine WP.region ?_
  refine RP.box rfl rfl hm.sc (fun L2 => ?_)
  refine RP.assign rfl rfl ?_
  refine RP.nil ?_
  refine WP.seq ?_
  refine WP.region ?_
  refine RP.faddr rfl rfl rfl ?_
  refine RP.load_box rfl rfl rfl rfl (by repeat (first | exact .here | apply HIn.there | apply HIn.app)) rfl ?_
  first | refine RP.len_sl rfl rfl (.arg hm.spots) rfl ?_ | refine RP.len_sl rfl rfl (.arg hm.first) rfl ?_ | refine RP.len_sl rfl rfl (.arg hm.follow) rfl ?_ | refine RP.len_sl rfl rfl (.arg hm.last) rfl ?_ | refine RP.len_sl rfl rfl (.arg hv) rfl ?_
  refine RP.make false rfl rfl rfl rfl rfl rfl rfl rfl rfl rfl rfl fB_len (Nat.le_refl _) (by omega) ?_
  rw [Nat.beq_refl]
  intro v11 p11 hl11
  refine RP.assign rfl rfl ?_
  refine RP.nil ?_
  refine WP.seq ?_
  refine WP.seq ?_
  refine WP.region ?_
  refine RP.move rfl rfl ?_
  refine RP.len_sl rfl rfl (.arg hv) rfl ?_
  refine RP.move rfl rfl ?_
  refine RP.nil ?_
  refine WP.block rfl ?_
  refine WP.loop (α := Nat × HE) (fun gh => [(5, v11), (12, vl), (13, .int .i64 (xs.length : Int)), (14, .int .i64 (gh.1 : Int))]) (fun gh => [gh.2]) (fun gh => gh.1 ≤ xs.length ∧ Lin 1 fB true v11 (tab m.spots.length fun n => (fun _ => false) n || memI (xs.take gh.1) n) gh.2) (fun gh => xs.length - gh.1) ?_ (0, p11) ⟨rfl, rfl, rfl, rfl, trivial⟩ (.cons (by repeat (first | exact .here | apply HRem.there | apply HRem.app)) .nil) (by
    try dsimp only
    exact ⟨Nat.zero_le _, by rw [← memI_nil (g := fun _ => false), ← tab_false]; exact hl11⟩)
  rintro ⟨i, pO⟩ hI
  change i ≤ xs.length ∧ Lin 1 fB true v11 (tab m.spots.length fun n => (fun _ => false) n || memI (xs.take i) n) pO at hI
  change WP _ _ _ _ _ [(5, v11), (12, vl), (13, .int .i64 (xs.length : Int)), (14, .int .i64 (i : Int))] ([pO] : HL) _
  obtain ⟨hI1, hI2⟩ := hI
  refine WP.seq ?_
  refine WP.region ?_
  refine RP.lss rfl rfl rfl (fun h15 => ?_) (fun h15 => ?_)
  · skip
    have hlt : i < xs.length := by omega
    have hx := hr xs[i] (List.getElem_mem hlt)
    have hlo2 : xs[i].toNat < (tab m.spots.length fun n => (fun _ => false) n || memI (xs.take i) n).length := by rw [tab_len]; exact hx.2
    refine RP.nil ?_
    refine WP.seq ?_
    refine WP.cond_t rfl ?_
    refine WP.skip ?_
    refine WP.seq ?_
    refine WP.block rfl ?_
    refine WP.seq ?_
    refine WP.region ?_
    refine RP.at_ rfl rfl rfl rfl rfl rfl (.arg hv) (by first | assumption | omega) ?_
    refine RP.load_el rfl rfl rfl rfl (.arg hv) (by first | assumption | omega) rfl ?_
    refine RP.assign rfl rfl ?_
    refine RP.nil ?_
    refine WP.region ?_
    refine RP.move rfl rfl ?_
    refine RP.move rfl rfl ?_
    refine RP.at_ rfl rfl rfl (natOf_is (n := xs[i].toNat) (by omega)) rfl rfl (.lin fB_len hI2 (by repeat (first | exact .here | apply HIn.there | apply HIn.app))) (by first | assumption | omega) ?_
    refine RP.store_el1 true rfl rfl rfl rfl hI2 (fun _ => (by repeat (first | exact .here | apply HUpd.there | apply HUpd.app))) fB_len (by first | assumption | omega) (by omega) rfl hlo ?_
    intro pO2 hO2
    refine RP.nil ?_
    refine WP.region ?_
    refine RP.add rfl rfl rfl (by omega) (by omega) ?_
    refine RP.move rfl rfl ?_
    refine RP.nil ?_
    refine roundQ.mk (Q := fun _ _ _ => True) (i + 1, pO2) ⟨rfl, rfl, rfl, rfl, trivial⟩ (.cons (by repeat (first | exact .here | apply HRem.there | apply HRem.app)) .nil) (by
      try dsimp only
      exact ⟨hlt, by rw [memI_step hlt hx.1] at hO2; exact hO2⟩) (by
      try dsimp only
      omega)
  · skip
    refine RP.nil ?_
    refine WP.seq ?_
    refine WP.cond_f rfl ?_
    refine WP.exit ?_
    refine WP.seq ?_
    refine WP.region ?_
    refine RP.move rfl rfl ?_
    refine RP.assign rfl rfl ?_
    refine RP.nil ?_
    refine WP.ret ?_
    exact End.one (Or.inr rfl) rfl (.tmp rfl) (.cons (by repeat (first | exact .here | apply HRem.there | apply HRem.app)) .nil) ⟨pO, rfl, by rw [memI_full (by omega)] at hI2; exact hI2.tab fun _ _ => Bool.false_or _⟩

theorem behind_ok (hlo : lo ≤ st.nxt) (hm : MA (EE bm) st a b c d m fol) (hg : GoodM m) (hN : m.spots.length ≤ 1000) (hrl : ∀ j (h : j < fol.length), fol[j].2.length ≤ 1000) {vat : LV} {at_ : Nat → Bool} (hv : SlT (EE bm) st vat 1 fB (tab m.spots.length at_)) :
    Fin (EE bm) lo 39 [mv a b c d m, vat] st (fun v H => ∃ p, H = [p] ∧ Lin 1 fB true v (tab m.spots.length (behindF m at_ m.spots.length)) p) := by
  have htl : (tab m.spots.length at_).length = m.spots.length := tab_len
  have hfl := hm.len
  have hgf := hg.flen
  refine Fin.of_body (fn := Try.f39) (c := Try.f39.body.getD .skip) rfl rfl rfl rfl ?_
  refine WP.seq ?_
  refine WP.region ?_
  refine RP.box rfl rfl hm.sc (fun L2 => ?_)
  refine RP.assign rfl rfl ?_
  refine RP.nil ?_
  refine WP.seq ?_
  refine WP.region ?_
  refine RP.faddr rfl rfl rfl ?_
  refine RP.load_box rfl rfl rfl rfl (by repeat (first | exact .here | apply HIn.there | apply HIn.app)) rfl ?_
  first | refine RP.len_sl rfl rfl (.arg hm.spots) rfl ?_ | refine RP.len_sl rfl rfl (.arg hm.first) rfl ?_ | refine RP.len_sl rfl rfl (.arg hm.follow) rfl ?_ | refine RP.len_sl rfl rfl (.arg hm.last) rfl ?_ | refine RP.len_sl rfl rfl (.arg hv) rfl ?_
  refine RP.make false rfl rfl rfl rfl rfl rfl rfl rfl rfl rfl rfl fB_len (Nat.le_refl _) (by omega) ?_
  rw [Nat.beq_refl]
  intro v13 p13 hl13
  refine RP.assign rfl rfl ?_
  refine RP.nil ?_
  refine WP.seq ?_
  refine WP.seq ?_
  refine WP.region ?_
  refine RP.move rfl rfl ?_
  refine RP.len_sl rfl rfl (.arg hv) rfl ?_
  refine RP.move rfl rfl ?_
  refine RP.nil ?_
  refine WP.block rfl ?_
  refine WP.loop (α := Nat × HE) (fun gh => [(2, .ptr (.own L2) 0), (5, v13), (14, vat), (15, .int .i64 ((tab m.spots.length at_).length : Int)), (16, .int .i64 (gh.1 : Int))]) (fun gh => [(some L2, .cells (mv a b c d m).cells), gh.2]) (fun gh => gh.1 ≤ m.spots.length ∧ Lin 1 fB true v13 (tab m.spots.length (behindF m at_ gh.1)) gh.2) (fun gh => m.spots.length - gh.1) ?_ (0, p13) ⟨rfl, rfl, rfl, rfl, rfl, trivial⟩ (.cons (by repeat (first | exact .here | apply HRem.there | apply HRem.app)) (.cons (by repeat (first | exact .here | apply HRem.there | apply HRem.app)) .nil)) (by
    try dsimp only
    exact ⟨Nat.zero_le _, by rw [tab_false] at hl13; exact hl13⟩)
  rintro ⟨i, pO⟩ hI
  change i ≤ m.spots.length ∧ Lin 1 fB true v13 (tab m.spots.length (behindF m at_ i)) pO at hI
  change WP _ _ _ _ _ [(2, .ptr (.own L2) 0), (5, v13), (14, vat), (15, .int .i64 ((tab m.spots.length at_).length : Int)), (16, .int .i64 (i : Int))] ([(some L2, .cells (mv a b c d m).cells), pO] : HL) _
  obtain ⟨hI1, hI2⟩ := hI
  refine WP.seq ?_
  refine WP.region ?_
  refine RP.lss rfl rfl rfl (fun h17 => ?_) (fun h17 => ?_)
  · skip
    have hlt : i < m.spots.length := by omega
    have hlf : i < fol.length := by omega
    have hltt : i < (tab m.spots.length at_).length := by omega
    have hat : (tab m.spots.length at_)[i] = at_ i := tab_at hltt
    have hrow := hm.row hlf
    have hrli := hrl i hlf
    refine RP.nil ?_
    refine WP.seq ?_
    refine WP.cond_t rfl ?_
    refine WP.skip ?_
    refine WP.seq ?_
    refine WP.block rfl ?_
    refine WP.seq ?_
    refine WP.region ?_
    refine RP.move rfl rfl ?_
    refine RP.at_ rfl rfl rfl rfl rfl rfl (.arg hv) (by first | assumption | omega) ?_
    refine RP.load_el rfl rfl rfl rfl (.arg hv) (by first | assumption | omega) rfl ?_
    refine RP.assign rfl rfl ?_
    refine RP.assign rfl rfl ?_
    refine RP.nil ?_
    refine WP.seq ?_
    refine WP.seq ?_
    refine WP.region ?_
    refine RP.move rfl rfl ?_
    refine RP.un rfl rfl rfl ?_
    refine RP.nil ?_
    refine WP.cond_b rfl (fun hc22 => ?_) (fun hc22 => ?_)
    · skip
      refine WP.exit ?_
      refine WP.region ?_
      refine RP.add rfl rfl rfl (by omega) (by omega) ?_
      refine RP.move rfl rfl ?_
      refine RP.nil ?_
      refine roundQ.mk (Q := fun _ _ _ => True) (i + 1, pO) ⟨rfl, rfl, rfl, rfl, rfl, trivial⟩ (.cons (by repeat (first | exact .here | apply HRem.there | apply HRem.app)) (.cons (by repeat (first | exact .here | apply HRem.there | apply HRem.app)) .nil)) (by
        try dsimp only
        exact ⟨hlt, hI2.tab fun n _ => by rw [behindF_step, ← hat, show (tab m.spots.length at_)[i] = false by simpa using hc22]; simp⟩) (by
        try dsimp only
        omega)
    · skip
      refine WP.skip ?_
      refine WP.seq ?_
      refine WP.region ?_
      refine RP.faddr rfl rfl rfl ?_
      refine RP.load_box rfl rfl rfl rfl (by repeat (first | exact .here | apply HIn.there | apply HIn.app)) rfl ?_
      refine RP.move rfl rfl ?_
      first | refine RP.at_ rfl rfl rfl rfl rfl rfl (.arg hm.spots) (by first | assumption | omega) ?_ | refine RP.at_ rfl rfl rfl rfl rfl rfl (.arg hm.first) (by first | assumption | omega) ?_ | refine RP.at_ rfl rfl rfl rfl rfl rfl (.arg hm.follow) (by first | assumption | omega) ?_ | refine RP.at_ rfl rfl rfl rfl rfl rfl (.arg hm.last) (by first | assumption | omega) ?_ | refine RP.at_ rfl rfl rfl rfl rfl rfl (.arg hv) (by first | assumption | omega) ?_
      first | refine RP.load_el rfl rfl rfl rfl (.arg hm.spots) (by first | assumption | omega) rfl ?_ | refine RP.load_el rfl rfl rfl rfl (.arg hm.first) (by first | assumption | omega) rfl ?_ | refine RP.load_el rfl rfl rfl rfl (.arg hm.follow) (by first | assumption | omega) rfl ?_ | refine RP.load_el rfl rfl rfl rfl (.arg hm.last) (by first | assumption | omega) rfl ?_ | refine RP.load_el rfl rfl rfl rfl (.arg hv) (by first | assumption | omega) rfl ?_
      refine RP.len_sl rfl rfl (.arg hrow) rfl ?_
      refine RP.move rfl rfl ?_
      refine RP.nil ?_
      refine WP.block rfl ?_
      refine WP.loop (α := Nat × HE) (fun gh => [(2, .ptr (.own L2) 0), (5, v13), (14, vat), (15, .int .i64 ((tab m.spots.length at_).length : Int)), (16, .int .i64 (i : Int)), (27, fol[i].1), (28, .int .i64 (fol[i].2.length : Int)), (29, .int .i64 (gh.1 : Int))]) (fun gh => [(some L2, .cells (mv a b c d m).cells), gh.2]) (fun gh => gh.1 ≤ fol[i].2.length ∧ Lin 1 fB true v13 (tab m.spots.length fun n => behindF m at_ i n || memI (fol[i].2.take gh.1) n) gh.2) (fun gh => fol[i].2.length - gh.1) ?_ (0, pO) ⟨rfl, rfl, rfl, rfl, rfl, rfl, rfl, rfl, trivial⟩ (.cons (by repeat (first | exact .here | apply HRem.there | apply HRem.app)) (.cons (by repeat (first | exact .here | apply HRem.there | apply HRem.app)) .nil)) (by
        try dsimp only
        exact ⟨Nat.zero_le _, by rw [← memI_nil]; exact hI2⟩)
      rintro ⟨k, pI⟩ hI
      change k ≤ fol[i].2.length ∧ Lin 1 fB true v13 (tab m.spots.length fun n => behindF m at_ i n || memI (fol[i].2.take k) n) pI at hI
      change WP _ _ _ _ _ [(2, .ptr (.own L2) 0), (5, v13), (14, vat), (15, .int .i64 ((tab m.spots.length at_).length : Int)), (16, .int .i64 (i : Int)), (27, fol[i].1), (28, .int .i64 (fol[i].2.length : Int)), (29, .int .i64 (k : Int))] ([(some L2, .cells (mv a b c d m).cells), pI] : HL) _
      obtain ⟨hK1, hK2⟩ := hI
      refine WP.seq ?_
      refine WP.region ?_
      refine RP.lss rfl rfl rfl (fun h30 => ?_) (fun h30 => ?_)
      · skip
        have hltk : k < fol[i].2.length := by omega
        have hx := hg.range (n := i) (x := fol[i].2[k]) (by rw [hm.fol hlf]; exact List.getElem_mem hltk)
        have hlo2 : fol[i].2[k].toNat < (tab m.spots.length fun n => behindF m at_ i n || memI (fol[i].2.take k) n).length := by rw [tab_len]; exact hx.2
        refine RP.nil ?_
        refine WP.seq ?_
        refine WP.cond_t rfl ?_
        refine WP.skip ?_
        refine WP.seq ?_
        refine WP.block rfl ?_
        refine WP.seq ?_
        refine WP.region ?_
        refine RP.at_ rfl rfl rfl rfl rfl rfl (.arg hrow) (by first | assumption | omega) ?_
        refine RP.load_el rfl rfl rfl rfl (.arg hrow) (by first | assumption | omega) rfl ?_
        refine RP.assign rfl rfl ?_
        refine RP.nil ?_
        refine WP.region ?_
        refine RP.move rfl rfl ?_
        refine RP.move rfl rfl ?_
        refine RP.at_ rfl rfl rfl (natOf_is (n := fol[i].2[k].toNat) (by omega)) rfl rfl (.lin fB_len hK2 (by repeat (first | exact .here | apply HIn.there | apply HIn.app))) (by first | assumption | omega) ?_
        refine RP.store_el1 true rfl rfl rfl rfl hK2 (fun _ => (by repeat (first | exact .here | apply HUpd.there | apply HUpd.app))) fB_len (by first | assumption | omega) (by omega) rfl hlo ?_
        intro pI2 hI2'
        refine RP.nil ?_
        refine WP.region ?_
        refine RP.add rfl rfl rfl (by omega) (by omega) ?_
        refine RP.move rfl rfl ?_
        refine RP.nil ?_
        refine roundQ.mk (Q := fun _ _ _ => True) (k + 1, pI2) ⟨rfl, rfl, rfl, rfl, rfl, rfl, rfl, rfl, trivial⟩ (.cons (by repeat (first | exact .here | apply HRem.there | apply HRem.app)) (.cons (by repeat (first | exact .here | apply HRem.there | apply HRem.app)) .nil)) (by
          try dsimp only
          exact ⟨hltk, by rw [memI_step hltk hx.1] at hI2'; exact hI2'⟩) (by
          try dsimp only
          omega)
      · skip
        refine RP.nil ?_
        refine WP.seq ?_
        refine WP.cond_f rfl ?_
        refine WP.exit ?_
        refine WP.region ?_
        refine RP.add rfl rfl rfl (by omega) (by omega) ?_
        refine RP.move rfl rfl ?_
        refine RP.nil ?_
        refine roundQ.mk (Q := fun _ _ _ => True) (i + 1, pI) ⟨rfl, rfl, rfl, rfl, rfl, trivial⟩ (.cons (by repeat (first | exact .here | apply HRem.there | apply HRem.app)) (.cons (by repeat (first | exact .here | apply HRem.there | apply HRem.app)) .nil)) (by
          try dsimp only
          exact ⟨hlt, hK2.tab fun n _ => by rw [List.take_of_length_le (by omega), behindF_step, ← hat, show (tab m.spots.length at_)[i] = true by simpa using hc22, hm.fol hlf]; simp⟩) (by
          try dsimp only
          omega)
  · skip
    refine RP.nil ?_
    refine WP.seq ?_
    refine WP.cond_f rfl ?_
    refine WP.exit ?_
    refine WP.seq ?_
    refine WP.region ?_
    refine RP.move rfl rfl ?_
    refine RP.assign rfl rfl ?_
    refine RP.nil ?_
    refine WP.ret ?_
    exact End.one (Or.inr rfl) rfl (.tmp rfl) (.cons (by repeat (first | exact .here | apply HRem.there | apply HRem.app)) .nil) ⟨pO, rfl, by rw [show i = m.spots.length by omega] at hI2; exact hI2⟩

theorem nrun_ok (hlo : lo ≤ st.nxt) (hm : MA (EE bm) st a b c d m fol) (h0 : Small60 m fol) (hok : ∀ s ∈ m.spots, SpotOk s) {w : ByteArray} (hw : w.size ≤ 1000000) :
    Fin (EE bm) lo 20 [mv a b c d m, .str w] st (fun v H => (¬ GoodM m ∧ v = .bool false ∧ H = []) ∨ (GoodM m ∧ v = .bool (takesF m w.data.toList) ∧ H = [])) := by
  obtain ⟨h01, h02, h03, h04, h05⟩ := h0
  have hfl := hm.len
  have hwl : w.data.toList.length = w.size := Array.length_toList
  refine Fin.of_body (fn := Try.f20) (c := Try.f20.body.getD .skip) rfl rfl rfl rfl ?_
  refine WP.seq ?_
  refine WP.region ?_
  refine RP.box rfl rfl hm.sc (fun L2 => ?_)
  refine RP.assign rfl rfl ?_
  refine RP.nil ?_
  refine WP.seq ?_
  refine WP.seq ?_
  refine WP.region ?_
  refine RP.load_boxN rfl rfl rfl rfl rfl (by repeat (first | exact .here | apply HIn.there | apply HIn.app)) rfl ?_
  refine RP.call rfl rfl rfl hlo (fun st' lo' hi' hl' => right_ok hl' (hm.inv hi') (by omega) (fun j hj => by have := h05 j hj; omega)) ?_
  rintro _ _ (⟨hgd, rfl, rfl⟩ | ⟨hng, rfl, rfl⟩)
  · skip
    have hgf := hgd.flen
    have hgl := hgd.llen
    have htl : ∀ f : Nat → Bool, (tab m.spots.length f).length = m.spots.length := fun _ => tab_len
    refine RP.un rfl rfl rfl ?_
    refine RP.nil ?_
    refine WP.cond_f rfl ?_
    refine WP.skip ?_
    refine WP.seq ?_
    refine WP.seq ?_
    refine WP.region ?_
    refine RP.move rfl rfl ?_
    refine RP.eqs rfl rfl rfl ?_
    refine RP.nil ?_
    refine WP.cond_b rfl (fun hc13 => ?_) (fun hc13 => ?_)
    · skip
      refine WP.seq ?_
      refine WP.region ?_
      refine RP.faddr rfl rfl rfl ?_
      refine RP.load_box rfl rfl rfl rfl (by repeat (first | exact .here | apply HIn.there | apply HIn.app)) rfl ?_
      refine RP.assign rfl rfl ?_
      refine RP.nil ?_
      refine WP.ret ?_
      exact End.one (Or.inr rfl) rfl (.tmp rfl) .nil (Or.inr ⟨hgd, by rw [show w.data.toList = [] by simpa using hc13]; rfl, rfl⟩)
    · skip
      have hne : w.data.toList ≠ [] := fun h => by rw [h] at hc13; exact absurd hc13 (by decide)
      have hl0 : 0 < w.data.toList.length := List.length_pos_iff.2 hne
      have hstart : takesF m w.data.toList = anyAt m.spots.length (fun n => memI m.first n && inSpot m w.data.toList[0] n) (goW m (w.data.toList.drop 1)) := by
        have h1 := List.drop_eq_getElem_cons hl0
        rw [List.drop_zero] at h1
        have h2 := takes_start hgd (c := w.data.toList[0]) (r := w.data.toList.drop (0 + 1))
        rw [← h1] at h2; exact h2
      refine WP.skip ?_
      refine WP.seq ?_
      refine WP.drawn (by kernel_rfl) ?_
      refine RP.load_boxN rfl rfl rfl rfl rfl (by repeat (first | exact .here | apply HIn.there | apply HIn.app)) rfl ?_
      refine RP.load_boxN rfl rfl rfl rfl rfl (by repeat (first | exact .here | apply HIn.there | apply HIn.app)) rfl ?_
      refine RP.faddr rfl rfl rfl ?_
      refine RP.load_box rfl rfl rfl rfl (by repeat (first | exact .here | apply HIn.there | apply HIn.app)) rfl ?_
      refine RP.call rfl rfl rfl hlo (fun st' lo' hi' hl' => marked_ok hl' (hm.inv hi') (by omega) (hm.first.inv hi') (by omega) (fun x hx => hgd.start hx)) ?_
      rintro v20 _ ⟨p20, rfl, hl20⟩
      refine RP.move rfl rfl ?_
      refine RP.idx_str rfl rfl rfl rfl rfl (List.getElem?_eq_getElem (by first | assumption | omega)) ?_
      refine RP.call rfl rfl rfl hlo (fun st' lo' hi' hl' => into_ok hl' (hm.inv hi') hok (by omega) (SlH.lin fB_len hl20 (by repeat (first | exact .here | apply HIn.there | apply HIn.app)) _ hi')) ?_
      rintro v23 _ ⟨p23, rfl, hl23⟩
      refine RP.assign rfl rfl ?_
      refine RP.nil ?_
      refine WP.seq ?_
      refine WP.seq ?_
      refine WP.region ?_
      refine RP.assign rfl rfl ?_
      refine RP.nil ?_
      refine WP.block rfl ?_
      refine WP.loop (α := Nat × LV × HE × (Nat → Bool)) (fun gh => [(1, .str w), (2, .ptr (.own L2) 0), (5, gh.2.1), (6, .int .i64 (gh.1 : Int))]) (fun gh => [(some L2, .cells (mv a b c d m).cells), gh.2.2.1]) (fun gh => 1 ≤ gh.1 ∧ gh.1 ≤ w.size ∧ Lin 1 fB true gh.2.1 (tab m.spots.length gh.2.2.2) gh.2.2.1 ∧ takesF m w.data.toList = anyAt m.spots.length gh.2.2.2 (goW m (w.data.toList.drop gh.1))) (fun gh => w.size - gh.1) ?_ (1, v23, p23, fun n => memI m.first n && inSpot m w.data.toList[0] n) ⟨rfl, rfl, rfl, rfl, trivial⟩ (.cons (by repeat (first | exact .here | apply HRem.there | apply HRem.app)) (.cons (by repeat (first | exact .here | apply HRem.there | apply HRem.app)) .nil)) (by
        try dsimp only
        exact ⟨Nat.le_refl _, by omega, hl23, hstart⟩)
      rintro ⟨i, va, pa, at_⟩ hI
      change 1 ≤ i ∧ i ≤ w.size ∧ Lin 1 fB true va (tab m.spots.length at_) pa ∧ takesF m w.data.toList = anyAt m.spots.length at_ (goW m (w.data.toList.drop i)) at hI
      change WP _ _ _ _ _ [(1, .str w), (2, .ptr (.own L2) 0), (5, va), (6, .int .i64 (i : Int))] ([(some L2, .cells (mv a b c d m).cells), pa] : HL) _
      obtain ⟨hI0, hI1, hI2, hI3⟩ := hI
      refine WP.seq ?_
      refine WP.seq ?_
      refine WP.region ?_
      refine RP.move rfl rfl ?_
      refine RP.move rfl rfl ?_
      refine RP.len_v rfl rfl (fun _ => rfl) ?_
      refine RP.lss rfl rfl rfl (fun h27 => ?_) (fun h27 => ?_)
      · skip
        have hlw : i < w.data.toList.length := by omega
        refine RP.nil ?_
        refine WP.cond_t rfl ?_
        refine WP.skip ?_
        refine WP.seq ?_
        refine WP.block rfl ?_
        refine WP.drawn (by kernel_rfl) ?_
        refine RP.load_boxN rfl rfl rfl rfl rfl (by repeat (first | exact .here | apply HIn.there | apply HIn.app)) rfl ?_
        refine RP.load_boxN rfl rfl rfl rfl rfl (by repeat (first | exact .here | apply HIn.there | apply HIn.app)) rfl ?_
        refine RP.move rfl rfl ?_
        refine RP.call rfl rfl rfl hlo (fun st' lo' hi' hl' => behind_ok hl' (hm.inv hi') hgd (by omega) (fun j hj => by have := h05 j hj; omega) (SlH.lin fB_len hI2 (by repeat (first | exact .here | apply HIn.there | apply HIn.app)) _ hi')) ?_
        rintro v33 _ ⟨p33, rfl, hl33⟩
        refine RP.move rfl rfl ?_
        refine RP.move rfl rfl ?_
        refine RP.idx_str rfl rfl rfl rfl rfl (List.getElem?_eq_getElem (by first | assumption | omega)) ?_
        refine RP.call rfl rfl rfl hlo (fun st' lo' hi' hl' => into_ok hl' (hm.inv hi') hok (by omega) (SlH.lin fB_len hl33 (by repeat (first | exact .here | apply HIn.there | apply HIn.app)) _ hi')) ?_
        rintro v37 _ ⟨p37, rfl, hl37⟩
        refine RP.assign rfl rfl ?_
        refine RP.nil ?_
        refine WP.region ?_
        refine RP.move rfl rfl ?_
        refine RP.add rfl rfl rfl (by omega) (by omega) ?_
        refine RP.assign rfl rfl ?_
        refine RP.nil ?_
        refine roundQ.mk (Q := fun _ _ _ => True) (i + 1, v37, p37, fun n => behindF m at_ m.spots.length n && inSpot m w.data.toList[i] n) ⟨rfl, rfl, rfl, rfl, trivial⟩ (.cons (by repeat (first | exact .here | apply HRem.there | apply HRem.app)) (.cons (by repeat (first | exact .here | apply HRem.there | apply HRem.app)) .nil)) (by
          try dsimp only
          exact ⟨by omega, by omega, hl37, by rw [hI3, List.drop_eq_getElem_cons hlw, anyAt_step fun n _ x hx => hgd.range hx]⟩) (by
          try dsimp only
          omega)
      · skip
        refine RP.nil ?_
        refine WP.cond_f rfl ?_
        refine WP.exit ?_
        refine WP.seq ?_
        refine WP.seq ?_
        refine WP.region ?_
        refine RP.move rfl rfl ?_
        refine RP.len_sl rfl rfl (.lin fB_len hI2 (by repeat (first | exact .here | apply HIn.there | apply HIn.app))) rfl ?_
        refine RP.move rfl rfl ?_
        refine RP.nil ?_
        refine WP.block rfl ?_
        refine WP.loop (α := Nat) (fun gh => [(2, .ptr (.own L2) 0), (38, va), (39, .int .i64 ((tab m.spots.length at_).length : Int)), (40, .int .i64 (gh : Int))]) (fun gh => [(some L2, .cells (mv a b c d m).cells), pa]) (fun gh => gh ≤ m.spots.length ∧ ∀ j, j < gh → (at_ j && (m.last[j]?).getD false) = false) (fun gh => m.spots.length - gh) ?_ 0 ⟨rfl, rfl, rfl, rfl, trivial⟩ (.cons (by repeat (first | exact .here | apply HRem.there | apply HRem.app)) (.cons (by repeat (first | exact .here | apply HRem.there | apply HRem.app)) .nil)) (by
          try dsimp only
          exact ⟨Nat.zero_le _, fun _ h => absurd h (Nat.not_lt_zero _)⟩)
        rintro k hI
        change k ≤ m.spots.length ∧ ∀ j, j < k → (at_ j && (m.last[j]?).getD false) = false at hI
        change WP _ _ _ _ _ [(2, .ptr (.own L2) 0), (38, va), (39, .int .i64 ((tab m.spots.length at_).length : Int)), (40, .int .i64 (k : Int))] ([(some L2, .cells (mv a b c d m).cells), pa] : HL) _
        obtain ⟨hK1, hK2⟩ := hI
        refine WP.seq ?_
        refine WP.region ?_
        refine RP.lss rfl rfl rfl (fun h41 => ?_) (fun h41 => ?_)
        · skip
          have hlk : k < m.spots.length := by have := htl at_; omega
          have hll : k < m.last.length := by omega
          have hlt2 : k < (tab m.spots.length at_).length := by have := htl at_; omega
          have hat : (tab m.spots.length at_)[k] = at_ k := tab_at hlt2
          refine RP.nil ?_
          refine WP.seq ?_
          refine WP.cond_t rfl ?_
          refine WP.skip ?_
          refine WP.seq ?_
          refine WP.block rfl ?_
          refine WP.seq ?_
          refine WP.region ?_
          refine RP.move rfl rfl ?_
          refine RP.at_ rfl rfl rfl rfl rfl rfl (.lin fB_len hI2 (by repeat (first | exact .here | apply HIn.there | apply HIn.app))) (by first | assumption | omega) ?_
          refine RP.load_el rfl rfl rfl rfl (.lin fB_len hI2 (by repeat (first | exact .here | apply HIn.there | apply HIn.app))) (by first | assumption | omega) rfl ?_
          refine RP.assign rfl rfl ?_
          refine RP.assign rfl rfl ?_
          refine RP.nil ?_
          refine WP.seq ?_
          refine WP.region ?_
          refine RP.move rfl rfl ?_
          refine RP.move rfl rfl ?_
          refine RP.cases (d := 46) rfl (fun hg46 => ?_) (fun hg46 => ?_)
          · skip
            refine RP.gtrue rfl ?_
            refine RP.faddr rfl rfl rfl ?_
            refine RP.gtrue rfl ?_
            refine RP.load_box rfl rfl rfl rfl (by repeat (first | exact .here | apply HIn.there | apply HIn.app)) rfl ?_
            refine RP.gtrue rfl ?_
            refine RP.move rfl rfl ?_
            refine RP.gtrue rfl ?_
            first | refine RP.at_ rfl rfl rfl rfl rfl rfl (.arg hm.spots) (by first | assumption | omega) ?_ | refine RP.at_ rfl rfl rfl rfl rfl rfl (.arg hm.first) (by first | assumption | omega) ?_ | refine RP.at_ rfl rfl rfl rfl rfl rfl (.arg hm.follow) (by first | assumption | omega) ?_ | refine RP.at_ rfl rfl rfl rfl rfl rfl (.arg hm.last) (by first | assumption | omega) ?_
            refine RP.gtrue rfl ?_
            first | refine RP.load_el rfl rfl rfl rfl (.arg hm.spots) (by first | assumption | omega) rfl ?_ | refine RP.load_el rfl rfl rfl rfl (.arg hm.first) (by first | assumption | omega) rfl ?_ | refine RP.load_el rfl rfl rfl rfl (.arg hm.follow) (by first | assumption | omega) rfl ?_ | refine RP.load_el rfl rfl rfl rfl (.arg hm.last) (by first | assumption | omega) rfl ?_
            refine RP.pick_ rfl rfl rfl ?_
            refine RP.nil ?_
            refine WP.cond_b rfl (fun hc52 => ?_) (fun hc52 => ?_)
            · skip
              refine WP.seq ?_
              refine WP.region ?_
              refine RP.assign rfl rfl ?_
              refine RP.nil ?_
              refine WP.ret ?_
              exact End.one (Or.inr rfl) rfl (.tmp rfl) .nil (Or.inr ⟨hgd, by rw [hI3, List.drop_of_length_le (by omega)]; rw [anyAt_iff.2 ⟨k, hlk, by rw [hat] at hg46; exact hg46, by show (m.last[k]?).getD false = true; rw [List.getElem?_eq_getElem hll]; exact hc52⟩], rfl⟩)
            · skip
              refine WP.skip ?_
              refine WP.region ?_
              refine RP.add rfl rfl rfl (by omega) (by omega) ?_
              refine RP.move rfl rfl ?_
              refine RP.nil ?_
              refine roundQ.mk (Q := fun _ _ _ => True) (k + 1) ⟨rfl, rfl, rfl, rfl, trivial⟩ (.cons (by repeat (first | exact .here | apply HRem.there | apply HRem.app)) (.cons (by repeat (first | exact .here | apply HRem.there | apply HRem.app)) .nil)) (by
                try dsimp only
                exact ⟨hlk, fun j hj => if e : j = k then by subst e; exact (by rw [hat] at hg46; rw [hg46, List.getElem?_eq_getElem hll]; simpa using hc52) else hK2 j (by omega)⟩) (by
                try dsimp only
                omega)
          · skip
            refine RP.gfalse rfl rfl ?_
            refine RP.gfalse rfl rfl ?_
            refine RP.gfalse rfl rfl ?_
            refine RP.gfalse rfl rfl ?_
            refine RP.gfalse rfl rfl ?_
            refine RP.pick_ rfl rfl rfl ?_
            refine RP.nil ?_
            refine WP.cond_f rfl ?_
            refine WP.skip ?_
            refine WP.region ?_
            refine RP.add rfl rfl rfl (by omega) (by omega) ?_
            refine RP.move rfl rfl ?_
            refine RP.nil ?_
            refine roundQ.mk (Q := fun _ _ _ => True) (k + 1) ⟨rfl, rfl, rfl, rfl, trivial⟩ (.cons (by repeat (first | exact .here | apply HRem.there | apply HRem.app)) (.cons (by repeat (first | exact .here | apply HRem.there | apply HRem.app)) .nil)) (by
              try dsimp only
              exact ⟨hlk, fun j hj => if e : j = k then by subst e; exact (by rw [hat] at hg46; rw [hg46]; rfl) else hK2 j (by omega)⟩) (by
              try dsimp only
              omega)
        · skip
          have := htl at_
          refine RP.nil ?_
          refine WP.seq ?_
          refine WP.cond_f rfl ?_
          refine WP.exit ?_
          refine WP.seq ?_
          refine WP.region ?_
          refine RP.assign rfl rfl ?_
          refine RP.nil ?_
          refine WP.ret ?_
          exact End.one (Or.inr rfl) rfl (.tmp rfl) .nil (Or.inr ⟨hgd, by rw [hI3, List.drop_of_length_le (by omega)]; rw [show anyAt m.spots.length at_ (goW m []) = false from Bool.eq_false_iff.2 fun h => by obtain ⟨j, hj, h1, h2⟩ := anyAt_iff.1 h; have h3 := hK2 j (by have := htl at_; omega); change (m.last[j]?).getD false = true at h2; rw [h1, h2] at h3; cases h3], rfl⟩)
  · skip
    refine RP.un rfl rfl rfl ?_
    refine RP.nil ?_
    refine WP.cond_t rfl ?_
    refine WP.seq ?_
    refine WP.region ?_
    refine RP.assign rfl rfl ?_
    refine RP.nil ?_
    refine WP.ret ?_
    exact End.one (Or.inr rfl) rfl (.tmp rfl) .nil (Or.inl ⟨hng, rfl, rfl⟩)
end
end Go.Proofs.Ytpkeggejofeeeaa
