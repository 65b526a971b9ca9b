/- Laws of the small machine, of how it stands to the model, and of what functions come to on it; a helper of the statement: no statement is proved here. -/
import Derived.Test.YteiabdbkeanldaaJ
set_option linter.unusedVariables false
namespace Go.Proofs.Yteiabdbkeanldaa
open Go.Proofs.Yteiabdbkeanldaa.Lvm Go

section
variable {bm : Nat → Nat → Option LV} {st : LSt} {lo : Nat} {a b c d : LV} {m : Mach} {fol : List (LV × List Int)}

theorem indexFunc_ok (hlo : lo ≤ st.nxt) {v : LV} {xs : List Int} {g : FuncId} {cap : List LV} (p : Int → Bool) (hv : SlT (EE bm) st v 1 fI xs) (hn : xs.length ≤ 1000000) (hf : ∀ st' lo', Inv st [] st' → lo' ≤ st'.nxt → ∀ x ∈ xs, Fin (EE bm) lo' g ([.int .i64 x] ++ cap) st' (fun r H => r = .bool (p x) ∧ H = [])) :
    Fin (EE bm) lo 33 [v, .fn g [] cap] st (fun r H => ∃ k, r = .int .i64 k ∧ IdxSpec p xs k ∧ H = []) := by
  refine Fin.of_body (fn := Try.f33) (c := Try.f33.body.getD .skip) rfl rfl rfl rfl ?_
  refine WP.seq ?_
  refine WP.region ?_
  refine RP.assign rfl rfl ?_
  refine RP.nil ?_
  refine WP.seq ?_
  refine WP.seq ?_
  refine WP.region ?_
  refine RP.move rfl rfl ?_
  refine RP.len_sl rfl rfl (.arg hv) rfl ?_
  refine RP.move rfl rfl ?_
  refine RP.nil ?_
  refine WP.block rfl ?_
  refine WP.loop (α := Nat) (fun gh => [(0, v), (1, .fn g [] cap), (7, .int .i64 (xs.length : Int)), (8, .int .i64 (gh : Int))]) (fun gh => []) (fun gh => gh ≤ xs.length ∧ ∀ (j : Nat) (h : j < xs.length), j < gh → p xs[j] = false) (fun gh => xs.length - gh) ?_ 0 ⟨rfl, rfl, rfl, rfl, trivial⟩ .nil (by
    try dsimp only
    exact ⟨Nat.zero_le _, fun _ _ h => absurd h (Nat.not_lt_zero _)⟩)
  rintro i hI
  change i ≤ xs.length ∧ ∀ (j : Nat) (h : j < xs.length), j < i → p xs[j] = false at hI
  change WP _ _ _ _ _ [(0, v), (1, .fn g [] cap), (7, .int .i64 (xs.length : Int)), (8, .int .i64 (i : Int))] ([] : HL) _
  obtain ⟨hI1, hI2⟩ := hI
  refine WP.seq ?_
  refine WP.region ?_
  refine RP.lss rfl rfl rfl (fun h9 => ?_) (fun h9 => ?_)
  · skip
    have hlt : i < xs.length := by omega
    refine RP.nil ?_
    refine WP.seq ?_
    refine WP.cond_t rfl ?_
    refine WP.skip ?_
    refine WP.seq ?_
    refine WP.block rfl ?_
    refine WP.seq ?_
    refine WP.region ?_
    refine RP.move rfl rfl ?_
    refine RP.assign rfl rfl ?_
    refine RP.nil ?_
    refine WP.seq ?_
    refine WP.region ?_
    refine RP.move rfl rfl ?_
    refine RP.move rfl rfl ?_
    refine RP.move rfl rfl ?_
    refine RP.at_ rfl rfl rfl rfl rfl rfl (.arg hv) (by first | assumption | omega) ?_
    refine RP.load_el rfl rfl rfl rfl (.arg hv) (by first | assumption | omega) rfl ?_
    refine RP.call rfl rfl rfl hlo (fun st' lo' hi' hl' => hf _ _ (hi'.pick .nil) hl' _ (List.getElem_mem hlt)) ?_
    rintro _ _ ⟨rfl, rfl⟩
    refine RP.nil ?_
    refine WP.cond_b rfl (fun hc16 => ?_) (fun hc16 => ?_)
    · skip
      refine WP.seq ?_
      refine WP.region ?_
      refine RP.move rfl rfl ?_
      refine RP.assign rfl rfl ?_
      refine RP.nil ?_
      refine WP.ret ?_
      exact End.one (Or.inr rfl) rfl (.tmp rfl) .nil ⟨_, rfl, .yes hlt hc16 hI2, rfl⟩
    · skip
      refine WP.skip ?_
      refine WP.region ?_
      refine RP.add rfl rfl rfl (by omega) (by omega) ?_
      refine RP.move rfl rfl ?_
      refine RP.nil ?_
      refine roundQ.mk (Q := fun _ _ _ => True) (i + 1) ⟨rfl, rfl, rfl, rfl, trivial⟩ .nil (by
        try dsimp only
        exact ⟨hlt, fun j hj hji => if e : j = i then by subst e; exact hc16 else hI2 j hj (by omega)⟩) (by
        try dsimp only
        omega)
  · skip
    refine RP.nil ?_
    refine WP.seq ?_
    refine WP.cond_f rfl ?_
    refine WP.exit ?_
    refine WP.seq ?_
    refine WP.region ?_
    refine RP.assign rfl rfl ?_
    refine RP.nil ?_
    refine WP.ret ?_
    exact End.one (Or.inr rfl) rfl (.tmp rfl) .nil ⟨_, rfl, .no h9 hI2, rfl⟩
theorem containsFunc_ok (hlo : lo ≤ st.nxt) {v : LV} {xs : List Int} {g : FuncId} {cap : List LV} (p : Int → Bool) (hv : SlT (EE bm) st v 1 fI xs) (hn : xs.length ≤ 1000000) (hf : ∀ st' lo', Inv st [] st' → lo' ≤ st'.nxt → ∀ x ∈ xs, Fin (EE bm) lo' g ([.int .i64 x] ++ cap) st' (fun r H => r = .bool (p x) ∧ H = [])) :
    Fin (EE bm) lo 28 [v, .fn g [] cap] st (fun r H => r = .bool (xs.any p) ∧ H = []) := by
  refine Fin.of_body (fn := Try.f28) (c := Try.f28.body.getD .skip) rfl rfl rfl rfl ?_
  refine WP.seq ?_
  refine WP.region ?_
  refine RP.assign rfl rfl ?_
  refine RP.nil ?_
  refine WP.seq ?_
  refine WP.region ?_
  refine RP.move rfl rfl ?_
  refine RP.move rfl rfl ?_
  refine RP.call rfl rfl rfl hlo (fun st' lo' hi' hl' => indexFunc_ok hl' p (hv.inv hi') hn (fun st2 lo2 hi2 hl2 x hx => hf st2 lo2 ((hi'.on hi2).pick .nil) hl2 x hx)) ?_
  rintro _ _ ⟨k, rfl, hk, rfl⟩
  refine RP.geq rfl rfl rfl (fun h8 => ?_) (fun h8 => ?_)
  · skip
    refine RP.assign rfl rfl ?_
    refine RP.nil ?_
    refine WP.ret ?_
    exact End.one (Or.inr rfl) rfl (.tmp rfl) .nil ⟨by rw [hk.any, decide_eq_true (by omega)], rfl⟩
  · skip
    refine RP.assign rfl rfl ?_
    refine RP.nil ?_
    refine WP.ret ?_
    exact End.one (Or.inr rfl) rfl (.tmp rfl) .nil ⟨by rw [hk.any, decide_eq_false (by omega)], rfl⟩
theorem usefulC_ok (hlo : lo ≤ st.nxt) {L : Nat} {v : LV} {out : List Bool} (hL : Old st L [v]) (hv : SlT (EE bm) st v 1 fB out) {x : Int} (hx0 : 0 ≤ x) (hx : x.toNat < out.length) :
    Fin (EE bm) lo 29 ([.int .i64 x] ++ [.ptr (.own L) 0]) st (fun r H => r = .bool out[x.toNat] ∧ H = []) := by
  refine Fin.of_body (fn := Try.f29) (c := Try.f29.body.getD .skip) rfl rfl rfl rfl ?_
  refine WP.seq ?_
  refine WP.region ?_
  refine RP.assign rfl rfl ?_
  refine RP.nil ?_
  refine WP.seq ?_
  refine WP.region ?_
  refine RP.load_old rfl rfl rfl rfl hL rfl ?_
  refine RP.move rfl rfl ?_
  refine RP.at_ rfl rfl rfl (natOf_is (n := x.toNat) (by omega)) rfl rfl (.arg hv) (by first | assumption | omega) ?_
  refine RP.load_el rfl rfl rfl rfl (.arg hv) (by first | assumption | omega) rfl ?_
  refine RP.assign rfl rfl ?_
  refine RP.nil ?_
  refine WP.ret ?_
  exact End.one (Or.inr rfl) rfl (.tmp rfl) .nil ⟨rfl, rfl⟩
theorem useful_ok (hlo : lo ≤ st.nxt) (hm : MA (EE bm) st a b c d m fol) (h0 : Small60 m fol) (hg : GoodM m) : Fin (EE bm) lo 18 [mv a b c d m] st (fun v H => ∃ p out, H = [p] ∧ Lin 1 fB true v out p ∧ out.length = m.spots.length ∧ ∀ i : Nat, out[i]? = some true ↔ UsefulM m i) := by
  have h0' := h0
  obtain ⟨h01, h02, h03, h04, h05⟩ := h0
  have hfl := hm.len
  have hgf := hg.flen
  have hgl := hg.llen
  refine Fin.of_body (fn := Try.f18) (c := Try.f18.body.getD .skip) rfl rfl rfl rfl ?_
  refine WP.seq ?_
  refine WP.region ?_
  refine RP.box rfl rfl hm.sc (fun L1 => ?_)
  refine RP.assign rfl rfl ?_
  refine RP.nil ?_
  refine WP.seq ?_
  refine WP.region ?_
  refine RP.load_boxN rfl rfl rfl rfl rfl (by repeat (first | exact .here | apply HIn.there | apply HIn.app)) rfl ?_
  refine RP.call rfl rfl rfl hlo (fun st' lo' hi' hl' => reached_ok hl' (hm.inv hi') h0' hg) ?_
  rintro vc _ ⟨pc, come, rfl, hc1, hc2, hc3⟩
  refine RP.assign rfl rfl ?_
  refine RP.nil ?_
  refine WP.seq ?_
  refine WP.region ?_
  refine RP.faddr rfl rfl rfl ?_
  refine RP.load_box rfl rfl rfl rfl (by repeat (first | exact .here | apply HIn.there | apply HIn.app)) rfl ?_
  first | refine RP.len_sl rfl rfl (.arg hm.spots) rfl ?_ | refine RP.len_sl rfl rfl (.arg hm.first) rfl ?_ | refine RP.len_sl rfl rfl (.arg hm.follow) rfl ?_ | refine RP.len_sl rfl rfl (.arg hm.last) rfl ?_
  refine RP.make false rfl rfl rfl rfl rfl rfl rfl rfl rfl rfl rfl fB_len (Nat.le_refl _) (by omega) ?_
  rw [Nat.beq_refl]
  intro v12 p12 hl12
  refine RP.alloc rfl rfl rfl (fun L4 => ?_)
  refine RP.store_box1 rfl rfl hl12.scalar rfl rfl hlo (by repeat (first | exact .here | apply HUpd.there | apply HUpd.app)) ?_
  refine RP.nil ?_
  refine WP.seq ?_
  refine WP.seq ?_
  refine WP.region ?_
  refine RP.assign rfl rfl ?_
  refine RP.nil ?_
  refine WP.block rfl ?_
  refine WP.loop (α := Bool × List Bool × HE) (fun gh => [(1, .ptr (.own L1) 0), (3, vc), (4, .ptr (.own L4) 0), (5, .bool gh.1)]) (fun gh => [(some L1, .cells (mv a b c d m).cells), (some L4, .cells [v12]), pc, gh.2.2]) (fun gh => gh.2.1.length = m.spots.length ∧ Lin 1 fB true v12 gh.2.1 gh.2.2 ∧ UInv m gh.2.1 ∧ (gh.1 = false → UEnd m gh.2.1 m.spots.length)) (fun gh => 2 * gh.2.1.count false + (if gh.1 then 1 else 0)) ?_ (true, List.replicate m.spots.length false, p12) ⟨rfl, rfl, rfl, rfl, trivial⟩ (.cons (by repeat (first | exact .here | apply HRem.there | apply HRem.app)) (.cons (by repeat (first | exact .here | apply HRem.there | apply HRem.app)) (.cons (by repeat (first | exact .here | apply HRem.there | apply HRem.app)) (.cons (by repeat (first | exact .here | apply HRem.there | apply HRem.app)) .nil)))) (by
    try dsimp only
    exact ⟨List.length_replicate, by simpa using hl12, .init, fun h => by cases h⟩)
  rintro ⟨more, out, pO⟩ hI
  change out.length = m.spots.length ∧ Lin 1 fB true v12 out pO ∧ UInv m out ∧ (more = false → UEnd m out m.spots.length) at hI
  change WP _ _ _ _ _ [(1, .ptr (.own L1) 0), (3, vc), (4, .ptr (.own L4) 0), (5, .bool more)] ([(some L1, .cells (mv a b c d m).cells), (some L4, .cells [v12]), pc, pO] : HL) _
  obtain ⟨hI1, hI2, hI3, hI4⟩ := hI
  refine WP.seq ?_
  refine WP.seq ?_
  refine WP.region ?_
  refine RP.move rfl rfl ?_
  refine RP.nil ?_
  refine WP.cond_b rfl (fun hc13 => ?_) (fun hc13 => ?_)
  · skip
    refine WP.skip ?_
    refine WP.block rfl ?_
    refine WP.seq ?_
    refine WP.region ?_
    refine RP.assign rfl rfl ?_
    refine RP.nil ?_
    refine WP.seq ?_
    refine WP.region ?_
    refine RP.load_box rfl rfl rfl rfl (by repeat (first | exact .here | apply HIn.there | apply HIn.app)) rfl ?_
    refine RP.len_sl rfl rfl (.lin fB_len hI2 (by repeat (first | exact .here | apply HIn.there | apply HIn.app))) rfl ?_
    refine RP.move rfl rfl ?_
    refine RP.nil ?_
    refine WP.block rfl ?_
    refine WP.loop (α := Bool × List Bool × HE × Nat) (fun gh => [(1, .ptr (.own L1) 0), (3, vc), (4, .ptr (.own L4) 0), (5, .bool gh.1), (15, .int .i64 (out.length : Int)), (16, .int .i64 (gh.2.2.2 : Int))]) (fun gh => [(some L1, .cells (mv a b c d m).cells), (some L4, .cells [v12]), pc, gh.2.2.1]) (fun gh => gh.2.2.2 ≤ m.spots.length ∧ gh.2.1.length = m.spots.length ∧ Lin 1 fB true v12 gh.2.1 gh.2.2.1 ∧ UInv m gh.2.1 ∧ (gh.1 = false → gh.2.1 = out ∧ UEnd m gh.2.1 gh.2.2.2) ∧ (gh.1 = true → gh.2.1.count false < out.count false)) (fun gh => m.spots.length - gh.2.2.2) ?_ (false, out, pO, 0) ⟨rfl, rfl, rfl, rfl, rfl, rfl, trivial⟩ (.cons (by repeat (first | exact .here | apply HRem.there | apply HRem.app)) (.cons (by repeat (first | exact .here | apply HRem.there | apply HRem.app)) (.cons (by repeat (first | exact .here | apply HRem.there | apply HRem.app)) (.cons (by repeat (first | exact .here | apply HRem.there | apply HRem.app)) .nil)))) (by
      try dsimp only
      exact ⟨Nat.zero_le _, hI1, hI2, hI3, fun _ => ⟨rfl, .zero⟩, fun h => by cases h⟩)
    rintro ⟨more2, out2, pO2, i⟩ hI
    change i ≤ m.spots.length ∧ out2.length = m.spots.length ∧ Lin 1 fB true v12 out2 pO2 ∧ UInv m out2 ∧ (more2 = false → out2 = out ∧ UEnd m out2 i) ∧ (more2 = true → out2.count false < out.count false) at hI
    change WP _ _ _ _ _ [(1, .ptr (.own L1) 0), (3, vc), (4, .ptr (.own L4) 0), (5, .bool more2), (15, .int .i64 (out.length : Int)), (16, .int .i64 (i : Int))] ([(some L1, .cells (mv a b c d m).cells), (some L4, .cells [v12]), pc, pO2] : HL) _
    obtain ⟨hJ1, hJ2, hJ3, hJ4, hJ5, hJ6⟩ := hI
    refine WP.seq ?_
    refine WP.region ?_
    refine RP.lss rfl rfl rfl (fun h17 => ?_) (fun h17 => ?_)
    · skip
      have hlt : i < m.spots.length := by omega
      have hlf : i < fol.length := by omega
      have hll : i < m.last.length := by omega
      have hrow := hm.row hlf
      have hrl := h05 i hlf
      have hci : i < come.length := by omega
      have hrng : ∀ x ∈ fol[i].2, 0 ≤ x ∧ x.toNat < out2.length := fun y hy => by have h1 := hg.rows i (by omega); simp only [hm.same, List.getElem_map] at h1; have := risingF_mem h1 y hy; omega
      refine RP.nil ?_
      refine WP.seq ?_
      refine WP.cond_t rfl ?_
      refine WP.skip ?_
      refine WP.seq ?_
      refine WP.block rfl ?_
      refine WP.seq ?_
      refine WP.region ?_
      refine RP.move rfl rfl ?_
      refine RP.assign rfl rfl ?_
      refine RP.nil ?_
      refine WP.seq ?_
      refine WP.seq ?_
      refine WP.region ?_
      refine RP.load_box rfl rfl rfl rfl (by repeat (first | exact .here | apply HIn.there | apply HIn.app)) rfl ?_
      refine RP.move rfl rfl ?_
      refine RP.at_ rfl rfl rfl rfl rfl rfl (.lin fB_len hJ3 (by repeat (first | exact .here | apply HIn.there | apply HIn.app))) (by first | assumption | omega) ?_
      refine RP.load_el rfl rfl rfl rfl (.lin fB_len hJ3 (by repeat (first | exact .here | apply HIn.there | apply HIn.app))) (by first | assumption | omega) rfl ?_
      refine RP.move rfl rfl ?_
      refine RP.cases (d := 23) rfl (fun hg23 => ?_) (fun hg23 => ?_)
      · skip
        refine RP.gfalse rfl rfl ?_
        refine RP.gfalse rfl rfl ?_
        refine RP.gfalse rfl rfl ?_
        refine RP.gfalse rfl rfl ?_
        refine RP.gfalse rfl rfl ?_
        refine RP.pick_ rfl rfl rfl ?_
        refine RP.nil ?_
        refine WP.cond_t rfl ?_
        refine WP.exit ?_
        refine WP.region ?_
        refine RP.add rfl rfl rfl (by omega) (by omega) ?_
        refine RP.move rfl rfl ?_
        refine RP.nil ?_
        refine roundQ.mk (Q := fun _ _ _ => True) (more2, out2, pO2, i + 1) ⟨rfl, rfl, rfl, rfl, rfl, rfl, trivial⟩ (.cons (by repeat (first | exact .here | apply HRem.there | apply HRem.app)) (.cons (by repeat (first | exact .here | apply HRem.there | apply HRem.app)) (.cons (by repeat (first | exact .here | apply HRem.there | apply HRem.app)) (.cons (by repeat (first | exact .here | apply HRem.there | apply HRem.app)) .nil)))) (by
          try dsimp only
          exact ⟨hlt, hJ2, hJ3, hJ4, fun h => ⟨(hJ5 h).1, (hJ5 h).2.succ (.out (by rw [List.getElem?_eq_getElem (by omega), hg23]))⟩, hJ6⟩) (by
          try dsimp only
          omega)
      · skip
        refine RP.gtrue rfl ?_
        refine RP.move rfl rfl ?_
        refine RP.gtrue rfl ?_
        refine RP.move rfl rfl ?_
        refine RP.gtrue rfl ?_
        refine RP.at_ rfl rfl rfl rfl rfl rfl (.lin fB_len hc1 (by repeat (first | exact .here | apply HIn.there | apply HIn.app))) (by first | assumption | omega) ?_
        refine RP.gtrue rfl ?_
        refine RP.load_el rfl rfl rfl rfl (.lin fB_len hc1 (by repeat (first | exact .here | apply HIn.there | apply HIn.app))) (by first | assumption | omega) rfl ?_
        refine RP.gtrue rfl ?_
        refine RP.un rfl rfl rfl ?_
        refine RP.pick_ rfl rfl rfl ?_
        refine RP.nil ?_
        refine WP.cond_b rfl (fun hc29 => ?_) (fun hc29 => ?_)
        · skip
          refine WP.exit ?_
          refine WP.region ?_
          refine RP.add rfl rfl rfl (by omega) (by omega) ?_
          refine RP.move rfl rfl ?_
          refine RP.nil ?_
          refine roundQ.mk (Q := fun _ _ _ => True) (more2, out2, pO2, i + 1) ⟨rfl, rfl, rfl, rfl, rfl, rfl, trivial⟩ (.cons (by repeat (first | exact .here | apply HRem.there | apply HRem.app)) (.cons (by repeat (first | exact .here | apply HRem.there | apply HRem.app)) (.cons (by repeat (first | exact .here | apply HRem.there | apply HRem.app)) (.cons (by repeat (first | exact .here | apply HRem.there | apply HRem.app)) .nil)))) (by
            try dsimp only
            exact ⟨hlt, hJ2, hJ3, hJ4, fun h => ⟨(hJ5 h).1, (hJ5 h).2.succ (.come (fun h => by have := (hc3 i).2 h; rw [List.getElem?_eq_getElem hci] at this; simp at this; simp [this] at hc29))⟩, hJ6⟩) (by
            try dsimp only
            omega)
        · skip
          refine WP.skip ?_
          refine WP.seq ?_
          refine WP.region ?_
          refine RP.faddr rfl rfl rfl ?_
          refine RP.load_box rfl rfl rfl rfl (by repeat (first | exact .here | apply HIn.there | apply HIn.app)) rfl ?_
          refine RP.move rfl rfl ?_
          first | refine RP.at_ rfl rfl rfl rfl rfl rfl (.arg hm.spots) (by first | assumption | omega) ?_ | refine RP.at_ rfl rfl rfl rfl rfl rfl (.arg hm.first) (by first | assumption | omega) ?_ | refine RP.at_ rfl rfl rfl rfl rfl rfl (.arg hm.follow) (by first | assumption | omega) ?_ | refine RP.at_ rfl rfl rfl rfl rfl rfl (.arg hm.last) (by first | assumption | omega) ?_
          first | refine RP.load_el rfl rfl rfl rfl (.arg hm.spots) (by first | assumption | omega) rfl ?_ | refine RP.load_el rfl rfl rfl rfl (.arg hm.first) (by first | assumption | omega) rfl ?_ | refine RP.load_el rfl rfl rfl rfl (.arg hm.follow) (by first | assumption | omega) rfl ?_ | refine RP.load_el rfl rfl rfl rfl (.arg hm.last) (by first | assumption | omega) rfl ?_
          refine RP.move rfl rfl ?_
          refine RP.cases (d := 35) rfl (fun hg35 => ?_) (fun hg35 => ?_)
          · skip
            refine RP.gfalse rfl rfl ?_
            refine RP.gfalse rfl rfl ?_
            refine RP.gfalse rfl rfl ?_
            refine RP.gfalse rfl rfl ?_
            refine RP.gfalse rfl rfl ?_
            refine RP.gfalse rfl rfl ?_
            refine RP.gfalse rfl rfl ?_
            refine RP.pick_ rfl rfl rfl ?_
            refine RP.nil ?_
            refine WP.cond_t rfl ?_
            refine WP.region ?_
            refine RP.load_box rfl rfl rfl rfl (by repeat (first | exact .here | apply HIn.there | apply HIn.app)) rfl ?_
            refine RP.move rfl rfl ?_
            refine RP.at_ rfl rfl rfl rfl rfl rfl (.lin fB_len hJ3 (by repeat (first | exact .here | apply HIn.there | apply HIn.app))) (by first | assumption | omega) ?_
            refine RP.store_el1 true rfl rfl rfl rfl hJ3 (fun _ => (by repeat (first | exact .here | apply HUpd.there | apply HUpd.app))) fB_len (by first | assumption | omega) (by omega) rfl hlo ?_
            intro pO3 hO3
            refine RP.assign rfl rfl ?_
            refine RP.nil ?_
            refine WP.region ?_
            refine RP.add rfl rfl rfl (by omega) (by omega) ?_
            refine RP.move rfl rfl ?_
            refine RP.nil ?_
            have hcm := count_mark (show i < out2.length by omega) hg23
            refine roundQ.mk (Q := fun _ _ _ => True) (true, out2.set i true, pO3, i + 1) ⟨rfl, rfl, rfl, rfl, rfl, rfl, trivial⟩ (.cons (by repeat (first | exact .here | apply HRem.there | apply HRem.app)) (.cons (by repeat (first | exact .here | apply HRem.there | apply HRem.app)) (.cons (by repeat (first | exact .here | apply HRem.there | apply HRem.app)) (.cons (by repeat (first | exact .here | apply HRem.there | apply HRem.app)) .nil)))) (by
              try dsimp only
              exact ⟨hlt, by rw [List.length_set]; exact hJ2, hO3, hJ4.mark ((hc3 i).1 (by rw [List.getElem?_eq_getElem hci]; simpa using hc29)) (Or.inl (by rw [List.getElem?_eq_getElem hll, hg35])), fun h => (by cases h), fun _ => (by
                  cases hm2 : more2 with
                  | true => have := hJ6 hm2; omega
                  | false => have := (hJ5 hm2).1; subst this; omega)⟩) (by
              try dsimp only
              omega)
          · skip
            refine RP.gtrue rfl ?_
            refine RP.faddr rfl rfl rfl ?_
            refine RP.gtrue rfl ?_
            refine RP.load_box rfl rfl rfl rfl (by repeat (first | exact .here | apply HIn.there | apply HIn.app)) rfl ?_
            refine RP.gtrue rfl ?_
            refine RP.move rfl rfl ?_
            refine RP.gtrue rfl ?_
            first | refine RP.at_ rfl rfl rfl rfl rfl rfl (.arg hm.spots) (by first | assumption | omega) ?_ | refine RP.at_ rfl rfl rfl rfl rfl rfl (.arg hm.first) (by first | assumption | omega) ?_ | refine RP.at_ rfl rfl rfl rfl rfl rfl (.arg hm.follow) (by first | assumption | omega) ?_ | refine RP.at_ rfl rfl rfl rfl rfl rfl (.arg hm.last) (by first | assumption | omega) ?_
            refine RP.gtrue rfl ?_
            first | refine RP.load_el rfl rfl rfl rfl (.arg hm.spots) (by first | assumption | omega) rfl ?_ | refine RP.load_el rfl rfl rfl rfl (.arg hm.first) (by first | assumption | omega) rfl ?_ | refine RP.load_el rfl rfl rfl rfl (.arg hm.follow) (by first | assumption | omega) rfl ?_ | refine RP.load_el rfl rfl rfl rfl (.arg hm.last) (by first | assumption | omega) rfl ?_
            refine RP.gtrue rfl ?_
            refine RP.mfunc rfl rfl rfl ?_
            refine RP.gtrue rfl ?_
            refine RP.call rfl rfl rfl hlo (fun st' lo' hi' hl' => containsFunc_ok hl' (fun x => (out2[x.toNat]?).getD false) (hrow.inv hi') (by omega) (fun st2 lo2 hi2 hl2 x hx => (usefulC_ok hl2 ((Inv.isOld hi' (by repeat (first | exact .here | apply HIn.there | apply HIn.app))).inv hi2) ((SlH.lin fB_len hJ3 (by repeat (first | exact .here | apply HIn.there | apply HIn.app)) _ hi').inv hi2) (hrng x hx).1 (hrng x hx).2).mono (fun _ _ h => by rw [List.getElem?_eq_getElem (hrng x hx).2]; exact h))) ?_
            rintro _ _ ⟨rfl, rfl⟩
            refine RP.pick_ rfl rfl rfl ?_
            refine RP.nil ?_
            refine WP.cond_b rfl (fun hc43 => ?_) (fun hc43 => ?_)
            · skip
              refine WP.region ?_
              refine RP.load_box rfl rfl rfl rfl (by repeat (first | exact .here | apply HIn.there | apply HIn.app)) rfl ?_
              refine RP.move rfl rfl ?_
              refine RP.at_ rfl rfl rfl rfl rfl rfl (.lin fB_len hJ3 (by repeat (first | exact .here | apply HIn.there | apply HIn.app))) (by first | assumption | omega) ?_
              refine RP.store_el1 true rfl rfl rfl rfl hJ3 (fun _ => (by repeat (first | exact .here | apply HUpd.there | apply HUpd.app))) fB_len (by first | assumption | omega) (by omega) rfl hlo ?_
              intro pO3 hO3
              refine RP.assign rfl rfl ?_
              refine RP.nil ?_
              refine WP.region ?_
              refine RP.add rfl rfl rfl (by omega) (by omega) ?_
              refine RP.move rfl rfl ?_
              refine RP.nil ?_
              have hcm := count_mark (show i < out2.length by omega) hg23
              refine roundQ.mk (Q := fun _ _ _ => True) (true, out2.set i true, pO3, i + 1) ⟨rfl, rfl, rfl, rfl, rfl, rfl, trivial⟩ (.cons (by repeat (first | exact .here | apply HRem.there | apply HRem.app)) (.cons (by repeat (first | exact .here | apply HRem.there | apply HRem.app)) (.cons (by repeat (first | exact .here | apply HRem.there | apply HRem.app)) (.cons (by repeat (first | exact .here | apply HRem.there | apply HRem.app)) .nil)))) (by
                try dsimp only
                exact ⟨hlt, by rw [List.length_set]; exact hJ2, hO3, hJ4.mark ((hc3 i).1 (by rw [List.getElem?_eq_getElem hci]; simpa using hc29)) (Or.inr ⟨_, hm.at_ hlf, hc43⟩), fun h => (by cases h), fun _ => (by
                    cases hm2 : more2 with
                    | true => have := hJ6 hm2; omega
                    | false => have := (hJ5 hm2).1; subst this; omega)⟩) (by
                try dsimp only
                omega)
            · skip
              refine WP.skip ?_
              refine WP.region ?_
              refine RP.add rfl rfl rfl (by omega) (by omega) ?_
              refine RP.move rfl rfl ?_
              refine RP.nil ?_
              refine roundQ.mk (Q := fun _ _ _ => True) (more2, out2, pO2, i + 1) ⟨rfl, rfl, rfl, rfl, rfl, rfl, trivial⟩ (.cons (by repeat (first | exact .here | apply HRem.there | apply HRem.app)) (.cons (by repeat (first | exact .here | apply HRem.there | apply HRem.app)) (.cons (by repeat (first | exact .here | apply HRem.there | apply HRem.app)) (.cons (by repeat (first | exact .here | apply HRem.there | apply HRem.app)) .nil)))) (by
                try dsimp only
                exact ⟨hlt, hJ2, hJ3, hJ4, fun h => ⟨(hJ5 h).1, (hJ5 h).2.succ (.dead (by rw [List.getElem?_eq_getElem hll, hg35]) (hm.at_ hlf) hc43)⟩, hJ6⟩) (by
                try dsimp only
                omega)
    · skip
      refine RP.nil ?_
      refine WP.seq ?_
      refine WP.cond_f rfl ?_
      refine WP.exit ?_
      refine roundQ.mk (Q := fun _ _ _ => True) (more2, out2, pO2) ⟨rfl, rfl, rfl, rfl, trivial⟩ (.cons (by repeat (first | exact .here | apply HRem.there | apply HRem.app)) (.cons (by repeat (first | exact .here | apply HRem.there | apply HRem.app)) (.cons (by repeat (first | exact .here | apply HRem.there | apply HRem.app)) (.cons (by repeat (first | exact .here | apply HRem.there | apply HRem.app)) .nil)))) (by
        try dsimp only
        exact ⟨hJ2, hJ3, hJ4, fun h => by have := (hJ5 h).2; rwa [show i = m.spots.length by omega] at this⟩) (by
        dsimp only
        cases more2 with
        | true => have := hJ6 rfl; simp; omega
        | false => have := (hJ5 rfl).1; subst this; simp [hc13])
  · skip
    refine WP.exit ?_
    refine WP.seq ?_
    refine WP.region ?_
    refine RP.load_box rfl rfl rfl rfl (by repeat (first | exact .here | apply HIn.there | apply HIn.app)) rfl ?_
    refine RP.assign rfl rfl ?_
    refine RP.nil ?_
    refine WP.ret ?_
    exact End.one (Or.inr rfl) rfl (.tmp rfl) (.cons (by repeat (first | exact .here | apply HRem.there | apply HRem.app)) .nil) ⟨_, out, rfl, hI2, hI1, hI3.fin (hI4 hc13)⟩
end
end Go.Proofs.Yteiabdbkeanldaa

namespace Go.Proofs.Yteiabdbkeanldaa
open Go.Proofs.Yteiabdbkeanldaa.Lvm Go

section
variable {bm : Nat → Nat → Option LV} {st : LSt} {lo : Nat} {a b c d : LV} {m : Mach} {fol : List (LV × List Int)}

theorem left_ok (hlo : lo ≤ st.nxt) {L4 L5 : Nat} {vk vn vl : LV} {keep : List Bool} {nums xs : List Int} (hK : Old st L4 [vk]) (hN : Old st L5 [vn]) (hk : SlT (EE bm) st vk 1 fB keep) (hn : SlT (EE bm) st vn 1 fI nums) (hx : SlT (EE bm) st vl 1 fI xs)
    (hrng : ∀ x ∈ xs, 0 ≤ x ∧ x.toNat < keep.length) (hlen : nums.length = keep.length) (hxl : xs.length ≤ 1000000) :
    Fin (EE bm) lo 19 ([vl] ++ [.ptr (.own L4) 0, .ptr (.own L5) 0]) st (fun r H => ∃ p, H = [p] ∧ Lin 1 fI true r (leftF keep nums xs) p) := by
  refine Fin.of_body (fn := Try.f19) (c := Try.f19.body.getD .skip) rfl rfl rfl rfl ?_
  refine WP.seq ?_
  refine WP.region ?_
  refine RP.assign rfl rfl ?_
  refine RP.nil ?_
  refine WP.seq ?_
  refine WP.region ?_
  refine RP.assign rfl rfl ?_
  refine RP.nil ?_
  refine WP.seq ?_
  refine WP.seq ?_
  refine WP.ghost .dead ?_
  refine WP.region ?_
  refine RP.move rfl rfl ?_
  refine RP.len_sl rfl rfl (.arg hx) rfl ?_
  refine RP.move rfl rfl ?_
  refine RP.nil ?_
  refine WP.block rfl ?_
  refine WP.loop (α := Nat × LV × HE) (fun gh => [(1, .ptr (.own L4) 0), (2, .ptr (.own L5) 0), (5, gh.2.1), (8, vl), (9, .int .i64 (xs.length : Int)), (10, .int .i64 (gh.1 : Int))]) (fun gh => [gh.2.2]) (fun gh => gh.1 ≤ xs.length ∧ Lin 1 fI true gh.2.1 (leftF keep nums (xs.take gh.1)) gh.2.2) (fun gh => xs.length - gh.1) ?_ (0, .nilsl, (none, .dead)) ⟨rfl, rfl, rfl, rfl, rfl, rfl, trivial⟩ (.cons (by repeat (first | exact .here | apply HRem.there | apply HRem.app)) .nil) (by
    try dsimp only
    exact ⟨Nat.zero_le _, .nil⟩)
  rintro ⟨i, vo, po⟩ hI
  change i ≤ xs.length ∧ Lin 1 fI true vo (leftF keep nums (xs.take i)) po at hI
  change WP _ _ _ _ _ [(1, .ptr (.own L4) 0), (2, .ptr (.own L5) 0), (5, vo), (8, vl), (9, .int .i64 (xs.length : Int)), (10, .int .i64 (i : Int))] ([po] : HL) _
  obtain ⟨hI1, hI2⟩ := hI
  refine WP.seq ?_
  refine WP.region ?_
  refine RP.lss rfl rfl rfl (fun h11 => ?_) (fun h11 => ?_)
  · skip
    have hlt : i < xs.length := by omega
    refine RP.nil ?_
    refine WP.seq ?_
    refine WP.cond_t rfl ?_
    refine WP.skip ?_
    refine WP.seq ?_
    refine WP.block rfl ?_
    refine WP.seq ?_
    refine WP.region ?_
    refine RP.at_ rfl rfl rfl rfl rfl rfl (.arg hx) (by first | assumption | omega) ?_
    refine RP.load_el rfl rfl rfl rfl (.arg hx) (by first | assumption | omega) rfl ?_
    obtain ⟨hx0, hx1⟩ := hrng xs[i] (List.getElem_mem _)
    have hst := leftF_step (keep := keep) (number := nums) hlt
    generalize xs[i] = x at hx0 hx1 hst ⊢
    have hx2 : x.toNat < nums.length := by omega
    rw [List.getElem?_eq_getElem hx1, List.getElem?_eq_getElem hx2, Option.getD_some] at hst
    refine RP.assign rfl rfl ?_
    refine RP.nil ?_
    refine WP.seq ?_
    refine WP.region ?_
    refine RP.load_old rfl rfl rfl rfl hK rfl ?_
    refine RP.move rfl rfl ?_
    refine RP.at_ rfl rfl rfl (natOf_is (n := x.toNat) (by omega)) rfl rfl (.arg hk) (by first | assumption | omega) ?_
    refine RP.load_el rfl rfl rfl rfl (.arg hk) (by first | assumption | omega) rfl ?_
    refine RP.nil ?_
    refine WP.cond_b rfl (fun hc17 => ?_) (fun hc17 => ?_)
    · skip
      refine WP.region ?_
      refine RP.move rfl rfl ?_
      refine RP.load_old rfl rfl rfl rfl hN rfl ?_
      refine RP.move rfl rfl ?_
      refine RP.at_ rfl rfl rfl (natOf_is (n := x.toNat) (by omega)) rfl rfl (.arg hn) (by first | assumption | omega) ?_
      refine RP.load_el rfl rfl rfl rfl (.arg hn) (by first | assumption | omega) rfl ?_
      refine RP.bslice [nums[x.toNat]] rfl rfl rfl rfl rfl rfl rfl rfl rfl rfl fI_len ?_
      intro v23 p23 hl23
      refine RP.append rfl rfl rfl rfl rfl rfl rfl rfl hI2 (fun _ => (by repeat (first | exact .here | apply HUpd.there | apply HUpd.app))) (.lin fI_len hl23 (by repeat (first | exact .here | apply HIn.there | apply HIn.app))) (flat_all fI_sc _) (by have h1 := leftF_le (keep := keep) (number := nums) (xs := xs.take i); rw [List.length_take] at h1; simp only [List.length_singleton]; omega) (fun e => (by first | rfl | cases e)) hlo ?_
      intro v24 p24 hl24
      refine RP.assign rfl rfl ?_
      refine RP.nil ?_
      refine WP.region ?_
      refine RP.add rfl rfl rfl (by omega) (by omega) ?_
      refine RP.move rfl rfl ?_
      refine RP.nil ?_
      refine roundQ.mk (Q := fun _ _ _ => True) (i + 1, v24, p24) ⟨rfl, rfl, rfl, rfl, rfl, rfl, trivial⟩ (.cons (by repeat (first | exact .here | apply HRem.there | apply HRem.app)) .nil) (by
        try dsimp only
        exact ⟨hlt, by rw [hst, hc17]; simpa using hl24⟩) (by
        try dsimp only
        omega)
    · skip
      refine WP.skip ?_
      refine WP.region ?_
      refine RP.add rfl rfl rfl (by omega) (by omega) ?_
      refine RP.move rfl rfl ?_
      refine RP.nil ?_
      refine roundQ.mk (Q := fun _ _ _ => True) (i + 1, vo, po) ⟨rfl, rfl, rfl, rfl, rfl, rfl, trivial⟩ (.cons (by repeat (first | exact .here | apply HRem.there | apply HRem.app)) .nil) (by
        try dsimp only
        exact ⟨hlt, by rw [hst, hc17]; simpa using hI2⟩) (by
        try dsimp only
        omega)
  · skip
    refine RP.nil ?_
    refine WP.seq ?_
    refine WP.cond_f rfl ?_
    refine WP.exit ?_
    refine WP.seq ?_
    refine WP.region ?_
    refine RP.move rfl rfl ?_
    refine RP.assign rfl rfl ?_
    refine RP.nil ?_
    refine WP.ret ?_
    exact End.one (Or.inr rfl) rfl (.tmp rfl) (.cons (by repeat (first | exact .here | apply HRem.there | apply HRem.app)) .nil) ⟨_, rfl, by rw [List.take_of_length_le (by omega)] at hI2; exact hI2⟩
theorem trim_ok (hlo : lo ≤ st.nxt) (hm : MA (EE bm) st a b c d m fol) (h0 : Small60 m fol) : Fin (EE bm) lo 8 [mv a b c d m] st (fun v H => (¬ GoodM m ∧ v = .tup [.agg [.nilsl, .nilsl, .nilsl, .nilsl, .bool false], .int .i64 1] ∧ H = []) ∨
    (GoodM m ∧ ∃ keep, keep.length = m.spots.length ∧ (∀ i : Nat, keep[i]? = some true ↔ UsefulM m i) ∧ ∃ a' b' c' d' pa pb pc pd rows, v = .tup [mv a' b' c' d' (trimF keep m), .int .i64 0] ∧ H = heapO pa pb pc pd rows ∧ MO a' b' c' d' pa pb pc pd rows (trimF keep m))) := by
  have h0' := h0
  obtain ⟨h01, h02, h03, h04, h05⟩ := h0
  have hfl := hm.len
  refine Fin.of_body (fn := Try.f8) (c := Try.f8.body.getD .skip) rfl rfl rfl rfl ?_
  refine WP.seq ?_
  refine WP.region ?_
  refine RP.box rfl rfl hm.sc (fun L1 => ?_)
  refine RP.alloc rfl rfl rfl (fun L2 => ?_)
  refine RP.assign rfl rfl ?_
  refine RP.nil ?_
  refine WP.seq ?_
  refine WP.seq ?_
  refine WP.region ?_
  refine RP.load_boxN rfl rfl rfl rfl rfl (by repeat (first | exact .here | apply HIn.there | apply HIn.app)) rfl ?_
  refine RP.call rfl rfl rfl hlo (fun st' lo' hi' hl' => right_ok hl' (hm.inv hi') (by omega) (fun j hj => by have := h05 j hj; omega)) ?_
  rintro _ _ (⟨hgd, rfl, rfl⟩ | ⟨hng, rfl, rfl⟩)
  · skip
    have hgl := hgd.llen
    have hgf := hgd.flen
    have hrng : ∀ l ∈ m.first :: m.follow, ∀ x ∈ l, 0 ≤ x ∧ x.toNat < m.spots.length := fun l hl x hx => by
      rcases List.mem_cons.1 hl with rfl | hl
      · have := risingF_mem hgd.first x hx; omega
      · obtain ⟨j, hj, rfl⟩ := List.mem_iff_getElem.1 hl
        have := risingF_mem (hgd.rows j hj) x hx; omega
    refine RP.un rfl rfl rfl ?_
    refine RP.nil ?_
    refine WP.cond_f rfl ?_
    refine WP.skip ?_
    refine WP.seq ?_
    refine WP.region ?_
    refine RP.load_boxN rfl rfl rfl rfl rfl (by repeat (first | exact .here | apply HIn.there | apply HIn.app)) rfl ?_
    refine RP.call rfl rfl rfl hlo (fun st' lo' hi' hl' => useful_ok hl' (hm.inv hi') h0' hgd) ?_
    rintro v18 _ ⟨p18, keep, rfl, hk1, hk2, hk3⟩
    refine RP.alloc rfl rfl rfl (fun L4 => ?_)
    refine RP.store_box1 rfl rfl hk1.scalar rfl rfl hlo (by repeat (first | exact .here | apply HUpd.there | apply HUpd.app)) ?_
    refine RP.nil ?_
    refine WP.seq ?_
    refine WP.region ?_
    refine RP.load_box rfl rfl rfl rfl (by repeat (first | exact .here | apply HIn.there | apply HIn.app)) rfl ?_
    refine RP.len_sl rfl rfl (.lin fB_len hk1 (by repeat (first | exact .here | apply HIn.there | apply HIn.app))) rfl ?_
    refine RP.make (0 : Int) rfl rfl rfl rfl rfl rfl rfl rfl rfl rfl rfl fI_len (Nat.le_refl _) (by omega) ?_
    rw [Nat.beq_refl]
    intro v21 p21 hl21
    refine RP.alloc rfl rfl rfl (fun L5 => ?_)
    refine RP.store_box1 rfl rfl hl21.scalar rfl rfl hlo (by repeat (first | exact .here | apply HUpd.there | apply HUpd.app)) ?_
    refine RP.nil ?_
    refine WP.seq ?_
    refine WP.region ?_
    refine RP.assign rfl rfl ?_
    refine RP.nil ?_
    refine WP.seq ?_
    refine WP.seq ?_
    refine WP.region ?_
    refine RP.load_box rfl rfl rfl rfl (by repeat (first | exact .here | apply HIn.there | apply HIn.app)) rfl ?_
    refine RP.len_sl rfl rfl (.lin fB_len hk1 (by repeat (first | exact .here | apply HIn.there | apply HIn.app))) rfl ?_
    refine RP.move rfl rfl ?_
    refine RP.nil ?_
    refine WP.block rfl ?_
    refine WP.loop (α := Nat × List Int × HE) (fun gh => [(1, .ptr (.own L1) 0), (2, .ptr (.own L2) 0), (4, .ptr (.own L4) 0), (5, .ptr (.own L5) 0), (6, .int .i64 ((keep.take gh.1).count true : Int)), (22, v18), (23, .int .i64 (keep.length : Int)), (24, .int .i64 (gh.1 : Int))]) (fun gh => [(some L1, .cells (mv a b c d m).cells), (some L2, .cells [.nilsl, .nilsl, .nilsl, .nilsl, .bool false]), (some L4, .cells [v18]), p18, (some L5, .cells [v21]), gh.2.2]) (fun gh => gh.1 ≤ keep.length ∧ gh.2.1.length = keep.length ∧ Lin 1 fI true v21 gh.2.1 gh.2.2 ∧ ∀ j : Nat, j < gh.1 → gh.2.1[j]? = some ((keep.take j).count true : Int)) (fun gh => keep.length - gh.1) ?_ (0, List.replicate keep.length 0, p21) ⟨rfl, rfl, rfl, rfl, rfl, rfl, rfl, rfl, trivial⟩ (.cons (by repeat (first | exact .here | apply HRem.there | apply HRem.app)) (.cons (by repeat (first | exact .here | apply HRem.there | apply HRem.app)) (.cons (by repeat (first | exact .here | apply HRem.there | apply HRem.app)) (.cons (by repeat (first | exact .here | apply HRem.there | apply HRem.app)) (.cons (by repeat (first | exact .here | apply HRem.there | apply HRem.app)) (.cons (by repeat (first | exact .here | apply HRem.there | apply HRem.app)) .nil)))))) (by
      try dsimp only
      exact ⟨Nat.zero_le _, List.length_replicate, hl21, fun _ h => absurd h (Nat.not_lt_zero _)⟩)
    rintro ⟨i, nums, pN⟩ hI
    change i ≤ keep.length ∧ nums.length = keep.length ∧ Lin 1 fI true v21 nums pN ∧ ∀ j : Nat, j < i → nums[j]? = some ((keep.take j).count true : Int) at hI
    change WP _ _ _ _ _ [(1, .ptr (.own L1) 0), (2, .ptr (.own L2) 0), (4, .ptr (.own L4) 0), (5, .ptr (.own L5) 0), (6, .int .i64 ((keep.take i).count true : Int)), (22, v18), (23, .int .i64 (keep.length : Int)), (24, .int .i64 (i : Int))] ([(some L1, .cells (mv a b c d m).cells), (some L2, .cells [.nilsl, .nilsl, .nilsl, .nilsl, .bool false]), (some L4, .cells [v18]), p18, (some L5, .cells [v21]), pN] : HL) _
    obtain ⟨hI1, hI2, hI3, hI4⟩ := hI
    refine WP.seq ?_
    refine WP.region ?_
    refine RP.lss rfl rfl rfl (fun h25 => ?_) (fun h25 => ?_)
    · skip
      have hlt : i < keep.length := by omega
      have hcl : (keep.take i).count true ≤ (keep.take i).length := List.count_le_length
      rw [List.length_take] at hcl
      refine RP.nil ?_
      refine WP.seq ?_
      refine WP.cond_t rfl ?_
      refine WP.skip ?_
      refine WP.seq ?_
      refine WP.block rfl ?_
      refine WP.seq ?_
      refine WP.region ?_
      refine RP.move rfl rfl ?_
      refine RP.at_ rfl rfl rfl rfl rfl rfl (.lin fB_len hk1 (by repeat (first | exact .here | apply HIn.there | apply HIn.app))) (by first | assumption | omega) ?_
      refine RP.load_el rfl rfl rfl rfl (.lin fB_len hk1 (by repeat (first | exact .here | apply HIn.there | apply HIn.app))) (by first | assumption | omega) rfl ?_
      refine RP.assign rfl rfl ?_
      refine RP.assign rfl rfl ?_
      refine RP.nil ?_
      refine WP.seq ?_
      refine WP.region ?_
      refine RP.load_box rfl rfl rfl rfl (by repeat (first | exact .here | apply HIn.there | apply HIn.app)) rfl ?_
      refine RP.move rfl rfl ?_
      refine RP.move rfl rfl ?_
      refine RP.at_ rfl rfl rfl rfl rfl rfl (.lin fI_len hI3 (by repeat (first | exact .here | apply HIn.there | apply HIn.app))) (by first | assumption | omega) ?_
      refine RP.store_el1 ((keep.take i).count true : Int) rfl rfl rfl rfl hI3 (fun _ => (by repeat (first | exact .here | apply HUpd.there | apply HUpd.app))) fI_len (by first | assumption | omega) (by omega) rfl hlo ?_
      intro pN2 hN2
      refine RP.nil ?_
      refine WP.seq ?_
      refine WP.region ?_
      refine RP.move rfl rfl ?_
      refine RP.nil ?_
      refine WP.cond_b rfl (fun hc33 => ?_) (fun hc33 => ?_)
      · skip
        refine WP.region ?_
        refine RP.move rfl rfl ?_
        refine RP.add rfl rfl rfl (by omega) (by omega) ?_
        refine RP.assign rfl rfl ?_
        refine RP.nil ?_
        refine WP.region ?_
        refine RP.add rfl rfl rfl (by omega) (by omega) ?_
        refine RP.move rfl rfl ?_
        refine RP.nil ?_
        have hcs := count_step hlt
        rw [hc33] at hcs
        simp only [if_true] at hcs
        refine roundQ.mk (Q := fun _ _ _ => True) (i + 1, nums.set i ((keep.take i).count true : Int), pN2) ⟨rfl, rfl, rfl, rfl, by show some (LV.int .i64 _) = some (LV.int .i64 _); rw [hcs] <;> rfl, rfl, rfl, rfl, trivial⟩ (.cons (by repeat (first | exact .here | apply HRem.there | apply HRem.app)) (.cons (by repeat (first | exact .here | apply HRem.there | apply HRem.app)) (.cons (by repeat (first | exact .here | apply HRem.there | apply HRem.app)) (.cons (by repeat (first | exact .here | apply HRem.there | apply HRem.app)) (.cons (by repeat (first | exact .here | apply HRem.there | apply HRem.app)) (.cons (by repeat (first | exact .here | apply HRem.there | apply HRem.app)) .nil)))))) (by
          try dsimp only
          exact ⟨hlt, by rw [List.length_set]; exact hI2, hN2, fun j hj => (by
            by_cases e : i = j
            · subst e; rw [List.getElem?_set_self (by omega)]
            · rw [List.getElem?_set_ne e]; exact hI4 j (by omega))⟩) (by
          try dsimp only
          omega)
      · skip
        refine WP.skip ?_
        refine WP.region ?_
        refine RP.add rfl rfl rfl (by omega) (by omega) ?_
        refine RP.move rfl rfl ?_
        refine RP.nil ?_
        have hcs := count_step hlt
        rw [hc33] at hcs
        simp only [Bool.false_eq_true, if_false, Nat.add_zero] at hcs
        refine roundQ.mk (Q := fun _ _ _ => True) (i + 1, nums.set i ((keep.take i).count true : Int), pN2) ⟨rfl, rfl, rfl, rfl, by show some (LV.int .i64 _) = some (LV.int .i64 _); rw [hcs] <;> rfl, rfl, rfl, rfl, trivial⟩ (.cons (by repeat (first | exact .here | apply HRem.there | apply HRem.app)) (.cons (by repeat (first | exact .here | apply HRem.there | apply HRem.app)) (.cons (by repeat (first | exact .here | apply HRem.there | apply HRem.app)) (.cons (by repeat (first | exact .here | apply HRem.there | apply HRem.app)) (.cons (by repeat (first | exact .here | apply HRem.there | apply HRem.app)) (.cons (by repeat (first | exact .here | apply HRem.there | apply HRem.app)) .nil)))))) (by
          try dsimp only
          exact ⟨hlt, by rw [List.length_set]; exact hI2, hN2, fun j hj => (by
            by_cases e : i = j
            · subst e; rw [List.getElem?_set_self (by omega)]
            · rw [List.getElem?_set_ne e]; exact hI4 j (by omega))⟩) (by
          try dsimp only
          omega)
    · skip
      refine RP.nil ?_
      refine WP.seq ?_
      refine WP.cond_f rfl ?_
      refine WP.exit ?_
      refine WP.seq ?_
      obtain rfl := numF_is hI2 (fun j hj => hI4 j (by omega))
      refine WP.region ?_
      refine RP.mfunc rfl rfl rfl ?_
      refine RP.assign rfl rfl ?_
      refine RP.nil ?_
      refine WP.seq ?_
      refine WP.drawn (by kernel_rfl) ?_
      refine RP.move rfl rfl ?_
      refine RP.faddr rfl rfl rfl ?_
      refine RP.load_box rfl rfl rfl rfl (by repeat (first | exact .here | apply HIn.there | apply HIn.app)) rfl ?_
      refine RP.call rfl rfl rfl hlo (fun st' lo' hi' hl' => left_ok hl' (Inv.isOld hi' (by repeat (first | exact .here | apply HIn.there | apply HIn.app))) (Inv.isOld hi' (by repeat (first | exact .here | apply HIn.there | apply HIn.app))) (SlH.lin fB_len hk1 (by repeat (first | exact .here | apply HIn.there | apply HIn.app)) _ hi') (SlH.lin fI_len hI3 (by repeat (first | exact .here | apply HIn.there | apply HIn.app)) _ hi') (hm.first.inv hi') (fun x hx => by have := hrng _ (List.mem_cons_self ..) x hx; omega) hI2 (by omega)) ?_
      rintro v41 _ ⟨p41, rfl, hl41⟩
      refine RP.faddr rfl rfl rfl ?_
      refine RP.load_box rfl rfl rfl rfl (by repeat (first | exact .here | apply HIn.there | apply HIn.app)) rfl ?_
      refine RP.build (v := .agg [.nilsl, v41, .nilsl, .nilsl, .bool m.empty]) rfl rfl (by rcases hl41.kind with rfl | ⟨_, _, _, _, _, _, rfl⟩ <;> rfl) ?_
      refine RP.alloc rfl rfl rfl (fun L10 => ?_)
      refine RP.store_box rfl rfl rfl rfl rfl (by show [LV.nilsl, v41, .nilsl, .nilsl, .bool m.empty].all LV.scalar = true; simp only [List.all_cons, List.all_nil, hl41.scalar]; rfl) hlo (by repeat (first | exact .here | apply HUpd.there | apply HUpd.app)) ?_
      refine RP.nil ?_
      refine WP.seq ?_
      refine WP.seq ?_
      refine WP.ghost .dead ?_
      refine WP.ghost .dead ?_
      refine WP.ghost .dead ?_
      refine WP.region ?_
      refine RP.load_box rfl rfl rfl rfl (by repeat (first | exact .here | apply HIn.there | apply HIn.app)) rfl ?_
      refine RP.len_sl rfl rfl (.lin fB_len hk1 (by repeat (first | exact .here | apply HIn.there | apply HIn.app))) rfl ?_
      refine RP.move rfl rfl ?_
      refine RP.nil ?_
      refine WP.block rfl ?_
      refine WP.loop (α := Nat × LV × LV × LV × HE × HE × HE × List Row) (fun gh => [(1, .ptr (.own L1) 0), (2, .ptr (.own L2) 0), (9, .fn 19 [] [.ptr (.own L4) 0, .ptr (.own L5) 0]), (10, .ptr (.own L10) 0), (45, v18), (46, .int .i64 (keep.length : Int)), (47, .int .i64 (gh.1 : Int))]) (fun gh => (some L1, .cells (mv a b c d m).cells) :: (some L2, .cells [.nilsl, .nilsl, .nilsl, .nilsl, .bool false]) :: (some L4, .cells [v18]) :: p18 :: (some L5, .cells [v21]) :: pN :: (some L10, .cells [gh.2.1, v41, gh.2.2.1, gh.2.2.2.1, .bool m.empty]) :: gh.2.2.2.2.1 :: p41 :: gh.2.2.2.2.2.1 :: gh.2.2.2.2.2.2.1 :: gh.2.2.2.2.2.2.2.map (fun r => r.2.2)) (fun gh => gh.1 ≤ keep.length ∧ Lin 5 fS true gh.2.1 (keptF (keep.take gh.1) (m.spots.take gh.1)) gh.2.2.2.2.1 ∧ Lin 1 fP true gh.2.2.1 gh.2.2.2.2.2.2.2 gh.2.2.2.2.2.1 ∧ (∀ r ∈ gh.2.2.2.2.2.2.2, Lin 1 fI false r.1 r.2.1 r.2.2) ∧ gh.2.2.2.2.2.2.2.map (·.2.1) = (keptF (keep.take gh.1) ((fol.map (·.2)).take gh.1)).map (leftF keep (numF keep)) ∧ Lin 1 fB true gh.2.2.2.1 (keptF (keep.take gh.1) (m.last.take gh.1)) gh.2.2.2.2.2.2.1) (fun gh => keep.length - gh.1) ?_ (0, .nilsl, .nilsl, .nilsl, (none, .dead), (none, .dead), (none, .dead), []) ⟨rfl, rfl, rfl, rfl, rfl, rfl, rfl, trivial⟩ (.cons (by repeat (first | exact .here | apply HRem.there | apply HRem.app)) (.cons (by repeat (first | exact .here | apply HRem.there | apply HRem.app)) (.cons (by repeat (first | exact .here | apply HRem.there | apply HRem.app)) (.cons (by repeat (first | exact .here | apply HRem.there | apply HRem.app)) (.cons (by repeat (first | exact .here | apply HRem.there | apply HRem.app)) (.cons (by repeat (first | exact .here | apply HRem.there | apply HRem.app)) (.cons (by repeat (first | exact .here | apply HRem.there | apply HRem.app)) (.cons (by repeat (first | exact .here | apply HRem.there | apply HRem.app)) (.cons (by repeat (first | exact .here | apply HRem.there | apply HRem.app)) (.cons (by repeat (first | exact .here | apply HRem.there | apply HRem.app)) (.cons (by repeat (first | exact .here | apply HRem.there | apply HRem.app)) .nil))))))))))) (by
        try dsimp only
        exact ⟨Nat.zero_le _, .nil, .nil, by simp, rfl, .nil⟩)
      rintro ⟨i, sa, sc, sd, pa, pc, pd, rows⟩ hI
      change i ≤ keep.length ∧ Lin 5 fS true sa (keptF (keep.take i) (m.spots.take i)) pa ∧ Lin 1 fP true sc rows pc ∧ (∀ r ∈ rows, Lin 1 fI false r.1 r.2.1 r.2.2) ∧ rows.map (·.2.1) = (keptF (keep.take i) ((fol.map (·.2)).take i)).map (leftF keep (numF keep)) ∧ Lin 1 fB true sd (keptF (keep.take i) (m.last.take i)) pd at hI
      change WP _ _ _ _ _ [(1, .ptr (.own L1) 0), (2, .ptr (.own L2) 0), (9, .fn 19 [] [.ptr (.own L4) 0, .ptr (.own L5) 0]), (10, .ptr (.own L10) 0), (45, v18), (46, .int .i64 (keep.length : Int)), (47, .int .i64 (i : Int))] ((some L1, .cells (mv a b c d m).cells) :: (some L2, .cells [.nilsl, .nilsl, .nilsl, .nilsl, .bool false]) :: (some L4, .cells [v18]) :: p18 :: (some L5, .cells [v21]) :: pN :: (some L10, .cells [sa, v41, sc, sd, .bool m.empty]) :: pa :: p41 :: pc :: pd :: rows.map (fun r => r.2.2) : HL) _
      obtain ⟨hJ1, hJ2, hJ3, hJ4, hJ5, hJ6⟩ := hI
      have hJ7 : rows.length ≤ i := by have h1 := congrArg List.length hJ5; simp only [List.length_map] at h1; have h2 := keptF_le (keep := keep.take i) (l := (fol.map (·.2)).take i); rw [List.length_take] at h2; omega
      have hJ8 := keptF_le (keep := keep.take i) (l := m.spots.take i)
      rw [List.length_take] at hJ8
      have hJ9 := keptF_le (keep := keep.take i) (l := m.last.take i)
      rw [List.length_take] at hJ9
      refine WP.seq ?_
      refine WP.region ?_
      refine RP.lss rfl rfl rfl (fun h48 => ?_) (fun h48 => ?_)
      · skip
        have hlt : i < keep.length := by omega
        have hls : i < m.spots.length := by omega
        have hll : i < m.last.length := by omega
        have hlf : i < fol.length := by omega
        have hrow := hm.row hlf
        have hrl := h05 i hlf
        refine RP.nil ?_
        refine WP.seq ?_
        refine WP.cond_t rfl ?_
        refine WP.skip ?_
        refine WP.seq ?_
        refine WP.block rfl ?_
        refine WP.seq ?_
        refine WP.region ?_
        refine RP.move rfl rfl ?_
        refine RP.at_ rfl rfl rfl rfl rfl rfl (.lin fB_len hk1 (by repeat (first | exact .here | apply HIn.there | apply HIn.app))) (by first | assumption | omega) ?_
        refine RP.load_el rfl rfl rfl rfl (.lin fB_len hk1 (by repeat (first | exact .here | apply HIn.there | apply HIn.app))) (by first | assumption | omega) rfl ?_
        refine RP.assign rfl rfl ?_
        refine RP.assign rfl rfl ?_
        refine RP.nil ?_
        refine WP.seq ?_
        refine WP.region ?_
        refine RP.move rfl rfl ?_
        refine RP.nil ?_
        refine WP.cond_b rfl (fun hc52 => ?_) (fun hc52 => ?_)
        · skip
          refine WP.seq ?_
          refine WP.drawn (by kernel_rfl) ?_
          refine RP.faddr rfl rfl rfl ?_
          refine RP.load_box rfl rfl rfl rfl (by repeat (first | exact .here | apply HIn.there | apply HIn.app)) rfl ?_
          refine RP.faddr rfl rfl rfl ?_
          refine RP.load_box rfl rfl rfl rfl (by repeat (first | exact .here | apply HIn.there | apply HIn.app)) rfl ?_
          refine RP.move rfl rfl ?_
          first | refine RP.at_ rfl rfl rfl rfl rfl rfl (.arg hm.spots) (by first | assumption | omega) ?_ | refine RP.at_ rfl rfl rfl rfl rfl rfl (.arg hm.first) (by first | assumption | omega) ?_ | refine RP.at_ rfl rfl rfl rfl rfl rfl (.arg hm.follow) (by first | assumption | omega) ?_ | refine RP.at_ rfl rfl rfl rfl rfl rfl (.arg hm.last) (by first | assumption | omega) ?_
          first | refine RP.load_elN rfl rfl rfl rfl rfl (.arg hm.spots) (by first | assumption | omega) rfl ?_ | refine RP.load_elN rfl rfl rfl rfl rfl (.arg hm.first) (by first | assumption | omega) rfl ?_ | refine RP.load_elN rfl rfl rfl rfl rfl (.arg hm.follow) (by first | assumption | omega) rfl ?_ | refine RP.load_elN rfl rfl rfl rfl rfl (.arg hm.last) (by first | assumption | omega) rfl ?_
          refine RP.bslice [m.spots[i]] rfl rfl rfl rfl rfl rfl rfl rfl rfl rfl fS_len ?_
          intro v60 p60 hl60
          refine RP.append rfl rfl rfl rfl rfl rfl rfl rfl hJ2 (fun _ => (by repeat (first | exact .here | apply HUpd.there | apply HUpd.app))) (.lin fS_len hl60 (by repeat (first | exact .here | apply HIn.there | apply HIn.app))) (flat_all fS_sc _) (by simp only [List.length_singleton]; omega) (fun e => (by first | rfl | cases e)) hlo ?_
          intro v61 p61 hl61
          refine RP.faddr rfl rfl rfl ?_
          refine RP.load_box rfl rfl rfl rfl (by repeat (first | exact .here | apply HIn.there | apply HIn.app)) rfl ?_
          refine RP.faddr rfl rfl rfl ?_
          refine RP.load_box rfl rfl rfl rfl (by repeat (first | exact .here | apply HIn.there | apply HIn.app)) rfl ?_
          refine RP.move rfl rfl ?_
          first | refine RP.at_ rfl rfl rfl rfl rfl rfl (.arg hm.spots) (by first | assumption | omega) ?_ | refine RP.at_ rfl rfl rfl rfl rfl rfl (.arg hm.first) (by first | assumption | omega) ?_ | refine RP.at_ rfl rfl rfl rfl rfl rfl (.arg hm.follow) (by first | assumption | omega) ?_ | refine RP.at_ rfl rfl rfl rfl rfl rfl (.arg hm.last) (by first | assumption | omega) ?_
          first | refine RP.load_el rfl rfl rfl rfl (.arg hm.spots) (by first | assumption | omega) rfl ?_ | refine RP.load_el rfl rfl rfl rfl (.arg hm.first) (by first | assumption | omega) rfl ?_ | refine RP.load_el rfl rfl rfl rfl (.arg hm.follow) (by first | assumption | omega) rfl ?_ | refine RP.load_el rfl rfl rfl rfl (.arg hm.last) (by first | assumption | omega) rfl ?_
          refine RP.bslice [m.last[i]] rfl rfl rfl rfl rfl rfl rfl rfl rfl rfl fB_len ?_
          intro v69 p69 hl69
          refine RP.append rfl rfl rfl rfl rfl rfl rfl rfl hJ6 (fun _ => (by repeat (first | exact .here | apply HUpd.there | apply HUpd.app))) (.lin fB_len hl69 (by repeat (first | exact .here | apply HIn.there | apply HIn.app))) (flat_all fB_sc _) (by simp only [List.length_singleton]; omega) (fun e => (by first | rfl | cases e)) hlo ?_
          intro v70 p70 hl70
          refine RP.faddr rfl rfl rfl ?_
          refine RP.store_box1 rfl rfl hl61.scalar rfl rfl hlo (by repeat (first | exact .here | apply HUpd.there | apply HUpd.app)) ?_
          refine RP.faddr rfl rfl rfl ?_
          refine RP.store_box1 rfl rfl hl70.scalar rfl rfl hlo (by repeat (first | exact .here | apply HUpd.there | apply HUpd.app)) ?_
          refine RP.nil ?_
          refine WP.drawn (by kernel_rfl) ?_
          refine RP.faddr rfl rfl rfl ?_
          refine RP.load_box rfl rfl rfl rfl (by repeat (first | exact .here | apply HIn.there | apply HIn.app)) rfl ?_
          refine RP.move rfl rfl ?_
          refine RP.faddr rfl rfl rfl ?_
          refine RP.load_box rfl rfl rfl rfl (by repeat (first | exact .here | apply HIn.there | apply HIn.app)) rfl ?_
          refine RP.move rfl rfl ?_
          first | refine RP.at_ rfl rfl rfl rfl rfl rfl (.arg hm.spots) (by first | assumption | omega) ?_ | refine RP.at_ rfl rfl rfl rfl rfl rfl (.arg hm.first) (by first | assumption | omega) ?_ | refine RP.at_ rfl rfl rfl rfl rfl rfl (.arg hm.follow) (by first | assumption | omega) ?_ | refine RP.at_ rfl rfl rfl rfl rfl rfl (.arg hm.last) (by first | assumption | omega) ?_
          first | refine RP.load_el rfl rfl rfl rfl (.arg hm.spots) (by first | assumption | omega) rfl ?_ | refine RP.load_el rfl rfl rfl rfl (.arg hm.first) (by first | assumption | omega) rfl ?_ | refine RP.load_el rfl rfl rfl rfl (.arg hm.follow) (by first | assumption | omega) rfl ?_ | refine RP.load_el rfl rfl rfl rfl (.arg hm.last) (by first | assumption | omega) rfl ?_
          refine RP.call rfl rfl rfl hlo (fun st' lo' hi' hl' => left_ok hl' (Inv.isOld hi' (by repeat (first | exact .here | apply HIn.there | apply HIn.app))) (Inv.isOld hi' (by repeat (first | exact .here | apply HIn.there | apply HIn.app))) (SlH.lin fB_len hk1 (by repeat (first | exact .here | apply HIn.there | apply HIn.app)) _ hi') (SlH.lin fI_len hI3 (by repeat (first | exact .here | apply HIn.there | apply HIn.app)) _ hi') (hrow.inv hi') (fun x hx => by have := hrng _ (List.mem_cons_of_mem _ (by rw [hm.same]; exact List.mem_map.2 ⟨_, List.getElem_mem hlf, rfl⟩)) x hx; omega) hI2 (by omega)) ?_
          rintro v81 _ ⟨p81, rfl, hl81⟩
          refine RP.bslice1 ((v81, leftF keep (numF keep) fol[i].2, p81) : Row) rfl rfl rfl rfl rfl rfl hl81.scalar rfl fP_len ?_
          intro v82 p82 hl82
          refine RP.append rfl rfl rfl rfl rfl rfl rfl rfl hJ3 (fun _ => (by repeat (first | exact .here | apply HUpd.there | apply HUpd.app))) (.lin fP_len hl82 (by repeat (first | exact .here | apply HIn.there | apply HIn.app))) (by simp [fP, hl81.scalar]) (by simp only [List.length_singleton]; omega) (fun e => (by first | rfl | cases e)) hlo ?_
          intro v83 p83 hl83
          refine RP.faddr rfl rfl rfl ?_
          refine RP.store_box1 rfl rfl hl83.scalar rfl rfl hlo (by repeat (first | exact .here | apply HUpd.there | apply HUpd.app)) ?_
          refine RP.nil ?_
          refine WP.region ?_
          refine RP.add rfl rfl rfl (by omega) (by omega) ?_
          refine RP.move rfl rfl ?_
          refine RP.nil ?_
          have e1 := keptF_step (l := m.spots) hlt hls
          have e2 := keptF_step (l := m.last) hlt hll
          have e3 := keptF_step (l := fol.map (·.2)) hlt (by rw [List.length_map]; exact hlf)
          rw [hc52] at e1 e2 e3
          refine roundQ.mk (Q := fun _ _ _ => True) (i + 1, v61, v83, v70, p61, p83, p70, rows ++ [(v81, leftF keep (numF keep) fol[i].2, p81)]) ⟨rfl, rfl, rfl, rfl, rfl, rfl, rfl, trivial⟩ (.cons (by repeat (first | exact .here | apply HRem.there | apply HRem.app)) (.cons (by repeat (first | exact .here | apply HRem.there | apply HRem.app)) (.cons (by repeat (first | exact .here | apply HRem.there | apply HRem.app)) (.cons (by repeat (first | exact .here | apply HRem.there | apply HRem.app)) (.cons (by repeat (first | exact .here | apply HRem.there | apply HRem.app)) (.cons (by repeat (first | exact .here | apply HRem.there | apply HRem.app)) (.cons (by repeat (first | exact .here | apply HRem.there | apply HRem.app)) (.cons (by repeat (first | exact .here | apply HRem.there | apply HRem.app)) (.cons (by repeat (first | exact .here | apply HRem.there | apply HRem.app)) (.cons (by repeat (first | exact .here | apply HRem.there | apply HRem.app)) (.cons (by repeat (first | exact .here | apply HRem.there | apply HRem.app)) (.skip (.perm (by rw [List.map_append]; exact List.perm_append_singleton _ _) (.cons .here (.skip (.skip .refl)))))))))))))))) (by
            try dsimp only
            exact ⟨hlt, by rw [e1]; exact hl61, hl83, fun r hr => (by
                rcases List.mem_append.1 hr with h | h
                · exact hJ4 r h
                · obtain rfl := List.mem_singleton.1 h; exact hl81.loose), by rw [List.map_append, hJ5, e3, List.map_append, if_pos rfl, List.getElem_map]; rfl, by rw [e2]; exact hl70⟩) (by
            try dsimp only
            omega)
        · skip
          refine WP.skip ?_
          refine WP.region ?_
          refine RP.add rfl rfl rfl (by omega) (by omega) ?_
          refine RP.move rfl rfl ?_
          refine RP.nil ?_
          have e1 := keptF_step (l := m.spots) hlt hls
          have e2 := keptF_step (l := m.last) hlt hll
          have e3 := keptF_step (l := fol.map (·.2)) hlt (by rw [List.length_map]; exact hlf)
          rw [hc52] at e1 e2 e3
          refine roundQ.mk (Q := fun _ _ _ => True) (i + 1, sa, sc, sd, pa, pc, pd, rows) ⟨rfl, rfl, rfl, rfl, rfl, rfl, rfl, trivial⟩ (.cons (by repeat (first | exact .here | apply HRem.there | apply HRem.app)) (.cons (by repeat (first | exact .here | apply HRem.there | apply HRem.app)) (.cons (by repeat (first | exact .here | apply HRem.there | apply HRem.app)) (.cons (by repeat (first | exact .here | apply HRem.there | apply HRem.app)) (.cons (by repeat (first | exact .here | apply HRem.there | apply HRem.app)) (.cons (by repeat (first | exact .here | apply HRem.there | apply HRem.app)) (.cons (by repeat (first | exact .here | apply HRem.there | apply HRem.app)) (.cons (by repeat (first | exact .here | apply HRem.there | apply HRem.app)) (.cons (by repeat (first | exact .here | apply HRem.there | apply HRem.app)) (.cons (by repeat (first | exact .here | apply HRem.there | apply HRem.app)) (.cons (by repeat (first | exact .here | apply HRem.there | apply HRem.app)) .refl))))))))))) (by
            try dsimp only
            exact ⟨hlt, by rw [e1]; simpa using hJ2, hJ3, hJ4, by rw [hJ5, e3]; simp, by rw [e2]; simpa using hJ6⟩) (by
            try dsimp only
            omega)
      · skip
        refine RP.nil ?_
        refine WP.seq ?_
        refine WP.cond_f rfl ?_
        refine WP.exit ?_
        refine WP.seq ?_
        refine WP.region ?_
        refine RP.load_boxN rfl rfl rfl rfl rfl (by repeat (first | exact .here | apply HIn.there | apply HIn.app)) rfl ?_
        refine RP.store_box rfl rfl rfl rfl rfl (by show [sa, v41, sc, sd, .bool m.empty].all LV.scalar = true; simp only [List.all_cons, List.all_nil, hJ2.scalar, hl41.scalar, hJ3.scalar, hJ6.scalar]; rfl) hlo (by repeat (first | exact .here | apply HUpd.there | apply HUpd.app)) ?_
        refine RP.assign rfl rfl ?_
        refine RP.nil ?_
        refine WP.ret ?_
        rw [keptF_all (by omega) (by omega)] at hJ2 hJ6
        rw [keptF_all (by omega) (by rw [List.length_map]; omega), ← hm.same] at hJ5
        exact End.two (Or.inr rfl) rfl (.cellN rfl rfl rfl rfl (by repeat (first | exact .here | apply HIn.there | apply HIn.app)) rfl) (.tmp rfl) (.cons (by repeat (first | exact .here | apply HRem.there | apply HRem.app)) (.cons (by repeat (first | exact .here | apply HRem.there | apply HRem.app)) (.cons (by repeat (first | exact .here | apply HRem.there | apply HRem.app)) (.cons (by repeat (first | exact .here | apply HRem.there | apply HRem.app)) (.skip (.skip (.skip (.skip (.skip (.skip (.skip .refl))))))))))) (Or.inr ⟨hgd, keep, hk2, hk3, _, _, _, _, pa, p41, pc, pd, rows, rfl, rfl, (⟨hJ2.loose, hl41.loose, hJ3.loose, hJ4, hJ6.loose, hJ5.symm⟩ : MO sa v41 sc sd pa p41 pc pd rows (trimF keep m))⟩)
  · skip
    refine RP.un rfl rfl rfl ?_
    refine RP.nil ?_
    refine WP.cond_t rfl ?_
    refine WP.seq ?_
    refine WP.region ?_
    refine RP.build rfl rfl rfl ?_
    refine RP.store_box rfl rfl rfl rfl rfl rfl hlo (by repeat (first | exact .here | apply HUpd.there | apply HUpd.app)) ?_
    refine RP.assign rfl rfl ?_
    refine RP.nil ?_
    refine WP.ret ?_
    exact End.two (Or.inr rfl) rfl (.cellN rfl rfl rfl rfl (by repeat (first | exact .here | apply HIn.there | apply HIn.app)) rfl) (.tmp rfl) .nil (Or.inl ⟨hng, rfl, rfl⟩)
end
end Go.Proofs.Yteiabdbkeanldaa

namespace Go.Proofs.Yteiabdbkeanldaa
open Go.Proofs.Yteiabdbkeanldaa.Lvm Go

section
variable {bm : Nat → Nat → Option LV} {st : LSt} {lo : Nat} {a b c d : LV} {m : Mach} {fol : List (LV × List Int)}

theorem alike_ok (hlo : lo ≤ st.nxt) {v w : LV} {xs : List Int} (hv : SlT (EE bm) st v 1 fI xs) (hw : SlT (EE bm) st w 1 fI xs) (hn : xs.length ≤ 1000000) : Fin (EE bm) lo 20 [v, w] st (fun r H => r = .bool true ∧ H = []) := by
  refine Fin.of_body (fn := Try.f20) (c := Try.f20.body.getD .skip) rfl rfl rfl rfl ?_
  refine WP.seq ?_
  refine WP.region ?_
  refine RP.assign rfl rfl ?_
  refine RP.nil ?_
  refine WP.seq ?_
  refine WP.seq ?_
  refine WP.region ?_
  refine RP.move rfl rfl ?_
  first | refine RP.len_sl rfl rfl (.arg hv) rfl ?_ | refine RP.len_sl rfl rfl (.arg hw) rfl ?_
  refine RP.move rfl rfl ?_
  first | refine RP.len_sl rfl rfl (.arg hv) rfl ?_ | refine RP.len_sl rfl rfl (.arg hw) rfl ?_
  refine RP.neq_f rfl rfl rfl (by omega) ?_
  refine RP.nil ?_
  refine WP.cond_f rfl ?_
  refine WP.skip ?_
  refine WP.seq ?_
  refine WP.seq ?_
  refine WP.region ?_
  refine RP.assign rfl rfl ?_
  refine RP.nil ?_
  refine WP.block rfl ?_
  refine WP.loop (α := Nat) (fun gh => [(0, v), (1, w), (5, .int .i64 (gh : Int))]) (fun gh => []) (fun gh => gh ≤ xs.length) (fun gh => xs.length - gh) ?_ 0 ⟨rfl, rfl, rfl, trivial⟩ .nil (by
    try dsimp only
    exact (Nat.zero_le _))
  rintro i hI
  change i ≤ xs.length at hI
  change WP _ _ _ _ _ [(0, v), (1, w), (5, .int .i64 (i : Int))] ([] : HL) _
  refine WP.seq ?_
  refine WP.seq ?_
  refine WP.region ?_
  refine RP.move rfl rfl ?_
  refine RP.move rfl rfl ?_
  first | refine RP.len_sl rfl rfl (.arg hv) rfl ?_ | refine RP.len_sl rfl rfl (.arg hw) rfl ?_
  refine RP.lss rfl rfl rfl (fun h14 => ?_) (fun h14 => ?_)
  · skip
    have hlt : i < xs.length := by omega
    refine RP.nil ?_
    refine WP.cond_t rfl ?_
    refine WP.skip ?_
    refine WP.seq ?_
    refine WP.block rfl ?_
    refine WP.seq ?_
    refine WP.drawn (by kernel_rfl) ?_
    refine RP.move rfl rfl ?_
    refine RP.move rfl rfl ?_
    first | refine RP.at_ rfl rfl rfl rfl rfl rfl (.arg hv) (by first | assumption | omega) ?_ | refine RP.at_ rfl rfl rfl rfl rfl rfl (.arg hw) (by first | assumption | omega) ?_
    first | refine RP.load_el rfl rfl rfl rfl (.arg hv) (by first | assumption | omega) rfl ?_ | refine RP.load_el rfl rfl rfl rfl (.arg hw) (by first | assumption | omega) rfl ?_
    refine RP.move rfl rfl ?_
    refine RP.move rfl rfl ?_
    first | refine RP.at_ rfl rfl rfl rfl rfl rfl (.arg hv) (by first | assumption | omega) ?_ | refine RP.at_ rfl rfl rfl rfl rfl rfl (.arg hw) (by first | assumption | omega) ?_
    first | refine RP.load_el rfl rfl rfl rfl (.arg hv) (by first | assumption | omega) rfl ?_ | refine RP.load_el rfl rfl rfl rfl (.arg hw) (by first | assumption | omega) rfl ?_
    refine RP.neq_f rfl rfl rfl (by omega) ?_
    refine RP.nil ?_
    refine WP.cond_f rfl ?_
    refine WP.skip ?_
    refine WP.region ?_
    refine RP.move rfl rfl ?_
    refine RP.add rfl rfl rfl (by omega) (by omega) ?_
    refine RP.assign rfl rfl ?_
    refine RP.nil ?_
    refine roundQ.mk (Q := fun _ _ _ => True) (i + 1) ⟨rfl, rfl, rfl, trivial⟩ .nil (by
      try dsimp only
      exact hlt) (by
      try dsimp only
      omega)
  · skip
    refine RP.nil ?_
    refine WP.cond_f rfl ?_
    refine WP.exit ?_
    refine WP.seq ?_
    refine WP.region ?_
    refine RP.assign rfl rfl ?_
    refine RP.nil ?_
    refine WP.ret ?_
    exact End.one (Or.inr rfl) rfl (.tmp rfl) .nil ⟨rfl, rfl⟩
theorem same_ok (hlo : lo ≤ st.nxt) {a2 b2 c2 d2 : LV} {fol2 : List (LV × List Int)} (hm : MA (EE bm) st a b c d m fol) (hm2 : MA (EE bm) st a2 b2 c2 d2 m fol2) (h0 : Small60 m fol) : Fin (EE bm) lo 9 [mv a b c d m, mv a2 b2 c2 d2 m] st (fun r H => r = .bool true ∧ H = []) := by
  obtain ⟨h01, h02, h03, h04, h05⟩ := h0
  have hff : fol2.map (·.2) = fol.map (·.2) := by rw [← hm.same, hm2.same]
  have hfl : fol2.length = fol.length := by have := congrArg List.length hff; simpa using this
  refine Fin.of_body (fn := Try.f9) (c := Try.f9.body.getD .skip) rfl rfl rfl rfl ?_
  refine WP.seq ?_
  refine WP.region ?_
  refine RP.box rfl rfl hm.sc (fun L2 => ?_)
  refine RP.box rfl rfl hm2.sc (fun L3 => ?_)
  refine RP.assign rfl rfl ?_
  refine RP.nil ?_
  refine WP.seq ?_
  refine WP.seq ?_
  refine WP.region ?_
  refine RP.faddr rfl rfl rfl ?_
  refine RP.load_box rfl rfl rfl rfl (by repeat (first | exact .here | apply HIn.there | apply HIn.app)) rfl ?_
  first | refine RP.len_sl rfl rfl (.arg hm.spots) rfl ?_ | refine RP.len_sl rfl rfl (.arg hm2.spots) rfl ?_ | refine RP.len_sl rfl rfl (.arg hm.first) rfl ?_ | refine RP.len_sl rfl rfl (.arg hm.follow) rfl ?_ | refine RP.len_sl rfl rfl (.arg hm2.follow) rfl ?_ | refine RP.len_sl rfl rfl (.arg hm.last) rfl ?_ | refine RP.len_sl rfl rfl (.arg hm2.last) rfl ?_
  refine RP.faddr rfl rfl rfl ?_
  refine RP.load_box rfl rfl rfl rfl (by repeat (first | exact .here | apply HIn.there | apply HIn.app)) rfl ?_
  first | refine RP.len_sl rfl rfl (.arg hm.spots) rfl ?_ | refine RP.len_sl rfl rfl (.arg hm2.spots) rfl ?_ | refine RP.len_sl rfl rfl (.arg hm.first) rfl ?_ | refine RP.len_sl rfl rfl (.arg hm.follow) rfl ?_ | refine RP.len_sl rfl rfl (.arg hm2.follow) rfl ?_ | refine RP.len_sl rfl rfl (.arg hm.last) rfl ?_ | refine RP.len_sl rfl rfl (.arg hm2.last) rfl ?_
  refine RP.neq_f rfl rfl rfl (by omega) ?_
  refine RP.move rfl rfl ?_
  refine RP.gtrue rfl ?_
  refine RP.faddr rfl rfl rfl ?_
  refine RP.gtrue rfl ?_
  refine RP.load_box rfl rfl rfl rfl (by repeat (first | exact .here | apply HIn.there | apply HIn.app)) rfl ?_
  refine RP.gtrue rfl ?_
  first | refine RP.len_sl rfl rfl (.arg hm.spots) rfl ?_ | refine RP.len_sl rfl rfl (.arg hm2.spots) rfl ?_ | refine RP.len_sl rfl rfl (.arg hm.first) rfl ?_ | refine RP.len_sl rfl rfl (.arg hm.follow) rfl ?_ | refine RP.len_sl rfl rfl (.arg hm2.follow) rfl ?_ | refine RP.len_sl rfl rfl (.arg hm.last) rfl ?_ | refine RP.len_sl rfl rfl (.arg hm2.last) rfl ?_
  refine RP.gtrue rfl ?_
  refine RP.faddr rfl rfl rfl ?_
  refine RP.gtrue rfl ?_
  refine RP.load_box rfl rfl rfl rfl (by repeat (first | exact .here | apply HIn.there | apply HIn.app)) rfl ?_
  refine RP.gtrue rfl ?_
  first | refine RP.len_sl rfl rfl (.arg hm.spots) rfl ?_ | refine RP.len_sl rfl rfl (.arg hm2.spots) rfl ?_ | refine RP.len_sl rfl rfl (.arg hm.first) rfl ?_ | refine RP.len_sl rfl rfl (.arg hm.follow) rfl ?_ | refine RP.len_sl rfl rfl (.arg hm2.follow) rfl ?_ | refine RP.len_sl rfl rfl (.arg hm.last) rfl ?_ | refine RP.len_sl rfl rfl (.arg hm2.last) rfl ?_
  refine RP.gtrue rfl ?_
  refine RP.neq_f rfl rfl rfl (by omega) ?_
  refine RP.pick_ rfl rfl rfl ?_
  refine RP.move rfl rfl ?_
  refine RP.gtrue rfl ?_
  refine RP.faddr rfl rfl rfl ?_
  refine RP.gtrue rfl ?_
  refine RP.load_box rfl rfl rfl rfl (by repeat (first | exact .here | apply HIn.there | apply HIn.app)) rfl ?_
  refine RP.gtrue rfl ?_
  first | refine RP.len_sl rfl rfl (.arg hm.spots) rfl ?_ | refine RP.len_sl rfl rfl (.arg hm2.spots) rfl ?_ | refine RP.len_sl rfl rfl (.arg hm.first) rfl ?_ | refine RP.len_sl rfl rfl (.arg hm.follow) rfl ?_ | refine RP.len_sl rfl rfl (.arg hm2.follow) rfl ?_ | refine RP.len_sl rfl rfl (.arg hm.last) rfl ?_ | refine RP.len_sl rfl rfl (.arg hm2.last) rfl ?_
  refine RP.gtrue rfl ?_
  refine RP.faddr rfl rfl rfl ?_
  refine RP.gtrue rfl ?_
  refine RP.load_box rfl rfl rfl rfl (by repeat (first | exact .here | apply HIn.there | apply HIn.app)) rfl ?_
  refine RP.gtrue rfl ?_
  first | refine RP.len_sl rfl rfl (.arg hm.spots) rfl ?_ | refine RP.len_sl rfl rfl (.arg hm2.spots) rfl ?_ | refine RP.len_sl rfl rfl (.arg hm.first) rfl ?_ | refine RP.len_sl rfl rfl (.arg hm.follow) rfl ?_ | refine RP.len_sl rfl rfl (.arg hm2.follow) rfl ?_ | refine RP.len_sl rfl rfl (.arg hm.last) rfl ?_ | refine RP.len_sl rfl rfl (.arg hm2.last) rfl ?_
  refine RP.gtrue rfl ?_
  refine RP.neq_f rfl rfl rfl (by omega) ?_
  refine RP.pick_ rfl rfl rfl ?_
  refine RP.move rfl rfl ?_
  refine RP.gtrue rfl ?_
  refine RP.faddr rfl rfl rfl ?_
  refine RP.gtrue rfl ?_
  refine RP.load_box rfl rfl rfl rfl (by repeat (first | exact .here | apply HIn.there | apply HIn.app)) rfl ?_
  refine RP.gtrue rfl ?_
  refine RP.faddr rfl rfl rfl ?_
  refine RP.gtrue rfl ?_
  refine RP.load_box rfl rfl rfl rfl (by repeat (first | exact .here | apply HIn.there | apply HIn.app)) rfl ?_
  refine RP.gtrue rfl ?_
  refine RP.bin rfl rfl rfl (by cases m.empty <;> rfl) (v := .bool false) ?_
  refine RP.pick_ rfl rfl rfl ?_
  refine RP.move rfl rfl ?_
  refine RP.gtrue rfl ?_
  refine RP.faddr rfl rfl rfl ?_
  refine RP.gtrue rfl ?_
  refine RP.load_box rfl rfl rfl rfl (by repeat (first | exact .here | apply HIn.there | apply HIn.app)) rfl ?_
  refine RP.gtrue rfl ?_
  refine RP.faddr rfl rfl rfl ?_
  refine RP.gtrue rfl ?_
  refine RP.load_box rfl rfl rfl rfl (by repeat (first | exact .here | apply HIn.there | apply HIn.app)) rfl ?_
  refine RP.gtrue rfl ?_
  refine RP.call rfl rfl rfl hlo (fun st' lo' hi' hl' => alike_ok hl' (hm.first.inv hi') (hm2.first.inv hi') (by omega)) ?_
  rintro _ _ ⟨rfl, rfl⟩
  refine RP.gtrue rfl ?_
  refine RP.un rfl rfl rfl ?_
  refine RP.pick_ rfl rfl rfl ?_
  refine RP.nil ?_
  refine WP.cond_f rfl ?_
  refine WP.skip ?_
  refine WP.seq ?_
  refine WP.seq ?_
  refine WP.region ?_
  refine RP.assign rfl rfl ?_
  refine RP.nil ?_
  refine WP.block rfl ?_
  refine WP.loop (α := Nat) (fun gh => [(2, .ptr (.own L2) 0), (3, .ptr (.own L3) 0), (5, .int .i64 (gh : Int))]) (fun gh => [(some L2, .cells (mv a b c d m).cells), (some L3, .cells (mv a2 b2 c2 d2 m).cells)]) (fun gh => gh ≤ m.spots.length) (fun gh => m.spots.length - gh) ?_ 0 ⟨rfl, rfl, rfl, trivial⟩ (.cons (by repeat (first | exact .here | apply HRem.there | apply HRem.app)) (.cons (by repeat (first | exact .here | apply HRem.there | apply HRem.app)) .nil)) (by
    try dsimp only
    exact (Nat.zero_le _))
  rintro i hI
  change i ≤ m.spots.length at hI
  change WP _ _ _ _ _ [(2, .ptr (.own L2) 0), (3, .ptr (.own L3) 0), (5, .int .i64 (i : Int))] ([(some L2, .cells (mv a b c d m).cells), (some L3, .cells (mv a2 b2 c2 d2 m).cells)] : HL) _
  refine WP.seq ?_
  refine WP.seq ?_
  refine WP.region ?_
  refine RP.move rfl rfl ?_
  refine RP.faddr rfl rfl rfl ?_
  refine RP.load_box rfl rfl rfl rfl (by repeat (first | exact .here | apply HIn.there | apply HIn.app)) rfl ?_
  first | refine RP.len_sl rfl rfl (.arg hm.spots) rfl ?_ | refine RP.len_sl rfl rfl (.arg hm2.spots) rfl ?_ | refine RP.len_sl rfl rfl (.arg hm.first) rfl ?_ | refine RP.len_sl rfl rfl (.arg hm.follow) rfl ?_ | refine RP.len_sl rfl rfl (.arg hm2.follow) rfl ?_ | refine RP.len_sl rfl rfl (.arg hm.last) rfl ?_ | refine RP.len_sl rfl rfl (.arg hm2.last) rfl ?_
  refine RP.lss rfl rfl rfl (fun h52 => ?_) (fun h52 => ?_)
  · skip
    have hlt : i < m.spots.length := by omega
    refine RP.nil ?_
    refine WP.cond_t rfl ?_
    refine WP.skip ?_
    refine WP.seq ?_
    refine WP.block rfl ?_
    refine WP.seq ?_
    refine WP.drawn (by kernel_rfl) ?_
    refine RP.faddr rfl rfl rfl ?_
    refine RP.load_box rfl rfl rfl rfl (by repeat (first | exact .here | apply HIn.there | apply HIn.app)) rfl ?_
    refine RP.move rfl rfl ?_
    first | refine RP.at_ rfl rfl rfl rfl rfl rfl (.arg hm.spots) (by first | assumption | omega) ?_ | refine RP.at_ rfl rfl rfl rfl rfl rfl (.arg hm2.spots) (by first | assumption | omega) ?_ | refine RP.at_ rfl rfl rfl rfl rfl rfl (.arg hm.first) (by first | assumption | omega) ?_ | refine RP.at_ rfl rfl rfl rfl rfl rfl (.arg hm.follow) (by first | assumption | omega) ?_ | refine RP.at_ rfl rfl rfl rfl rfl rfl (.arg hm2.follow) (by first | assumption | omega) ?_ | refine RP.at_ rfl rfl rfl rfl rfl rfl (.arg hm.last) (by first | assumption | omega) ?_ | refine RP.at_ rfl rfl rfl rfl rfl rfl (.arg hm2.last) (by first | assumption | omega) ?_
    first | refine RP.load_elN rfl rfl rfl rfl rfl (.arg hm.spots) (by first | assumption | omega) rfl ?_ | refine RP.load_elN rfl rfl rfl rfl rfl (.arg hm2.spots) (by first | assumption | omega) rfl ?_ | refine RP.load_elN rfl rfl rfl rfl rfl (.arg hm.first) (by first | assumption | omega) rfl ?_ | refine RP.load_elN rfl rfl rfl rfl rfl (.arg hm.follow) (by first | assumption | omega) rfl ?_ | refine RP.load_elN rfl rfl rfl rfl rfl (.arg hm2.follow) (by first | assumption | omega) rfl ?_ | refine RP.load_elN rfl rfl rfl rfl rfl (.arg hm.last) (by first | assumption | omega) rfl ?_ | refine RP.load_elN rfl rfl rfl rfl rfl (.arg hm2.last) (by first | assumption | omega) rfl ?_
    refine RP.faddr rfl rfl rfl ?_
    refine RP.load_box rfl rfl rfl rfl (by repeat (first | exact .here | apply HIn.there | apply HIn.app)) rfl ?_
    refine RP.move rfl rfl ?_
    first | refine RP.at_ rfl rfl rfl rfl rfl rfl (.arg hm.spots) (by first | assumption | omega) ?_ | refine RP.at_ rfl rfl rfl rfl rfl rfl (.arg hm2.spots) (by first | assumption | omega) ?_ | refine RP.at_ rfl rfl rfl rfl rfl rfl (.arg hm.first) (by first | assumption | omega) ?_ | refine RP.at_ rfl rfl rfl rfl rfl rfl (.arg hm.follow) (by first | assumption | omega) ?_ | refine RP.at_ rfl rfl rfl rfl rfl rfl (.arg hm2.follow) (by first | assumption | omega) ?_ | refine RP.at_ rfl rfl rfl rfl rfl rfl (.arg hm.last) (by first | assumption | omega) ?_ | refine RP.at_ rfl rfl rfl rfl rfl rfl (.arg hm2.last) (by first | assumption | omega) ?_
    first | refine RP.load_elN rfl rfl rfl rfl rfl (.arg hm.spots) (by first | assumption | omega) rfl ?_ | refine RP.load_elN rfl rfl rfl rfl rfl (.arg hm2.spots) (by first | assumption | omega) rfl ?_ | refine RP.load_elN rfl rfl rfl rfl rfl (.arg hm.first) (by first | assumption | omega) rfl ?_ | refine RP.load_elN rfl rfl rfl rfl rfl (.arg hm.follow) (by first | assumption | omega) rfl ?_ | refine RP.load_elN rfl rfl rfl rfl rfl (.arg hm2.follow) (by first | assumption | omega) rfl ?_ | refine RP.load_elN rfl rfl rfl rfl rfl (.arg hm.last) (by first | assumption | omega) rfl ?_ | refine RP.load_elN rfl rfl rfl rfl rfl (.arg hm2.last) (by first | assumption | omega) rfl ?_
    refine RP.bin (v := .bool false) rfl rfl rfl (by show Option.map (fun b => LV.bool !b) (some (cellsEq (fS m.spots[i]) (fS m.spots[i]))) = _; rw [spot_self]; rfl) ?_
    refine RP.nil ?_
    refine WP.cond_f rfl ?_
    refine WP.skip ?_
    refine WP.region ?_
    refine RP.move rfl rfl ?_
    refine RP.add rfl rfl rfl (by omega) (by omega) ?_
    refine RP.assign rfl rfl ?_
    refine RP.nil ?_
    refine roundQ.mk (Q := fun _ _ _ => True) (i + 1) ⟨rfl, rfl, rfl, trivial⟩ (.cons (by repeat (first | exact .here | apply HRem.there | apply HRem.app)) (.cons (by repeat (first | exact .here | apply HRem.there | apply HRem.app)) .nil)) (by
      try dsimp only
      exact hlt) (by
      try dsimp only
      omega)
  · skip
    refine RP.nil ?_
    refine WP.cond_f rfl ?_
    refine WP.exit ?_
    refine WP.seq ?_
    refine WP.seq ?_
    refine WP.region ?_
    refine RP.assign rfl rfl ?_
    refine RP.nil ?_
    refine WP.block rfl ?_
    refine WP.loop (α := Nat) (fun gh => [(2, .ptr (.own L2) 0), (3, .ptr (.own L3) 0), (6, .int .i64 (gh : Int))]) (fun gh => [(some L2, .cells (mv a b c d m).cells), (some L3, .cells (mv a2 b2 c2 d2 m).cells)]) (fun gh => gh ≤ m.last.length) (fun gh => m.last.length - gh) ?_ 0 ⟨rfl, rfl, rfl, trivial⟩ (.cons (by repeat (first | exact .here | apply HRem.there | apply HRem.app)) (.cons (by repeat (first | exact .here | apply HRem.there | apply HRem.app)) .nil)) (by
      try dsimp only
      exact (Nat.zero_le _))
    rintro i hI
    change i ≤ m.last.length at hI
    change WP _ _ _ _ _ [(2, .ptr (.own L2) 0), (3, .ptr (.own L3) 0), (6, .int .i64 (i : Int))] ([(some L2, .cells (mv a b c d m).cells), (some L3, .cells (mv a2 b2 c2 d2 m).cells)] : HL) _
    refine WP.seq ?_
    refine WP.seq ?_
    refine WP.region ?_
    refine RP.move rfl rfl ?_
    refine RP.faddr rfl rfl rfl ?_
    refine RP.load_box rfl rfl rfl rfl (by repeat (first | exact .here | apply HIn.there | apply HIn.app)) rfl ?_
    first | refine RP.len_sl rfl rfl (.arg hm.spots) rfl ?_ | refine RP.len_sl rfl rfl (.arg hm2.spots) rfl ?_ | refine RP.len_sl rfl rfl (.arg hm.first) rfl ?_ | refine RP.len_sl rfl rfl (.arg hm.follow) rfl ?_ | refine RP.len_sl rfl rfl (.arg hm2.follow) rfl ?_ | refine RP.len_sl rfl rfl (.arg hm.last) rfl ?_ | refine RP.len_sl rfl rfl (.arg hm2.last) rfl ?_
    refine RP.lss rfl rfl rfl (fun h70 => ?_) (fun h70 => ?_)
    · skip
      have hlt : i < m.last.length := by omega
      refine RP.nil ?_
      refine WP.cond_t rfl ?_
      refine WP.skip ?_
      refine WP.seq ?_
      refine WP.block rfl ?_
      refine WP.seq ?_
      refine WP.drawn (by kernel_rfl) ?_
      refine RP.faddr rfl rfl rfl ?_
      refine RP.load_box rfl rfl rfl rfl (by repeat (first | exact .here | apply HIn.there | apply HIn.app)) rfl ?_
      refine RP.move rfl rfl ?_
      first | refine RP.at_ rfl rfl rfl rfl rfl rfl (.arg hm.spots) (by first | assumption | omega) ?_ | refine RP.at_ rfl rfl rfl rfl rfl rfl (.arg hm2.spots) (by first | assumption | omega) ?_ | refine RP.at_ rfl rfl rfl rfl rfl rfl (.arg hm.first) (by first | assumption | omega) ?_ | refine RP.at_ rfl rfl rfl rfl rfl rfl (.arg hm.follow) (by first | assumption | omega) ?_ | refine RP.at_ rfl rfl rfl rfl rfl rfl (.arg hm2.follow) (by first | assumption | omega) ?_ | refine RP.at_ rfl rfl rfl rfl rfl rfl (.arg hm.last) (by first | assumption | omega) ?_ | refine RP.at_ rfl rfl rfl rfl rfl rfl (.arg hm2.last) (by first | assumption | omega) ?_
      first | refine RP.load_el rfl rfl rfl rfl (.arg hm.spots) (by first | assumption | omega) rfl ?_ | refine RP.load_el rfl rfl rfl rfl (.arg hm2.spots) (by first | assumption | omega) rfl ?_ | refine RP.load_el rfl rfl rfl rfl (.arg hm.first) (by first | assumption | omega) rfl ?_ | refine RP.load_el rfl rfl rfl rfl (.arg hm.follow) (by first | assumption | omega) rfl ?_ | refine RP.load_el rfl rfl rfl rfl (.arg hm2.follow) (by first | assumption | omega) rfl ?_ | refine RP.load_el rfl rfl rfl rfl (.arg hm.last) (by first | assumption | omega) rfl ?_ | refine RP.load_el rfl rfl rfl rfl (.arg hm2.last) (by first | assumption | omega) rfl ?_
      refine RP.faddr rfl rfl rfl ?_
      refine RP.load_box rfl rfl rfl rfl (by repeat (first | exact .here | apply HIn.there | apply HIn.app)) rfl ?_
      refine RP.move rfl rfl ?_
      first | refine RP.at_ rfl rfl rfl rfl rfl rfl (.arg hm.spots) (by first | assumption | omega) ?_ | refine RP.at_ rfl rfl rfl rfl rfl rfl (.arg hm2.spots) (by first | assumption | omega) ?_ | refine RP.at_ rfl rfl rfl rfl rfl rfl (.arg hm.first) (by first | assumption | omega) ?_ | refine RP.at_ rfl rfl rfl rfl rfl rfl (.arg hm.follow) (by first | assumption | omega) ?_ | refine RP.at_ rfl rfl rfl rfl rfl rfl (.arg hm2.follow) (by first | assumption | omega) ?_ | refine RP.at_ rfl rfl rfl rfl rfl rfl (.arg hm.last) (by first | assumption | omega) ?_ | refine RP.at_ rfl rfl rfl rfl rfl rfl (.arg hm2.last) (by first | assumption | omega) ?_
      first | refine RP.load_el rfl rfl rfl rfl (.arg hm.spots) (by first | assumption | omega) rfl ?_ | refine RP.load_el rfl rfl rfl rfl (.arg hm2.spots) (by first | assumption | omega) rfl ?_ | refine RP.load_el rfl rfl rfl rfl (.arg hm.first) (by first | assumption | omega) rfl ?_ | refine RP.load_el rfl rfl rfl rfl (.arg hm.follow) (by first | assumption | omega) rfl ?_ | refine RP.load_el rfl rfl rfl rfl (.arg hm2.follow) (by first | assumption | omega) rfl ?_ | refine RP.load_el rfl rfl rfl rfl (.arg hm.last) (by first | assumption | omega) rfl ?_ | refine RP.load_el rfl rfl rfl rfl (.arg hm2.last) (by first | assumption | omega) rfl ?_
      refine RP.bin (v := .bool false) rfl rfl rfl (by cases m.last[i] <;> rfl) ?_
      refine RP.nil ?_
      refine WP.cond_f rfl ?_
      refine WP.skip ?_
      refine WP.region ?_
      refine RP.move rfl rfl ?_
      refine RP.add rfl rfl rfl (by omega) (by omega) ?_
      refine RP.assign rfl rfl ?_
      refine RP.nil ?_
      refine roundQ.mk (Q := fun _ _ _ => True) (i + 1) ⟨rfl, rfl, rfl, trivial⟩ (.cons (by repeat (first | exact .here | apply HRem.there | apply HRem.app)) (.cons (by repeat (first | exact .here | apply HRem.there | apply HRem.app)) .nil)) (by
        try dsimp only
        exact hlt) (by
        try dsimp only
        omega)
    · skip
      refine RP.nil ?_
      refine WP.cond_f rfl ?_
      refine WP.exit ?_
      refine WP.seq ?_
      refine WP.seq ?_
      refine WP.region ?_
      refine RP.assign rfl rfl ?_
      refine RP.nil ?_
      refine WP.block rfl ?_
      refine WP.loop (α := Nat) (fun gh => [(2, .ptr (.own L2) 0), (3, .ptr (.own L3) 0), (7, .int .i64 (gh : Int))]) (fun gh => [(some L2, .cells (mv a b c d m).cells), (some L3, .cells (mv a2 b2 c2 d2 m).cells)]) (fun gh => gh ≤ fol.length) (fun gh => fol.length - gh) ?_ 0 ⟨rfl, rfl, rfl, trivial⟩ (.cons (by repeat (first | exact .here | apply HRem.there | apply HRem.app)) (.cons (by repeat (first | exact .here | apply HRem.there | apply HRem.app)) .nil)) (by
        try dsimp only
        exact (Nat.zero_le _))
      rintro i hI
      change i ≤ fol.length at hI
      change WP _ _ _ _ _ [(2, .ptr (.own L2) 0), (3, .ptr (.own L3) 0), (7, .int .i64 (i : Int))] ([(some L2, .cells (mv a b c d m).cells), (some L3, .cells (mv a2 b2 c2 d2 m).cells)] : HL) _
      refine WP.seq ?_
      refine WP.seq ?_
      refine WP.region ?_
      refine RP.move rfl rfl ?_
      refine RP.faddr rfl rfl rfl ?_
      refine RP.load_box rfl rfl rfl rfl (by repeat (first | exact .here | apply HIn.there | apply HIn.app)) rfl ?_
      first | refine RP.len_sl rfl rfl (.arg hm.spots) rfl ?_ | refine RP.len_sl rfl rfl (.arg hm2.spots) rfl ?_ | refine RP.len_sl rfl rfl (.arg hm.first) rfl ?_ | refine RP.len_sl rfl rfl (.arg hm.follow) rfl ?_ | refine RP.len_sl rfl rfl (.arg hm2.follow) rfl ?_ | refine RP.len_sl rfl rfl (.arg hm.last) rfl ?_ | refine RP.len_sl rfl rfl (.arg hm2.last) rfl ?_
      refine RP.lss rfl rfl rfl (fun h88 => ?_) (fun h88 => ?_)
      · skip
        have hlt : i < fol.length := by omega
        have hlt2 : i < fol2.length := by omega
        have hrow := hm.row hlt
        have hrow2 := hm2.row hlt2
        have hrl := h05 i hlt
        have heq : fol2[i].2 = fol[i].2 := by
          have h1 := congrArg (fun l => l[i]?) hff
          simp only [List.getElem?_map, List.getElem?_eq_getElem hlt, List.getElem?_eq_getElem hlt2, Option.map_some, Option.some.injEq] at h1
          exact h1
        rw [heq] at hrow2
        refine RP.nil ?_
        refine WP.cond_t rfl ?_
        refine WP.skip ?_
        refine WP.seq ?_
        refine WP.block rfl ?_
        refine WP.seq ?_
        refine WP.drawn (by kernel_rfl) ?_
        refine RP.faddr rfl rfl rfl ?_
        refine RP.load_box rfl rfl rfl rfl (by repeat (first | exact .here | apply HIn.there | apply HIn.app)) rfl ?_
        refine RP.move rfl rfl ?_
        first | refine RP.at_ rfl rfl rfl rfl rfl rfl (.arg hm.spots) (by first | assumption | omega) ?_ | refine RP.at_ rfl rfl rfl rfl rfl rfl (.arg hm2.spots) (by first | assumption | omega) ?_ | refine RP.at_ rfl rfl rfl rfl rfl rfl (.arg hm.first) (by first | assumption | omega) ?_ | refine RP.at_ rfl rfl rfl rfl rfl rfl (.arg hm.follow) (by first | assumption | omega) ?_ | refine RP.at_ rfl rfl rfl rfl rfl rfl (.arg hm2.follow) (by first | assumption | omega) ?_ | refine RP.at_ rfl rfl rfl rfl rfl rfl (.arg hm.last) (by first | assumption | omega) ?_ | refine RP.at_ rfl rfl rfl rfl rfl rfl (.arg hm2.last) (by first | assumption | omega) ?_
        first | refine RP.load_el rfl rfl rfl rfl (.arg hm.spots) (by first | assumption | omega) rfl ?_ | refine RP.load_el rfl rfl rfl rfl (.arg hm2.spots) (by first | assumption | omega) rfl ?_ | refine RP.load_el rfl rfl rfl rfl (.arg hm.first) (by first | assumption | omega) rfl ?_ | refine RP.load_el rfl rfl rfl rfl (.arg hm.follow) (by first | assumption | omega) rfl ?_ | refine RP.load_el rfl rfl rfl rfl (.arg hm2.follow) (by first | assumption | omega) rfl ?_ | refine RP.load_el rfl rfl rfl rfl (.arg hm.last) (by first | assumption | omega) rfl ?_ | refine RP.load_el rfl rfl rfl rfl (.arg hm2.last) (by first | assumption | omega) rfl ?_
        refine RP.faddr rfl rfl rfl ?_
        refine RP.load_box rfl rfl rfl rfl (by repeat (first | exact .here | apply HIn.there | apply HIn.app)) rfl ?_
        refine RP.move rfl rfl ?_
        first | refine RP.at_ rfl rfl rfl rfl rfl rfl (.arg hm.spots) (by first | assumption | omega) ?_ | refine RP.at_ rfl rfl rfl rfl rfl rfl (.arg hm2.spots) (by first | assumption | omega) ?_ | refine RP.at_ rfl rfl rfl rfl rfl rfl (.arg hm.first) (by first | assumption | omega) ?_ | refine RP.at_ rfl rfl rfl rfl rfl rfl (.arg hm.follow) (by first | assumption | omega) ?_ | refine RP.at_ rfl rfl rfl rfl rfl rfl (.arg hm2.follow) (by first | assumption | omega) ?_ | refine RP.at_ rfl rfl rfl rfl rfl rfl (.arg hm.last) (by first | assumption | omega) ?_ | refine RP.at_ rfl rfl rfl rfl rfl rfl (.arg hm2.last) (by first | assumption | omega) ?_
        first | refine RP.load_el rfl rfl rfl rfl (.arg hm.spots) (by first | assumption | omega) rfl ?_ | refine RP.load_el rfl rfl rfl rfl (.arg hm2.spots) (by first | assumption | omega) rfl ?_ | refine RP.load_el rfl rfl rfl rfl (.arg hm.first) (by first | assumption | omega) rfl ?_ | refine RP.load_el rfl rfl rfl rfl (.arg hm.follow) (by first | assumption | omega) rfl ?_ | refine RP.load_el rfl rfl rfl rfl (.arg hm2.follow) (by first | assumption | omega) rfl ?_ | refine RP.load_el rfl rfl rfl rfl (.arg hm.last) (by first | assumption | omega) rfl ?_ | refine RP.load_el rfl rfl rfl rfl (.arg hm2.last) (by first | assumption | omega) rfl ?_
        refine RP.call rfl rfl rfl hlo (fun st' lo' hi' hl' => alike_ok hl' (hrow.inv hi') (hrow2.inv hi') (by omega)) ?_
        rintro _ _ ⟨rfl, rfl⟩
        refine RP.un rfl rfl rfl ?_
        refine RP.nil ?_
        refine WP.cond_f rfl ?_
        refine WP.skip ?_
        refine WP.region ?_
        refine RP.move rfl rfl ?_
        refine RP.add rfl rfl rfl (by omega) (by omega) ?_
        refine RP.assign rfl rfl ?_
        refine RP.nil ?_
        refine roundQ.mk (Q := fun _ _ _ => True) (i + 1) ⟨rfl, rfl, rfl, trivial⟩ (.cons (by repeat (first | exact .here | apply HRem.there | apply HRem.app)) (.cons (by repeat (first | exact .here | apply HRem.there | apply HRem.app)) .nil)) (by
          try dsimp only
          exact hlt) (by
          try dsimp only
          omega)
      · skip
        refine RP.nil ?_
        refine WP.cond_f rfl ?_
        refine WP.exit ?_
        refine WP.seq ?_
        refine WP.region ?_
        refine RP.assign rfl rfl ?_
        refine RP.nil ?_
        refine WP.ret ?_
        exact End.one (Or.inr rfl) rfl (.tmp rfl) .nil ⟨rfl, rfl⟩
end
end Go.Proofs.Yteiabdbkeanldaa

namespace Go.Proofs.Yteiabdbkeanldaa
open Go.Proofs.Yteiabdbkeanldaa.Lvm Go

section
variable {bm : Nat → Nat → Option LV} {st : LSt} {lo : Nat} {a b c d : LV} {m : Mach} {fol : List (LV × List Int)}

theorem awake_ok : Fin (EE bm) lo 6 [] st (fun r H => r = .bool true ∧ H = []) := ⟨.bool true, st, [], ⟨0, rfl⟩, Inv.refl, rfl, rfl⟩
theorem trim_own (hlo : lo ≤ st.nxt) (hm : MA (EE bm) st a b c d m fol) (h0 : Small60 m fol) : Fin (EE bm) lo 8 [mv a b c d m] st (fun v H => ∃ t e a' b' c' d' pa pb pc pd rows, v = .tup [mv a' b' c' d' t, .int .i64 e] ∧ H = heapO pa pb pc pd rows ∧ MO a' b' c' d' pa pb pc pd rows t ∧
    t.spots.length = rows.length ∧ t.last.length = rows.length ∧ t.first.length ≤ 60 ∧ rows.length ≤ 60 ∧ ∀ r ∈ rows, r.2.1.length ≤ 60) := by
  have hfl := hm.len
  obtain ⟨h01, h02, h03, h04, h05⟩ := id h0
  obtain ⟨v, st', H, h1, h2, h3⟩ := trim_ok hlo hm h0
  rcases h3 with ⟨_, rfl, rfl⟩ | ⟨hg, keep, k1, k2, a', b', c', d', pa, pb, pc, pd, rows, rfl, rfl, hM⟩
  · exact ⟨_, st', heapO (none, .dead) (none, .dead) (none, .dead) (none, .dead) [], h1, (((h2.ghost .dead).ghost .dead).ghost .dead).ghost .dead, ⟨[], [], [], [], false⟩, 1, .nilsl, .nilsl, .nilsl, .nilsl, _, _, _, _, [], rfl, rfl, ⟨.nil, .nil, .nil, by simp, .nil, rfl⟩, rfl, rfl, by simp, by simp, by simp⟩
  · have hl := congrArg List.length hM.same
    simp only [List.length_map, trimF] at hl
    have h1' : (keptF keep m.follow).length ≤ m.follow.length := keptF_le
    refine ⟨_, st', _, h1, h2, _, 0, a', b', c', d', pa, pb, pc, pd, rows, rfl, rfl, hM, ?_, ?_, ?_, by omega, fun r hr => ?_⟩
    · rw [← hl]; exact keptF_len hg.flen.symm
    · rw [← hl]; exact keptF_len (by rw [hg.flen, hg.llen])
    · exact Nat.le_trans leftF_le h04
    · have hmem : r.2.1 ∈ (trimF keep m).follow := by rw [hM.same]; exact List.mem_map.2 ⟨r, hr, rfl⟩
      obtain ⟨x, hx, he⟩ := List.mem_map.1 hmem
      rw [← he]
      refine Nat.le_trans leftF_le ?_
      have hxm : x ∈ m.follow := by
        unfold keptF at hx
        obtain ⟨q, hq, rfl⟩ := List.mem_map.1 hx
        exact (List.of_mem_zip (List.mem_filter.1 hq).1).1
      rw [hm.same] at hxm
      obtain ⟨y, hy, rfl⟩ := List.mem_map.1 hxm
      obtain ⟨j, hj, rfl⟩ := List.mem_iff_getElem.1 hy
      exact h05 j hj

theorem nfaOwn_ok (hlo : lo ≤ st.nxt) (hm : MA (EE bm) st a b c d m fol) : Fin (EE bm) lo 3 [mv a b c d m] st (fun v H => v = .bool true ∧ H = []) := by
  refine Fin.of_body (fn := Try.f3) (c := Try.f3.body.getD .skip) rfl rfl rfl rfl ?_
  refine WP.seq ?_
  refine WP.region ?_
  refine RP.box rfl rfl hm.sc (fun L1 => ?_)
  refine RP.assign rfl rfl ?_
  refine RP.nil ?_
  refine WP.seq ?_
  refine WP.seq ?_
  refine WP.region ?_
  refine RP.load_boxN rfl rfl rfl rfl rfl (by repeat (first | exact .here | apply HIn.there | apply HIn.app)) rfl ?_
  refine RP.call rfl rfl rfl hlo (fun st' lo' hi' hl' => great_ok hl' (hm.inv hi')) ?_
  rintro _ _ (⟨rfl, rfl⟩ | ⟨h0, rfl, rfl⟩)
  · skip
    refine RP.nil ?_
    refine WP.cond_t rfl ?_
    refine WP.seq ?_
    refine WP.region ?_
    refine RP.call rfl rfl rfl hlo (fun st' lo' hi' hl' => awake_ok) ?_
    rintro _ _ ⟨rfl, rfl⟩
    refine RP.assign rfl rfl ?_
    refine RP.nil ?_
    refine WP.ret ?_
    exact End.one (Or.inr rfl) rfl (.tmp rfl) .nil ⟨rfl, rfl⟩
  · skip
    have hfl := hm.len
    have h0i := h0
    obtain ⟨h01, h02, h03, h04, h05⟩ := h0i
    refine RP.nil ?_
    refine WP.cond_f rfl ?_
    refine WP.skip ?_
    refine WP.seq ?_
    refine WP.region ?_
    refine RP.load_boxN rfl rfl rfl rfl rfl (by repeat (first | exact .here | apply HIn.there | apply HIn.app)) rfl ?_
    refine RP.call rfl rfl rfl hlo (fun st' lo' hi' hl' => copy_ok hl' (hm.inv hi') h0) ?_
    rintro _ _ ⟨c1, c2, c3, c4, ca, cb, cc, cd, rC, rfl, rfl, hC⟩
    have hmem : ∀ r ∈ rC, r.2.1.length ≤ 60 := fun r hr => by
      have h1 : r.2.1 ∈ m.follow := by rw [hC.same]; exact List.mem_map.2 ⟨r, hr, rfl⟩
      rw [hm.same] at h1
      obtain ⟨y, hy, hy2⟩ := List.mem_map.1 h1
      obtain ⟨j, hj, rfl⟩ := List.mem_iff_getElem.1 hy
      rw [← hy2]; exact h05 j hj
    have hcl : rC.length = fol.length := by have := congrArg List.length hC.same; simp only [List.length_map] at this; omega
    have h0c : Small60 m (rC.map fun r => (r.1, r.2.1)) := ⟨h01, by rw [List.length_map]; omega, h03, h04, fun j hj => by rw [List.getElem_map]; exact hmem _ (List.getElem_mem _)⟩
    refine RP.alloc rfl rfl rfl (fun L3 => ?_)
    refine RP.store_box rfl rfl rfl rfl rfl hC.sc hlo (by repeat (first | exact .here | apply HUpd.there | apply HUpd.app)) ?_
    refine RP.nil ?_
    refine WP.seq ?_
    refine WP.region ?_
    refine RP.load_boxN rfl rfl rfl rfl rfl (by repeat (first | exact .here | apply HIn.there | apply HIn.app)) rfl ?_
    refine RP.call rfl rfl rfl hlo (fun st' lo' hi' hl' => copy_ok hl' (hC.arg hi' (fun p hp => by simp only [List.mem_cons, List.mem_append]; exact Or.inr (Or.inl hp))) h0c) ?_
    rintro _ _ ⟨d1, d2, d3, d4, da, db, dc, dd, rD, rfl, rfl, hD⟩
    refine RP.alloc rfl rfl rfl (fun L4 => ?_)
    refine RP.store_box rfl rfl rfl rfl rfl hD.sc hlo (by repeat (first | exact .here | apply HUpd.there | apply HUpd.app)) ?_
    refine RP.nil ?_
    refine WP.seq ?_
    refine WP.region ?_
    refine RP.load_boxN rfl rfl rfl rfl rfl (by repeat (first | exact .here | apply HIn.there | apply HIn.app)) rfl ?_
    refine RP.call rfl rfl rfl hlo (fun st' lo' hi' hl' => trim_own hl' (hC.arg hi' (fun p hp => by simp only [List.mem_cons, List.mem_append]; exact Or.inr (Or.inr (Or.inr (Or.inl hp))))) h0c) ?_
    rintro _ _ ⟨t, e, t1, t2, t3, t4, ta, tb, tc, td, rT, rfl, rfl, hT, hT1, hT2, hT3, hT4, hT5⟩
    refine RP.move rfl rfl ?_
    refine RP.extract_ rfl rfl rfl ?_
    refine RP.extract_ rfl rfl rfl ?_
    refine RP.alloc rfl rfl rfl (fun L5 => ?_)
    refine RP.store_box rfl rfl rfl rfl rfl hT.sc hlo (by repeat (first | exact .here | apply HUpd.there | apply HUpd.app)) ?_
    refine RP.assign rfl rfl ?_
    refine RP.nil ?_
    refine WP.seq ?_
    refine WP.seq ?_
    have hTF : Lin 1 f1 false t3 (rT.map (fun r => r.1)) tc := hT.follow.map (fun _ => rfl)
    have hDF : Lin 1 f1 false d3 (rD.map (fun r => r.1)) dc := hD.follow.map (fun _ => rfl)
    have hvT : (rT.map (fun r : Row => r.1)).length = rT.length := List.length_map ..
    have hvD : (rD.map (fun r : Row => r.1)).length = rD.length := List.length_map ..
    have hDl : rD.length = fol.length := by have := congrArg List.length hD.same; simp only [List.length_map] at this; omega
    have hD5 : ∀ r ∈ rD, r.2.1.length ≤ 60 := fun r hr => by
      have h1 : r.2.1 ∈ m.follow := by rw [hD.same]; exact List.mem_map.2 ⟨r, hr, rfl⟩
      rw [hm.same] at h1
      obtain ⟨y, hy, hy2⟩ := List.mem_map.1 h1
      obtain ⟨j, hj, rfl⟩ := List.mem_iff_getElem.1 hy
      rw [← hy2]; exact h05 j hj
    refine WP.pick (H' := (some L1, .cells (mv a b c d m).cells) :: (some L3, .cells (mv c1 c2 c3 c4 m).cells) :: (some L4, .cells (mv d1 d2 d3 d4 m).cells) :: (some L5, .cells (mv t1 t2 t3 t4 t).cells) :: ca :: cb :: cc :: cd :: dc :: ta :: tb :: tc :: td :: (rT.map (fun r => r.2.2) ++ (rD.map (fun r => r.2.2) ++ rC.map (fun r => r.2.2)))) (.cons (by repeat (first | exact .here | apply HRem.there | apply HRem.app)) (.cons (by repeat (first | exact .here | apply HRem.there | apply HRem.app)) (.cons (by repeat (first | exact .here | apply HRem.there | apply HRem.app)) (.cons (by repeat (first | exact .here | apply HRem.there | apply HRem.app)) (.cons (by repeat (first | exact .here | apply HRem.there | apply HRem.app)) (.cons (by repeat (first | exact .here | apply HRem.there | apply HRem.app)) (.cons (by repeat (first | exact .here | apply HRem.there | apply HRem.app)) (.cons (by repeat (first | exact .here | apply HRem.there | apply HRem.app)) (.cons (by repeat (first | exact .here | apply HRem.there | apply HRem.app)) (.cons (by repeat (first | exact .here | apply HRem.there | apply HRem.app)) (.cons (by repeat (first | exact .here | apply HRem.there | apply HRem.app)) (.cons (by repeat (first | exact .here | apply HRem.there | apply HRem.app)) (.cons (by repeat (first | exact .here | apply HRem.there | apply HRem.app)) (.app (.skip (.skip (.skip (.app (.perm (by rw [List.append_nil]) .refl))))))))))))))))))) ?_
    refine WP.region ?_
    refine RP.assign rfl rfl ?_
    refine RP.nil ?_
    refine WP.block rfl ?_
    refine WP.loop (α := Nat × List Int × HE) (fun gh => [(1, .ptr (.own L1) 0), (3, .ptr (.own L3) 0), (4, .ptr (.own L4) 0), (5, .ptr (.own L5) 0), (7, .int .i64 (gh.1 : Int))]) (fun gh => (some L1, .cells (mv a b c d m).cells) :: (some L3, .cells (mv c1 c2 c3 c4 m).cells) :: (some L4, .cells (mv d1 d2 d3 d4 m).cells) :: (some L5, .cells (mv t1 t2 t3 t4 t).cells) :: ca :: cb :: cc :: cd :: dc :: ta :: gh.2.2 :: tc :: td :: (rT.map (fun r => r.2.2) ++ (rD.map (fun r => r.2.2) ++ rC.map (fun r => r.2.2)))) (fun gh => gh.1 ≤ gh.2.1.length ∧ gh.2.1.length ≤ 60 ∧ Lin 1 fI false t2 gh.2.1 gh.2.2) (fun gh => gh.2.1.length - gh.1) ?_ (0, t.first, tb) ⟨rfl, rfl, rfl, rfl, rfl, trivial⟩ .refl (by
      try dsimp only
      exact ⟨Nat.zero_le _, hT3, hT.first⟩)
    rintro ⟨i, xs, pb⟩ hI
    change i ≤ xs.length ∧ xs.length ≤ 60 ∧ Lin 1 fI false t2 xs pb at hI
    change WP _ _ _ _ _ [(1, .ptr (.own L1) 0), (3, .ptr (.own L3) 0), (4, .ptr (.own L4) 0), (5, .ptr (.own L5) 0), (7, .int .i64 (i : Int))] ((some L1, .cells (mv a b c d m).cells) :: (some L3, .cells (mv c1 c2 c3 c4 m).cells) :: (some L4, .cells (mv d1 d2 d3 d4 m).cells) :: (some L5, .cells (mv t1 t2 t3 t4 t).cells) :: ca :: cb :: cc :: cd :: dc :: ta :: pb :: tc :: td :: (rT.map (fun r => r.2.2) ++ (rD.map (fun r => r.2.2) ++ rC.map (fun r => r.2.2))) : HL) _
    obtain ⟨hI1, hI2, hI3⟩ := hI
    refine WP.seq ?_
    refine WP.seq ?_
    refine WP.region ?_
    refine RP.move rfl rfl ?_
    refine RP.faddr rfl rfl rfl ?_
    refine RP.load_box rfl rfl rfl rfl (by repeat (first | exact .here | apply HIn.there | apply HIn.app)) rfl ?_
    refine RP.len_sl rfl rfl (.lin fI_len hI3 (by repeat (first | exact .here | apply HIn.there | apply HIn.app))) rfl ?_
    refine RP.lss rfl rfl rfl (fun h28 => ?_) (fun h28 => ?_)
    · skip
      have hlt : i < xs.length := by omega
      refine RP.nil ?_
      refine WP.cond_t rfl ?_
      refine WP.skip ?_
      refine WP.seq ?_
      refine WP.block rfl ?_
      refine WP.region ?_
      refine RP.faddr rfl rfl rfl ?_
      refine RP.load_box rfl rfl rfl rfl (by repeat (first | exact .here | apply HIn.there | apply HIn.app)) rfl ?_
      refine RP.move rfl rfl ?_
      refine RP.at_ rfl rfl rfl rfl rfl rfl (.lin fI_len hI3 (by repeat (first | exact .here | apply HIn.there | apply HIn.app))) (by first | assumption | omega) ?_
      refine RP.load_el rfl rfl rfl rfl (.lin fI_len hI3 (by repeat (first | exact .here | apply HIn.there | apply HIn.app))) (by first | assumption | omega) rfl ?_
      refine RP.bin rfl rfl rfl rfl ?_
      refine RP.at_ rfl rfl rfl rfl rfl rfl (.lin fI_len hI3 (by repeat (first | exact .here | apply HIn.there | apply HIn.app))) (by first | assumption | omega) ?_
      refine RP.store_el1 (IntKind.i64.wrap (xs[i] + 1)) rfl rfl rfl rfl hI3 (fun _ => (by repeat (first | exact .here | apply HUpd.there | apply HUpd.app))) fI_len (by first | assumption | omega) (by omega) rfl hlo ?_
      intro pb2 hpb2
      refine RP.nil ?_
      refine WP.region ?_
      refine RP.move rfl rfl ?_
      refine RP.add rfl rfl rfl (by omega) (by omega) ?_
      refine RP.assign rfl rfl ?_
      refine RP.nil ?_
      refine roundQ.mk (Q := fun _ _ _ => True) (i + 1, xs.set i (IntKind.i64.wrap (xs[i] + 1)), pb2) ⟨rfl, rfl, rfl, rfl, rfl, trivial⟩ (.cons (by repeat (first | exact .here | apply HRem.there | apply HRem.app)) (.cons (by repeat (first | exact .here | apply HRem.there | apply HRem.app)) (.cons (by repeat (first | exact .here | apply HRem.there | apply HRem.app)) (.cons (by repeat (first | exact .here | apply HRem.there | apply HRem.app)) (.cons (by repeat (first | exact .here | apply HRem.there | apply HRem.app)) (.cons (by repeat (first | exact .here | apply HRem.there | apply HRem.app)) (.cons (by repeat (first | exact .here | apply HRem.there | apply HRem.app)) (.cons (by repeat (first | exact .here | apply HRem.there | apply HRem.app)) (.cons (by repeat (first | exact .here | apply HRem.there | apply HRem.app)) (.cons (by repeat (first | exact .here | apply HRem.there | apply HRem.app)) (.cons (by repeat (first | exact .here | apply HRem.there | apply HRem.app)) (.cons (by repeat (first | exact .here | apply HRem.there | apply HRem.app)) (.cons (by repeat (first | exact .here | apply HRem.there | apply HRem.app)) .refl))))))))))))) (by
        try dsimp only
        exact ⟨by rw [List.length_set]; exact hlt, by rw [List.length_set]; exact hI2, hpb2⟩) (by
        try dsimp only
        rw [List.length_set]
        omega)
    · skip
      refine RP.nil ?_
      refine WP.cond_f rfl ?_
      refine WP.exit ?_
      refine WP.seq ?_
      refine WP.seq ?_
      refine WP.region ?_
      refine RP.assign rfl rfl ?_
      refine RP.nil ?_
      refine WP.block rfl ?_
      refine WP.loop (α := Nat × List Spot × HE × List Bool × HE × List Row) (fun gh => [(1, .ptr (.own L1) 0), (3, .ptr (.own L3) 0), (4, .ptr (.own L4) 0), (5, .ptr (.own L5) 0), (8, .int .i64 (gh.1 : Int))]) (fun gh => (some L1, .cells (mv a b c d m).cells) :: (some L3, .cells (mv c1 c2 c3 c4 m).cells) :: (some L4, .cells (mv d1 d2 d3 d4 m).cells) :: (some L5, .cells (mv t1 t2 t3 t4 t).cells) :: ca :: cb :: cc :: cd :: dc :: gh.2.2.1 :: pb :: tc :: gh.2.2.2.2.1 :: (gh.2.2.2.2.2.map (fun r => r.2.2) ++ (rD.map (fun r => r.2.2) ++ rC.map (fun r => r.2.2)))) (fun gh => gh.1 ≤ rT.length ∧ gh.2.1.length = rT.length ∧ Lin 5 fS false t1 gh.2.1 gh.2.2.1 ∧ gh.2.2.2.1.length = rT.length ∧ Lin 1 fB false t4 gh.2.2.2.1 gh.2.2.2.2.1 ∧ gh.2.2.2.2.2.map (fun r => r.1) = rT.map (fun r => r.1) ∧ ∀ r ∈ gh.2.2.2.2.2, Lin 1 fI false r.1 r.2.1 r.2.2 ∧ r.2.1.length ≤ 60) (fun gh => rT.length - gh.1) ?_ (0, t.spots, ta, t.last, td, rT) ⟨rfl, rfl, rfl, rfl, rfl, trivial⟩ (.cons (by repeat (first | exact .here | apply HRem.there | apply HRem.app)) (.cons (by repeat (first | exact .here | apply HRem.there | apply HRem.app)) (.cons (by repeat (first | exact .here | apply HRem.there | apply HRem.app)) (.cons (by repeat (first | exact .here | apply HRem.there | apply HRem.app)) (.cons (by repeat (first | exact .here | apply HRem.there | apply HRem.app)) (.cons (by repeat (first | exact .here | apply HRem.there | apply HRem.app)) (.cons (by repeat (first | exact .here | apply HRem.there | apply HRem.app)) (.cons (by repeat (first | exact .here | apply HRem.there | apply HRem.app)) (.cons (by repeat (first | exact .here | apply HRem.there | apply HRem.app)) (.cons (by repeat (first | exact .here | apply HRem.there | apply HRem.app)) (.cons (by repeat (first | exact .here | apply HRem.there | apply HRem.app)) (.cons (by repeat (first | exact .here | apply HRem.there | apply HRem.app)) (.cons (by repeat (first | exact .here | apply HRem.there | apply HRem.app)) .refl))))))))))))) (by
        try dsimp only
        exact ⟨Nat.zero_le _, hT1, hT.spots, hT2, hT.last, rfl, fun r hr => ⟨hT.each r hr, hT5 r hr⟩⟩)
      rintro ⟨i, sp, pa, ls, pd, cur⟩ hI
      change i ≤ rT.length ∧ sp.length = rT.length ∧ Lin 5 fS false t1 sp pa ∧ ls.length = rT.length ∧ Lin 1 fB false t4 ls pd ∧ cur.map (fun r => r.1) = rT.map (fun r => r.1) ∧ ∀ r ∈ cur, Lin 1 fI false r.1 r.2.1 r.2.2 ∧ r.2.1.length ≤ 60 at hI
      change WP _ _ _ _ _ [(1, .ptr (.own L1) 0), (3, .ptr (.own L3) 0), (4, .ptr (.own L4) 0), (5, .ptr (.own L5) 0), (8, .int .i64 (i : Int))] ((some L1, .cells (mv a b c d m).cells) :: (some L3, .cells (mv c1 c2 c3 c4 m).cells) :: (some L4, .cells (mv d1 d2 d3 d4 m).cells) :: (some L5, .cells (mv t1 t2 t3 t4 t).cells) :: ca :: cb :: cc :: cd :: dc :: pa :: pb :: tc :: pd :: (cur.map (fun r => r.2.2) ++ (rD.map (fun r => r.2.2) ++ rC.map (fun r => r.2.2))) : HL) _
      obtain ⟨hJ1, hJ2, hJ3, hJ4, hJ5, hJ6, hJ7⟩ := hI
      refine WP.seq ?_
      refine WP.seq ?_
      refine WP.region ?_
      refine RP.move rfl rfl ?_
      refine RP.faddr rfl rfl rfl ?_
      refine RP.load_box rfl rfl rfl rfl (by repeat (first | exact .here | apply HIn.there | apply HIn.app)) rfl ?_
      refine RP.len_sl rfl rfl (.lin f1_len hTF (by repeat (first | exact .here | apply HIn.there | apply HIn.app))) rfl ?_
      refine RP.lss rfl rfl rfl (fun h42 => ?_) (fun h42 => ?_)
      · skip
        have hlt : i < rT.length := by omega
        have hls : i < sp.length := by omega
        have hll : i < ls.length := by omega
        obtain ⟨A, r, B, rfl, hA⟩ := cut_row (cur := cur) (i := i) (by have := congrArg List.length hJ6; simp only [List.length_map] at this; omega)
        have hrr := hJ7 r (List.mem_append_right _ (List.mem_cons_self ..))
        have hltv : i < (rT.map (fun r : Row => r.1)).length := by omega
        have hri : (rT.map (fun r : Row => r.1))[i] = r.1 := by
          have h1 : (rT.map (fun r : Row => r.1))[i]? = some r.1 := by rw [← hJ6, List.getElem?_map, List.getElem?_append_right (by omega), hA]; simp
          exact Option.some.inj ((List.getElem?_eq_getElem _).symm.trans h1)
        refine RP.nil ?_
        refine WP.cond_t rfl ?_
        refine WP.skip ?_
        refine WP.seq ?_
        refine WP.block rfl ?_
        refine WP.seq ?_
        refine WP.region ?_
        refine RP.faddr rfl rfl rfl ?_
        refine RP.load_box rfl rfl rfl rfl (by repeat (first | exact .here | apply HIn.there | apply HIn.app)) rfl ?_
        refine RP.move rfl rfl ?_
        refine RP.at_ rfl rfl rfl rfl rfl rfl (.lin fS_len hJ3 (by repeat (first | exact .here | apply HIn.there | apply HIn.app))) (by first | assumption | omega) ?_
        refine RP.faddr_p rfl rfl rfl rfl rfl (.lin fS_len hJ3 (by repeat (first | exact .here | apply HIn.there | apply HIn.app))) (by first | assumption | omega) ?_
        refine RP.load_el rfl rfl rfl rfl (.lin fS_len hJ3 (by repeat (first | exact .here | apply HIn.there | apply HIn.app))) (by first | assumption | omega) rfl ?_
        refine RP.bin rfl rfl rfl rfl ?_
        refine RP.at_ rfl rfl rfl rfl rfl rfl (.lin fS_len hJ3 (by repeat (first | exact .here | apply HIn.there | apply HIn.app))) (by first | assumption | omega) ?_
        refine RP.faddr_p rfl rfl rfl rfl rfl (.lin fS_len hJ3 (by repeat (first | exact .here | apply HIn.there | apply HIn.app))) (by first | assumption | omega) ?_
        refine RP.store_el1 ⟨sp[i].a, sp[i].b, sp[i].c, sp[i].d, IntKind.u8.wrap (sp[i].tag + 1)⟩ rfl rfl rfl rfl hJ3 (fun _ => (by repeat (first | exact .here | apply HUpd.there | apply HUpd.app))) fS_len (by first | assumption | omega) (Nat.le_of_ble_eq_true rfl) rfl hlo ?_
        intro pa2 hpa2
        refine RP.nil ?_
        refine WP.seq ?_
        refine WP.drawn (by kernel_rfl) ?_
        refine RP.faddr rfl rfl rfl ?_
        refine RP.load_box rfl rfl rfl rfl (by repeat (first | exact .here | apply HIn.there | apply HIn.app)) rfl ?_
        refine RP.move rfl rfl ?_
        refine RP.faddr rfl rfl rfl ?_
        refine RP.load_box rfl rfl rfl rfl (by repeat (first | exact .here | apply HIn.there | apply HIn.app)) rfl ?_
        refine RP.move rfl rfl ?_
        refine RP.at_ rfl rfl rfl rfl rfl rfl (.lin fB_len hJ5 (by repeat (first | exact .here | apply HIn.there | apply HIn.app))) (by first | assumption | omega) ?_
        refine RP.load_el rfl rfl rfl rfl (.lin fB_len hJ5 (by repeat (first | exact .here | apply HIn.there | apply HIn.app))) (by first | assumption | omega) rfl ?_
        refine RP.un rfl rfl rfl ?_
        refine RP.at_ rfl rfl rfl rfl rfl rfl (.lin fB_len hJ5 (by repeat (first | exact .here | apply HIn.there | apply HIn.app))) (by first | assumption | omega) ?_
        refine RP.store_el1 (!ls[i]) rfl rfl rfl rfl hJ5 (fun _ => (by repeat (first | exact .here | apply HUpd.there | apply HUpd.app))) fB_len (by first | assumption | omega) (by omega) rfl hlo ?_
        intro pd2 hpd2
        refine RP.nil ?_
        refine WP.seq ?_
        refine WP.region ?_
        refine RP.assign rfl rfl ?_
        refine RP.nil ?_
        refine WP.block rfl ?_
        refine WP.loop (α := Nat × List Int × HE) (fun gh => [(1, .ptr (.own L1) 0), (3, .ptr (.own L3) 0), (4, .ptr (.own L4) 0), (5, .ptr (.own L5) 0), (8, .int .i64 (i : Int)), (9, .int .i64 (gh.1 : Int))]) (fun gh => (some L1, .cells (mv a b c d m).cells) :: (some L3, .cells (mv c1 c2 c3 c4 m).cells) :: (some L4, .cells (mv d1 d2 d3 d4 m).cells) :: (some L5, .cells (mv t1 t2 t3 t4 t).cells) :: ca :: cb :: cc :: cd :: dc :: pa2 :: pb :: tc :: pd2 :: gh.2.2 :: (A.map (fun r => r.2.2) ++ (B.map (fun r => r.2.2) ++ (rD.map (fun r => r.2.2) ++ rC.map (fun r => r.2.2))))) (fun gh => gh.1 ≤ gh.2.1.length ∧ gh.2.1.length ≤ 60 ∧ Lin 1 fI false (rT.map (fun r => r.1))[i] gh.2.1 gh.2.2) (fun gh => gh.2.1.length - gh.1) ?_ (0, r.2.1, r.2.2) ⟨rfl, rfl, rfl, rfl, rfl, rfl, trivial⟩ (.cons (by repeat (first | exact .here | apply HRem.there | apply HRem.app)) (.cons (by repeat (first | exact .here | apply HRem.there | apply HRem.app)) (.cons (by repeat (first | exact .here | apply HRem.there | apply HRem.app)) (.cons (by repeat (first | exact .here | apply HRem.there | apply HRem.app)) (.cons (by repeat (first | exact .here | apply HRem.there | apply HRem.app)) (.cons (by repeat (first | exact .here | apply HRem.there | apply HRem.app)) (.cons (by repeat (first | exact .here | apply HRem.there | apply HRem.app)) (.cons (by repeat (first | exact .here | apply HRem.there | apply HRem.app)) (.cons (by repeat (first | exact .here | apply HRem.there | apply HRem.app)) (.cons (by repeat (first | exact .here | apply HRem.there | apply HRem.app)) (.cons (by repeat (first | exact .here | apply HRem.there | apply HRem.app)) (.cons (by repeat (first | exact .here | apply HRem.there | apply HRem.app)) (.cons (by repeat (first | exact .here | apply HRem.there | apply HRem.app)) (.perm (pull_row A B r _).symm .refl)))))))))))))) (by
          try dsimp only
          exact ⟨Nat.zero_le _, hrr.2, by rw [hri]; exact hrr.1⟩)
        rintro ⟨k, xs, p⟩ hI
        change k ≤ xs.length ∧ xs.length ≤ 60 ∧ Lin 1 fI false (rT.map (fun r => r.1))[i] xs p at hI
        change WP _ _ _ _ _ [(1, .ptr (.own L1) 0), (3, .ptr (.own L3) 0), (4, .ptr (.own L4) 0), (5, .ptr (.own L5) 0), (8, .int .i64 (i : Int)), (9, .int .i64 (k : Int))] ((some L1, .cells (mv a b c d m).cells) :: (some L3, .cells (mv c1 c2 c3 c4 m).cells) :: (some L4, .cells (mv d1 d2 d3 d4 m).cells) :: (some L5, .cells (mv t1 t2 t3 t4 t).cells) :: ca :: cb :: cc :: cd :: dc :: pa2 :: pb :: tc :: pd2 :: p :: (A.map (fun r => r.2.2) ++ (B.map (fun r => r.2.2) ++ (rD.map (fun r => r.2.2) ++ rC.map (fun r => r.2.2)))) : HL) _
        obtain ⟨hK1, hK2, hK3⟩ := hI
        refine WP.seq ?_
        refine WP.seq ?_
        refine WP.region ?_
        refine RP.move rfl rfl ?_
        refine RP.faddr rfl rfl rfl ?_
        refine RP.load_box rfl rfl rfl rfl (by repeat (first | exact .here | apply HIn.there | apply HIn.app)) rfl ?_
        refine RP.move rfl rfl ?_
        refine RP.at_ rfl rfl rfl rfl rfl rfl (.lin f1_len hTF (by repeat (first | exact .here | apply HIn.there | apply HIn.app))) (by first | assumption | omega) ?_
        refine RP.load_el rfl rfl rfl rfl (.lin f1_len hTF (by repeat (first | exact .here | apply HIn.there | apply HIn.app))) (by first | assumption | omega) rfl ?_
        refine RP.len_sl rfl rfl (.lin fI_len hK3 (by repeat (first | exact .here | apply HIn.there | apply HIn.app))) rfl ?_
        refine RP.lss rfl rfl rfl (fun h71 => ?_) (fun h71 => ?_)
        · skip
          have hlk : k < xs.length := by omega
          refine RP.nil ?_
          refine WP.cond_t rfl ?_
          refine WP.skip ?_
          refine WP.seq ?_
          refine WP.block rfl ?_
          refine WP.region ?_
          refine RP.faddr rfl rfl rfl ?_
          refine RP.load_box rfl rfl rfl rfl (by repeat (first | exact .here | apply HIn.there | apply HIn.app)) rfl ?_
          refine RP.move rfl rfl ?_
          refine RP.at_ rfl rfl rfl rfl rfl rfl (.lin f1_len hTF (by repeat (first | exact .here | apply HIn.there | apply HIn.app))) (by first | assumption | omega) ?_
          refine RP.load_el rfl rfl rfl rfl (.lin f1_len hTF (by repeat (first | exact .here | apply HIn.there | apply HIn.app))) (by first | assumption | omega) rfl ?_
          refine RP.move rfl rfl ?_
          refine RP.at_ rfl rfl rfl rfl rfl rfl (.lin fI_len hK3 (by repeat (first | exact .here | apply HIn.there | apply HIn.app))) (by first | assumption | omega) ?_
          refine RP.load_el rfl rfl rfl rfl (.lin fI_len hK3 (by repeat (first | exact .here | apply HIn.there | apply HIn.app))) (by first | assumption | omega) rfl ?_
          refine RP.bin rfl rfl rfl rfl ?_
          refine RP.at_ rfl rfl rfl rfl rfl rfl (.lin fI_len hK3 (by repeat (first | exact .here | apply HIn.there | apply HIn.app))) (by first | assumption | omega) ?_
          refine RP.store_el1 (IntKind.i64.wrap (xs[k] + 1)) rfl rfl rfl rfl hK3 (fun _ => (by repeat (first | exact .here | apply HUpd.there | apply HUpd.app))) fI_len (by first | assumption | omega) (by omega) rfl hlo ?_
          intro p2 hp2
          refine RP.nil ?_
          refine WP.region ?_
          refine RP.move rfl rfl ?_
          refine RP.add rfl rfl rfl (by omega) (by omega) ?_
          refine RP.assign rfl rfl ?_
          refine RP.nil ?_
          refine roundQ.mk (Q := fun _ _ _ => True) (k + 1, xs.set k (IntKind.i64.wrap (xs[k] + 1)), p2) ⟨rfl, rfl, rfl, rfl, rfl, rfl, trivial⟩ (.cons (by repeat (first | exact .here | apply HRem.there | apply HRem.app)) (.cons (by repeat (first | exact .here | apply HRem.there | apply HRem.app)) (.cons (by repeat (first | exact .here | apply HRem.there | apply HRem.app)) (.cons (by repeat (first | exact .here | apply HRem.there | apply HRem.app)) (.cons (by repeat (first | exact .here | apply HRem.there | apply HRem.app)) (.cons (by repeat (first | exact .here | apply HRem.there | apply HRem.app)) (.cons (by repeat (first | exact .here | apply HRem.there | apply HRem.app)) (.cons (by repeat (first | exact .here | apply HRem.there | apply HRem.app)) (.cons (by repeat (first | exact .here | apply HRem.there | apply HRem.app)) (.cons (by repeat (first | exact .here | apply HRem.there | apply HRem.app)) (.cons (by repeat (first | exact .here | apply HRem.there | apply HRem.app)) (.cons (by repeat (first | exact .here | apply HRem.there | apply HRem.app)) (.cons (by repeat (first | exact .here | apply HRem.there | apply HRem.app)) (.cons (by repeat (first | exact .here | apply HRem.there | apply HRem.app)) .refl)))))))))))))) (by
            try dsimp only
            exact ⟨by rw [List.length_set]; exact hlk, by rw [List.length_set]; exact hK2, hp2⟩) (by
            try dsimp only
            rw [List.length_set]
            omega)
        · skip
          refine RP.nil ?_
          refine WP.cond_f rfl ?_
          refine WP.exit ?_
          refine WP.region ?_
          refine RP.move rfl rfl ?_
          refine RP.add rfl rfl rfl (by omega) (by omega) ?_
          refine RP.assign rfl rfl ?_
          refine RP.nil ?_
          refine roundQ.mk (Q := fun _ _ _ => True) (i + 1, sp.set i ⟨sp[i].a, sp[i].b, sp[i].c, sp[i].d, IntKind.u8.wrap (sp[i].tag + 1)⟩, pa2, ls.set i (!ls[i]), pd2, A ++ (r.1, xs, p) :: B) ⟨rfl, rfl, rfl, rfl, rfl, trivial⟩ (.cons (by repeat (first | exact .here | apply HRem.there | apply HRem.app)) (.cons (by repeat (first | exact .here | apply HRem.there | apply HRem.app)) (.cons (by repeat (first | exact .here | apply HRem.there | apply HRem.app)) (.cons (by repeat (first | exact .here | apply HRem.there | apply HRem.app)) (.cons (by repeat (first | exact .here | apply HRem.there | apply HRem.app)) (.cons (by repeat (first | exact .here | apply HRem.there | apply HRem.app)) (.cons (by repeat (first | exact .here | apply HRem.there | apply HRem.app)) (.cons (by repeat (first | exact .here | apply HRem.there | apply HRem.app)) (.cons (by repeat (first | exact .here | apply HRem.there | apply HRem.app)) (.cons (by repeat (first | exact .here | apply HRem.there | apply HRem.app)) (.cons (by repeat (first | exact .here | apply HRem.there | apply HRem.app)) (.cons (by repeat (first | exact .here | apply HRem.there | apply HRem.app)) (.cons (by repeat (first | exact .here | apply HRem.there | apply HRem.app)) (.perm (pull_row A B (r.1, xs, p) _) .refl)))))))))))))) (by
            try dsimp only
            exact ⟨hlt, by rw [List.length_set]; exact hJ2, hpa2, by rw [List.length_set]; exact hJ4, hpd2, by rw [← hJ6]; simp, fun q hq => (by
                rcases List.mem_append.1 hq with h | h
                · exact hJ7 q (List.mem_append_left _ h)
                · rcases List.mem_cons.1 h with rfl | h
                  · exact ⟨by rw [← hri]; exact hK3, hK2⟩
                  · exact hJ7 q (List.mem_append_right _ (List.mem_cons_of_mem _ h)))⟩) (by
            try dsimp only
            omega)
      · skip
        refine RP.nil ?_
        refine WP.cond_f rfl ?_
        refine WP.exit ?_
        refine WP.seq ?_
        refine WP.seq ?_
        refine WP.region ?_
        refine RP.assign rfl rfl ?_
        refine RP.nil ?_
        refine WP.block rfl ?_
        refine WP.loop (α := Nat × List Row) (fun gh => [(1, .ptr (.own L1) 0), (3, .ptr (.own L3) 0), (4, .ptr (.own L4) 0), (5, .ptr (.own L5) 0), (10, .int .i64 (gh.1 : Int))]) (fun gh => (some L1, .cells (mv a b c d m).cells) :: (some L3, .cells (mv c1 c2 c3 c4 m).cells) :: (some L4, .cells (mv d1 d2 d3 d4 m).cells) :: (some L5, .cells (mv t1 t2 t3 t4 t).cells) :: ca :: cb :: cc :: cd :: dc :: (gh.2.map (fun r => r.2.2) ++ rC.map (fun r => r.2.2))) (fun gh => gh.1 ≤ rD.length ∧ gh.2.map (fun r => r.1) = rD.map (fun r => r.1) ∧ ∀ r ∈ gh.2, Lin 1 fI false r.1 r.2.1 r.2.2 ∧ r.2.1.length ≤ 60) (fun gh => rD.length - gh.1) ?_ (0, rD) ⟨rfl, rfl, rfl, rfl, rfl, trivial⟩ (.cons (by repeat (first | exact .here | apply HRem.there | apply HRem.app)) (.cons (by repeat (first | exact .here | apply HRem.there | apply HRem.app)) (.cons (by repeat (first | exact .here | apply HRem.there | apply HRem.app)) (.cons (by repeat (first | exact .here | apply HRem.there | apply HRem.app)) (.cons (by repeat (first | exact .here | apply HRem.there | apply HRem.app)) (.cons (by repeat (first | exact .here | apply HRem.there | apply HRem.app)) (.cons (by repeat (first | exact .here | apply HRem.there | apply HRem.app)) (.cons (by repeat (first | exact .here | apply HRem.there | apply HRem.app)) (.cons (by repeat (first | exact .here | apply HRem.there | apply HRem.app)) (.skip (.skip (.skip (.skip (.skips .refl)))))))))))))) (by
          try dsimp only
          exact ⟨Nat.zero_le _, rfl, fun r hr => ⟨hD.each r hr, hD5 r hr⟩⟩)
        rintro ⟨i, cur⟩ hI
        change i ≤ rD.length ∧ cur.map (fun r => r.1) = rD.map (fun r => r.1) ∧ ∀ r ∈ cur, Lin 1 fI false r.1 r.2.1 r.2.2 ∧ r.2.1.length ≤ 60 at hI
        change WP _ _ _ _ _ [(1, .ptr (.own L1) 0), (3, .ptr (.own L3) 0), (4, .ptr (.own L4) 0), (5, .ptr (.own L5) 0), (10, .int .i64 (i : Int))] ((some L1, .cells (mv a b c d m).cells) :: (some L3, .cells (mv c1 c2 c3 c4 m).cells) :: (some L4, .cells (mv d1 d2 d3 d4 m).cells) :: (some L5, .cells (mv t1 t2 t3 t4 t).cells) :: ca :: cb :: cc :: cd :: dc :: (cur.map (fun r => r.2.2) ++ rC.map (fun r => r.2.2)) : HL) _
        obtain ⟨hJ1, hJ6, hJ7⟩ := hI
        refine WP.seq ?_
        refine WP.seq ?_
        refine WP.region ?_
        refine RP.move rfl rfl ?_
        refine RP.faddr rfl rfl rfl ?_
        refine RP.load_box rfl rfl rfl rfl (by repeat (first | exact .here | apply HIn.there | apply HIn.app)) rfl ?_
        refine RP.len_sl rfl rfl (.lin f1_len hDF (by repeat (first | exact .here | apply HIn.there | apply HIn.app))) rfl ?_
        refine RP.lss rfl rfl rfl (fun h88 => ?_) (fun h88 => ?_)
        · skip
          have hlt : i < rD.length := by omega
          obtain ⟨A, r, B, rfl, hA⟩ := cut_row (cur := cur) (i := i) (by have := congrArg List.length hJ6; simp only [List.length_map] at this; omega)
          have hrr := hJ7 r (List.mem_append_right _ (List.mem_cons_self ..))
          have hltv : i < (rD.map (fun r : Row => r.1)).length := by omega
          have hri : (rD.map (fun r : Row => r.1))[i] = r.1 := by
            have h1 : (rD.map (fun r : Row => r.1))[i]? = some r.1 := by rw [← hJ6, List.getElem?_map, List.getElem?_append_right (by omega), hA]; simp
            exact Option.some.inj ((List.getElem?_eq_getElem _).symm.trans h1)
          refine RP.nil ?_
          refine WP.cond_t rfl ?_
          refine WP.skip ?_
          refine WP.seq ?_
          refine WP.block rfl ?_
          refine WP.seq ?_
          refine WP.region ?_
          refine RP.assign rfl rfl ?_
          refine RP.nil ?_
          refine WP.block rfl ?_
          refine WP.loop (α := Nat × List Int × HE) (fun gh => [(1, .ptr (.own L1) 0), (3, .ptr (.own L3) 0), (4, .ptr (.own L4) 0), (5, .ptr (.own L5) 0), (10, .int .i64 (i : Int)), (11, .int .i64 (gh.1 : Int))]) (fun gh => (some L1, .cells (mv a b c d m).cells) :: (some L3, .cells (mv c1 c2 c3 c4 m).cells) :: (some L4, .cells (mv d1 d2 d3 d4 m).cells) :: (some L5, .cells (mv t1 t2 t3 t4 t).cells) :: ca :: cb :: cc :: cd :: dc :: gh.2.2 :: (A.map (fun r => r.2.2) ++ (B.map (fun r => r.2.2) ++ rC.map (fun r => r.2.2)))) (fun gh => gh.1 ≤ gh.2.1.length ∧ gh.2.1.length ≤ 60 ∧ Lin 1 fI false (rD.map (fun r => r.1))[i] gh.2.1 gh.2.2) (fun gh => gh.2.1.length - gh.1) ?_ (0, r.2.1, r.2.2) ⟨rfl, rfl, rfl, rfl, rfl, rfl, trivial⟩ (.cons (by repeat (first | exact .here | apply HRem.there | apply HRem.app)) (.cons (by repeat (first | exact .here | apply HRem.there | apply HRem.app)) (.cons (by repeat (first | exact .here | apply HRem.there | apply HRem.app)) (.cons (by repeat (first | exact .here | apply HRem.there | apply HRem.app)) (.cons (by repeat (first | exact .here | apply HRem.there | apply HRem.app)) (.cons (by repeat (first | exact .here | apply HRem.there | apply HRem.app)) (.cons (by repeat (first | exact .here | apply HRem.there | apply HRem.app)) (.cons (by repeat (first | exact .here | apply HRem.there | apply HRem.app)) (.cons (by repeat (first | exact .here | apply HRem.there | apply HRem.app)) (.perm (pull_row A B r _).symm .refl)))))))))) (by
            try dsimp only
            exact ⟨Nat.zero_le _, hrr.2, by rw [hri]; exact hrr.1⟩)
          rintro ⟨k, xs, p⟩ hI
          change k ≤ xs.length ∧ xs.length ≤ 60 ∧ Lin 1 fI false (rD.map (fun r => r.1))[i] xs p at hI
          change WP _ _ _ _ _ [(1, .ptr (.own L1) 0), (3, .ptr (.own L3) 0), (4, .ptr (.own L4) 0), (5, .ptr (.own L5) 0), (10, .int .i64 (i : Int)), (11, .int .i64 (k : Int))] ((some L1, .cells (mv a b c d m).cells) :: (some L3, .cells (mv c1 c2 c3 c4 m).cells) :: (some L4, .cells (mv d1 d2 d3 d4 m).cells) :: (some L5, .cells (mv t1 t2 t3 t4 t).cells) :: ca :: cb :: cc :: cd :: dc :: p :: (A.map (fun r => r.2.2) ++ (B.map (fun r => r.2.2) ++ rC.map (fun r => r.2.2))) : HL) _
          obtain ⟨hK1, hK2, hK3⟩ := hI
          refine WP.seq ?_
          refine WP.seq ?_
          refine WP.region ?_
          refine RP.move rfl rfl ?_
          refine RP.faddr rfl rfl rfl ?_
          refine RP.load_box rfl rfl rfl rfl (by repeat (first | exact .here | apply HIn.there | apply HIn.app)) rfl ?_
          refine RP.move rfl rfl ?_
          refine RP.at_ rfl rfl rfl rfl rfl rfl (.lin f1_len hDF (by repeat (first | exact .here | apply HIn.there | apply HIn.app))) (by first | assumption | omega) ?_
          refine RP.load_el rfl rfl rfl rfl (.lin f1_len hDF (by repeat (first | exact .here | apply HIn.there | apply HIn.app))) (by first | assumption | omega) rfl ?_
          refine RP.len_sl rfl rfl (.lin fI_len hK3 (by repeat (first | exact .here | apply HIn.there | apply HIn.app))) rfl ?_
          refine RP.lss rfl rfl rfl (fun h98 => ?_) (fun h98 => ?_)
          · skip
            have hlk : k < xs.length := by omega
            refine RP.nil ?_
            refine WP.cond_t rfl ?_
            refine WP.skip ?_
            refine WP.seq ?_
            refine WP.block rfl ?_
            refine WP.region ?_
            refine RP.faddr rfl rfl rfl ?_
            refine RP.load_box rfl rfl rfl rfl (by repeat (first | exact .here | apply HIn.there | apply HIn.app)) rfl ?_
            refine RP.move rfl rfl ?_
            refine RP.at_ rfl rfl rfl rfl rfl rfl (.lin f1_len hDF (by repeat (first | exact .here | apply HIn.there | apply HIn.app))) (by first | assumption | omega) ?_
            refine RP.load_el rfl rfl rfl rfl (.lin f1_len hDF (by repeat (first | exact .here | apply HIn.there | apply HIn.app))) (by first | assumption | omega) rfl ?_
            refine RP.move rfl rfl ?_
            refine RP.at_ rfl rfl rfl rfl rfl rfl (.lin fI_len hK3 (by repeat (first | exact .here | apply HIn.there | apply HIn.app))) (by first | assumption | omega) ?_
            refine RP.load_el rfl rfl rfl rfl (.lin fI_len hK3 (by repeat (first | exact .here | apply HIn.there | apply HIn.app))) (by first | assumption | omega) rfl ?_
            refine RP.bin rfl rfl rfl rfl ?_
            refine RP.at_ rfl rfl rfl rfl rfl rfl (.lin fI_len hK3 (by repeat (first | exact .here | apply HIn.there | apply HIn.app))) (by first | assumption | omega) ?_
            refine RP.store_el1 (IntKind.i64.wrap (xs[k] + 1)) rfl rfl rfl rfl hK3 (fun _ => (by repeat (first | exact .here | apply HUpd.there | apply HUpd.app))) fI_len (by first | assumption | omega) (by omega) rfl hlo ?_
            intro p2 hp2
            refine RP.nil ?_
            refine WP.region ?_
            refine RP.move rfl rfl ?_
            refine RP.add rfl rfl rfl (by omega) (by omega) ?_
            refine RP.assign rfl rfl ?_
            refine RP.nil ?_
            refine roundQ.mk (Q := fun _ _ _ => True) (k + 1, xs.set k (IntKind.i64.wrap (xs[k] + 1)), p2) ⟨rfl, rfl, rfl, rfl, rfl, rfl, trivial⟩ (.cons (by repeat (first | exact .here | apply HRem.there | apply HRem.app)) (.cons (by repeat (first | exact .here | apply HRem.there | apply HRem.app)) (.cons (by repeat (first | exact .here | apply HRem.there | apply HRem.app)) (.cons (by repeat (first | exact .here | apply HRem.there | apply HRem.app)) (.cons (by repeat (first | exact .here | apply HRem.there | apply HRem.app)) (.cons (by repeat (first | exact .here | apply HRem.there | apply HRem.app)) (.cons (by repeat (first | exact .here | apply HRem.there | apply HRem.app)) (.cons (by repeat (first | exact .here | apply HRem.there | apply HRem.app)) (.cons (by repeat (first | exact .here | apply HRem.there | apply HRem.app)) (.cons (by repeat (first | exact .here | apply HRem.there | apply HRem.app)) .refl)))))))))) (by
              try dsimp only
              exact ⟨by rw [List.length_set]; exact hlk, by rw [List.length_set]; exact hK2, hp2⟩) (by
              try dsimp only
              rw [List.length_set]
              omega)
          · skip
            refine RP.nil ?_
            refine WP.cond_f rfl ?_
            refine WP.exit ?_
            refine WP.region ?_
            refine RP.move rfl rfl ?_
            refine RP.add rfl rfl rfl (by omega) (by omega) ?_
            refine RP.assign rfl rfl ?_
            refine RP.nil ?_
            refine roundQ.mk (Q := fun _ _ _ => True) (i + 1, A ++ (r.1, xs, p) :: B) ⟨rfl, rfl, rfl, rfl, rfl, trivial⟩ (.cons (by repeat (first | exact .here | apply HRem.there | apply HRem.app)) (.cons (by repeat (first | exact .here | apply HRem.there | apply HRem.app)) (.cons (by repeat (first | exact .here | apply HRem.there | apply HRem.app)) (.cons (by repeat (first | exact .here | apply HRem.there | apply HRem.app)) (.cons (by repeat (first | exact .here | apply HRem.there | apply HRem.app)) (.cons (by repeat (first | exact .here | apply HRem.there | apply HRem.app)) (.cons (by repeat (first | exact .here | apply HRem.there | apply HRem.app)) (.cons (by repeat (first | exact .here | apply HRem.there | apply HRem.app)) (.cons (by repeat (first | exact .here | apply HRem.there | apply HRem.app)) (.perm (pull_row A B (r.1, xs, p) _) .refl)))))))))) (by
              try dsimp only
              exact ⟨hlt, by rw [← hJ6]; simp, fun q hq => (by
                  rcases List.mem_append.1 hq with h | h
                  · exact hJ7 q (List.mem_append_left _ h)
                  · rcases List.mem_cons.1 h with rfl | h
                    · exact ⟨by rw [← hri]; exact hK3, hK2⟩
                    · exact hJ7 q (List.mem_append_right _ (List.mem_cons_of_mem _ h)))⟩) (by
              try dsimp only
              omega)
        · skip
          refine RP.nil ?_
          refine WP.cond_f rfl ?_
          refine WP.exit ?_
          refine WP.seq ?_
          refine WP.region ?_
          refine RP.load_boxN rfl rfl rfl rfl rfl (by repeat (first | exact .here | apply HIn.there | apply HIn.app)) rfl ?_
          refine RP.load_boxN rfl rfl rfl rfl rfl (by repeat (first | exact .here | apply HIn.there | apply HIn.app)) rfl ?_
          refine RP.call rfl rfl rfl hlo (fun st' lo' hi' hl' => same_ok hl' (hC.arg hi' (fun p hp => by simp only [heapO, List.mem_cons] at hp; rcases hp with rfl | rfl | rfl | rfl | hp <;> simp only [List.mem_cons, List.mem_append, true_or, or_true, *])) (hm.inv hi') h0c) ?_
          rintro _ _ ⟨rfl, rfl⟩
          refine RP.move rfl rfl ?_
          refine RP.gtrue rfl ?_
          refine RP.call rfl rfl rfl hlo (fun st' lo' hi' hl' => awake_ok) ?_
          rintro _ _ ⟨rfl, rfl⟩
          refine RP.pick_ rfl rfl rfl ?_
          refine RP.assign rfl rfl ?_
          refine RP.nil ?_
          refine WP.ret ?_
          exact End.one (Or.inr rfl) rfl (.tmp rfl) .nil ⟨rfl, rfl⟩
end
end Go.Proofs.Yteiabdbkeanldaa

namespace Go.Proofs.Yteiabdbkeanldaa
open Go.Proofs.Yteiabdbkeanldaa.Lvm Go
section
variable {H : Type} {enc : TypeId × Value → H} {w : World}
theorem Try.cells38 : Try.prog.cellsOf 38 = 5 := by kernel_rfl
theorem Try.cells36 : Try.prog.cellsOf 36 = 4 := by kernel_rfl
theorem Try.cells34 : Try.prog.cellsOf 34 = 1 := by kernel_rfl
theorem Try.cells5 : Try.prog.cellsOf 5 = 1 := by kernel_rfl
theorem Try.cells27 : Try.prog.cellsOf 27 = 5 := by kernel_rfl
theorem Try.cells22 : Try.prog.cellsOf 22 = 1 := by kernel_rfl
theorem Try.cells23 : Try.prog.cellsOf 23 = 1 := by kernel_rfl
theorem Try.cells24 : Try.prog.cellsOf 24 = 1 := by kernel_rfl
theorem Try.cells25 : Try.prog.cellsOf 25 = 1 := by kernel_rfl
theorem Try.cells3 : Try.prog.cellsOf 3 = 1 := by kernel_rfl
theorem Try.cells4 : Try.prog.cellsOf 4 = 1 := by kernel_rfl

theorem in_int {n : Nat} {cs : List Value} {x : DataW H × List MemPlace} (h : DataW.trod enc Try.prog w 0 (fun _ => true) true n 3 cs = some x) : ∃ y : Int, True ∧ ∀ (i : Nat) (c : LV), (fI y)[i]? = some c → ∃ u, cs[i]? = some u ∧ liftB u = some c := by
  obtain ⟨y, rfl, _, _⟩ := DataW.trod_int Try.underlying3 h
  refine ⟨y, trivial, fun i c hi => ?_⟩
  match i with
  | 0 => exact ⟨_, rfl, hi⟩
theorem in_bool {n : Nat} {cs : List Value} {x : DataW H × List MemPlace} (h : DataW.trod enc Try.prog w 0 (fun _ => true) true n 4 cs = some x) : ∃ y : Bool, True ∧ ∀ (i : Nat) (c : LV), (fB y)[i]? = some c → ∃ u, cs[i]? = some u ∧ liftB u = some c := by
  obtain ⟨y, rfl, _⟩ := DataW.trod_bool Try.underlying4 h
  refine ⟨y, trivial, fun i c hi => ?_⟩
  match i with
  | 0 => exact ⟨_, rfl, hi⟩
theorem in_set {n : Nat} {cs : List Value} {x : DataW H × List MemPlace} (h : DataW.trod enc Try.prog w 0 (fun _ => true) true n 36 cs = some x) : ∃ a b c d : Int, cs = [.int .u64 a, .int .u64 b, .int .u64 c, .int .u64 d] ∧ ∀ y ∈ [a, b, c, d], 0 ≤ y ∧ y < 18446744073709551616 := by
  obtain ⟨xs, m, rfl, _, hl, hx, hg⟩ := DataW.trod_array Try.underlying36 h
  rw [Try.cells36] at hl
  have e : ∃ c0 c1 c2 c3, cs = [c0, c1, c2, c3] := by
    match cs, hl with
    | [c0, c1, c2, c3], _ => exact ⟨c0, c1, c2, c3, rfl⟩
  obtain ⟨c0, c1, c2, c3, rfl⟩ := e
  rw [Try.cells34] at hg
  have one : ∀ (i : Nat) (hi : i < 4) (c : Value), (([c0, c1, c2, c3] : List Value).drop (i * 1)).take 1 = [c] → ∃ y : Int, c = .int .u64 y ∧ 0 ≤ y ∧ y < 18446744073709551616 := fun i hi c hc => by
    have h1 := hg i hi
    rw [hc, List.getElem?_eq_getElem (by omega)] at h1
    obtain ⟨y, h2, _, h3⟩ := DataW.trod_int Try.underlying34 h1
    simp only [List.cons.injEq, and_true] at h2
    refine ⟨y, h2, ?_⟩
    simp [Lit.wf, IntKind.min, IntKind.max, IntKind.signed, IntKind.bits] at h3
    omega
  obtain ⟨a, rfl, ha⟩ := one 0 (by omega) c0 rfl
  obtain ⟨b, rfl, hb⟩ := one 1 (by omega) c1 rfl
  obtain ⟨c, rfl, hc⟩ := one 2 (by omega) c2 rfl
  obtain ⟨d, rfl, hd⟩ := one 3 (by omega) c3 rfl
  exact ⟨a, b, c, d, rfl, by simp [ha, hb, hc, hd]⟩
/-- What a spot's numbers keep to. -/
def SpotOk (s : Spot) : Prop := (∀ y ∈ [s.a, s.b, s.c, s.d], 0 ≤ y ∧ y < 18446744073709551616) ∧ 0 ≤ s.tag ∧ s.tag < 256
theorem in_spot {n : Nat} {cs : List Value} {x : DataW H × List MemPlace} (h : DataW.trod enc Try.prog w 0 (fun _ => true) true n 38 cs = some x) : ∃ y : Spot, SpotOk y ∧ ∀ (i : Nat) (c : LV), (fS y)[i]? = some c → ∃ u, cs[i]? = some u ∧ liftB u = some c := by
  obtain ⟨xs, m, rfl, _, hl, hx, hg⟩ := DataW.trod_struct Try.underlying38 h
  rw [Try.cells38] at hl
  have e : ∃ c0 c1 c2 c3 c4, cs = [c0, c1, c2, c3, c4] := by
    match cs, hl with
    | [c0, c1, c2, c3, c4], _ => exact ⟨c0, c1, c2, c3, c4, rfl⟩
  obtain ⟨c0, c1, c2, c3, c4, rfl⟩ := e
  have g0 : DataW.trod enc Try.prog w 0 (fun _ => true) true m 36 (([c0, c1, c2, c3, c4].drop 0).take (Try.prog.cellsOf 36)) = xs[0]? := hg 0 _ rfl
  have g1 : DataW.trod enc Try.prog w 0 (fun _ => true) true m 5 (([c0, c1, c2, c3, c4].drop 4).take (Try.prog.cellsOf 5)) = xs[1]? := hg 1 _ rfl
  rw [Try.cells36, List.getElem?_eq_getElem (by rw [hx]; decide)] at g0
  rw [Try.cells5, List.getElem?_eq_getElem (by rw [hx]; decide)] at g1
  obtain ⟨a, b, c, d, h1, h2⟩ := in_set g0
  obtain ⟨t, h3, _, h4⟩ := DataW.trod_int Try.underlying5 g1
  simp only [List.drop_zero, List.take_succ_cons, List.take_zero, List.cons.injEq, and_true] at h1
  simp only [List.drop_succ_cons, List.drop_zero, List.take_succ_cons, List.take_zero, List.cons.injEq, and_true] at h3
  obtain ⟨rfl, rfl, rfl, rfl⟩ := h1
  subst h3
  refine ⟨⟨a, b, c, d, t⟩, ⟨h2, ?_⟩, fun i c hi => ?_⟩
  · simp [Lit.wf, IntKind.min, IntKind.max, IntKind.signed, IntKind.bits] at h4
    show 0 ≤ t ∧ t < 256
    omega
  · match i with
    | 0 | 1 | 2 | 3 | 4 => exact ⟨_, rfl, hi⟩

/-- An argument that is a machine. -/
theorem in_mach {v : Value} {x : DataW H} {ps : List MemPlace} (h : DataW.Trod enc Try.prog w 0 (fun _ => true) true 27 v x ps) {E : Env} (hb : E.bm = bmW w) :
    ∃ (a b c d : LV) (m : Mach) (fol : List (LV × List Int)), (∀ inj, VRel inj (mv a b c d m) v) ∧ (∀ s ∈ m.spots, SpotOk s) ∧ ∀ st, MA E st a b c d m fol := by
  obtain ⟨fuel, h⟩ := h
  obtain ⟨xs, m, rfl, _, hl, hx, hg⟩ := DataW.trod_struct Try.underlying27 h
  rw [Try.cells27] at hl
  have e : ∃ c0 c1 c2 c3 c4, v = .agg #[c0, c1, c2, c3, c4] := by
    cases v with
    | agg vs =>
      obtain ⟨l⟩ := vs
      match l, hl with
      | [c0, c1, c2, c3, c4], _ => exact ⟨c0, c1, c2, c3, c4, rfl⟩
    | _ => simp [Value.cells] at hl
  obtain ⟨c0, c1, c2, c3, c4, rfl⟩ := e
  have g0 : DataW.trod enc Try.prog w 0 (fun _ => true) true m 22 (([c0, c1, c2, c3, c4].drop 0).take (Try.prog.cellsOf 22)) = xs[0]? := hg 0 _ rfl
  have g1 : DataW.trod enc Try.prog w 0 (fun _ => true) true m 23 (([c0, c1, c2, c3, c4].drop 1).take (Try.prog.cellsOf 23)) = xs[1]? := hg 1 _ rfl
  have g2 : DataW.trod enc Try.prog w 0 (fun _ => true) true m 24 (([c0, c1, c2, c3, c4].drop 2).take (Try.prog.cellsOf 24)) = xs[2]? := hg 2 _ rfl
  have g3 : DataW.trod enc Try.prog w 0 (fun _ => true) true m 25 (([c0, c1, c2, c3, c4].drop 3).take (Try.prog.cellsOf 25)) = xs[3]? := hg 3 _ rfl
  have g4 : DataW.trod enc Try.prog w 0 (fun _ => true) true m 4 (([c0, c1, c2, c3, c4].drop 4).take (Try.prog.cellsOf 4)) = xs[4]? := hg 4 _ rfl
  rw [Try.cells22, List.getElem?_eq_getElem (by rw [hx]; decide)] at g0
  rw [Try.cells23, List.getElem?_eq_getElem (by rw [hx]; decide)] at g1
  rw [Try.cells24, List.getElem?_eq_getElem (by rw [hx]; decide)] at g2
  rw [Try.cells25, List.getElem?_eq_getElem (by rw [hx]; decide)] at g3
  rw [Try.cells4, List.getElem?_eq_getElem (by rw [hx]; decide)] at g4
  obtain ⟨v0, a, spots, e0, r0, _, q0, s0⟩ := slice_in Try.underlying22 Try.cells38 (by decide) fS_len (fun _ _ _ => in_spot) hb g0
  obtain ⟨v1, b, first, e1, r1, _, _, s1⟩ := slice_in Try.underlying23 Try.cells3 (by decide) fI_len (fun _ _ _ => in_int) hb g1
  obtain ⟨v2, c, fol, e2, r2, _, q2, s2⟩ := slice_in (f := fP) (Q := fun p : LV × List Int => ∀ st, SlT E st p.1 1 fI p.2) Try.underlying24 Try.cells23 (by decide) fP_len (fun n cs x hh => by
    obtain ⟨v, lv, row, rfl, _, hv, _, hs⟩ := slice_in Try.underlying23 Try.cells3 (by decide) fI_len (fun _ _ _ => in_int) hb hh
    refine ⟨(lv, row), hs, fun i c hi => ?_⟩
    match i with
    | 0 => exact ⟨v, rfl, by rw [hv rfl]; exact hi⟩) hb g2
  obtain ⟨v3, d, last, e3, r3, _, _, s3⟩ := slice_in Try.underlying25 Try.cells4 (by decide) fB_len (fun _ _ _ => in_bool) hb g3
  obtain ⟨em, e4, _⟩ := DataW.trod_bool Try.underlying4 g4
  simp only [List.drop_zero, List.drop_succ_cons, List.take_succ_cons, List.take_zero, List.cons.injEq, and_true] at e0 e1 e2 e3 e4
  subst e0 e1 e2 e3 e4
  refine ⟨a, b, c, d, ⟨spots, first, fol.map (·.2), last, em⟩, fol, fun inj => ?_, q0, fun st => ⟨s0 st, s1 st, s2 st, fun p hp => q2 p hp st, s3 st, rfl⟩⟩
  simp only [mv, VRel]
  exact ⟨_, rfl, VRels.cons (r0 inj) (VRels.cons (r1 inj) (VRels.cons (r2 inj) (VRels.cons (r3 inj) (VRels.cons (by simp [VRel]) VRels.nil))))⟩
end
end Go.Proofs.Yteiabdbkeanldaa
