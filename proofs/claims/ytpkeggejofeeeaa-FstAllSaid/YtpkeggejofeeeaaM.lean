/- Laws of the small machine, of how it stands to the model, and of what functions come to on it; a helper of the statement: no statement is proved here. -/
import Derived.Test.YtpkeggejofeeeaaL
set_option linter.unusedVariables false
namespace Go.Proofs.Ytpkeggejofeeeaa.Lvm
/-! ### lists of spots, and steps -/
def lst (k : Nat) (g : Nat → Bool) : List Int := ((List.range k).filter g).map fun n : Nat => (n : Int)
theorem lst_step {k : Nat} {g : Nat → Bool} : lst (k + 1) g = lst k g ++ (if g k = true then [(k : Int)] else []) := by
  unfold lst
  rw [List.range_succ, List.filter_append, List.map_append]
  cases h : g k <;> simp [h]
theorem lst_len {k : Nat} {g : Nat → Bool} : (lst k g).length ≤ k := by
  unfold lst
  rw [List.length_map]
  exact Nat.le_trans (List.length_filter_le ..) (by simp)
theorem lst_mem {k : Nat} {g : Nat → Bool} {x : Int} : x ∈ lst k g ↔ 0 ≤ x ∧ x.toNat < k ∧ g x.toNat = true := by
  unfold lst
  rw [List.mem_map]
  constructor
  · rintro ⟨n, hn, rfl⟩
    rw [List.mem_filter, List.mem_range] at hn
    exact ⟨by omega, by simpa using hn.1, by simpa using hn.2⟩
  · rintro ⟨h0, h1, h2⟩
    exact ⟨x.toNat, List.mem_filter.2 ⟨List.mem_range.2 h1, h2⟩, by omega⟩
theorem memI_lst {k n : Nat} {g : Nat → Bool} (h : n < k) : memI (lst k g) n = g n := by
  rw [Bool.eq_iff_iff, memI_iff, lst_mem]
  simp [h]
theorem lst_congr {k : Nat} {f g : Nat → Bool} (h : ∀ n, n < k → f n = g n) : lst k f = lst k g := by
  unfold lst
  rw [List.filter_congr fun n hn => h n (List.mem_range.1 hn)]
theorem lst_sorted {k : Nat} {g : Nat → Bool} : (lst k g).Pairwise (· < ·) := by
  unfold lst
  rw [List.pairwise_map]
  exact (List.pairwise_lt_range.filter _).imp fun h => by omega
theorem rising_sorted {b : Int} : ∀ {xs : List Int} {last : Int}, risingF b last xs = true → xs.Pairwise (· < ·)
  | [], _, _ => .nil
  | n :: ns, last, h => by
    rw [risingF] at h
    split at h
    · cases h
    · exact .cons (fun x hx => (risingF_mem h x hx).1) (rising_sorted h)
theorem sorted_ext : ∀ {l l' : List Int}, l.Pairwise (· < ·) → l'.Pairwise (· < ·) → (∀ x, x ∈ l ↔ x ∈ l') → l = l'
  | [], [], _, _, _ => rfl
  | [], b :: l', _, _, h => absurd ((h b).2 (List.mem_cons_self ..)) (by simp)
  | a :: l, [], _, _, h => absurd ((h a).1 (List.mem_cons_self ..)) (by simp)
  | a :: l, b :: l', h1, h2, h => by
    obtain ⟨ha, hl⟩ := List.pairwise_cons.1 h1
    obtain ⟨hb, hl'⟩ := List.pairwise_cons.1 h2
    have e : a = b := by
      rcases List.mem_cons.1 ((h a).1 (List.mem_cons_self ..)) with e | h3
      · exact e
      · rcases List.mem_cons.1 ((h b).2 (List.mem_cons_self ..)) with e | h4
        · exact e.symm
        · have := hb a h3; have := ha b h4; omega
    subst e
    rw [sorted_ext hl hl' fun x => ⟨fun hx => by
      rcases List.mem_cons.1 ((h x).1 (List.mem_cons_of_mem _ hx)) with e | h3
      · have := ha x hx; omega
      · exact h3, fun hx => by
      rcases List.mem_cons.1 ((h x).2 (List.mem_cons_of_mem _ hx)) with e | h3
      · have := hb x hx; omega
      · exact h3⟩]
theorem lst_rising {N : Nat} {xs : List Int} {p : Nat → Bool} (h : risingF N (-1) xs = true) : lst N (fun n => memI xs n && p n) = xs.filter fun x => p x.toNat := by
  refine sorted_ext lst_sorted ((rising_sorted h).filter _) fun x => ?_
  rw [lst_mem, List.mem_filter, Bool.and_eq_true, memI_iff]
  constructor
  · rintro ⟨h0, h1, h2, h3⟩
    rw [Int.toNat_of_nonneg h0] at h2
    exact ⟨h2, h3⟩
  · rintro ⟨h2, h3⟩
    have := risingF_mem h x h2
    exact ⟨by omega, by omega, by rwa [Int.toNat_of_nonneg (by omega)], h3⟩
/-- What a byte is read into, from some spots, or at the beginning. -/
def comeG (m : Mach) (xs : List Int) (fs : Bool) (n : Nat) : Bool := fs && memI m.first n || xs.any fun x => memI (folOf m x.toNat) n
def intoG (m : Mach) (xs : List Int) (fs : Bool) (c : UInt8) (n : Nat) : Bool := comeG m xs fs n && inSpot m c n
def stepF (m : Mach) (xs : List Int) (fs : Bool) (c : UInt8) : List Int := lst m.spots.length (intoG m xs fs c)
theorem stepF_len {m : Mach} {xs : List Int} {fs : Bool} {c : UInt8} : (stepF m xs fs c).length ≤ m.spots.length := lst_len
theorem stepF_range {m : Mach} {xs : List Int} {fs : Bool} {c : UInt8} : ∀ x ∈ stepF m xs fs c, 0 ≤ x ∧ x.toNat < m.spots.length := fun x hx => by
  have := lst_mem.1 hx; exact ⟨this.1, this.2.1⟩
theorem comeG_step {m : Mach} {xs : List Int} {fs : Bool} {n i : Nat} (hi : i < xs.length) : comeG m (xs.take (i + 1)) fs n = (comeG m (xs.take i) fs n || memI (folOf m xs[i].toNat) n) := by
  unfold comeG
  rw [List.take_succ_eq_append_getElem hi, List.any_append]
  simp [Bool.or_assoc]
theorem comeG_on {m : Mach} {xs : List Int} {fs : Bool} {n i : Nat} (h : comeG m (xs.take i) fs n = true) : comeG m xs fs n = true := by
  unfold comeG at h ⊢
  rw [Bool.or_eq_true] at h ⊢
  rcases h with h | h
  · exact Or.inl h
  · obtain ⟨x, hx, h2⟩ := List.any_eq_true.1 h
    exact Or.inr (List.any_eq_true.2 ⟨x, List.mem_of_mem_take hx, h2⟩)
theorem step_fol {m : Mach} (hg : GoodM m) {xs : List Int} {c : UInt8} {r : List UInt8} (hr : ∀ x ∈ xs, 0 ≤ x ∧ x.toNat < m.spots.length) :
    anyAt m.spots.length (memI xs) (goW m (c :: r)) = anyAt m.spots.length (memI (stepF m xs false c)) (goW m r) := by
  rw [anyAt_step fun n _ x hx => hg.range hx]
  refine anyAt_congr fun n hn => ?_
  rw [stepF, memI_lst hn, intoG, comeG, Bool.false_and, Bool.false_or, any_anyAt (f := fun i => memI (folOf m i) n) hr]
  rfl
theorem step_first {m : Mach} (hg : GoodM m) {c : UInt8} {r : List UInt8} : takesF m (c :: r) = anyAt m.spots.length (memI (stepF m [] true c)) (goW m r) := by
  rw [takes_start hg]
  refine anyAt_congr fun n hn => ?_
  rw [stepF, memI_lst hn, intoG, comeG, Bool.true_and, List.any_nil, Bool.or_false]
theorem any_one {N n : Nat} {f : Nat → Bool} (h : n < N) : anyAt N (memI [(n : Int)]) f = f n := by
  rw [← any_anyAt (by intro x hx; obtain rfl := List.mem_singleton.1 hx; exact ⟨by omega, by simpa using h⟩)]
  simp
/-- The first spot of a step that goes on well is the marked one. -/
theorem step_find {m : Mach} {xs at_ : List Int} {fs : Bool} {c : UInt8} {r : List UInt8} (h : risingF m.spots.length (-1) xs = true) (he : ∀ n, n < m.spots.length → comeG m at_ fs n = memI xs n) :
    (stepF m at_ fs c).find? (fun x => goW m r x.toNat) = xs.find? fun x => accept m (c :: r) x.toNat := by
  rw [stepF, lst_congr (g := fun n => memI xs n && inSpot m c n) fun n hn => by rw [intoG, he n hn], lst_rising h, List.find?_filter]
  refine congrArg (fun f => List.find? f xs) (funext fun x => ?_)
  simp [accept]
theorem come_first {m : Mach} {n : Nat} : comeG m [] true n = memI m.first n := by simp [comeG]
theorem come_one {m : Mach} {n : Nat} {x : Int} : comeG m [x] false n = memI (folOf m x.toNat) n := by simp [comeG]
theorem GoodM.rise {m : Mach} (h : GoodM m) (n : Nat) : risingF m.spots.length (-1) (folOf m n) = true := by
  unfold folOf
  cases hf : m.follow[n]? with
  | none => rfl
  | some l =>
    obtain ⟨hn, rfl⟩ := List.getElem?_eq_some_iff.1 hf
    exact h.rows n hn
/-- The bit, by halving. -/
theorem half_bit {x k : Nat} : ((((x / 2 ^ k : Nat) : Int) % 2 == 1)) = x.testBit k := by
  rw [Nat.testBit_eq_decide_div_mod_eq, Bool.eq_iff_iff, beq_iff_eq, decide_eq_true_iff]
  omega
end Go.Proofs.Ytpkeggejofeeeaa.Lvm
namespace Go.Proofs.Ytpkeggejofeeeaa.Lvm
theorem quo8 (c : UInt8) : IntKind.u8.wrap (Int.tdiv (c.toNat : Int) 64) = ((c.toNat / 64 : Nat) : Int) := by
  have hc : c.toNat < 256 := c.toNat_lt
  rw [Int.tdiv_eq_ediv_of_nonneg (by omega), IntWalk.u8_in _ ⟨by omega, by omega⟩]
  omega
theorem rem8 (c : UInt8) : Int.tmod (c.toNat : Int) 64 = ((c.toNat % 64 : Nat) : Int) := by
  rw [Int.tmod_eq_emod_of_nonneg (by omega)]
  omega
theorem halve {y : Nat} (h : y < 18446744073709551616) : IntKind.u64.wrap (Int.tdiv (y : Int) 2) = ((y / 2 : Nat) : Int) := by
  rw [Int.tdiv_eq_ediv_of_nonneg (by omega), IntWalk.u64_in _ ⟨by omega, by omega⟩]
  omega
theorem par {y : Nat} : Int.tmod (y : Int) 2 = (y : Int) % 2 := Int.tmod_eq_emod_of_nonneg (by omega)
theorem inc8 {i : Nat} (h : i < 255) : IntKind.u8.wrap ((i : Int) + 1) = (i : Int) + 1 := IntWalk.u8_in _ ⟨by omega, by omega⟩
theorem halves {x i : Nat} : x / 2 ^ i / 2 = x / 2 ^ (i + 1) := by rw [Nat.div_div_eq_div_mul, Nat.pow_succ]
theorem below {x i : Nat} (h : x < 18446744073709551616) : x / 2 ^ i < 18446744073709551616 := Nat.lt_of_le_of_lt (Nat.div_le_self ..) h
end Go.Proofs.Ytpkeggejofeeeaa.Lvm
namespace Go.Proofs.Ytpkeggejofeeeaa.Lvm
theorem takes_any {m : Mach} {w : List UInt8} (h : w ≠ []) : takesF m w = m.first.any fun x => accept m w x.toNat := by
  cases w with
  | nil => exact absurd rfl h
  | cons _ _ => rfl
end Go.Proofs.Ytpkeggejofeeeaa.Lvm
namespace Go.Proofs.Ytpkeggejofeeeaa.Lvm
theorem bytes_is {s : ByteArray} {l : List UInt8} (h : s.data.toList = l) : s = ⟨l.toArray⟩ := by subst h; rfl
theorem str_same (s : ByteArray) : (s == s) = true := by cases s with | mk d => exact beq_self_eq_true d
theorem cells_same {ok : Bool} {s t : ByteArray} : cellsEq [.bool ok, .str s, .str t] [.bool ok, .str s, .str t] = true := by simp only [cellsEq, str_same, beq_self_eq_true, Bool.and_true]
end Go.Proofs.Ytpkeggejofeeeaa.Lvm

namespace Go.Proofs.Ytpkeggejofeeeaa
open Go.Proofs.Ytpkeggejofeeeaa.Lvm Go

section
variable {bm : Nat → Nat → Option LV} {st : LSt} {lo : Nat} {a b c d : LV} {m : Mach} {fol : List (LV × List Int)}

theorem refhas_ok (hlo : lo ≤ st.nxt) {v : LV} {xs : List Int} {x : Int} (hv : SlT (EE bm) st v 1 fI xs) (hn : xs.length ≤ 1000000) : Fin (EE bm) lo 40 [v, .int .i64 x] st (fun r H => r = .bool (xs.any fun y => y == x) ∧ H = []) := by
  refine Fin.of_body (fn := Try.f40) (c := Try.f40.body.getD .skip) rfl rfl rfl rfl ?_
  refine WP.seq ?_
  refine WP.region ?_
  refine RP.assign rfl rfl ?_
  refine RP.nil ?_
  refine WP.seq ?_
  refine WP.seq ?_
  refine WP.region ?_
  refine RP.assign rfl rfl ?_
  refine RP.nil ?_
  refine WP.block rfl ?_
  refine WP.loop (α := Nat) (fun gh => [(0, v), (1, .int .i64 x), (5, .int .i64 (gh : Int))]) (fun gh => []) (fun gh => gh ≤ xs.length ∧ (xs.any fun y => y == x) = ((xs.drop gh).any fun y => y == x)) (fun gh => xs.length - gh) ?_ 0 ⟨rfl, rfl, rfl, trivial⟩ .nil (by
    try dsimp only
    exact ⟨Nat.zero_le _, rfl⟩)
  rintro i hI
  change i ≤ xs.length ∧ (xs.any fun y => y == x) = ((xs.drop i).any fun y => y == x) at hI
  change WP _ _ _ _ _ [(0, v), (1, .int .i64 x), (5, .int .i64 (i : Int))] ([] : HL) _
  obtain ⟨hI1, hI2⟩ := hI
  refine WP.seq ?_
  refine WP.seq ?_
  refine WP.region ?_
  refine RP.move rfl rfl ?_
  refine RP.move rfl rfl ?_
  refine RP.len_sl rfl rfl (.arg hv) rfl ?_
  refine RP.lss rfl rfl rfl (fun h9 => ?_) (fun h9 => ?_)
  · skip
    have hlt : i < xs.length := by omega
    refine RP.nil ?_
    refine WP.cond_t rfl ?_
    refine WP.skip ?_
    refine WP.seq ?_
    refine WP.block rfl ?_
    refine WP.seq ?_
    refine WP.region ?_
    refine RP.move rfl rfl ?_
    refine RP.move rfl rfl ?_
    refine RP.at_ rfl rfl rfl rfl rfl rfl (.arg hv) (by first | assumption | omega) ?_
    refine RP.load_el rfl rfl rfl rfl (.arg hv) (by first | assumption | omega) rfl ?_
    refine RP.move rfl rfl ?_
    refine RP.eql rfl rfl rfl (fun h17 => ?_) (fun h17 => ?_)
    · skip
      refine RP.nil ?_
      refine WP.cond_t rfl ?_
      refine WP.seq ?_
      refine WP.region ?_
      refine RP.assign rfl rfl ?_
      refine RP.nil ?_
      refine WP.ret ?_
      exact End.one (Or.inr rfl) rfl (.tmp rfl) .nil ⟨by rw [hI2, List.drop_eq_getElem_cons hlt, List.any_cons, beq_iff_eq.2 h17, Bool.true_or], rfl⟩
    · skip
      refine RP.nil ?_
      refine WP.cond_f rfl ?_
      refine WP.skip ?_
      refine WP.region ?_
      refine RP.move rfl rfl ?_
      refine RP.add rfl rfl rfl (by omega) (by omega) ?_
      refine RP.assign rfl rfl ?_
      refine RP.nil ?_
      refine roundQ.mk (Q := fun _ _ _ => True) (i + 1) ⟨rfl, rfl, rfl, trivial⟩ .nil (by
        try dsimp only
        exact ⟨hlt, by rw [hI2, List.drop_eq_getElem_cons hlt, List.any_cons, beq_eq_false_iff_ne.2 h17, Bool.false_or]⟩) (by
        try dsimp only
        omega)
  · skip
    refine RP.nil ?_
    refine WP.cond_f rfl ?_
    refine WP.exit ?_
    refine WP.seq ?_
    refine WP.region ?_
    refine RP.assign rfl rfl ?_
    refine RP.nil ?_
    refine WP.ret ?_
    exact End.one (Or.inr rfl) rfl (.tmp rfl) .nil ⟨by rw [hI2, List.drop_of_length_le (by omega)]; rfl, rfl⟩

theorem refIn_ok (hlo : lo ≤ st.nxt) {s : Spot} (hs : SpotOk s) {c : UInt8} : Fin (EE bm) lo 41 [.agg [.int .u64 s.a, .int .u64 s.b, .int .u64 s.c, .int .u64 s.d], .int .u8 (c.toNat : Int)] st (fun v H => v = .bool (inB s c) ∧ H = []) := by
  have hc := c.toNat_lt
  have hj : c.toNat / 64 < 4 := by omega
  obtain ⟨x, hx, hx2⟩ : ∃ x : Nat, word s (c.toNat / 64) = (x : Int) ∧ x < 18446744073709551616 := ⟨(word s (c.toNat / 64)).toNat, by have := word_ok hs (c.toNat / 64); omega, by have := word_ok hs (c.toNat / 64); omega⟩
  have hin : inB s c = x.testBit (c.toNat % 64) := by unfold inB; rw [hx]; rfl
  refine Fin.of_body (fn := Try.f41) (c := Try.f41.body.getD .skip) rfl rfl rfl rfl ?_
  refine WP.seq ?_
  refine WP.region ?_
  refine RP.box rfl rfl rfl (fun L2 => ?_)
  refine RP.assign rfl rfl ?_
  refine RP.nil ?_
  refine WP.seq ?_
  refine WP.region ?_
  refine RP.move rfl rfl ?_
  refine RP.bin (v := .int .u8 ((c.toNat / 64 : Nat) : Int)) rfl rfl rfl (by show some (LV.int .u8 _) = _; rw [quo8]) ?_
  refine RP.at_arr rfl rfl rfl rfl rfl rfl hj ?_
  refine RP.load_box_at (.int .u64 (word s (c.toNat / 64))) rfl rfl rfl rfl (by repeat (first | exact .here | apply HIn.there | apply HIn.app)) (word_at hj) ?_
  refine RP.assign rfl rfl ?_
  refine RP.nil ?_
  refine WP.seq ?_
  refine WP.seq ?_
  refine WP.region ?_
  refine RP.assign rfl rfl ?_
  refine RP.nil ?_
  refine WP.block rfl ?_
  refine WP.loop (α := Nat × Int) (fun gh => [(1, .int .u8 (c.toNat : Int)), (5, .int .u64 gh.2), (6, .int .u8 (gh.1 : Int))]) (fun gh => []) (fun gh => gh.1 ≤ c.toNat % 64 ∧ gh.2 = ((x / 2 ^ gh.1 : Nat) : Int)) (fun gh => c.toNat % 64 - gh.1) ?_ (0, word s (c.toNat / 64)) ⟨rfl, rfl, rfl, trivial⟩ .nil (by
    try dsimp only
    exact ⟨Nat.zero_le _, by rw [Nat.pow_zero, Nat.div_one]; exact hx⟩)
  rintro ⟨i, z⟩ hI
  change i ≤ c.toNat % 64 ∧ z = ((x / 2 ^ i : Nat) : Int) at hI
  change WP _ _ _ _ _ [(1, .int .u8 (c.toNat : Int)), (5, .int .u64 z), (6, .int .u8 (i : Int))] ([] : HL) _
  obtain ⟨hI1, hI2⟩ := hI
  refine WP.seq ?_
  refine WP.seq ?_
  refine WP.region ?_
  refine RP.move rfl rfl ?_
  refine RP.move rfl rfl ?_
  refine RP.bin (v := .int .u8 ((c.toNat % 64 : Nat) : Int)) rfl rfl rfl (by show some (LV.int .u8 _) = _; rw [rem8]) ?_
  refine RP.lss rfl rfl rfl (fun h14 => ?_) (fun h14 => ?_)
  · skip
    refine RP.nil ?_
    refine WP.cond_t rfl ?_
    refine WP.skip ?_
    refine WP.seq ?_
    refine WP.block rfl ?_
    refine WP.region ?_
    refine RP.move rfl rfl ?_
    refine RP.bin (v := .int .u64 ((x / 2 ^ (i + 1) : Nat) : Int)) rfl rfl rfl (by subst hI2; show some (LV.int .u64 (IntKind.u64.wrap (Int.tdiv _ _))) = _; rw [halve (below hx2), halves]) ?_
    refine RP.assign rfl rfl ?_
    refine RP.nil ?_
    refine WP.region ?_
    refine RP.move rfl rfl ?_
    refine RP.bin (v := .int .u8 ((i : Int) + 1)) rfl rfl rfl (by show some (LV.int .u8 _) = _; rw [inc8 (by omega)]) ?_
    refine RP.assign rfl rfl ?_
    refine RP.nil ?_
    refine roundQ.mk (Q := fun _ _ _ => True) (i + 1, ((x / 2 ^ (i + 1) : Nat) : Int)) ⟨rfl, rfl, rfl, trivial⟩ .nil (by
      try dsimp only
      exact ⟨by omega, rfl⟩) (by
      try dsimp only
      omega)
  · skip
    refine RP.nil ?_
    refine WP.cond_f rfl ?_
    refine WP.exit ?_
    refine WP.seq ?_
    refine WP.region ?_
    refine RP.move rfl rfl ?_
    refine RP.bin (v := .int .u64 (((x / 2 ^ i : Nat) : Int) % 2)) rfl rfl rfl (by subst hI2; show some (LV.int .u64 _) = _; rw [par]) ?_
    refine RP.bin (v := .bool (inB s c)) rfl rfl rfl (by show some (LV.bool _) = _; rw [half_bit, hin, show i = c.toNat % 64 by omega]) ?_
    refine RP.assign rfl rfl ?_
    refine RP.nil ?_
    refine WP.ret ?_
    exact End.one (Or.inr rfl) rfl (.tmp rfl) .nil ⟨rfl, rfl⟩

theorem reflist_ok (hlo : lo ≤ st.nxt) {v : LV} {xs : List Int} {bound : Int} (hv : SlT (EE bm) st v 1 fI xs) (hn : xs.length ≤ 1000000) : Fin (EE bm) lo 49 [v, .int .i64 bound] st (fun r H => r = .bool (risingF bound (-1) xs) ∧ H = []) := by
  refine Fin.of_body (fn := Try.f49) (c := Try.f49.body.getD .skip) rfl rfl rfl rfl ?_
  refine WP.seq ?_
  refine WP.region ?_
  refine RP.assign rfl rfl ?_
  refine RP.nil ?_
  refine WP.seq ?_
  refine WP.seq ?_
  refine WP.region ?_
  refine RP.assign rfl rfl ?_
  refine RP.nil ?_
  refine WP.block rfl ?_
  refine WP.loop (α := Nat × Int) (fun gh => [(0, v), (1, .int .i64 bound), (5, .int .i64 (gh.1 : Int))]) (fun gh => []) (fun gh => gh.1 ≤ xs.length ∧ (gh.1 = 0 ∧ gh.2 = -1 ∨ 0 < gh.1 ∧ 0 ≤ gh.2 ∧ ∀ h : gh.1 - 1 < xs.length, xs[gh.1 - 1] = gh.2) ∧ risingF bound (-1) xs = risingF bound gh.2 (xs.drop gh.1)) (fun gh => xs.length - gh.1) ?_ (0, -1) ⟨rfl, rfl, rfl, trivial⟩ .nil (by
    try dsimp only
    exact ⟨Nat.zero_le _, Or.inl ⟨rfl, rfl⟩, rfl⟩)
  rintro ⟨i, last⟩ hI
  change i ≤ xs.length ∧ (i = 0 ∧ last = -1 ∨ 0 < i ∧ 0 ≤ last ∧ ∀ h : i - 1 < xs.length, xs[i - 1] = last) ∧ risingF bound (-1) xs = risingF bound last (xs.drop i) at hI
  change WP _ _ _ _ _ [(0, v), (1, .int .i64 bound), (5, .int .i64 (i : Int))] ([] : HL) _
  obtain ⟨hI1, hI3, hI2⟩ := hI
  refine WP.seq ?_
  refine WP.seq ?_
  refine WP.region ?_
  refine RP.move rfl rfl ?_
  refine RP.move rfl rfl ?_
  refine RP.len_sl rfl rfl (.arg hv) rfl ?_
  refine RP.lss rfl rfl rfl (fun h9 => ?_) (fun h9 => ?_)
  · skip
    have hlt : i < xs.length := by omega
    refine RP.nil ?_
    refine WP.cond_t rfl ?_
    refine WP.skip ?_
    refine WP.seq ?_
    refine WP.block rfl ?_
    refine WP.seq ?_
    refine WP.drawn (by kernel_rfl) ?_
    refine RP.move rfl rfl ?_
    refine RP.move rfl rfl ?_
    refine RP.at_ rfl rfl rfl rfl rfl rfl (.arg hv) (by first | assumption | omega) ?_
    refine RP.load_el rfl rfl rfl rfl (.arg hv) (by first | assumption | omega) rfl ?_
    refine RP.lss rfl rfl rfl (fun h16 => ?_) (fun h16 => ?_)
    · skip
      refine RP.move rfl rfl ?_
      refine RP.gfalse rfl rfl ?_
      refine RP.gfalse rfl rfl ?_
      refine RP.gfalse rfl rfl ?_
      refine RP.gfalse rfl rfl ?_
      refine RP.gfalse rfl rfl ?_
      refine RP.gfalse rfl rfl ?_
      refine RP.pick_ rfl rfl rfl ?_
      refine RP.move rfl rfl ?_
      refine RP.gfalse rfl rfl ?_
      refine RP.gfalse rfl rfl ?_
      refine RP.gfalse rfl rfl ?_
      refine RP.gfalse rfl rfl ?_
      refine RP.gfalse rfl rfl ?_
      refine RP.gfalse rfl rfl ?_
      refine RP.gfalse rfl rfl ?_
      refine RP.gfalse rfl rfl ?_
      refine RP.gfalse rfl rfl ?_
      refine RP.gfalse rfl rfl ?_
      refine RP.gfalse rfl rfl ?_
      refine RP.gfalse rfl rfl ?_
      refine RP.gfalse rfl rfl ?_
      refine RP.gfalse rfl rfl ?_
      refine RP.pick_ rfl rfl rfl ?_
      refine RP.nil ?_
      refine WP.cond_t rfl ?_
      refine WP.seq ?_
      refine WP.region ?_
      refine RP.assign rfl rfl ?_
      refine RP.nil ?_
      refine WP.ret ?_
      exact End.one (Or.inr rfl) rfl (.tmp rfl) .nil ⟨by rw [hI2, risingF_step hlt, if_pos (by rcases hI3 with h | ⟨h, h2, h3⟩; (· omega); (· have := h3 (by omega); omega))], rfl⟩
    · skip
      refine RP.move rfl rfl ?_
      refine RP.gtrue rfl ?_
      refine RP.move rfl rfl ?_
      refine RP.gtrue rfl ?_
      refine RP.move rfl rfl ?_
      refine RP.gtrue rfl ?_
      refine RP.at_ rfl rfl rfl rfl rfl rfl (.arg hv) (by first | assumption | omega) ?_
      refine RP.gtrue rfl ?_
      refine RP.load_el rfl rfl rfl rfl (.arg hv) (by first | assumption | omega) rfl ?_
      refine RP.gtrue rfl ?_
      refine RP.move rfl rfl ?_
      refine RP.gtrue rfl ?_
      refine RP.geq rfl rfl rfl (fun h23 => ?_) (fun h23 => ?_)
      · skip
        refine RP.pick_ rfl rfl rfl ?_
        refine RP.move rfl rfl ?_
        refine RP.gfalse rfl rfl ?_
        refine RP.gfalse rfl rfl ?_
        refine RP.gfalse rfl rfl ?_
        refine RP.gfalse rfl rfl ?_
        refine RP.gfalse rfl rfl ?_
        refine RP.gfalse rfl rfl ?_
        refine RP.gfalse rfl rfl ?_
        refine RP.gfalse rfl rfl ?_
        refine RP.gfalse rfl rfl ?_
        refine RP.gfalse rfl rfl ?_
        refine RP.gfalse rfl rfl ?_
        refine RP.gfalse rfl rfl ?_
        refine RP.gfalse rfl rfl ?_
        refine RP.gfalse rfl rfl ?_
        refine RP.pick_ rfl rfl rfl ?_
        refine RP.nil ?_
        refine WP.cond_t rfl ?_
        refine WP.seq ?_
        refine WP.region ?_
        refine RP.assign rfl rfl ?_
        refine RP.nil ?_
        refine WP.ret ?_
        exact End.one (Or.inr rfl) rfl (.tmp rfl) .nil ⟨by rw [hI2, risingF_step hlt, if_pos (by rcases hI3 with h | ⟨h, h2, h3⟩; (· omega); (· have := h3 (by omega); omega))], rfl⟩
      · skip
        refine RP.pick_ rfl rfl rfl ?_
        refine RP.move rfl rfl ?_
        refine RP.gtrue rfl ?_
        refine RP.move rfl rfl ?_
        refine RP.gtrue rfl ?_
        refine RP.gtr rfl rfl rfl (fun h27 => ?_) (fun h27 => ?_)
        · skip
          refine RP.gtrue rfl ?_
          refine RP.move rfl rfl ?_
          refine RP.gtrue rfl ?_
          refine RP.move rfl rfl ?_
          refine RP.gtrue rfl ?_
          refine RP.move rfl rfl ?_
          refine RP.gtrue rfl ?_
          refine RP.at_ rfl rfl rfl rfl rfl rfl (.arg hv) (by first | assumption | omega) ?_
          refine RP.gtrue rfl ?_
          refine RP.load_el rfl rfl rfl rfl (.arg hv) (by first | assumption | omega) rfl ?_
          refine RP.gtrue rfl ?_
          refine RP.move rfl rfl ?_
          refine RP.gtrue rfl ?_
          refine RP.move rfl rfl ?_
          refine RP.gtrue rfl ?_
          refine RP.sub rfl rfl rfl (by omega) (by omega) ?_
          refine RP.gtrue rfl ?_
          refine RP.at_ rfl rfl rfl (natOf_is (n := i - 1) (by omega)) rfl rfl (.arg hv) (by first | assumption | omega) ?_
          refine RP.gtrue rfl ?_
          refine RP.load_el rfl rfl rfl rfl (.arg hv) (by first | assumption | omega) rfl ?_
          refine RP.gtrue rfl ?_
          refine RP.leq rfl rfl rfl (fun h38 => ?_) (fun h38 => ?_)
          · skip
            refine RP.gtrue rfl ?_
            refine RP.pick_ rfl rfl rfl ?_
            refine RP.pick_ rfl rfl rfl ?_
            refine RP.nil ?_
            refine WP.cond_t rfl ?_
            refine WP.seq ?_
            refine WP.region ?_
            refine RP.assign rfl rfl ?_
            refine RP.nil ?_
            refine WP.ret ?_
            exact End.one (Or.inr rfl) rfl (.tmp rfl) .nil ⟨by rw [hI2, risingF_step hlt, if_pos (by rcases hI3 with h | ⟨h, h2, h3⟩; (· omega); (· have := h3 (by omega); omega))], rfl⟩
          · skip
            refine RP.gtrue rfl ?_
            refine RP.pick_ rfl rfl rfl ?_
            refine RP.pick_ rfl rfl rfl ?_
            refine RP.nil ?_
            refine WP.cond_f rfl ?_
            refine WP.skip ?_
            refine WP.region ?_
            refine RP.move rfl rfl ?_
            refine RP.add rfl rfl rfl (by omega) (by omega) ?_
            refine RP.assign rfl rfl ?_
            refine RP.nil ?_
            refine roundQ.mk (Q := fun _ _ _ => True) (i + 1, xs[i]) ⟨rfl, rfl, rfl, trivial⟩ .nil (by
              try dsimp only
              exact ⟨hlt, Or.inr ⟨by omega, by omega, fun h => by simp⟩, by rw [hI2, risingF_step hlt, if_neg (by rcases hI3 with h | ⟨h, h2, h3⟩; (· omega); (· have := h3 (by omega); omega))]⟩) (by
              try dsimp only
              omega)
        · skip
          refine RP.gtrue rfl ?_
          refine RP.move rfl rfl ?_
          refine RP.gfalse rfl rfl ?_
          refine RP.gfalse rfl rfl ?_
          refine RP.gfalse rfl rfl ?_
          refine RP.gfalse rfl rfl ?_
          refine RP.gfalse rfl rfl ?_
          refine RP.gfalse rfl rfl ?_
          refine RP.gfalse rfl rfl ?_
          refine RP.gfalse rfl rfl ?_
          refine RP.gfalse rfl rfl ?_
          refine RP.gfalse rfl rfl ?_
          refine RP.gtrue rfl ?_
          refine RP.pick_ rfl rfl rfl ?_
          refine RP.pick_ rfl rfl rfl ?_
          refine RP.nil ?_
          refine WP.cond_f rfl ?_
          refine WP.skip ?_
          refine WP.region ?_
          refine RP.move rfl rfl ?_
          refine RP.add rfl rfl rfl (by omega) (by omega) ?_
          refine RP.assign rfl rfl ?_
          refine RP.nil ?_
          refine roundQ.mk (Q := fun _ _ _ => True) (i + 1, xs[i]) ⟨rfl, rfl, rfl, trivial⟩ .nil (by
            try dsimp only
            exact ⟨hlt, Or.inr ⟨by omega, by omega, fun h => by simp⟩, by rw [hI2, risingF_step hlt, if_neg (by rcases hI3 with h | ⟨h, h2, h3⟩; (· omega); (· have := h3 (by omega); omega))]⟩) (by
            try dsimp only
            omega)
  · skip
    refine RP.nil ?_
    refine WP.cond_f rfl ?_
    refine WP.exit ?_
    refine WP.seq ?_
    refine WP.region ?_
    refine RP.assign rfl rfl ?_
    refine RP.nil ?_
    refine WP.ret ?_
    exact End.one (Or.inr rfl) rfl (.tmp rfl) .nil ⟨by rw [hI2, List.drop_of_length_le (by omega)]; rfl, rfl⟩

theorem refright_ok (hlo : lo ≤ st.nxt) (hm : MA (EE bm) st a b c d m fol) (h1 : m.first.length ≤ 1000000) (h2 : ∀ j (h : j < fol.length), fol[j].2.length ≤ 1000000) : Fin (EE bm) lo 32 [mv a b c d m] st (fun v H => (GoodM m ∧ v = .bool true ∧ H = []) ∨ (¬ GoodM m ∧ v = .bool false ∧ H = [])) := by
  refine Fin.of_body (fn := Try.f32) (c := Try.f32.body.getD .skip) rfl rfl rfl rfl ?_
  refine WP.seq ?_
  refine WP.region ?_
  refine RP.box rfl rfl hm.sc (fun L1 => ?_)
  refine RP.assign rfl rfl ?_
  refine RP.nil ?_
  refine WP.seq ?_
  refine WP.region ?_
  refine RP.faddr rfl rfl rfl ?_
  refine RP.load_box rfl rfl rfl rfl (by repeat (first | exact .here | apply HIn.there | apply HIn.app)) rfl ?_
  first | refine RP.len_sl rfl rfl (.arg hm.spots) rfl ?_ | refine RP.len_sl rfl rfl (.arg hm.first) rfl ?_ | refine RP.len_sl rfl rfl (.arg hm.follow) rfl ?_ | refine RP.len_sl rfl rfl (.arg hm.last) rfl ?_
  refine RP.assign rfl rfl ?_
  refine RP.nil ?_
  refine WP.seq ?_
  refine WP.seq ?_
  refine WP.region ?_
  refine RP.move rfl rfl ?_
  refine RP.gtr rfl rfl rfl (fun h9 => ?_) (fun h9 => ?_)
  · skip
    refine RP.move rfl rfl ?_
    refine RP.gfalse rfl rfl ?_
    refine RP.gfalse rfl rfl ?_
    refine RP.gfalse rfl rfl ?_
    refine RP.gfalse rfl rfl ?_
    refine RP.gfalse rfl rfl ?_
    refine RP.pick_ rfl rfl rfl ?_
    refine RP.move rfl rfl ?_
    refine RP.gfalse rfl rfl ?_
    refine RP.gfalse rfl rfl ?_
    refine RP.gfalse rfl rfl ?_
    refine RP.gfalse rfl rfl ?_
    refine RP.gfalse rfl rfl ?_
    refine RP.pick_ rfl rfl rfl ?_
    refine RP.move rfl rfl ?_
    refine RP.gfalse rfl rfl ?_
    refine RP.gfalse rfl rfl ?_
    refine RP.gfalse rfl rfl ?_
    refine RP.gfalse rfl rfl ?_
    refine RP.gfalse rfl rfl ?_
    refine RP.pick_ rfl rfl rfl ?_
    refine RP.nil ?_
    refine WP.cond_t rfl ?_
    refine WP.seq ?_
    refine WP.region ?_
    refine RP.assign rfl rfl ?_
    refine RP.nil ?_
    refine WP.ret ?_
    exact End.one (Or.inr rfl) rfl (.tmp rfl) .nil (Or.inr ⟨fun hg => by have := hg.size; omega, rfl, rfl⟩)
  · skip
    refine RP.move rfl rfl ?_
    refine RP.gtrue rfl ?_
    refine RP.faddr rfl rfl rfl ?_
    refine RP.gtrue rfl ?_
    refine RP.load_box rfl rfl rfl rfl (by repeat (first | exact .here | apply HIn.there | apply HIn.app)) rfl ?_
    refine RP.gtrue rfl ?_
    first | refine RP.len_sl rfl rfl (.arg hm.spots) rfl ?_ | refine RP.len_sl rfl rfl (.arg hm.first) rfl ?_ | refine RP.len_sl rfl rfl (.arg hm.follow) rfl ?_ | refine RP.len_sl rfl rfl (.arg hm.last) rfl ?_
    refine RP.gtrue rfl ?_
    refine RP.move rfl rfl ?_
    refine RP.gtrue rfl ?_
    refine RP.neq rfl rfl rfl (fun h15 => ?_) (fun h15 => ?_)
    · skip
      refine RP.pick_ rfl rfl rfl ?_
      refine RP.move rfl rfl ?_
      refine RP.gfalse rfl rfl ?_
      refine RP.gfalse rfl rfl ?_
      refine RP.gfalse rfl rfl ?_
      refine RP.gfalse rfl rfl ?_
      refine RP.gfalse rfl rfl ?_
      refine RP.pick_ rfl rfl rfl ?_
      refine RP.move rfl rfl ?_
      refine RP.gfalse rfl rfl ?_
      refine RP.gfalse rfl rfl ?_
      refine RP.gfalse rfl rfl ?_
      refine RP.gfalse rfl rfl ?_
      refine RP.gfalse rfl rfl ?_
      refine RP.pick_ rfl rfl rfl ?_
      refine RP.nil ?_
      refine WP.cond_t rfl ?_
      refine WP.seq ?_
      refine WP.region ?_
      refine RP.assign rfl rfl ?_
      refine RP.nil ?_
      refine WP.ret ?_
      exact End.one (Or.inr rfl) rfl (.tmp rfl) .nil (Or.inr ⟨fun hg => by have := hg.flen; have := hm.len; omega, rfl, rfl⟩)
    · skip
      refine RP.pick_ rfl rfl rfl ?_
      refine RP.move rfl rfl ?_
      refine RP.gtrue rfl ?_
      refine RP.faddr rfl rfl rfl ?_
      refine RP.gtrue rfl ?_
      refine RP.load_box rfl rfl rfl rfl (by repeat (first | exact .here | apply HIn.there | apply HIn.app)) rfl ?_
      refine RP.gtrue rfl ?_
      first | refine RP.len_sl rfl rfl (.arg hm.spots) rfl ?_ | refine RP.len_sl rfl rfl (.arg hm.first) rfl ?_ | refine RP.len_sl rfl rfl (.arg hm.follow) rfl ?_ | refine RP.len_sl rfl rfl (.arg hm.last) rfl ?_
      refine RP.gtrue rfl ?_
      refine RP.move rfl rfl ?_
      refine RP.gtrue rfl ?_
      refine RP.neq rfl rfl rfl (fun h22 => ?_) (fun h22 => ?_)
      · skip
        refine RP.pick_ rfl rfl rfl ?_
        refine RP.move rfl rfl ?_
        refine RP.gfalse rfl rfl ?_
        refine RP.gfalse rfl rfl ?_
        refine RP.gfalse rfl rfl ?_
        refine RP.gfalse rfl rfl ?_
        refine RP.gfalse rfl rfl ?_
        refine RP.pick_ rfl rfl rfl ?_
        refine RP.nil ?_
        refine WP.cond_t rfl ?_
        refine WP.seq ?_
        refine WP.region ?_
        refine RP.assign rfl rfl ?_
        refine RP.nil ?_
        refine WP.ret ?_
        exact End.one (Or.inr rfl) rfl (.tmp rfl) .nil (Or.inr ⟨fun hg => by have := hg.llen; omega, rfl, rfl⟩)
      · skip
        refine RP.pick_ rfl rfl rfl ?_
        refine RP.move rfl rfl ?_
        refine RP.gtrue rfl ?_
        refine RP.faddr rfl rfl rfl ?_
        refine RP.gtrue rfl ?_
        refine RP.load_box rfl rfl rfl rfl (by repeat (first | exact .here | apply HIn.there | apply HIn.app)) rfl ?_
        refine RP.gtrue rfl ?_
        refine RP.move rfl rfl ?_
        refine RP.gtrue rfl ?_
        refine RP.call rfl rfl rfl hlo (fun st' lo' hi' hl' => reflist_ok hl' (hm.first.inv hi') (by omega)) ?_
        rintro _ _ ⟨rfl, rfl⟩
        refine RP.gtrue rfl ?_
        refine RP.un rfl rfl rfl ?_
        refine RP.pick_ rfl rfl rfl ?_
        refine RP.nil ?_
        refine WP.cond_b rfl (fun hc30 => ?_) (fun hc30 => ?_)
        · skip
          refine WP.seq ?_
          refine WP.region ?_
          refine RP.assign rfl rfl ?_
          refine RP.nil ?_
          refine WP.ret ?_
          exact End.one (Or.inr rfl) rfl (.tmp rfl) .nil (Or.inr ⟨fun hg => by have := hg.first; simp [this] at hc30, rfl, rfl⟩)
        · skip
          refine WP.skip ?_
          refine WP.seq ?_
          refine WP.seq ?_
          refine WP.region ?_
          refine RP.assign rfl rfl ?_
          refine RP.nil ?_
          refine WP.block rfl ?_
          refine WP.loop (α := Nat) (fun gh => [(1, .ptr (.own L1) 0), (3, .int .i64 (m.spots.length : Int)), (4, .int .i64 (gh : Int))]) (fun gh => [(some L1, .cells (mv a b c d m).cells)]) (fun gh => gh ≤ m.spots.length ∧ (∀ j (h : j < m.spots.length), j < gh → m.spots[j].tag ≤ 2) ∧ ∀ j (h : j < fol.length), j < gh → risingF m.spots.length (-1) fol[j].2 = true) (fun gh => m.spots.length - gh) ?_ 0 ⟨rfl, rfl, rfl, trivial⟩ (.cons (by repeat (first | exact .here | apply HRem.there | apply HRem.app)) .nil) (by
            try dsimp only
            exact ⟨Nat.zero_le _, fun _ _ h => absurd h (Nat.not_lt_zero _), fun _ _ h => absurd h (Nat.not_lt_zero _)⟩)
          rintro i hI
          change i ≤ m.spots.length ∧ (∀ j (h : j < m.spots.length), j < i → m.spots[j].tag ≤ 2) ∧ ∀ j (h : j < fol.length), j < i → risingF m.spots.length (-1) fol[j].2 = true at hI
          change WP _ _ _ _ _ [(1, .ptr (.own L1) 0), (3, .int .i64 (m.spots.length : Int)), (4, .int .i64 (i : Int))] ([(some L1, .cells (mv a b c d m).cells)] : HL) _
          obtain ⟨hI1, hI2, hI3⟩ := hI
          refine WP.seq ?_
          refine WP.seq ?_
          refine WP.region ?_
          refine RP.move rfl rfl ?_
          refine RP.move rfl rfl ?_
          refine RP.lss rfl rfl rfl (fun h33 => ?_) (fun h33 => ?_)
          · skip
            have hlt : i < m.spots.length := by omega
            have hlf : i < fol.length := by have := hm.len; omega
            have hrow := hm.row hlf
            have hrl := h2 i hlf
            refine RP.nil ?_
            refine WP.cond_t rfl ?_
            refine WP.skip ?_
            refine WP.seq ?_
            refine WP.block rfl ?_
            refine WP.seq ?_
            refine WP.region ?_
            refine RP.faddr rfl rfl rfl ?_
            refine RP.load_box rfl rfl rfl rfl (by repeat (first | exact .here | apply HIn.there | apply HIn.app)) rfl ?_
            refine RP.move rfl rfl ?_
            first | refine RP.at_ rfl rfl rfl rfl rfl rfl (.arg hm.spots) (by first | assumption | omega) ?_ | refine RP.at_ rfl rfl rfl rfl rfl rfl (.arg hm.first) (by first | assumption | omega) ?_ | refine RP.at_ rfl rfl rfl rfl rfl rfl (.arg hm.follow) (by first | assumption | omega) ?_ | refine RP.at_ rfl rfl rfl rfl rfl rfl (.arg hm.last) (by first | assumption | omega) ?_
            first | refine RP.faddr_p rfl rfl rfl rfl rfl (.arg hm.spots) (by first | assumption | omega) ?_ | refine RP.faddr_p rfl rfl rfl rfl rfl (.arg hm.first) (by first | assumption | omega) ?_ | refine RP.faddr_p rfl rfl rfl rfl rfl (.arg hm.follow) (by first | assumption | omega) ?_ | refine RP.faddr_p rfl rfl rfl rfl rfl (.arg hm.last) (by first | assumption | omega) ?_
            first | refine RP.load_el rfl rfl rfl rfl (.arg hm.spots) (by first | assumption | omega) rfl ?_ | refine RP.load_el rfl rfl rfl rfl (.arg hm.first) (by first | assumption | omega) rfl ?_ | refine RP.load_el rfl rfl rfl rfl (.arg hm.follow) (by first | assumption | omega) rfl ?_ | refine RP.load_el rfl rfl rfl rfl (.arg hm.last) (by first | assumption | omega) rfl ?_
            refine RP.gtr rfl rfl rfl (fun h42 => ?_) (fun h42 => ?_)
            · skip
              refine RP.move rfl rfl ?_
              refine RP.gfalse rfl rfl ?_
              refine RP.gfalse rfl rfl ?_
              refine RP.gfalse rfl rfl ?_
              refine RP.gfalse rfl rfl ?_
              refine RP.gfalse rfl rfl ?_
              refine RP.gfalse rfl rfl ?_
              refine RP.gfalse rfl rfl ?_
              refine RP.gfalse rfl rfl ?_
              refine RP.pick_ rfl rfl rfl ?_
              refine RP.nil ?_
              refine WP.cond_t rfl ?_
              refine WP.seq ?_
              refine WP.region ?_
              refine RP.assign rfl rfl ?_
              refine RP.nil ?_
              refine WP.ret ?_
              exact End.one (Or.inr rfl) rfl (.tmp rfl) .nil (Or.inr ⟨fun hg => by have := hg.tags i hlt; omega, rfl, rfl⟩)
            · skip
              refine RP.move rfl rfl ?_
              refine RP.gtrue rfl ?_
              refine RP.faddr rfl rfl rfl ?_
              refine RP.gtrue rfl ?_
              refine RP.load_box rfl rfl rfl rfl (by repeat (first | exact .here | apply HIn.there | apply HIn.app)) rfl ?_
              refine RP.gtrue rfl ?_
              refine RP.move rfl rfl ?_
              refine RP.gtrue rfl ?_
              first | refine RP.at_ rfl rfl rfl rfl rfl rfl (.arg hm.spots) (by first | assumption | omega) ?_ | refine RP.at_ rfl rfl rfl rfl rfl rfl (.arg hm.first) (by first | assumption | omega) ?_ | refine RP.at_ rfl rfl rfl rfl rfl rfl (.arg hm.follow) (by first | assumption | omega) ?_ | refine RP.at_ rfl rfl rfl rfl rfl rfl (.arg hm.last) (by first | assumption | omega) ?_
              refine RP.gtrue rfl ?_
              first | refine RP.load_el rfl rfl rfl rfl (.arg hm.spots) (by first | assumption | omega) rfl ?_ | refine RP.load_el rfl rfl rfl rfl (.arg hm.first) (by first | assumption | omega) rfl ?_ | refine RP.load_el rfl rfl rfl rfl (.arg hm.follow) (by first | assumption | omega) rfl ?_ | refine RP.load_el rfl rfl rfl rfl (.arg hm.last) (by first | assumption | omega) rfl ?_
              refine RP.gtrue rfl ?_
              refine RP.move rfl rfl ?_
              refine RP.gtrue rfl ?_
              refine RP.call rfl rfl rfl hlo (fun st' lo' hi' hl' => reflist_ok hl' (hrow.inv hi') (by omega)) ?_
              rintro _ _ ⟨rfl, rfl⟩
              refine RP.gtrue rfl ?_
              refine RP.un rfl rfl rfl ?_
              refine RP.pick_ rfl rfl rfl ?_
              refine RP.nil ?_
              refine WP.cond_b rfl (fun hc52 => ?_) (fun hc52 => ?_)
              · skip
                refine WP.seq ?_
                refine WP.region ?_
                refine RP.assign rfl rfl ?_
                refine RP.nil ?_
                refine WP.ret ?_
                exact End.one (Or.inr rfl) rfl (.tmp rfl) .nil (Or.inr ⟨fun hg => by have := hg.rows i (by rw [hm.len]; exact hlf); simp only [hm.same, List.getElem_map] at this; simp [this] at hc52, rfl, rfl⟩)
              · skip
                refine WP.skip ?_
                refine WP.region ?_
                refine RP.move rfl rfl ?_
                refine RP.add rfl rfl rfl (by omega) (by omega) ?_
                refine RP.assign rfl rfl ?_
                refine RP.nil ?_
                refine roundQ.mk (Q := fun _ _ _ => True) (i + 1) ⟨rfl, rfl, rfl, trivial⟩ (.cons (by repeat (first | exact .here | apply HRem.there | apply HRem.app)) .nil) (by
                  try dsimp only
                  exact ⟨hlt, fun j hj hji => (if e : j = i then by subst e; omega else hI2 j hj (by omega)), fun j hj hji => (if e : j = i then by subst e; simpa using hc52 else hI3 j hj (by omega))⟩) (by
                  try dsimp only
                  omega)
          · skip
            refine RP.nil ?_
            refine WP.cond_f rfl ?_
            refine WP.exit ?_
            refine WP.seq ?_
            refine WP.region ?_
            refine RP.assign rfl rfl ?_
            refine RP.nil ?_
            refine WP.ret ?_
            exact End.one (Or.inr rfl) rfl (.tmp rfl) .nil (Or.inl ⟨⟨by omega, by rw [hm.len]; omega, by omega, by simpa using hc30, fun j hj => hI2 j hj (by omega), fun j hj => by have := hI3 j (by rw [← hm.len]; exact hj) (by have := hm.len; omega); simpa only [hm.same, List.getElem_map] using this⟩, rfl, rfl⟩)

theorem step_ok (hlo : lo ≤ st.nxt) (hm : MA (EE bm) st a b c d m fol) (hg : GoodM m) (hok : ∀ s ∈ m.spots, SpotOk s) (hN : m.spots.length ≤ 1000) (h1 : m.first.length ≤ 1000000) (hrl : ∀ j (h : j < fol.length), fol[j].2.length ≤ 1000000) {vat : LV} {xs : List Int} (hv : SlT (EE bm) st vat 1 fI xs) (hxl : xs.length ≤ 1000) (hr : ∀ x ∈ xs, 0 ≤ x ∧ x.toNat < m.spots.length) {fs : Bool} {ch : UInt8} :
    Fin (EE bm) lo 21 [mv a b c d m, vat, .bool fs, .int .u8 (ch.toNat : Int)] st (fun v H => ∃ p, H = [p] ∧ Lin 1 fI true v (stepF m xs fs ch) p) := by
  have hfl := hm.len
  have hgf := hg.flen
  refine Fin.of_body (fn := Try.f21) (c := Try.f21.body.getD .skip) rfl rfl rfl rfl ?_
  refine WP.seq ?_
  refine WP.region ?_
  refine RP.box rfl rfl hm.sc (fun L4 => ?_)
  refine RP.assign rfl rfl ?_
  refine RP.nil ?_
  refine WP.seq ?_
  refine WP.ghost .dead ?_
  refine WP.region ?_
  refine RP.assign rfl rfl ?_
  refine RP.nil ?_
  refine WP.seq ?_
  refine WP.seq ?_
  refine WP.region ?_
  refine RP.assign rfl rfl ?_
  refine RP.nil ?_
  refine WP.block rfl ?_
  refine WP.loop (α := Nat × LV × HE) (fun gh => [(1, vat), (2, .bool fs), (3, .int .u8 (ch.toNat : Int)), (4, .ptr (.own L4) 0), (9, gh.2.1), (10, .int .i64 (gh.1 : Int))]) (fun gh => [(some L4, .cells (mv a b c d m).cells), gh.2.2]) (fun gh => gh.1 ≤ m.spots.length ∧ Lin 1 fI true gh.2.1 (lst gh.1 (intoG m xs fs ch)) gh.2.2) (fun gh => m.spots.length - gh.1) ?_ (0, .nilsl, (none, .dead)) ⟨rfl, rfl, rfl, rfl, rfl, rfl, trivial⟩ (.cons (by repeat (first | exact .here | apply HRem.there | apply HRem.app)) (.cons (by repeat (first | exact .here | apply HRem.there | apply HRem.app)) .nil)) (by
    try dsimp only
    exact ⟨Nat.zero_le _, .nil⟩)
  rintro ⟨n, vo, po⟩ hI
  change n ≤ m.spots.length ∧ Lin 1 fI true vo (lst n (intoG m xs fs ch)) po at hI
  change WP _ _ _ _ _ [(1, vat), (2, .bool fs), (3, .int .u8 (ch.toNat : Int)), (4, .ptr (.own L4) 0), (9, vo), (10, .int .i64 (n : Int))] ([(some L4, .cells (mv a b c d m).cells), po] : HL) _
  obtain ⟨hI1, hI2⟩ := hI
  have hln := lst_len (k := n) (g := intoG m xs fs ch)
  refine WP.seq ?_
  refine WP.seq ?_
  refine WP.region ?_
  refine RP.move rfl rfl ?_
  refine RP.faddr rfl rfl rfl ?_
  refine RP.load_box rfl rfl rfl rfl (by repeat (first | exact .here | apply HIn.there | apply HIn.app)) rfl ?_
  first | refine RP.len_sl rfl rfl (.arg hm.spots) rfl ?_ | refine RP.len_sl rfl rfl (.arg hm.first) rfl ?_ | refine RP.len_sl rfl rfl (.arg hm.follow) rfl ?_ | refine RP.len_sl rfl rfl (.arg hm.last) rfl ?_ | refine RP.len_sl rfl rfl (.arg hv) rfl ?_
  refine RP.lss rfl rfl rfl (fun h17 => ?_) (fun h17 => ?_)
  · skip
    have hltn : n < m.spots.length := by omega
    refine RP.nil ?_
    refine WP.cond_t rfl ?_
    refine WP.skip ?_
    refine WP.seq ?_
    refine WP.block rfl ?_
    refine WP.seq ?_
    refine WP.region ?_
    refine RP.move rfl rfl ?_
    refine RP.move rfl rfl ?_
    refine RP.cases (d := 21) rfl (fun hg21 => ?_) (fun hg21 => ?_)
    · skip
      refine RP.gtrue rfl ?_
      refine RP.faddr rfl rfl rfl ?_
      refine RP.gtrue rfl ?_
      refine RP.load_box rfl rfl rfl rfl (by repeat (first | exact .here | apply HIn.there | apply HIn.app)) rfl ?_
      refine RP.gtrue rfl ?_
      refine RP.move rfl rfl ?_
      refine RP.gtrue rfl ?_
      refine RP.call rfl rfl rfl hlo (fun st' lo' hi' hl' => refhas_ok hl' (hm.first.inv hi') (by omega)) ?_
      rintro _ _ ⟨rfl, rfl⟩
      refine RP.pick_ rfl rfl rfl ?_
      refine RP.assign rfl rfl ?_
      refine RP.nil ?_
      refine WP.seq ?_
      refine WP.seq ?_
      refine WP.region ?_
      refine RP.assign rfl rfl ?_
      refine RP.nil ?_
      refine WP.block rfl ?_
      refine WP.loop (α := Nat × Bool) (fun gh => [(1, vat), (2, .bool fs), (3, .int .u8 (ch.toNat : Int)), (4, .ptr (.own L4) 0), (9, vo), (10, .int .i64 (n : Int)), (11, .bool gh.2), (12, .int .i64 (gh.1 : Int))]) (fun gh => [(some L4, .cells (mv a b c d m).cells), po]) (fun gh => gh.1 ≤ xs.length ∧ gh.2 = comeG m (xs.take gh.1) fs n) (fun gh => xs.length - gh.1) ?_ (0, (memI m.first n)) ⟨rfl, rfl, rfl, rfl, rfl, rfl, rfl, rfl, trivial⟩ (.cons (by repeat (first | exact .here | apply HRem.there | apply HRem.app)) (.cons (by repeat (first | exact .here | apply HRem.there | apply HRem.app)) .nil)) (by
        try dsimp only
        exact ⟨Nat.zero_le _, by show memI m.first n = comeG m (xs.take 0) fs n; rw [List.take_zero, hg21]; exact come_first.symm⟩)
      rintro ⟨i, may⟩ hI
      change i ≤ xs.length ∧ may = comeG m (xs.take i) fs n at hI
      change WP _ _ _ _ _ [(1, vat), (2, .bool fs), (3, .int .u8 (ch.toNat : Int)), (4, .ptr (.own L4) 0), (9, vo), (10, .int .i64 (n : Int)), (11, .bool may), (12, .int .i64 (i : Int))] ([(some L4, .cells (mv a b c d m).cells), po] : HL) _
      obtain ⟨hK1, hK2⟩ := hI
      refine WP.seq ?_
      refine WP.seq ?_
      refine WP.region ?_
      refine RP.move rfl rfl ?_
      refine RP.move rfl rfl ?_
      refine RP.len_sl rfl rfl (.arg hv) rfl ?_
      refine RP.lss rfl rfl rfl (fun h30 => ?_) (fun h30 => ?_)
      · skip
        have hlt : i < xs.length := by omega
        have hx := hr xs[i] (List.getElem_mem hlt)
        have hxf : xs[i].toNat < fol.length := by omega
        have hrow := hm.row hxf
        refine RP.move rfl rfl ?_
        refine RP.gtrue rfl ?_
        refine RP.move rfl rfl ?_
        refine RP.gtrue rfl ?_
        refine RP.un rfl rfl rfl ?_
        refine RP.pick_ rfl rfl rfl ?_
        refine RP.nil ?_
        refine WP.cond_b rfl (fun hc34 => ?_) (fun hc34 => ?_)
        · skip
          refine WP.skip ?_
          refine WP.seq ?_
          refine WP.block rfl ?_
          refine WP.drawn (by kernel_rfl) ?_
          refine RP.faddr rfl rfl rfl ?_
          refine RP.load_box rfl rfl rfl rfl (by repeat (first | exact .here | apply HIn.there | apply HIn.app)) rfl ?_
          refine RP.move rfl rfl ?_
          refine RP.move rfl rfl ?_
          refine RP.at_ rfl rfl rfl rfl rfl rfl (.arg hv) (by first | assumption | omega) ?_
          refine RP.load_el rfl rfl rfl rfl (.arg hv) (by first | assumption | omega) rfl ?_
          refine RP.at_ rfl rfl rfl (natOf_is (n := xs[i].toNat) (by omega)) rfl rfl (.arg hm.follow) (by first | assumption | omega) ?_
          refine RP.load_el rfl rfl rfl rfl (.arg hm.follow) (by first | assumption | omega) rfl ?_
          refine RP.move rfl rfl ?_
          refine RP.call rfl rfl rfl hlo (fun st' lo' hi' hl' => refhas_ok hl' (hrow.inv hi') (by have := hrl _ hxf; omega)) ?_
          rintro _ _ ⟨rfl, rfl⟩
          refine RP.assign rfl rfl ?_
          refine RP.nil ?_
          refine WP.region ?_
          refine RP.move rfl rfl ?_
          refine RP.add rfl rfl rfl (by omega) (by omega) ?_
          refine RP.assign rfl rfl ?_
          refine RP.nil ?_
          refine roundQ.mk (Q := fun _ _ _ => True) (i + 1, memI fol[xs[i].toNat].2 n) ⟨rfl, rfl, rfl, rfl, rfl, rfl, rfl, rfl, trivial⟩ (.cons (by repeat (first | exact .here | apply HRem.there | apply HRem.app)) (.cons (by repeat (first | exact .here | apply HRem.there | apply HRem.app)) .nil)) (by
            try dsimp only
            exact ⟨hlt, by rw [comeG_step hlt, ← hK2, hm.fol hxf, show may = false by simpa using hc34, Bool.false_or]⟩) (by
            try dsimp only
            omega)
        · skip
          have hmt : may = true := by simpa using hc34
          have hall : comeG m xs fs n = may := by
            have h1 : comeG m (xs.take i) fs n = true := by rw [← hK2]; exact hmt
            rw [comeG_on h1]; exact hmt.symm
          refine WP.exit ?_
          refine WP.seq ?_
          refine WP.region ?_
          refine RP.move rfl rfl ?_
          refine RP.move rfl rfl ?_
          refine RP.cases (d := 48) rfl (fun hg48 => ?_) (fun hg48 => ?_)
          · skip
            refine RP.gtrue rfl ?_
            refine RP.faddr rfl rfl rfl ?_
            refine RP.gtrue rfl ?_
            refine RP.load_box rfl rfl rfl rfl (by repeat (first | exact .here | apply HIn.there | apply HIn.app)) rfl ?_
            refine RP.gtrue rfl ?_
            refine RP.move rfl rfl ?_
            refine RP.gtrue rfl ?_
            first | refine RP.at_ rfl rfl rfl rfl rfl rfl (.arg hm.spots) (by first | assumption | omega) ?_ | refine RP.at_ rfl rfl rfl rfl rfl rfl (.arg hm.first) (by first | assumption | omega) ?_ | refine RP.at_ rfl rfl rfl rfl rfl rfl (.arg hm.follow) (by first | assumption | omega) ?_ | refine RP.at_ rfl rfl rfl rfl rfl rfl (.arg hm.last) (by first | assumption | omega) ?_ | refine RP.at_ rfl rfl rfl rfl rfl rfl (.arg hv) (by first | assumption | omega) ?_
            refine RP.gtrue rfl ?_
            first | refine RP.faddr_p rfl rfl rfl rfl rfl (.arg hm.spots) (by first | assumption | omega) ?_ | refine RP.faddr_p rfl rfl rfl rfl rfl (.arg hm.first) (by first | assumption | omega) ?_ | refine RP.faddr_p rfl rfl rfl rfl rfl (.arg hm.follow) (by first | assumption | omega) ?_ | refine RP.faddr_p rfl rfl rfl rfl rfl (.arg hm.last) (by first | assumption | omega) ?_ | refine RP.faddr_p rfl rfl rfl rfl rfl (.arg hv) (by first | assumption | omega) ?_
            refine RP.gtrue rfl ?_
            first | refine RP.load_elN rfl rfl rfl rfl rfl (.arg hm.spots) (by first | assumption | omega) rfl ?_ | refine RP.load_elN rfl rfl rfl rfl rfl (.arg hm.first) (by first | assumption | omega) rfl ?_ | refine RP.load_elN rfl rfl rfl rfl rfl (.arg hm.follow) (by first | assumption | omega) rfl ?_ | refine RP.load_elN rfl rfl rfl rfl rfl (.arg hm.last) (by first | assumption | omega) rfl ?_ | refine RP.load_elN rfl rfl rfl rfl rfl (.arg hv) (by first | assumption | omega) rfl ?_
            refine RP.gtrue rfl ?_
            refine RP.move rfl rfl ?_
            refine RP.gtrue rfl ?_
            refine RP.call rfl rfl rfl hlo (fun st' lo' hi' hl' => refIn_ok hl' (hok _ (List.getElem_mem hltn))) ?_
            rintro _ _ ⟨rfl, rfl⟩
            refine RP.pick_ rfl rfl rfl ?_
            refine RP.nil ?_
            refine WP.cond_b rfl (fun hc57 => ?_) (fun hc57 => ?_)
            · skip
              refine WP.region ?_
              refine RP.move rfl rfl ?_
              refine RP.move rfl rfl ?_
              refine RP.bslice [(n : Int)] rfl rfl rfl rfl rfl rfl rfl rfl rfl rfl fI_len ?_
              intro v60 p60 hl60
              refine RP.append rfl rfl rfl rfl rfl rfl rfl rfl hI2 (fun _ => (by repeat (first | exact .here | apply HUpd.there | apply HUpd.app))) (.lin fI_len hl60 (by repeat (first | exact .here | apply HIn.there | apply HIn.app))) (flat_all fI_sc _) (by simp only [List.length_singleton]; omega) (fun e => (by first | rfl | cases e)) hlo ?_
              intro v61 p61 hl61
              refine RP.assign rfl rfl ?_
              refine RP.nil ?_
              refine WP.region ?_
              refine RP.move rfl rfl ?_
              refine RP.add rfl rfl rfl (by omega) (by omega) ?_
              refine RP.assign rfl rfl ?_
              refine RP.nil ?_
              have hsp : intoG m xs fs ch n = (may && inB m.spots[n] ch) := by
                unfold intoG inSpot
                rw [hall, List.getElem?_eq_getElem hltn]
              refine roundQ.mk (Q := fun _ _ _ => True) (n + 1, v61, p61) ⟨rfl, rfl, rfl, rfl, rfl, rfl, trivial⟩ (.cons (by repeat (first | exact .here | apply HRem.there | apply HRem.app)) (.cons (by repeat (first | exact .here | apply HRem.there | apply HRem.app)) .nil)) (by
                try dsimp only
                exact ⟨hltn, by rw [lst_step, hsp, hg48, Bool.true_and, if_pos hc57]; exact hl61⟩) (by
                try dsimp only
                omega)
            · skip
              refine WP.skip ?_
              refine WP.region ?_
              refine RP.move rfl rfl ?_
              refine RP.add rfl rfl rfl (by omega) (by omega) ?_
              refine RP.assign rfl rfl ?_
              refine RP.nil ?_
              have hsp : intoG m xs fs ch n = (may && inB m.spots[n] ch) := by
                unfold intoG inSpot
                rw [hall, List.getElem?_eq_getElem hltn]
              refine roundQ.mk (Q := fun _ _ _ => True) (n + 1, vo, po) ⟨rfl, rfl, rfl, rfl, rfl, rfl, trivial⟩ (.cons (by repeat (first | exact .here | apply HRem.there | apply HRem.app)) (.cons (by repeat (first | exact .here | apply HRem.there | apply HRem.app)) .nil)) (by
                try dsimp only
                exact ⟨hltn, by rw [lst_step, hsp, hg48, Bool.true_and, if_neg (by simpa using hc57), List.append_nil]; exact hI2⟩) (by
                try dsimp only
                omega)
          · skip
            refine RP.gfalse rfl rfl ?_
            refine RP.gfalse rfl rfl ?_
            refine RP.gfalse rfl rfl ?_
            refine RP.gfalse rfl rfl ?_
            refine RP.gfalse rfl rfl ?_
            refine RP.gfalse rfl rfl ?_
            refine RP.gfalse rfl rfl ?_
            refine RP.gfalse rfl rfl ?_
            refine RP.pick_ rfl rfl rfl ?_
            refine RP.nil ?_
            refine WP.cond_f rfl ?_
            refine WP.skip ?_
            refine WP.region ?_
            refine RP.move rfl rfl ?_
            refine RP.add rfl rfl rfl (by omega) (by omega) ?_
            refine RP.assign rfl rfl ?_
            refine RP.nil ?_
            have hsp : intoG m xs fs ch n = (may && inB m.spots[n] ch) := by
              unfold intoG inSpot
              rw [hall, List.getElem?_eq_getElem hltn]
            refine roundQ.mk (Q := fun _ _ _ => True) (n + 1, vo, po) ⟨rfl, rfl, rfl, rfl, rfl, rfl, trivial⟩ (.cons (by repeat (first | exact .here | apply HRem.there | apply HRem.app)) (.cons (by repeat (first | exact .here | apply HRem.there | apply HRem.app)) .nil)) (by
              try dsimp only
              exact ⟨hltn, by rw [lst_step, hsp, hg48, Bool.false_and, if_neg Bool.false_ne_true, List.append_nil]; exact hI2⟩) (by
              try dsimp only
              omega)
      · skip
        have hall : comeG m xs fs n = may := by rw [hK2, List.take_of_length_le (by omega)]
        refine RP.move rfl rfl ?_
        refine RP.gfalse rfl rfl ?_
        refine RP.gfalse rfl rfl ?_
        refine RP.pick_ rfl rfl rfl ?_
        refine RP.nil ?_
        refine WP.cond_f rfl ?_
        refine WP.exit ?_
        refine WP.seq ?_
        refine WP.region ?_
        refine RP.move rfl rfl ?_
        refine RP.move rfl rfl ?_
        refine RP.cases (d := 48) rfl (fun hg48 => ?_) (fun hg48 => ?_)
        · skip
          refine RP.gtrue rfl ?_
          refine RP.faddr rfl rfl rfl ?_
          refine RP.gtrue rfl ?_
          refine RP.load_box rfl rfl rfl rfl (by repeat (first | exact .here | apply HIn.there | apply HIn.app)) rfl ?_
          refine RP.gtrue rfl ?_
          refine RP.move rfl rfl ?_
          refine RP.gtrue rfl ?_
          first | refine RP.at_ rfl rfl rfl rfl rfl rfl (.arg hm.spots) (by first | assumption | omega) ?_ | refine RP.at_ rfl rfl rfl rfl rfl rfl (.arg hm.first) (by first | assumption | omega) ?_ | refine RP.at_ rfl rfl rfl rfl rfl rfl (.arg hm.follow) (by first | assumption | omega) ?_ | refine RP.at_ rfl rfl rfl rfl rfl rfl (.arg hm.last) (by first | assumption | omega) ?_ | refine RP.at_ rfl rfl rfl rfl rfl rfl (.arg hv) (by first | assumption | omega) ?_
          refine RP.gtrue rfl ?_
          first | refine RP.faddr_p rfl rfl rfl rfl rfl (.arg hm.spots) (by first | assumption | omega) ?_ | refine RP.faddr_p rfl rfl rfl rfl rfl (.arg hm.first) (by first | assumption | omega) ?_ | refine RP.faddr_p rfl rfl rfl rfl rfl (.arg hm.follow) (by first | assumption | omega) ?_ | refine RP.faddr_p rfl rfl rfl rfl rfl (.arg hm.last) (by first | assumption | omega) ?_ | refine RP.faddr_p rfl rfl rfl rfl rfl (.arg hv) (by first | assumption | omega) ?_
          refine RP.gtrue rfl ?_
          first | refine RP.load_elN rfl rfl rfl rfl rfl (.arg hm.spots) (by first | assumption | omega) rfl ?_ | refine RP.load_elN rfl rfl rfl rfl rfl (.arg hm.first) (by first | assumption | omega) rfl ?_ | refine RP.load_elN rfl rfl rfl rfl rfl (.arg hm.follow) (by first | assumption | omega) rfl ?_ | refine RP.load_elN rfl rfl rfl rfl rfl (.arg hm.last) (by first | assumption | omega) rfl ?_ | refine RP.load_elN rfl rfl rfl rfl rfl (.arg hv) (by first | assumption | omega) rfl ?_
          refine RP.gtrue rfl ?_
          refine RP.move rfl rfl ?_
          refine RP.gtrue rfl ?_
          refine RP.call rfl rfl rfl hlo (fun st' lo' hi' hl' => refIn_ok hl' (hok _ (List.getElem_mem hltn))) ?_
          rintro _ _ ⟨rfl, rfl⟩
          refine RP.pick_ rfl rfl rfl ?_
          refine RP.nil ?_
          refine WP.cond_b rfl (fun hc57 => ?_) (fun hc57 => ?_)
          · skip
            refine WP.region ?_
            refine RP.move rfl rfl ?_
            refine RP.move rfl rfl ?_
            refine RP.bslice [(n : Int)] rfl rfl rfl rfl rfl rfl rfl rfl rfl rfl fI_len ?_
            intro v60 p60 hl60
            refine RP.append rfl rfl rfl rfl rfl rfl rfl rfl hI2 (fun _ => (by repeat (first | exact .here | apply HUpd.there | apply HUpd.app))) (.lin fI_len hl60 (by repeat (first | exact .here | apply HIn.there | apply HIn.app))) (flat_all fI_sc _) (by simp only [List.length_singleton]; omega) (fun e => (by first | rfl | cases e)) hlo ?_
            intro v61 p61 hl61
            refine RP.assign rfl rfl ?_
            refine RP.nil ?_
            refine WP.region ?_
            refine RP.move rfl rfl ?_
            refine RP.add rfl rfl rfl (by omega) (by omega) ?_
            refine RP.assign rfl rfl ?_
            refine RP.nil ?_
            have hsp : intoG m xs fs ch n = (may && inB m.spots[n] ch) := by
              unfold intoG inSpot
              rw [hall, List.getElem?_eq_getElem hltn]
            refine roundQ.mk (Q := fun _ _ _ => True) (n + 1, v61, p61) ⟨rfl, rfl, rfl, rfl, rfl, rfl, trivial⟩ (.cons (by repeat (first | exact .here | apply HRem.there | apply HRem.app)) (.cons (by repeat (first | exact .here | apply HRem.there | apply HRem.app)) .nil)) (by
              try dsimp only
              exact ⟨hltn, by rw [lst_step, hsp, hg48, Bool.true_and, if_pos hc57]; exact hl61⟩) (by
              try dsimp only
              omega)
          · skip
            refine WP.skip ?_
            refine WP.region ?_
            refine RP.move rfl rfl ?_
            refine RP.add rfl rfl rfl (by omega) (by omega) ?_
            refine RP.assign rfl rfl ?_
            refine RP.nil ?_
            have hsp : intoG m xs fs ch n = (may && inB m.spots[n] ch) := by
              unfold intoG inSpot
              rw [hall, List.getElem?_eq_getElem hltn]
            refine roundQ.mk (Q := fun _ _ _ => True) (n + 1, vo, po) ⟨rfl, rfl, rfl, rfl, rfl, rfl, trivial⟩ (.cons (by repeat (first | exact .here | apply HRem.there | apply HRem.app)) (.cons (by repeat (first | exact .here | apply HRem.there | apply HRem.app)) .nil)) (by
              try dsimp only
              exact ⟨hltn, by rw [lst_step, hsp, hg48, Bool.true_and, if_neg (by simpa using hc57), List.append_nil]; exact hI2⟩) (by
              try dsimp only
              omega)
        · skip
          refine RP.gfalse rfl rfl ?_
          refine RP.gfalse rfl rfl ?_
          refine RP.gfalse rfl rfl ?_
          refine RP.gfalse rfl rfl ?_
          refine RP.gfalse rfl rfl ?_
          refine RP.gfalse rfl rfl ?_
          refine RP.gfalse rfl rfl ?_
          refine RP.gfalse rfl rfl ?_
          refine RP.pick_ rfl rfl rfl ?_
          refine RP.nil ?_
          refine WP.cond_f rfl ?_
          refine WP.skip ?_
          refine WP.region ?_
          refine RP.move rfl rfl ?_
          refine RP.add rfl rfl rfl (by omega) (by omega) ?_
          refine RP.assign rfl rfl ?_
          refine RP.nil ?_
          have hsp : intoG m xs fs ch n = (may && inB m.spots[n] ch) := by
            unfold intoG inSpot
            rw [hall, List.getElem?_eq_getElem hltn]
          refine roundQ.mk (Q := fun _ _ _ => True) (n + 1, vo, po) ⟨rfl, rfl, rfl, rfl, rfl, rfl, trivial⟩ (.cons (by repeat (first | exact .here | apply HRem.there | apply HRem.app)) (.cons (by repeat (first | exact .here | apply HRem.there | apply HRem.app)) .nil)) (by
            try dsimp only
            exact ⟨hltn, by rw [lst_step, hsp, hg48, Bool.false_and, if_neg Bool.false_ne_true, List.append_nil]; exact hI2⟩) (by
            try dsimp only
            omega)
    · skip
      refine RP.gfalse rfl rfl ?_
      refine RP.gfalse rfl rfl ?_
      refine RP.gfalse rfl rfl ?_
      refine RP.gfalse rfl rfl ?_
      refine RP.pick_ rfl rfl rfl ?_
      refine RP.assign rfl rfl ?_
      refine RP.nil ?_
      refine WP.seq ?_
      refine WP.seq ?_
      refine WP.region ?_
      refine RP.assign rfl rfl ?_
      refine RP.nil ?_
      refine WP.block rfl ?_
      refine WP.loop (α := Nat × Bool) (fun gh => [(1, vat), (2, .bool fs), (3, .int .u8 (ch.toNat : Int)), (4, .ptr (.own L4) 0), (9, vo), (10, .int .i64 (n : Int)), (11, .bool gh.2), (12, .int .i64 (gh.1 : Int))]) (fun gh => [(some L4, .cells (mv a b c d m).cells), po]) (fun gh => gh.1 ≤ xs.length ∧ gh.2 = comeG m (xs.take gh.1) fs n) (fun gh => xs.length - gh.1) ?_ (0, false) ⟨rfl, rfl, rfl, rfl, rfl, rfl, rfl, rfl, trivial⟩ (.cons (by repeat (first | exact .here | apply HRem.there | apply HRem.app)) (.cons (by repeat (first | exact .here | apply HRem.there | apply HRem.app)) .nil)) (by
        try dsimp only
        exact ⟨Nat.zero_le _, by show false = comeG m (xs.take 0) fs n; rw [List.take_zero, hg21]; rfl⟩)
      rintro ⟨i, may⟩ hI
      change i ≤ xs.length ∧ may = comeG m (xs.take i) fs n at hI
      change WP _ _ _ _ _ [(1, vat), (2, .bool fs), (3, .int .u8 (ch.toNat : Int)), (4, .ptr (.own L4) 0), (9, vo), (10, .int .i64 (n : Int)), (11, .bool may), (12, .int .i64 (i : Int))] ([(some L4, .cells (mv a b c d m).cells), po] : HL) _
      obtain ⟨hK1, hK2⟩ := hI
      refine WP.seq ?_
      refine WP.seq ?_
      refine WP.region ?_
      refine RP.move rfl rfl ?_
      refine RP.move rfl rfl ?_
      refine RP.len_sl rfl rfl (.arg hv) rfl ?_
      refine RP.lss rfl rfl rfl (fun h30 => ?_) (fun h30 => ?_)
      · skip
        have hlt : i < xs.length := by omega
        have hx := hr xs[i] (List.getElem_mem hlt)
        have hxf : xs[i].toNat < fol.length := by omega
        have hrow := hm.row hxf
        refine RP.move rfl rfl ?_
        refine RP.gtrue rfl ?_
        refine RP.move rfl rfl ?_
        refine RP.gtrue rfl ?_
        refine RP.un rfl rfl rfl ?_
        refine RP.pick_ rfl rfl rfl ?_
        refine RP.nil ?_
        refine WP.cond_b rfl (fun hc34 => ?_) (fun hc34 => ?_)
        · skip
          refine WP.skip ?_
          refine WP.seq ?_
          refine WP.block rfl ?_
          refine WP.drawn (by kernel_rfl) ?_
          refine RP.faddr rfl rfl rfl ?_
          refine RP.load_box rfl rfl rfl rfl (by repeat (first | exact .here | apply HIn.there | apply HIn.app)) rfl ?_
          refine RP.move rfl rfl ?_
          refine RP.move rfl rfl ?_
          refine RP.at_ rfl rfl rfl rfl rfl rfl (.arg hv) (by first | assumption | omega) ?_
          refine RP.load_el rfl rfl rfl rfl (.arg hv) (by first | assumption | omega) rfl ?_
          refine RP.at_ rfl rfl rfl (natOf_is (n := xs[i].toNat) (by omega)) rfl rfl (.arg hm.follow) (by first | assumption | omega) ?_
          refine RP.load_el rfl rfl rfl rfl (.arg hm.follow) (by first | assumption | omega) rfl ?_
          refine RP.move rfl rfl ?_
          refine RP.call rfl rfl rfl hlo (fun st' lo' hi' hl' => refhas_ok hl' (hrow.inv hi') (by have := hrl _ hxf; omega)) ?_
          rintro _ _ ⟨rfl, rfl⟩
          refine RP.assign rfl rfl ?_
          refine RP.nil ?_
          refine WP.region ?_
          refine RP.move rfl rfl ?_
          refine RP.add rfl rfl rfl (by omega) (by omega) ?_
          refine RP.assign rfl rfl ?_
          refine RP.nil ?_
          refine roundQ.mk (Q := fun _ _ _ => True) (i + 1, memI fol[xs[i].toNat].2 n) ⟨rfl, rfl, rfl, rfl, rfl, rfl, rfl, rfl, trivial⟩ (.cons (by repeat (first | exact .here | apply HRem.there | apply HRem.app)) (.cons (by repeat (first | exact .here | apply HRem.there | apply HRem.app)) .nil)) (by
            try dsimp only
            exact ⟨hlt, by rw [comeG_step hlt, ← hK2, hm.fol hxf, show may = false by simpa using hc34, Bool.false_or]⟩) (by
            try dsimp only
            omega)
        · skip
          have hmt : may = true := by simpa using hc34
          have hall : comeG m xs fs n = may := by
            have h1 : comeG m (xs.take i) fs n = true := by rw [← hK2]; exact hmt
            rw [comeG_on h1]; exact hmt.symm
          refine WP.exit ?_
          refine WP.seq ?_
          refine WP.region ?_
          refine RP.move rfl rfl ?_
          refine RP.move rfl rfl ?_
          refine RP.cases (d := 48) rfl (fun hg48 => ?_) (fun hg48 => ?_)
          · skip
            refine RP.gtrue rfl ?_
            refine RP.faddr rfl rfl rfl ?_
            refine RP.gtrue rfl ?_
            refine RP.load_box rfl rfl rfl rfl (by repeat (first | exact .here | apply HIn.there | apply HIn.app)) rfl ?_
            refine RP.gtrue rfl ?_
            refine RP.move rfl rfl ?_
            refine RP.gtrue rfl ?_
            first | refine RP.at_ rfl rfl rfl rfl rfl rfl (.arg hm.spots) (by first | assumption | omega) ?_ | refine RP.at_ rfl rfl rfl rfl rfl rfl (.arg hm.first) (by first | assumption | omega) ?_ | refine RP.at_ rfl rfl rfl rfl rfl rfl (.arg hm.follow) (by first | assumption | omega) ?_ | refine RP.at_ rfl rfl rfl rfl rfl rfl (.arg hm.last) (by first | assumption | omega) ?_ | refine RP.at_ rfl rfl rfl rfl rfl rfl (.arg hv) (by first | assumption | omega) ?_
            refine RP.gtrue rfl ?_
            first | refine RP.faddr_p rfl rfl rfl rfl rfl (.arg hm.spots) (by first | assumption | omega) ?_ | refine RP.faddr_p rfl rfl rfl rfl rfl (.arg hm.first) (by first | assumption | omega) ?_ | refine RP.faddr_p rfl rfl rfl rfl rfl (.arg hm.follow) (by first | assumption | omega) ?_ | refine RP.faddr_p rfl rfl rfl rfl rfl (.arg hm.last) (by first | assumption | omega) ?_ | refine RP.faddr_p rfl rfl rfl rfl rfl (.arg hv) (by first | assumption | omega) ?_
            refine RP.gtrue rfl ?_
            first | refine RP.load_elN rfl rfl rfl rfl rfl (.arg hm.spots) (by first | assumption | omega) rfl ?_ | refine RP.load_elN rfl rfl rfl rfl rfl (.arg hm.first) (by first | assumption | omega) rfl ?_ | refine RP.load_elN rfl rfl rfl rfl rfl (.arg hm.follow) (by first | assumption | omega) rfl ?_ | refine RP.load_elN rfl rfl rfl rfl rfl (.arg hm.last) (by first | assumption | omega) rfl ?_ | refine RP.load_elN rfl rfl rfl rfl rfl (.arg hv) (by first | assumption | omega) rfl ?_
            refine RP.gtrue rfl ?_
            refine RP.move rfl rfl ?_
            refine RP.gtrue rfl ?_
            refine RP.call rfl rfl rfl hlo (fun st' lo' hi' hl' => refIn_ok hl' (hok _ (List.getElem_mem hltn))) ?_
            rintro _ _ ⟨rfl, rfl⟩
            refine RP.pick_ rfl rfl rfl ?_
            refine RP.nil ?_
            refine WP.cond_b rfl (fun hc57 => ?_) (fun hc57 => ?_)
            · skip
              refine WP.region ?_
              refine RP.move rfl rfl ?_
              refine RP.move rfl rfl ?_
              refine RP.bslice [(n : Int)] rfl rfl rfl rfl rfl rfl rfl rfl rfl rfl fI_len ?_
              intro v60 p60 hl60
              refine RP.append rfl rfl rfl rfl rfl rfl rfl rfl hI2 (fun _ => (by repeat (first | exact .here | apply HUpd.there | apply HUpd.app))) (.lin fI_len hl60 (by repeat (first | exact .here | apply HIn.there | apply HIn.app))) (flat_all fI_sc _) (by simp only [List.length_singleton]; omega) (fun e => (by first | rfl | cases e)) hlo ?_
              intro v61 p61 hl61
              refine RP.assign rfl rfl ?_
              refine RP.nil ?_
              refine WP.region ?_
              refine RP.move rfl rfl ?_
              refine RP.add rfl rfl rfl (by omega) (by omega) ?_
              refine RP.assign rfl rfl ?_
              refine RP.nil ?_
              have hsp : intoG m xs fs ch n = (may && inB m.spots[n] ch) := by
                unfold intoG inSpot
                rw [hall, List.getElem?_eq_getElem hltn]
              refine roundQ.mk (Q := fun _ _ _ => True) (n + 1, v61, p61) ⟨rfl, rfl, rfl, rfl, rfl, rfl, trivial⟩ (.cons (by repeat (first | exact .here | apply HRem.there | apply HRem.app)) (.cons (by repeat (first | exact .here | apply HRem.there | apply HRem.app)) .nil)) (by
                try dsimp only
                exact ⟨hltn, by rw [lst_step, hsp, hg48, Bool.true_and, if_pos hc57]; exact hl61⟩) (by
                try dsimp only
                omega)
            · skip
              refine WP.skip ?_
              refine WP.region ?_
              refine RP.move rfl rfl ?_
              refine RP.add rfl rfl rfl (by omega) (by omega) ?_
              refine RP.assign rfl rfl ?_
              refine RP.nil ?_
              have hsp : intoG m xs fs ch n = (may && inB m.spots[n] ch) := by
                unfold intoG inSpot
                rw [hall, List.getElem?_eq_getElem hltn]
              refine roundQ.mk (Q := fun _ _ _ => True) (n + 1, vo, po) ⟨rfl, rfl, rfl, rfl, rfl, rfl, trivial⟩ (.cons (by repeat (first | exact .here | apply HRem.there | apply HRem.app)) (.cons (by repeat (first | exact .here | apply HRem.there | apply HRem.app)) .nil)) (by
                try dsimp only
                exact ⟨hltn, by rw [lst_step, hsp, hg48, Bool.true_and, if_neg (by simpa using hc57), List.append_nil]; exact hI2⟩) (by
                try dsimp only
                omega)
          · skip
            refine RP.gfalse rfl rfl ?_
            refine RP.gfalse rfl rfl ?_
            refine RP.gfalse rfl rfl ?_
            refine RP.gfalse rfl rfl ?_
            refine RP.gfalse rfl rfl ?_
            refine RP.gfalse rfl rfl ?_
            refine RP.gfalse rfl rfl ?_
            refine RP.gfalse rfl rfl ?_
            refine RP.pick_ rfl rfl rfl ?_
            refine RP.nil ?_
            refine WP.cond_f rfl ?_
            refine WP.skip ?_
            refine WP.region ?_
            refine RP.move rfl rfl ?_
            refine RP.add rfl rfl rfl (by omega) (by omega) ?_
            refine RP.assign rfl rfl ?_
            refine RP.nil ?_
            have hsp : intoG m xs fs ch n = (may && inB m.spots[n] ch) := by
              unfold intoG inSpot
              rw [hall, List.getElem?_eq_getElem hltn]
            refine roundQ.mk (Q := fun _ _ _ => True) (n + 1, vo, po) ⟨rfl, rfl, rfl, rfl, rfl, rfl, trivial⟩ (.cons (by repeat (first | exact .here | apply HRem.there | apply HRem.app)) (.cons (by repeat (first | exact .here | apply HRem.there | apply HRem.app)) .nil)) (by
              try dsimp only
              exact ⟨hltn, by rw [lst_step, hsp, hg48, Bool.false_and, if_neg Bool.false_ne_true, List.append_nil]; exact hI2⟩) (by
              try dsimp only
              omega)
      · skip
        have hall : comeG m xs fs n = may := by rw [hK2, List.take_of_length_le (by omega)]
        refine RP.move rfl rfl ?_
        refine RP.gfalse rfl rfl ?_
        refine RP.gfalse rfl rfl ?_
        refine RP.pick_ rfl rfl rfl ?_
        refine RP.nil ?_
        refine WP.cond_f rfl ?_
        refine WP.exit ?_
        refine WP.seq ?_
        refine WP.region ?_
        refine RP.move rfl rfl ?_
        refine RP.move rfl rfl ?_
        refine RP.cases (d := 48) rfl (fun hg48 => ?_) (fun hg48 => ?_)
        · skip
          refine RP.gtrue rfl ?_
          refine RP.faddr rfl rfl rfl ?_
          refine RP.gtrue rfl ?_
          refine RP.load_box rfl rfl rfl rfl (by repeat (first | exact .here | apply HIn.there | apply HIn.app)) rfl ?_
          refine RP.gtrue rfl ?_
          refine RP.move rfl rfl ?_
          refine RP.gtrue rfl ?_
          first | refine RP.at_ rfl rfl rfl rfl rfl rfl (.arg hm.spots) (by first | assumption | omega) ?_ | refine RP.at_ rfl rfl rfl rfl rfl rfl (.arg hm.first) (by first | assumption | omega) ?_ | refine RP.at_ rfl rfl rfl rfl rfl rfl (.arg hm.follow) (by first | assumption | omega) ?_ | refine RP.at_ rfl rfl rfl rfl rfl rfl (.arg hm.last) (by first | assumption | omega) ?_ | refine RP.at_ rfl rfl rfl rfl rfl rfl (.arg hv) (by first | assumption | omega) ?_
          refine RP.gtrue rfl ?_
          first | refine RP.faddr_p rfl rfl rfl rfl rfl (.arg hm.spots) (by first | assumption | omega) ?_ | refine RP.faddr_p rfl rfl rfl rfl rfl (.arg hm.first) (by first | assumption | omega) ?_ | refine RP.faddr_p rfl rfl rfl rfl rfl (.arg hm.follow) (by first | assumption | omega) ?_ | refine RP.faddr_p rfl rfl rfl rfl rfl (.arg hm.last) (by first | assumption | omega) ?_ | refine RP.faddr_p rfl rfl rfl rfl rfl (.arg hv) (by first | assumption | omega) ?_
          refine RP.gtrue rfl ?_
          first | refine RP.load_elN rfl rfl rfl rfl rfl (.arg hm.spots) (by first | assumption | omega) rfl ?_ | refine RP.load_elN rfl rfl rfl rfl rfl (.arg hm.first) (by first | assumption | omega) rfl ?_ | refine RP.load_elN rfl rfl rfl rfl rfl (.arg hm.follow) (by first | assumption | omega) rfl ?_ | refine RP.load_elN rfl rfl rfl rfl rfl (.arg hm.last) (by first | assumption | omega) rfl ?_ | refine RP.load_elN rfl rfl rfl rfl rfl (.arg hv) (by first | assumption | omega) rfl ?_
          refine RP.gtrue rfl ?_
          refine RP.move rfl rfl ?_
          refine RP.gtrue rfl ?_
          refine RP.call rfl rfl rfl hlo (fun st' lo' hi' hl' => refIn_ok hl' (hok _ (List.getElem_mem hltn))) ?_
          rintro _ _ ⟨rfl, rfl⟩
          refine RP.pick_ rfl rfl rfl ?_
          refine RP.nil ?_
          refine WP.cond_b rfl (fun hc57 => ?_) (fun hc57 => ?_)
          · skip
            refine WP.region ?_
            refine RP.move rfl rfl ?_
            refine RP.move rfl rfl ?_
            refine RP.bslice [(n : Int)] rfl rfl rfl rfl rfl rfl rfl rfl rfl rfl fI_len ?_
            intro v60 p60 hl60
            refine RP.append rfl rfl rfl rfl rfl rfl rfl rfl hI2 (fun _ => (by repeat (first | exact .here | apply HUpd.there | apply HUpd.app))) (.lin fI_len hl60 (by repeat (first | exact .here | apply HIn.there | apply HIn.app))) (flat_all fI_sc _) (by simp only [List.length_singleton]; omega) (fun e => (by first | rfl | cases e)) hlo ?_
            intro v61 p61 hl61
            refine RP.assign rfl rfl ?_
            refine RP.nil ?_
            refine WP.region ?_
            refine RP.move rfl rfl ?_
            refine RP.add rfl rfl rfl (by omega) (by omega) ?_
            refine RP.assign rfl rfl ?_
            refine RP.nil ?_
            have hsp : intoG m xs fs ch n = (may && inB m.spots[n] ch) := by
              unfold intoG inSpot
              rw [hall, List.getElem?_eq_getElem hltn]
            refine roundQ.mk (Q := fun _ _ _ => True) (n + 1, v61, p61) ⟨rfl, rfl, rfl, rfl, rfl, rfl, trivial⟩ (.cons (by repeat (first | exact .here | apply HRem.there | apply HRem.app)) (.cons (by repeat (first | exact .here | apply HRem.there | apply HRem.app)) .nil)) (by
              try dsimp only
              exact ⟨hltn, by rw [lst_step, hsp, hg48, Bool.true_and, if_pos hc57]; exact hl61⟩) (by
              try dsimp only
              omega)
          · skip
            refine WP.skip ?_
            refine WP.region ?_
            refine RP.move rfl rfl ?_
            refine RP.add rfl rfl rfl (by omega) (by omega) ?_
            refine RP.assign rfl rfl ?_
            refine RP.nil ?_
            have hsp : intoG m xs fs ch n = (may && inB m.spots[n] ch) := by
              unfold intoG inSpot
              rw [hall, List.getElem?_eq_getElem hltn]
            refine roundQ.mk (Q := fun _ _ _ => True) (n + 1, vo, po) ⟨rfl, rfl, rfl, rfl, rfl, rfl, trivial⟩ (.cons (by repeat (first | exact .here | apply HRem.there | apply HRem.app)) (.cons (by repeat (first | exact .here | apply HRem.there | apply HRem.app)) .nil)) (by
              try dsimp only
              exact ⟨hltn, by rw [lst_step, hsp, hg48, Bool.true_and, if_neg (by simpa using hc57), List.append_nil]; exact hI2⟩) (by
              try dsimp only
              omega)
        · skip
          refine RP.gfalse rfl rfl ?_
          refine RP.gfalse rfl rfl ?_
          refine RP.gfalse rfl rfl ?_
          refine RP.gfalse rfl rfl ?_
          refine RP.gfalse rfl rfl ?_
          refine RP.gfalse rfl rfl ?_
          refine RP.gfalse rfl rfl ?_
          refine RP.gfalse rfl rfl ?_
          refine RP.pick_ rfl rfl rfl ?_
          refine RP.nil ?_
          refine WP.cond_f rfl ?_
          refine WP.skip ?_
          refine WP.region ?_
          refine RP.move rfl rfl ?_
          refine RP.add rfl rfl rfl (by omega) (by omega) ?_
          refine RP.assign rfl rfl ?_
          refine RP.nil ?_
          have hsp : intoG m xs fs ch n = (may && inB m.spots[n] ch) := by
            unfold intoG inSpot
            rw [hall, List.getElem?_eq_getElem hltn]
          refine roundQ.mk (Q := fun _ _ _ => True) (n + 1, vo, po) ⟨rfl, rfl, rfl, rfl, rfl, rfl, trivial⟩ (.cons (by repeat (first | exact .here | apply HRem.there | apply HRem.app)) (.cons (by repeat (first | exact .here | apply HRem.there | apply HRem.app)) .nil)) (by
            try dsimp only
            exact ⟨hltn, by rw [lst_step, hsp, hg48, Bool.false_and, if_neg Bool.false_ne_true, List.append_nil]; exact hI2⟩) (by
            try dsimp only
            omega)
  · skip
    refine RP.nil ?_
    refine WP.cond_f rfl ?_
    refine WP.exit ?_
    refine WP.seq ?_
    refine WP.region ?_
    refine RP.move rfl rfl ?_
    refine RP.assign rfl rfl ?_
    refine RP.nil ?_
    refine WP.ret ?_
    exact End.one (Or.inr rfl) rfl (.tmp rfl) (.cons (by repeat (first | exact .here | apply HRem.there | apply HRem.app)) .nil) ⟨po, rfl, by rw [show n = m.spots.length by omega] at hI2; exact hI2⟩
end
end Go.Proofs.Ytpkeggejofeeeaa
