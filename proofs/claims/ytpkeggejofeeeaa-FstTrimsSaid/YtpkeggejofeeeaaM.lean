/- Laws of the small machine, of how it stands to the model, and of what functions come to on it; a helper of the statement: no statement is proved here. -/
import Derived.Test.YtpkeggejofeeeaaL
set_option linter.unusedVariables false
namespace Go.Proofs.Ytpkeggejofeeeaa.Lvm
/-! ### lists of spots, and steps -/
def lst (k : Nat) (g : Nat → Bool) : List Int := ((List.range k).filter g).map fun n : Nat => (n : Int)
theorem lst_step {k : Nat} {g : Nat → Bool} : lst (k + 1) g = lst k g ++ (if g k = true then [(k : Int)] else []) := by
  unfold lst
  rw [List.range_succ, List.filter_append, List.map_append]
  cases h : g k <;> simp [h]
theorem lst_len {k : Nat} {g : Nat → Bool} : (lst k g).length ≤ k := by
  unfold lst
  rw [List.length_map]
  exact Nat.le_trans (List.length_filter_le ..) (by simp)
theorem lst_mem {k : Nat} {g : Nat → Bool} {x : Int} : x ∈ lst k g ↔ 0 ≤ x ∧ x.toNat < k ∧ g x.toNat = true := by
  unfold lst
  rw [List.mem_map]
  constructor
  · rintro ⟨n, hn, rfl⟩
    rw [List.mem_filter, List.mem_range] at hn
    exact ⟨by omega, by simpa using hn.1, by simpa using hn.2⟩
  · rintro ⟨h0, h1, h2⟩
    exact ⟨x.toNat, List.mem_filter.2 ⟨List.mem_range.2 h1, h2⟩, by omega⟩
theorem memI_lst {k n : Nat} {g : Nat → Bool} (h : n < k) : memI (lst k g) n = g n := by
  rw [Bool.eq_iff_iff, memI_iff, lst_mem]
  simp [h]
theorem lst_congr {k : Nat} {f g : Nat → Bool} (h : ∀ n, n < k → f n = g n) : lst k f = lst k g := by
  unfold lst
  rw [List.filter_congr fun n hn => h n (List.mem_range.1 hn)]
theorem lst_sorted {k : Nat} {g : Nat → Bool} : (lst k g).Pairwise (· < ·) := by
  unfold lst
  rw [List.pairwise_map]
  exact (List.pairwise_lt_range.filter _).imp fun h => by omega
theorem rising_sorted {b : Int} : ∀ {xs : List Int} {last : Int}, risingF b last xs = true → xs.Pairwise (· < ·)
  | [], _, _ => .nil
  | n :: ns, last, h => by
    rw [risingF] at h
    split at h
    · cases h
    · exact .cons (fun x hx => (risingF_mem h x hx).1) (rising_sorted h)
theorem sorted_ext : ∀ {l l' : List Int}, l.Pairwise (· < ·) → l'.Pairwise (· < ·) → (∀ x, x ∈ l ↔ x ∈ l') → l = l'
  | [], [], _, _, _ => rfl
  | [], b :: l', _, _, h => absurd ((h b).2 (List.mem_cons_self ..)) (by simp)
  | a :: l, [], _, _, h => absurd ((h a).1 (List.mem_cons_self ..)) (by simp)
  | a :: l, b :: l', h1, h2, h => by
    obtain ⟨ha, hl⟩ := List.pairwise_cons.1 h1
    obtain ⟨hb, hl'⟩ := List.pairwise_cons.1 h2
    have e : a = b := by
      rcases List.mem_cons.1 ((h a).1 (List.mem_cons_self ..)) with e | h3
      · exact e
      · rcases List.mem_cons.1 ((h b).2 (List.mem_cons_self ..)) with e | h4
        · exact e.symm
        · have := hb a h3; have := ha b h4; omega
    subst e
    rw [sorted_ext hl hl' fun x => ⟨fun hx => by
      rcases List.mem_cons.1 ((h x).1 (List.mem_cons_of_mem _ hx)) with e | h3
      · have := ha x hx; omega
      · exact h3, fun hx => by
      rcases List.mem_cons.1 ((h x).2 (List.mem_cons_of_mem _ hx)) with e | h3
      · have := hb x hx; omega
      · exact h3⟩]
theorem lst_rising {N : Nat} {xs : List Int} {p : Nat → Bool} (h : risingF N (-1) xs = true) : lst N (fun n => memI xs n && p n) = xs.filter fun x => p x.toNat := by
  refine sorted_ext lst_sorted ((rising_sorted h).filter _) fun x => ?_
  rw [lst_mem, List.mem_filter, Bool.and_eq_true, memI_iff]
  constructor
  · rintro ⟨h0, h1, h2, h3⟩
    rw [Int.toNat_of_nonneg h0] at h2
    exact ⟨h2, h3⟩
  · rintro ⟨h2, h3⟩
    have := risingF_mem h x h2
    exact ⟨by omega, by omega, by rwa [Int.toNat_of_nonneg (by omega)], h3⟩
/-- What a byte is read into, from some spots, or at the beginning. -/
def comeG (m : Mach) (xs : List Int) (fs : Bool) (n : Nat) : Bool := fs && memI m.first n || xs.any fun x => memI (folOf m x.toNat) n
def intoG (m : Mach) (xs : List Int) (fs : Bool) (c : UInt8) (n : Nat) : Bool := comeG m xs fs n && inSpot m c n
def stepF (m : Mach) (xs : List Int) (fs : Bool) (c : UInt8) : List Int := lst m.spots.length (intoG m xs fs c)
theorem stepF_len {m : Mach} {xs : List Int} {fs : Bool} {c : UInt8} : (stepF m xs fs c).length ≤ m.spots.length := lst_len
theorem stepF_range {m : Mach} {xs : List Int} {fs : Bool} {c : UInt8} : ∀ x ∈ stepF m xs fs c, 0 ≤ x ∧ x.toNat < m.spots.length := fun x hx => by
  have := lst_mem.1 hx; exact ⟨this.1, this.2.1⟩
theorem comeG_step {m : Mach} {xs : List Int} {fs : Bool} {n i : Nat} (hi : i < xs.length) : comeG m (xs.take (i + 1)) fs n = (comeG m (xs.take i) fs n || memI (folOf m xs[i].toNat) n) := by
  unfold comeG
  rw [List.take_succ_eq_append_getElem hi, List.any_append]
  simp [Bool.or_assoc]
theorem comeG_on {m : Mach} {xs : List Int} {fs : Bool} {n i : Nat} (h : comeG m (xs.take i) fs n = true) : comeG m xs fs n = true := by
  unfold comeG at h ⊢
  rw [Bool.or_eq_true] at h ⊢
  rcases h with h | h
  · exact Or.inl h
  · obtain ⟨x, hx, h2⟩ := List.any_eq_true.1 h
    exact Or.inr (List.any_eq_true.2 ⟨x, List.mem_of_mem_take hx, h2⟩)
theorem step_fol {m : Mach} (hg : GoodM m) {xs : List Int} {c : UInt8} {r : List UInt8} (hr : ∀ x ∈ xs, 0 ≤ x ∧ x.toNat < m.spots.length) :
    anyAt m.spots.length (memI xs) (goW m (c :: r)) = anyAt m.spots.length (memI (stepF m xs false c)) (goW m r) := by
  rw [anyAt_step fun n _ x hx => hg.range hx]
  refine anyAt_congr fun n hn => ?_
  rw [stepF, memI_lst hn, intoG, comeG, Bool.false_and, Bool.false_or, any_anyAt (f := fun i => memI (folOf m i) n) hr]
  rfl
theorem step_first {m : Mach} (hg : GoodM m) {c : UInt8} {r : List UInt8} : takesF m (c :: r) = anyAt m.spots.length (memI (stepF m [] true c)) (goW m r) := by
  rw [takes_start hg]
  refine anyAt_congr fun n hn => ?_
  rw [stepF, memI_lst hn, intoG, comeG, Bool.true_and, List.any_nil, Bool.or_false]
theorem any_one {N n : Nat} {f : Nat → Bool} (h : n < N) : anyAt N (memI [(n : Int)]) f = f n := by
  rw [← any_anyAt (by intro x hx; obtain rfl := List.mem_singleton.1 hx; exact ⟨by omega, by simpa using h⟩)]
  simp
/-- The first spot of a step that goes on well is the marked one. -/
theorem step_find {m : Mach} {xs at_ : List Int} {fs : Bool} {c : UInt8} {r : List UInt8} (h : risingF m.spots.length (-1) xs = true) (he : ∀ n, n < m.spots.length → comeG m at_ fs n = memI xs n) :
    (stepF m at_ fs c).find? (fun x => goW m r x.toNat) = xs.find? fun x => accept m (c :: r) x.toNat := by
  rw [stepF, lst_congr (g := fun n => memI xs n && inSpot m c n) fun n hn => by rw [intoG, he n hn], lst_rising h, List.find?_filter]
  refine congrArg (fun f => List.find? f xs) (funext fun x => ?_)
  simp [accept]
theorem come_first {m : Mach} {n : Nat} : comeG m [] true n = memI m.first n := by simp [comeG]
theorem come_one {m : Mach} {n : Nat} {x : Int} : comeG m [x] false n = memI (folOf m x.toNat) n := by simp [comeG]
theorem GoodM.rise {m : Mach} (h : GoodM m) (n : Nat) : risingF m.spots.length (-1) (folOf m n) = true := by
  unfold folOf
  cases hf : m.follow[n]? with
  | none => rfl
  | some l =>
    obtain ⟨hn, rfl⟩ := List.getElem?_eq_some_iff.1 hf
    exact h.rows n hn
/-- The bit, by halving. -/
theorem half_bit {x k : Nat} : ((((x / 2 ^ k : Nat) : Int) % 2 == 1)) = x.testBit k := by
  rw [Nat.testBit_eq_decide_div_mod_eq, Bool.eq_iff_iff, beq_iff_eq, decide_eq_true_iff]
  omega
end Go.Proofs.Ytpkeggejofeeeaa.Lvm
namespace Go.Proofs.Ytpkeggejofeeeaa.Lvm
theorem quo8 (c : UInt8) : IntKind.u8.wrap (Int.tdiv (c.toNat : Int) 64) = ((c.toNat / 64 : Nat) : Int) := by
  have hc : c.toNat < 256 := c.toNat_lt
  rw [Int.tdiv_eq_ediv_of_nonneg (by omega), IntWalk.u8_in _ ⟨by omega, by omega⟩]
  omega
theorem rem8 (c : UInt8) : Int.tmod (c.toNat : Int) 64 = ((c.toNat % 64 : Nat) : Int) := by
  rw [Int.tmod_eq_emod_of_nonneg (by omega)]
  omega
theorem halve {y : Nat} (h : y < 18446744073709551616) : IntKind.u64.wrap (Int.tdiv (y : Int) 2) = ((y / 2 : Nat) : Int) := by
  rw [Int.tdiv_eq_ediv_of_nonneg (by omega), IntWalk.u64_in _ ⟨by omega, by omega⟩]
  omega
theorem par {y : Nat} : Int.tmod (y : Int) 2 = (y : Int) % 2 := Int.tmod_eq_emod_of_nonneg (by omega)
theorem inc8 {i : Nat} (h : i < 255) : IntKind.u8.wrap ((i : Int) + 1) = (i : Int) + 1 := IntWalk.u8_in _ ⟨by omega, by omega⟩
theorem halves {x i : Nat} : x / 2 ^ i / 2 = x / 2 ^ (i + 1) := by rw [Nat.div_div_eq_div_mul, Nat.pow_succ]
theorem below {x i : Nat} (h : x < 18446744073709551616) : x / 2 ^ i < 18446744073709551616 := Nat.lt_of_le_of_lt (Nat.div_le_self ..) h
end Go.Proofs.Ytpkeggejofeeeaa.Lvm
namespace Go.Proofs.Ytpkeggejofeeeaa.Lvm
theorem takes_any {m : Mach} {w : List UInt8} (h : w ≠ []) : takesF m w = m.first.any fun x => accept m w x.toNat := by
  cases w with
  | nil => exact absurd rfl h
  | cons _ _ => rfl
end Go.Proofs.Ytpkeggejofeeeaa.Lvm
namespace Go.Proofs.Ytpkeggejofeeeaa.Lvm
theorem bytes_is {s : ByteArray} {l : List UInt8} (h : s.data.toList = l) : s = ⟨l.toArray⟩ := by subst h; rfl
theorem str_same (s : ByteArray) : (s == s) = true := by cases s with | mk d => exact beq_self_eq_true d
theorem cells_same {ok : Bool} {s t : ByteArray} : cellsEq [.bool ok, .str s, .str t] [.bool ok, .str s, .str t] = true := by simp only [cellsEq, str_same, beq_self_eq_true, Bool.and_true]
end Go.Proofs.Ytpkeggejofeeeaa.Lvm

namespace Go.Proofs.Ytpkeggejofeeeaa
open Go.Proofs.Ytpkeggejofeeeaa.Lvm Go

section
variable {bm : Nat → Nat → Option LV} {st : LSt} {lo : Nat} {a b c d : LV} {m : Mach} {fol : List (LV × List Int)}

theorem refhas_ok (hlo : lo ≤ st.nxt) {v : LV} {xs : List Int} {x : Int} (hv : SlT (EE bm) st v 1 fI xs) (hn : xs.length ≤ 1000000) : Fin (EE bm) lo 40 [v, .int .i64 x] st (fun r H => r = .bool (xs.any fun y => y == x) ∧ H = []) := by
  refine Fin.of_body (fn := Try.f40) (c := Try.f40.body.getD .skip) rfl rfl rfl rfl ?_
  refine WP.seq ?_
  refine WP.region ?_
  refine RP.assign rfl rfl ?_
  refine RP.nil ?_
  refine WP.seq ?_
  refine WP.seq ?_
  refine WP.region ?_
  refine RP.assign rfl rfl ?_
  refine RP.nil ?_
  refine WP.block rfl ?_
  refine WP.loop (α := Nat) (fun gh => [(0, v), (1, .int .i64 x), (5, .int .i64 (gh : Int))]) (fun gh => []) (fun gh => gh ≤ xs.length ∧ (xs.any fun y => y == x) = ((xs.drop gh).any fun y => y == x)) (fun gh => xs.length - gh) ?_ 0 ⟨rfl, rfl, rfl, trivial⟩ .nil (by
    try dsimp only
    exact ⟨Nat.zero_le _, rfl⟩)
  rintro i hI
  change i ≤ xs.length ∧ (xs.any fun y => y == x) = ((xs.drop i).any fun y => y == x) at hI
  change WP _ _ _ _ _ [(0, v), (1, .int .i64 x), (5, .int .i64 (i : Int))] ([] : HL) _
  obtain ⟨hI1, hI2⟩ := hI
  refine WP.seq ?_
  refine WP.seq ?_
  refine WP.region ?_
  refine RP.move rfl rfl ?_
  refine RP.move rfl rfl ?_
  refine RP.len_sl rfl rfl (.arg hv) rfl ?_
  refine RP.lss rfl rfl rfl (fun h9 => ?_) (fun h9 => ?_)
  · skip
    have hlt : i < xs.length := by omega
    refine RP.nil ?_
    refine WP.cond_t rfl ?_
    refine WP.skip ?_
    refine WP.seq ?_
    refine WP.block rfl ?_
    refine WP.seq ?_
    refine WP.region ?_
    refine RP.move rfl rfl ?_
    refine RP.move rfl rfl ?_
    refine RP.at_ rfl rfl rfl rfl rfl rfl (.arg hv) (by first | assumption | omega) ?_
    refine RP.load_el rfl rfl rfl rfl (.arg hv) (by first | assumption | omega) rfl ?_
    refine RP.move rfl rfl ?_
    refine RP.eql rfl rfl rfl (fun h17 => ?_) (fun h17 => ?_)
    · skip
      refine RP.nil ?_
      refine WP.cond_t rfl ?_
      refine WP.seq ?_
      refine WP.region ?_
      refine RP.assign rfl rfl ?_
      refine RP.nil ?_
      refine WP.ret ?_
      exact End.one (Or.inr rfl) rfl (.tmp rfl) .nil ⟨by rw [hI2, List.drop_eq_getElem_cons hlt, List.any_cons, beq_iff_eq.2 h17, Bool.true_or], rfl⟩
    · skip
      refine RP.nil ?_
      refine WP.cond_f rfl ?_
      refine WP.skip ?_
      refine WP.region ?_
      refine RP.move rfl rfl ?_
      refine RP.add rfl rfl rfl (by omega) (by omega) ?_
      refine RP.assign rfl rfl ?_
      refine RP.nil ?_
      refine roundQ.mk (Q := fun _ _ _ => True) (i + 1) ⟨rfl, rfl, rfl, trivial⟩ .nil (by
        try dsimp only
        exact ⟨hlt, by rw [hI2, List.drop_eq_getElem_cons hlt, List.any_cons, beq_eq_false_iff_ne.2 h17, Bool.false_or]⟩) (by
        try dsimp only
        omega)
  · skip
    refine RP.nil ?_
    refine WP.cond_f rfl ?_
    refine WP.exit ?_
    refine WP.seq ?_
    refine WP.region ?_
    refine RP.assign rfl rfl ?_
    refine RP.nil ?_
    refine WP.ret ?_
    exact End.one (Or.inr rfl) rfl (.tmp rfl) .nil ⟨by rw [hI2, List.drop_of_length_le (by omega)]; rfl, rfl⟩

theorem refIn_ok (hlo : lo ≤ st.nxt) {s : Spot} (hs : SpotOk s) {c : UInt8} : Fin (EE bm) lo 41 [.agg [.int .u64 s.a, .int .u64 s.b, .int .u64 s.c, .int .u64 s.d], .int .u8 (c.toNat : Int)] st (fun v H => v = .bool (inB s c) ∧ H = []) := by
  have hc := c.toNat_lt
  have hj : c.toNat / 64 < 4 := by omega
  obtain ⟨x, hx, hx2⟩ : ∃ x : Nat, word s (c.toNat / 64) = (x : Int) ∧ x < 18446744073709551616 := ⟨(word s (c.toNat / 64)).toNat, by have := word_ok hs (c.toNat / 64); omega, by have := word_ok hs (c.toNat / 64); omega⟩
  have hin : inB s c = x.testBit (c.toNat % 64) := by unfold inB; rw [hx]; rfl
  refine Fin.of_body (fn := Try.f41) (c := Try.f41.body.getD .skip) rfl rfl rfl rfl ?_
  refine WP.seq ?_
  refine WP.region ?_
  refine RP.box rfl rfl rfl (fun L2 => ?_)
  refine RP.assign rfl rfl ?_
  refine RP.nil ?_
  refine WP.seq ?_
  refine WP.region ?_
  refine RP.move rfl rfl ?_
  refine RP.bin (v := .int .u8 ((c.toNat / 64 : Nat) : Int)) rfl rfl rfl (by show some (LV.int .u8 _) = _; rw [quo8]) ?_
  refine RP.at_arr rfl rfl rfl rfl rfl rfl hj ?_
  refine RP.load_box_at (.int .u64 (word s (c.toNat / 64))) rfl rfl rfl rfl (by repeat (first | exact .here | apply HIn.there | apply HIn.app)) (word_at hj) ?_
  refine RP.assign rfl rfl ?_
  refine RP.nil ?_
  refine WP.seq ?_
  refine WP.seq ?_
  refine WP.region ?_
  refine RP.assign rfl rfl ?_
  refine RP.nil ?_
  refine WP.block rfl ?_
  refine WP.loop (α := Nat × Int) (fun gh => [(1, .int .u8 (c.toNat : Int)), (5, .int .u64 gh.2), (6, .int .u8 (gh.1 : Int))]) (fun gh => []) (fun gh => gh.1 ≤ c.toNat % 64 ∧ gh.2 = ((x / 2 ^ gh.1 : Nat) : Int)) (fun gh => c.toNat % 64 - gh.1) ?_ (0, word s (c.toNat / 64)) ⟨rfl, rfl, rfl, trivial⟩ .nil (by
    try dsimp only
    exact ⟨Nat.zero_le _, by rw [Nat.pow_zero, Nat.div_one]; exact hx⟩)
  rintro ⟨i, z⟩ hI
  change i ≤ c.toNat % 64 ∧ z = ((x / 2 ^ i : Nat) : Int) at hI
  change WP _ _ _ _ _ [(1, .int .u8 (c.toNat : Int)), (5, .int .u64 z), (6, .int .u8 (i : Int))] ([] : HL) _
  obtain ⟨hI1, hI2⟩ := hI
  refine WP.seq ?_
  refine WP.seq ?_
  refine WP.region ?_
  refine RP.move rfl rfl ?_
  refine RP.move rfl rfl ?_
  refine RP.bin (v := .int .u8 ((c.toNat % 64 : Nat) : Int)) rfl rfl rfl (by show some (LV.int .u8 _) = _; rw [rem8]) ?_
  refine RP.lss rfl rfl rfl (fun h14 => ?_) (fun h14 => ?_)
  · skip
    refine RP.nil ?_
    refine WP.cond_t rfl ?_
    refine WP.skip ?_
    refine WP.seq ?_
    refine WP.block rfl ?_
    refine WP.region ?_
    refine RP.move rfl rfl ?_
    refine RP.bin (v := .int .u64 ((x / 2 ^ (i + 1) : Nat) : Int)) rfl rfl rfl (by subst hI2; show some (LV.int .u64 (IntKind.u64.wrap (Int.tdiv _ _))) = _; rw [halve (below hx2), halves]) ?_
    refine RP.assign rfl rfl ?_
    refine RP.nil ?_
    refine WP.region ?_
    refine RP.move rfl rfl ?_
    refine RP.bin (v := .int .u8 ((i : Int) + 1)) rfl rfl rfl (by show some (LV.int .u8 _) = _; rw [inc8 (by omega)]) ?_
    refine RP.assign rfl rfl ?_
    refine RP.nil ?_
    refine roundQ.mk (Q := fun _ _ _ => True) (i + 1, ((x / 2 ^ (i + 1) : Nat) : Int)) ⟨rfl, rfl, rfl, trivial⟩ .nil (by
      try dsimp only
      exact ⟨by omega, rfl⟩) (by
      try dsimp only
      omega)
  · skip
    refine RP.nil ?_
    refine WP.cond_f rfl ?_
    refine WP.exit ?_
    refine WP.seq ?_
    refine WP.region ?_
    refine RP.move rfl rfl ?_
    refine RP.bin (v := .int .u64 (((x / 2 ^ i : Nat) : Int) % 2)) rfl rfl rfl (by subst hI2; show some (LV.int .u64 _) = _; rw [par]) ?_
    refine RP.bin (v := .bool (inB s c)) rfl rfl rfl (by show some (LV.bool _) = _; rw [half_bit, hin, show i = c.toNat % 64 by omega]) ?_
    refine RP.assign rfl rfl ?_
    refine RP.nil ?_
    refine WP.ret ?_
    exact End.one (Or.inr rfl) rfl (.tmp rfl) .nil ⟨rfl, rfl⟩

theorem reflist_ok (hlo : lo ≤ st.nxt) {v : LV} {xs : List Int} {bound : Int} (hv : SlT (EE bm) st v 1 fI xs) (hn : xs.length ≤ 1000000) : Fin (EE bm) lo 49 [v, .int .i64 bound] st (fun r H => r = .bool (risingF bound (-1) xs) ∧ H = []) := by
  refine Fin.of_body (fn := Try.f49) (c := Try.f49.body.getD .skip) rfl rfl rfl rfl ?_
  refine WP.seq ?_
  refine WP.region ?_
  refine RP.assign rfl rfl ?_
  refine RP.nil ?_
  refine WP.seq ?_
  refine WP.seq ?_
  refine WP.region ?_
  refine RP.assign rfl rfl ?_
  refine RP.nil ?_
  refine WP.block rfl ?_
  refine WP.loop (α := Nat × Int) (fun gh => [(0, v), (1, .int .i64 bound), (5, .int .i64 (gh.1 : Int))]) (fun gh => []) (fun gh => gh.1 ≤ xs.length ∧ (gh.1 = 0 ∧ gh.2 = -1 ∨ 0 < gh.1 ∧ 0 ≤ gh.2 ∧ ∀ h : gh.1 - 1 < xs.length, xs[gh.1 - 1] = gh.2) ∧ risingF bound (-1) xs = risingF bound gh.2 (xs.drop gh.1)) (fun gh => xs.length - gh.1) ?_ (0, -1) ⟨rfl, rfl, rfl, trivial⟩ .nil (by
    try dsimp only
    exact ⟨Nat.zero_le _, Or.inl ⟨rfl, rfl⟩, rfl⟩)
  rintro ⟨i, last⟩ hI
  change i ≤ xs.length ∧ (i = 0 ∧ last = -1 ∨ 0 < i ∧ 0 ≤ last ∧ ∀ h : i - 1 < xs.length, xs[i - 1] = last) ∧ risingF bound (-1) xs = risingF bound last (xs.drop i) at hI
  change WP _ _ _ _ _ [(0, v), (1, .int .i64 bound), (5, .int .i64 (i : Int))] ([] : HL) _
  obtain ⟨hI1, hI3, hI2⟩ := hI
  refine WP.seq ?_
  refine WP.seq ?_
  refine WP.region ?_
  refine RP.move rfl rfl ?_
  refine RP.move rfl rfl ?_
  refine RP.len_sl rfl rfl (.arg hv) rfl ?_
  refine RP.lss rfl rfl rfl (fun h9 => ?_) (fun h9 => ?_)
  · skip
    have hlt : i < xs.length := by omega
    refine RP.nil ?_
    refine WP.cond_t rfl ?_
    refine WP.skip ?_
    refine WP.seq ?_
    refine WP.block rfl ?_
    refine WP.seq ?_
    refine WP.drawn (by kernel_rfl) ?_
    refine RP.move rfl rfl ?_
    refine RP.move rfl rfl ?_
    refine RP.at_ rfl rfl rfl rfl rfl rfl (.arg hv) (by first | assumption | omega) ?_
    refine RP.load_el rfl rfl rfl rfl (.arg hv) (by first | assumption | omega) rfl ?_
    refine RP.lss rfl rfl rfl (fun h16 => ?_) (fun h16 => ?_)
    · skip
      refine RP.move rfl rfl ?_
      refine RP.gfalse rfl rfl ?_
      refine RP.gfalse rfl rfl ?_
      refine RP.gfalse rfl rfl ?_
      refine RP.gfalse rfl rfl ?_
      refine RP.gfalse rfl rfl ?_
      refine RP.gfalse rfl rfl ?_
      refine RP.pick_ rfl rfl rfl ?_
      refine RP.move rfl rfl ?_
      refine RP.gfalse rfl rfl ?_
      refine RP.gfalse rfl rfl ?_
      refine RP.gfalse rfl rfl ?_
      refine RP.gfalse rfl rfl ?_
      refine RP.gfalse rfl rfl ?_
      refine RP.gfalse rfl rfl ?_
      refine RP.gfalse rfl rfl ?_
      refine RP.gfalse rfl rfl ?_
      refine RP.gfalse rfl rfl ?_
      refine RP.gfalse rfl rfl ?_
      refine RP.gfalse rfl rfl ?_
      refine RP.gfalse rfl rfl ?_
      refine RP.gfalse rfl rfl ?_
      refine RP.gfalse rfl rfl ?_
      refine RP.pick_ rfl rfl rfl ?_
      refine RP.nil ?_
      refine WP.cond_t rfl ?_
      refine WP.seq ?_
      refine WP.region ?_
      refine RP.assign rfl rfl ?_
      refine RP.nil ?_
      refine WP.ret ?_
      exact End.one (Or.inr rfl) rfl (.tmp rfl) .nil ⟨by rw [hI2, risingF_step hlt, if_pos (by rcases hI3 with h | ⟨h, h2, h3⟩; (· omega); (· have := h3 (by omega); omega))], rfl⟩
    · skip
      refine RP.move rfl rfl ?_
      refine RP.gtrue rfl ?_
      refine RP.move rfl rfl ?_
      refine RP.gtrue rfl ?_
      refine RP.move rfl rfl ?_
      refine RP.gtrue rfl ?_
      refine RP.at_ rfl rfl rfl rfl rfl rfl (.arg hv) (by first | assumption | omega) ?_
      refine RP.gtrue rfl ?_
      refine RP.load_el rfl rfl rfl rfl (.arg hv) (by first | assumption | omega) rfl ?_
      refine RP.gtrue rfl ?_
      refine RP.move rfl rfl ?_
      refine RP.gtrue rfl ?_
      refine RP.geq rfl rfl rfl (fun h23 => ?_) (fun h23 => ?_)
      · skip
        refine RP.pick_ rfl rfl rfl ?_
        refine RP.move rfl rfl ?_
        refine RP.gfalse rfl rfl ?_
        refine RP.gfalse rfl rfl ?_
        refine RP.gfalse rfl rfl ?_
        refine RP.gfalse rfl rfl ?_
        refine RP.gfalse rfl rfl ?_
        refine RP.gfalse rfl rfl ?_
        refine RP.gfalse rfl rfl ?_
        refine RP.gfalse rfl rfl ?_
        refine RP.gfalse rfl rfl ?_
        refine RP.gfalse rfl rfl ?_
        refine RP.gfalse rfl rfl ?_
        refine RP.gfalse rfl rfl ?_
        refine RP.gfalse rfl rfl ?_
        refine RP.gfalse rfl rfl ?_
        refine RP.pick_ rfl rfl rfl ?_
        refine RP.nil ?_
        refine WP.cond_t rfl ?_
        refine WP.seq ?_
        refine WP.region ?_
        refine RP.assign rfl rfl ?_
        refine RP.nil ?_
        refine WP.ret ?_
        exact End.one (Or.inr rfl) rfl (.tmp rfl) .nil ⟨by rw [hI2, risingF_step hlt, if_pos (by rcases hI3 with h | ⟨h, h2, h3⟩; (· omega); (· have := h3 (by omega); omega))], rfl⟩
      · skip
        refine RP.pick_ rfl rfl rfl ?_
        refine RP.move rfl rfl ?_
        refine RP.gtrue rfl ?_
        refine RP.move rfl rfl ?_
        refine RP.gtrue rfl ?_
        refine RP.gtr rfl rfl rfl (fun h27 => ?_) (fun h27 => ?_)
        · skip
          refine RP.gtrue rfl ?_
          refine RP.move rfl rfl ?_
          refine RP.gtrue rfl ?_
          refine RP.move rfl rfl ?_
          refine RP.gtrue rfl ?_
          refine RP.move rfl rfl ?_
          refine RP.gtrue rfl ?_
          refine RP.at_ rfl rfl rfl rfl rfl rfl (.arg hv) (by first | assumption | omega) ?_
          refine RP.gtrue rfl ?_
          refine RP.load_el rfl rfl rfl rfl (.arg hv) (by first | assumption | omega) rfl ?_
          refine RP.gtrue rfl ?_
          refine RP.move rfl rfl ?_
          refine RP.gtrue rfl ?_
          refine RP.move rfl rfl ?_
          refine RP.gtrue rfl ?_
          refine RP.sub rfl rfl rfl (by omega) (by omega) ?_
          refine RP.gtrue rfl ?_
          refine RP.at_ rfl rfl rfl (natOf_is (n := i - 1) (by omega)) rfl rfl (.arg hv) (by first | assumption | omega) ?_
          refine RP.gtrue rfl ?_
          refine RP.load_el rfl rfl rfl rfl (.arg hv) (by first | assumption | omega) rfl ?_
          refine RP.gtrue rfl ?_
          refine RP.leq rfl rfl rfl (fun h38 => ?_) (fun h38 => ?_)
          · skip
            refine RP.gtrue rfl ?_
            refine RP.pick_ rfl rfl rfl ?_
            refine RP.pick_ rfl rfl rfl ?_
            refine RP.nil ?_
            refine WP.cond_t rfl ?_
            refine WP.seq ?_
            refine WP.region ?_
            refine RP.assign rfl rfl ?_
            refine RP.nil ?_
            refine WP.ret ?_
            exact End.one (Or.inr rfl) rfl (.tmp rfl) .nil ⟨by rw [hI2, risingF_step hlt, if_pos (by rcases hI3 with h | ⟨h, h2, h3⟩; (· omega); (· have := h3 (by omega); omega))], rfl⟩
          · skip
            refine RP.gtrue rfl ?_
            refine RP.pick_ rfl rfl rfl ?_
            refine RP.pick_ rfl rfl rfl ?_
            refine RP.nil ?_
            refine WP.cond_f rfl ?_
            refine WP.skip ?_
            refine WP.region ?_
            refine RP.move rfl rfl ?_
            refine RP.add rfl rfl rfl (by omega) (by omega) ?_
            refine RP.assign rfl rfl ?_
            refine RP.nil ?_
            refine roundQ.mk (Q := fun _ _ _ => True) (i + 1, xs[i]) ⟨rfl, rfl, rfl, trivial⟩ .nil (by
              try dsimp only
              exact ⟨hlt, Or.inr ⟨by omega, by omega, fun h => by simp⟩, by rw [hI2, risingF_step hlt, if_neg (by rcases hI3 with h | ⟨h, h2, h3⟩; (· omega); (· have := h3 (by omega); omega))]⟩) (by
              try dsimp only
              omega)
        · skip
          refine RP.gtrue rfl ?_
          refine RP.move rfl rfl ?_
          refine RP.gfalse rfl rfl ?_
          refine RP.gfalse rfl rfl ?_
          refine RP.gfalse rfl rfl ?_
          refine RP.gfalse rfl rfl ?_
          refine RP.gfalse rfl rfl ?_
          refine RP.gfalse rfl rfl ?_
          refine RP.gfalse rfl rfl ?_
          refine RP.gfalse rfl rfl ?_
          refine RP.gfalse rfl rfl ?_
          refine RP.gfalse rfl rfl ?_
          refine RP.gtrue rfl ?_
          refine RP.pick_ rfl rfl rfl ?_
          refine RP.pick_ rfl rfl rfl ?_
          refine RP.nil ?_
          refine WP.cond_f rfl ?_
          refine WP.skip ?_
          refine WP.region ?_
          refine RP.move rfl rfl ?_
          refine RP.add rfl rfl rfl (by omega) (by omega) ?_
          refine RP.assign rfl rfl ?_
          refine RP.nil ?_
          refine roundQ.mk (Q := fun _ _ _ => True) (i + 1, xs[i]) ⟨rfl, rfl, rfl, trivial⟩ .nil (by
            try dsimp only
            exact ⟨hlt, Or.inr ⟨by omega, by omega, fun h => by simp⟩, by rw [hI2, risingF_step hlt, if_neg (by rcases hI3 with h | ⟨h, h2, h3⟩; (· omega); (· have := h3 (by omega); omega))]⟩) (by
            try dsimp only
            omega)
  · skip
    refine RP.nil ?_
    refine WP.cond_f rfl ?_
    refine WP.exit ?_
    refine WP.seq ?_
    refine WP.region ?_
    refine RP.assign rfl rfl ?_
    refine RP.nil ?_
    refine WP.ret ?_
    exact End.one (Or.inr rfl) rfl (.tmp rfl) .nil ⟨by rw [hI2, List.drop_of_length_le (by omega)]; rfl, rfl⟩

theorem refright_ok (hlo : lo ≤ st.nxt) (hm : MA (EE bm) st a b c d m fol) (h1 : m.first.length ≤ 1000000) (h2 : ∀ j (h : j < fol.length), fol[j].2.length ≤ 1000000) : Fin (EE bm) lo 32 [mv a b c d m] st (fun v H => (GoodM m ∧ v = .bool true ∧ H = []) ∨ (¬ GoodM m ∧ v = .bool false ∧ H = [])) := by
  refine Fin.of_body (fn := Try.f32) (c := Try.f32.body.getD .skip) rfl rfl rfl rfl ?_
  refine WP.seq ?_
  refine WP.region ?_
  refine RP.box rfl rfl hm.sc (fun L1 => ?_)
  refine RP.assign rfl rfl ?_
  refine RP.nil ?_
  refine WP.seq ?_
  refine WP.region ?_
  refine RP.faddr rfl rfl rfl ?_
  refine RP.load_box rfl rfl rfl rfl (by repeat (first | exact .here | apply HIn.there | apply HIn.app)) rfl ?_
  first | refine RP.len_sl rfl rfl (.arg hm.spots) rfl ?_ | refine RP.len_sl rfl rfl (.arg hm.first) rfl ?_ | refine RP.len_sl rfl rfl (.arg hm.follow) rfl ?_ | refine RP.len_sl rfl rfl (.arg hm.last) rfl ?_
  refine RP.assign rfl rfl ?_
  refine RP.nil ?_
  refine WP.seq ?_
  refine WP.seq ?_
  refine WP.region ?_
  refine RP.move rfl rfl ?_
  refine RP.gtr rfl rfl rfl (fun h9 => ?_) (fun h9 => ?_)
  · skip
    refine RP.move rfl rfl ?_
    refine RP.gfalse rfl rfl ?_
    refine RP.gfalse rfl rfl ?_
    refine RP.gfalse rfl rfl ?_
    refine RP.gfalse rfl rfl ?_
    refine RP.gfalse rfl rfl ?_
    refine RP.pick_ rfl rfl rfl ?_
    refine RP.move rfl rfl ?_
    refine RP.gfalse rfl rfl ?_
    refine RP.gfalse rfl rfl ?_
    refine RP.gfalse rfl rfl ?_
    refine RP.gfalse rfl rfl ?_
    refine RP.gfalse rfl rfl ?_
    refine RP.pick_ rfl rfl rfl ?_
    refine RP.move rfl rfl ?_
    refine RP.gfalse rfl rfl ?_
    refine RP.gfalse rfl rfl ?_
    refine RP.gfalse rfl rfl ?_
    refine RP.gfalse rfl rfl ?_
    refine RP.gfalse rfl rfl ?_
    refine RP.pick_ rfl rfl rfl ?_
    refine RP.nil ?_
    refine WP.cond_t rfl ?_
    refine WP.seq ?_
    refine WP.region ?_
    refine RP.assign rfl rfl ?_
    refine RP.nil ?_
    refine WP.ret ?_
    exact End.one (Or.inr rfl) rfl (.tmp rfl) .nil (Or.inr ⟨fun hg => by have := hg.size; omega, rfl, rfl⟩)
  · skip
    refine RP.move rfl rfl ?_
    refine RP.gtrue rfl ?_
    refine RP.faddr rfl rfl rfl ?_
    refine RP.gtrue rfl ?_
    refine RP.load_box rfl rfl rfl rfl (by repeat (first | exact .here | apply HIn.there | apply HIn.app)) rfl ?_
    refine RP.gtrue rfl ?_
    first | refine RP.len_sl rfl rfl (.arg hm.spots) rfl ?_ | refine RP.len_sl rfl rfl (.arg hm.first) rfl ?_ | refine RP.len_sl rfl rfl (.arg hm.follow) rfl ?_ | refine RP.len_sl rfl rfl (.arg hm.last) rfl ?_
    refine RP.gtrue rfl ?_
    refine RP.move rfl rfl ?_
    refine RP.gtrue rfl ?_
    refine RP.neq rfl rfl rfl (fun h15 => ?_) (fun h15 => ?_)
    · skip
      refine RP.pick_ rfl rfl rfl ?_
      refine RP.move rfl rfl ?_
      refine RP.gfalse rfl rfl ?_
      refine RP.gfalse rfl rfl ?_
      refine RP.gfalse rfl rfl ?_
      refine RP.gfalse rfl rfl ?_
      refine RP.gfalse rfl rfl ?_
      refine RP.pick_ rfl rfl rfl ?_
      refine RP.move rfl rfl ?_
      refine RP.gfalse rfl rfl ?_
      refine RP.gfalse rfl rfl ?_
      refine RP.gfalse rfl rfl ?_
      refine RP.gfalse rfl rfl ?_
      refine RP.gfalse rfl rfl ?_
      refine RP.pick_ rfl rfl rfl ?_
      refine RP.nil ?_
      refine WP.cond_t rfl ?_
      refine WP.seq ?_
      refine WP.region ?_
      refine RP.assign rfl rfl ?_
      refine RP.nil ?_
      refine WP.ret ?_
      exact End.one (Or.inr rfl) rfl (.tmp rfl) .nil (Or.inr ⟨fun hg => by have := hg.flen; have := hm.len; omega, rfl, rfl⟩)
    · skip
      refine RP.pick_ rfl rfl rfl ?_
      refine RP.move rfl rfl ?_
      refine RP.gtrue rfl ?_
      refine RP.faddr rfl rfl rfl ?_
      refine RP.gtrue rfl ?_
      refine RP.load_box rfl rfl rfl rfl (by repeat (first | exact .here | apply HIn.there | apply HIn.app)) rfl ?_
      refine RP.gtrue rfl ?_
      first | refine RP.len_sl rfl rfl (.arg hm.spots) rfl ?_ | refine RP.len_sl rfl rfl (.arg hm.first) rfl ?_ | refine RP.len_sl rfl rfl (.arg hm.follow) rfl ?_ | refine RP.len_sl rfl rfl (.arg hm.last) rfl ?_
      refine RP.gtrue rfl ?_
      refine RP.move rfl rfl ?_
      refine RP.gtrue rfl ?_
      refine RP.neq rfl rfl rfl (fun h22 => ?_) (fun h22 => ?_)
      · skip
        refine RP.pick_ rfl rfl rfl ?_
        refine RP.move rfl rfl ?_
        refine RP.gfalse rfl rfl ?_
        refine RP.gfalse rfl rfl ?_
        refine RP.gfalse rfl rfl ?_
        refine RP.gfalse rfl rfl ?_
        refine RP.gfalse rfl rfl ?_
        refine RP.pick_ rfl rfl rfl ?_
        refine RP.nil ?_
        refine WP.cond_t rfl ?_
        refine WP.seq ?_
        refine WP.region ?_
        refine RP.assign rfl rfl ?_
        refine RP.nil ?_
        refine WP.ret ?_
        exact End.one (Or.inr rfl) rfl (.tmp rfl) .nil (Or.inr ⟨fun hg => by have := hg.llen; omega, rfl, rfl⟩)
      · skip
        refine RP.pick_ rfl rfl rfl ?_
        refine RP.move rfl rfl ?_
        refine RP.gtrue rfl ?_
        refine RP.faddr rfl rfl rfl ?_
        refine RP.gtrue rfl ?_
        refine RP.load_box rfl rfl rfl rfl (by repeat (first | exact .here | apply HIn.there | apply HIn.app)) rfl ?_
        refine RP.gtrue rfl ?_
        refine RP.move rfl rfl ?_
        refine RP.gtrue rfl ?_
        refine RP.call rfl rfl rfl hlo (fun st' lo' hi' hl' => reflist_ok hl' (hm.first.inv hi') (by omega)) ?_
        rintro _ _ ⟨rfl, rfl⟩
        refine RP.gtrue rfl ?_
        refine RP.un rfl rfl rfl ?_
        refine RP.pick_ rfl rfl rfl ?_
        refine RP.nil ?_
        refine WP.cond_b rfl (fun hc30 => ?_) (fun hc30 => ?_)
        · skip
          refine WP.seq ?_
          refine WP.region ?_
          refine RP.assign rfl rfl ?_
          refine RP.nil ?_
          refine WP.ret ?_
          exact End.one (Or.inr rfl) rfl (.tmp rfl) .nil (Or.inr ⟨fun hg => by have := hg.first; simp [this] at hc30, rfl, rfl⟩)
        · skip
          refine WP.skip ?_
          refine WP.seq ?_
          refine WP.seq ?_
          refine WP.region ?_
          refine RP.assign rfl rfl ?_
          refine RP.nil ?_
          refine WP.block rfl ?_
          refine WP.loop (α := Nat) (fun gh => [(1, .ptr (.own L1) 0), (3, .int .i64 (m.spots.length : Int)), (4, .int .i64 (gh : Int))]) (fun gh => [(some L1, .cells (mv a b c d m).cells)]) (fun gh => gh ≤ m.spots.length ∧ (∀ j (h : j < m.spots.length), j < gh → m.spots[j].tag ≤ 2) ∧ ∀ j (h : j < fol.length), j < gh → risingF m.spots.length (-1) fol[j].2 = true) (fun gh => m.spots.length - gh) ?_ 0 ⟨rfl, rfl, rfl, trivial⟩ (.cons (by repeat (first | exact .here | apply HRem.there | apply HRem.app)) .nil) (by
            try dsimp only
            exact ⟨Nat.zero_le _, fun _ _ h => absurd h (Nat.not_lt_zero _), fun _ _ h => absurd h (Nat.not_lt_zero _)⟩)
          rintro i hI
          change i ≤ m.spots.length ∧ (∀ j (h : j < m.spots.length), j < i → m.spots[j].tag ≤ 2) ∧ ∀ j (h : j < fol.length), j < i → risingF m.spots.length (-1) fol[j].2 = true at hI
          change WP _ _ _ _ _ [(1, .ptr (.own L1) 0), (3, .int .i64 (m.spots.length : Int)), (4, .int .i64 (i : Int))] ([(some L1, .cells (mv a b c d m).cells)] : HL) _
          obtain ⟨hI1, hI2, hI3⟩ := hI
          refine WP.seq ?_
          refine WP.seq ?_
          refine WP.region ?_
          refine RP.move rfl rfl ?_
          refine RP.move rfl rfl ?_
          refine RP.lss rfl rfl rfl (fun h33 => ?_) (fun h33 => ?_)
          · skip
            have hlt : i < m.spots.length := by omega
            have hlf : i < fol.length := by have := hm.len; omega
            have hrow := hm.row hlf
            have hrl := h2 i hlf
            refine RP.nil ?_
            refine WP.cond_t rfl ?_
            refine WP.skip ?_
            refine WP.seq ?_
            refine WP.block rfl ?_
            refine WP.seq ?_
            refine WP.region ?_
            refine RP.faddr rfl rfl rfl ?_
            refine RP.load_box rfl rfl rfl rfl (by repeat (first | exact .here | apply HIn.there | apply HIn.app)) rfl ?_
            refine RP.move rfl rfl ?_
            first | refine RP.at_ rfl rfl rfl rfl rfl rfl (.arg hm.spots) (by first | assumption | omega) ?_ | refine RP.at_ rfl rfl rfl rfl rfl rfl (.arg hm.first) (by first | assumption | omega) ?_ | refine RP.at_ rfl rfl rfl rfl rfl rfl (.arg hm.follow) (by first | assumption | omega) ?_ | refine RP.at_ rfl rfl rfl rfl rfl rfl (.arg hm.last) (by first | assumption | omega) ?_
            first | refine RP.faddr_p rfl rfl rfl rfl rfl (.arg hm.spots) (by first | assumption | omega) ?_ | refine RP.faddr_p rfl rfl rfl rfl rfl (.arg hm.first) (by first | assumption | omega) ?_ | refine RP.faddr_p rfl rfl rfl rfl rfl (.arg hm.follow) (by first | assumption | omega) ?_ | refine RP.faddr_p rfl rfl rfl rfl rfl (.arg hm.last) (by first | assumption | omega) ?_
            first | refine RP.load_el rfl rfl rfl rfl (.arg hm.spots) (by first | assumption | omega) rfl ?_ | refine RP.load_el rfl rfl rfl rfl (.arg hm.first) (by first | assumption | omega) rfl ?_ | refine RP.load_el rfl rfl rfl rfl (.arg hm.follow) (by first | assumption | omega) rfl ?_ | refine RP.load_el rfl rfl rfl rfl (.arg hm.last) (by first | assumption | omega) rfl ?_
            refine RP.gtr rfl rfl rfl (fun h42 => ?_) (fun h42 => ?_)
            · skip
              refine RP.move rfl rfl ?_
              refine RP.gfalse rfl rfl ?_
              refine RP.gfalse rfl rfl ?_
              refine RP.gfalse rfl rfl ?_
              refine RP.gfalse rfl rfl ?_
              refine RP.gfalse rfl rfl ?_
              refine RP.gfalse rfl rfl ?_
              refine RP.gfalse rfl rfl ?_
              refine RP.gfalse rfl rfl ?_
              refine RP.pick_ rfl rfl rfl ?_
              refine RP.nil ?_
              refine WP.cond_t rfl ?_
              refine WP.seq ?_
              refine WP.region ?_
              refine RP.assign rfl rfl ?_
              refine RP.nil ?_
              refine WP.ret ?_
              exact End.one (Or.inr rfl) rfl (.tmp rfl) .nil (Or.inr ⟨fun hg => by have := hg.tags i hlt; omega, rfl, rfl⟩)
            · skip
              refine RP.move rfl rfl ?_
              refine RP.gtrue rfl ?_
              refine RP.faddr rfl rfl rfl ?_
              refine RP.gtrue rfl ?_
              refine RP.load_box rfl rfl rfl rfl (by repeat (first | exact .here | apply HIn.there | apply HIn.app)) rfl ?_
              refine RP.gtrue rfl ?_
              refine RP.move rfl rfl ?_
              refine RP.gtrue rfl ?_
              first | refine RP.at_ rfl rfl rfl rfl rfl rfl (.arg hm.spots) (by first | assumption | omega) ?_ | refine RP.at_ rfl rfl rfl rfl rfl rfl (.arg hm.first) (by first | assumption | omega) ?_ | refine RP.at_ rfl rfl rfl rfl rfl rfl (.arg hm.follow) (by first | assumption | omega) ?_ | refine RP.at_ rfl rfl rfl rfl rfl rfl (.arg hm.last) (by first | assumption | omega) ?_
              refine RP.gtrue rfl ?_
              first | refine RP.load_el rfl rfl rfl rfl (.arg hm.spots) (by first | assumption | omega) rfl ?_ | refine RP.load_el rfl rfl rfl rfl (.arg hm.first) (by first | assumption | omega) rfl ?_ | refine RP.load_el rfl rfl rfl rfl (.arg hm.follow) (by first | assumption | omega) rfl ?_ | refine RP.load_el rfl rfl rfl rfl (.arg hm.last) (by first | assumption | omega) rfl ?_
              refine RP.gtrue rfl ?_
              refine RP.move rfl rfl ?_
              refine RP.gtrue rfl ?_
              refine RP.call rfl rfl rfl hlo (fun st' lo' hi' hl' => reflist_ok hl' (hrow.inv hi') (by omega)) ?_
              rintro _ _ ⟨rfl, rfl⟩
              refine RP.gtrue rfl ?_
              refine RP.un rfl rfl rfl ?_
              refine RP.pick_ rfl rfl rfl ?_
              refine RP.nil ?_
              refine WP.cond_b rfl (fun hc52 => ?_) (fun hc52 => ?_)
              · skip
                refine WP.seq ?_
                refine WP.region ?_
                refine RP.assign rfl rfl ?_
                refine RP.nil ?_
                refine WP.ret ?_
                exact End.one (Or.inr rfl) rfl (.tmp rfl) .nil (Or.inr ⟨fun hg => by have := hg.rows i (by rw [hm.len]; exact hlf); simp only [hm.same, List.getElem_map] at this; simp [this] at hc52, rfl, rfl⟩)
              · skip
                refine WP.skip ?_
                refine WP.region ?_
                refine RP.move rfl rfl ?_
                refine RP.add rfl rfl rfl (by omega) (by omega) ?_
                refine RP.assign rfl rfl ?_
                refine RP.nil ?_
                refine roundQ.mk (Q := fun _ _ _ => True) (i + 1) ⟨rfl, rfl, rfl, trivial⟩ (.cons (by repeat (first | exact .here | apply HRem.there | apply HRem.app)) .nil) (by
                  try dsimp only
                  exact ⟨hlt, fun j hj hji => (if e : j = i then by subst e; omega else hI2 j hj (by omega)), fun j hj hji => (if e : j = i then by subst e; simpa using hc52 else hI3 j hj (by omega))⟩) (by
                  try dsimp only
                  omega)
          · skip
            refine RP.nil ?_
            refine WP.cond_f rfl ?_
            refine WP.exit ?_
            refine WP.seq ?_
            refine WP.region ?_
            refine RP.assign rfl rfl ?_
            refine RP.nil ?_
            refine WP.ret ?_
            exact End.one (Or.inr rfl) rfl (.tmp rfl) .nil (Or.inl ⟨⟨by omega, by rw [hm.len]; omega, by omega, by simpa using hc30, fun j hj => hI2 j hj (by omega), fun j hj => by have := hI3 j (by rw [← hm.len]; exact hj) (by have := hm.len; omega); simpa only [hm.same, List.getElem_map] using this⟩, rfl, rfl⟩)

theorem step_ok (hlo : lo ≤ st.nxt) (hm : MA (EE bm) st a b c d m fol) (hg : GoodM m) (hok : ∀ s ∈ m.spots, SpotOk s) (hN : m.spots.length ≤ 1000) (h1 : m.first.length ≤ 1000000) (hrl : ∀ j (h : j < fol.length), fol[j].2.length ≤ 1000000) {vat : LV} {xs : List Int} (hv : SlT (EE bm) st vat 1 fI xs) (hxl : xs.length ≤ 1000) (hr : ∀ x ∈ xs, 0 ≤ x ∧ x.toNat < m.spots.length) {fs : Bool} {ch : UInt8} :
    Fin (EE bm) lo 21 [mv a b c d m, vat, .bool fs, .int .u8 (ch.toNat : Int)] st (fun v H => ∃ p, H = [p] ∧ Lin 1 fI true v (stepF m xs fs ch) p) := by
  have hfl := hm.len
  have hgf := hg.flen
  refine Fin.of_body (fn := Try.f21) (c := Try.f21.body.getD .skip) rfl rfl rfl rfl ?_
  refine WP.seq ?_
  refine WP.region ?_
  refine RP.box rfl rfl hm.sc (fun L4 => ?_)
  refine RP.assign rfl rfl ?_
  refine RP.nil ?_
  refine WP.seq ?_
  refine WP.ghost .dead ?_
  refine WP.region ?_
  refine RP.assign rfl rfl ?_
  refine RP.nil ?_
  refine WP.seq ?_
  refine WP.seq ?_
  refine WP.region ?_
  refine RP.assign rfl rfl ?_
  refine RP.nil ?_
  refine WP.block rfl ?_
  refine WP.loop (α := Nat × LV × HE) (fun gh => [(1, vat), (2, .bool fs), (3, .int .u8 (ch.toNat : Int)), (4, .ptr (.own L4) 0), (9, gh.2.1), (10, .int .i64 (gh.1 : Int))]) (fun gh => [(some L4, .cells (mv a b c d m).cells), gh.2.2]) (fun gh => gh.1 ≤ m.spots.length ∧ Lin 1 fI true gh.2.1 (lst gh.1 (intoG m xs fs ch)) gh.2.2) (fun gh => m.spots.length - gh.1) ?_ (0, .nilsl, (none, .dead)) ⟨rfl, rfl, rfl, rfl, rfl, rfl, trivial⟩ (.cons (by repeat (first | exact .here | apply HRem.there | apply HRem.app)) (.cons (by repeat (first | exact .here | apply HRem.there | apply HRem.app)) .nil)) (by
    try dsimp only
    exact ⟨Nat.zero_le _, .nil⟩)
  rintro ⟨n, vo, po⟩ hI
  change n ≤ m.spots.length ∧ Lin 1 fI true vo (lst n (intoG m xs fs ch)) po at hI
  change WP _ _ _ _ _ [(1, vat), (2, .bool fs), (3, .int .u8 (ch.toNat : Int)), (4, .ptr (.own L4) 0), (9, vo), (10, .int .i64 (n : Int))] ([(some L4, .cells (mv a b c d m).cells), po] : HL) _
  obtain ⟨hI1, hI2⟩ := hI
  have hln := lst_len (k := n) (g := intoG m xs fs ch)
  refine WP.seq ?_
  refine WP.seq ?_
  refine WP.region ?_
  refine RP.move rfl rfl ?_
  refine RP.faddr rfl rfl rfl ?_
  refine RP.load_box rfl rfl rfl rfl (by repeat (first | exact .here | apply HIn.there | apply HIn.app)) rfl ?_
  first | refine RP.len_sl rfl rfl (.arg hm.spots) rfl ?_ | refine RP.len_sl rfl rfl (.arg hm.first) rfl ?_ | refine RP.len_sl rfl rfl (.arg hm.follow) rfl ?_ | refine RP.len_sl rfl rfl (.arg hm.last) rfl ?_ | refine RP.len_sl rfl rfl (.arg hv) rfl ?_
  refine RP.lss rfl rfl rfl (fun h17 => ?_) (fun h17 => ?_)
  · skip
    have hltn : n < m.spots.length := by omega
    refine RP.nil ?_
    refine WP.cond_t rfl ?_
    refine WP.skip ?_
    refine WP.seq ?_
    refine WP.block rfl ?_
    refine WP.seq ?_
    refine WP.region ?_
    refine RP.move rfl rfl ?_
    refine RP.move rfl rfl ?_
    refine RP.cases (d := 21) rfl (fun hg21 => ?_) (fun hg21 => ?_)
    · skip
      refine RP.gtrue rfl ?_
      refine RP.faddr rfl rfl rfl ?_
      refine RP.gtrue rfl ?_
      refine RP.load_box rfl rfl rfl rfl (by repeat (first | exact .here | apply HIn.there | apply HIn.app)) rfl ?_
      refine RP.gtrue rfl ?_
      refine RP.move rfl rfl ?_
      refine RP.gtrue rfl ?_
      refine RP.call rfl rfl rfl hlo (fun st' lo' hi' hl' => refhas_ok hl' (hm.first.inv hi') (by omega)) ?_
      rintro _ _ ⟨rfl, rfl⟩
      refine RP.pick_ rfl rfl rfl ?_
      refine RP.assign rfl rfl ?_
      refine RP.nil ?_
      refine WP.seq ?_
      refine WP.seq ?_
      refine WP.region ?_
      refine RP.assign rfl rfl ?_
      refine RP.nil ?_
      refine WP.block rfl ?_
      refine WP.loop (α := Nat × Bool) (fun gh => [(1, vat), (2, .bool fs), (3, .int .u8 (ch.toNat : Int)), (4, .ptr (.own L4) 0), (9, vo), (10, .int .i64 (n : Int)), (11, .bool gh.2), (12, .int .i64 (gh.1 : Int))]) (fun gh => [(some L4, .cells (mv a b c d m).cells), po]) (fun gh => gh.1 ≤ xs.length ∧ gh.2 = comeG m (xs.take gh.1) fs n) (fun gh => xs.length - gh.1) ?_ (0, (memI m.first n)) ⟨rfl, rfl, rfl, rfl, rfl, rfl, rfl, rfl, trivial⟩ (.cons (by repeat (first | exact .here | apply HRem.there | apply HRem.app)) (.cons (by repeat (first | exact .here | apply HRem.there | apply HRem.app)) .nil)) (by
        try dsimp only
        exact ⟨Nat.zero_le _, by show memI m.first n = comeG m (xs.take 0) fs n; rw [List.take_zero, hg21]; exact come_first.symm⟩)
      rintro ⟨i, may⟩ hI
      change i ≤ xs.length ∧ may = comeG m (xs.take i) fs n at hI
      change WP _ _ _ _ _ [(1, vat), (2, .bool fs), (3, .int .u8 (ch.toNat : Int)), (4, .ptr (.own L4) 0), (9, vo), (10, .int .i64 (n : Int)), (11, .bool may), (12, .int .i64 (i : Int))] ([(some L4, .cells (mv a b c d m).cells), po] : HL) _
      obtain ⟨hK1, hK2⟩ := hI
      refine WP.seq ?_
      refine WP.seq ?_
      refine WP.region ?_
      refine RP.move rfl rfl ?_
      refine RP.move rfl rfl ?_
      refine RP.len_sl rfl rfl (.arg hv) rfl ?_
      refine RP.lss rfl rfl rfl (fun h30 => ?_) (fun h30 => ?_)
      · skip
        have hlt : i < xs.length := by omega
        have hx := hr xs[i] (List.getElem_mem hlt)
        have hxf : xs[i].toNat < fol.length := by omega
        have hrow := hm.row hxf
        refine RP.move rfl rfl ?_
        refine RP.gtrue rfl ?_
        refine RP.move rfl rfl ?_
        refine RP.gtrue rfl ?_
        refine RP.un rfl rfl rfl ?_
        refine RP.pick_ rfl rfl rfl ?_
        refine RP.nil ?_
        refine WP.cond_b rfl (fun hc34 => ?_) (fun hc34 => ?_)
        · skip
          refine WP.skip ?_
          refine WP.seq ?_
          refine WP.block rfl ?_
          refine WP.drawn (by kernel_rfl) ?_
          refine RP.faddr rfl rfl rfl ?_
          refine RP.load_box rfl rfl rfl rfl (by repeat (first | exact .here | apply HIn.there | apply HIn.app)) rfl ?_
          refine RP.move rfl rfl ?_
          refine RP.move rfl rfl ?_
          refine RP.at_ rfl rfl rfl rfl rfl rfl (.arg hv) (by first | assumption | omega) ?_
          refine RP.load_el rfl rfl rfl rfl (.arg hv) (by first | assumption | omega) rfl ?_
          refine RP.at_ rfl rfl rfl (natOf_is (n := xs[i].toNat) (by omega)) rfl rfl (.arg hm.follow) (by first | assumption | omega) ?_
          refine RP.load_el rfl rfl rfl rfl (.arg hm.follow) (by first | assumption | omega) rfl ?_
          refine RP.move rfl rfl ?_
          refine RP.call rfl rfl rfl hlo (fun st' lo' hi' hl' => refhas_ok hl' (hrow.inv hi') (by have := hrl _ hxf; omega)) ?_
          rintro _ _ ⟨rfl, rfl⟩
          refine RP.assign rfl rfl ?_
          refine RP.nil ?_
          refine WP.region ?_
          refine RP.move rfl rfl ?_
          refine RP.add rfl rfl rfl (by omega) (by omega) ?_
          refine RP.assign rfl rfl ?_
          refine RP.nil ?_
          refine roundQ.mk (Q := fun _ _ _ => True) (i + 1, memI fol[xs[i].toNat].2 n) ⟨rfl, rfl, rfl, rfl, rfl, rfl, rfl, rfl, trivial⟩ (.cons (by repeat (first | exact .here | apply HRem.there | apply HRem.app)) (.cons (by repeat (first | exact .here | apply HRem.there | apply HRem.app)) .nil)) (by
            try dsimp only
            exact ⟨hlt, by rw [comeG_step hlt, ← hK2, hm.fol hxf, show may = false by simpa using hc34, Bool.false_or]⟩) (by
            try dsimp only
            omega)
        · skip
          have hmt : may = true := by simpa using hc34
          have hall : comeG m xs fs n = may := by
            have h1 : comeG m (xs.take i) fs n = true := by rw [← hK2]; exact hmt
            rw [comeG_on h1]; exact hmt.symm
          refine WP.exit ?_
          refine WP.seq ?_
          refine WP.region ?_
          refine RP.move rfl rfl ?_
          refine RP.move rfl rfl ?_
          refine RP.cases (d := 48) rfl (fun hg48 => ?_) (fun hg48 => ?_)
          · skip
            refine RP.gtrue rfl ?_
            refine RP.faddr rfl rfl rfl ?_
            refine RP.gtrue rfl ?_
            refine RP.load_box rfl rfl rfl rfl (by repeat (first | exact .here | apply HIn.there | apply HIn.app)) rfl ?_
            refine RP.gtrue rfl ?_
            refine RP.move rfl rfl ?_
            refine RP.gtrue rfl ?_
            first | refine RP.at_ rfl rfl rfl rfl rfl rfl (.arg hm.spots) (by first | assumption | omega) ?_ | refine RP.at_ rfl rfl rfl rfl rfl rfl (.arg hm.first) (by first | assumption | omega) ?_ | refine RP.at_ rfl rfl rfl rfl rfl rfl (.arg hm.follow) (by first | assumption | omega) ?_ | refine RP.at_ rfl rfl rfl rfl rfl rfl (.arg hm.last) (by first | assumption | omega) ?_ | refine RP.at_ rfl rfl rfl rfl rfl rfl (.arg hv) (by first | assumption | omega) ?_
            refine RP.gtrue rfl ?_
            first | refine RP.faddr_p rfl rfl rfl rfl rfl (.arg hm.spots) (by first | assumption | omega) ?_ | refine RP.faddr_p rfl rfl rfl rfl rfl (.arg hm.first) (by first | assumption | omega) ?_ | refine RP.faddr_p rfl rfl rfl rfl rfl (.arg hm.follow) (by first | assumption | omega) ?_ | refine RP.faddr_p rfl rfl rfl rfl rfl (.arg hm.last) (by first | assumption | omega) ?_ | refine RP.faddr_p rfl rfl rfl rfl rfl (.arg hv) (by first | assumption | omega) ?_
            refine RP.gtrue rfl ?_
            first | refine RP.load_elN rfl rfl rfl rfl rfl (.arg hm.spots) (by first | assumption | omega) rfl ?_ | refine RP.load_elN rfl rfl rfl rfl rfl (.arg hm.first) (by first | assumption | omega) rfl ?_ | refine RP.load_elN rfl rfl rfl rfl rfl (.arg hm.follow) (by first | assumption | omega) rfl ?_ | refine RP.load_elN rfl rfl rfl rfl rfl (.arg hm.last) (by first | assumption | omega) rfl ?_ | refine RP.load_elN rfl rfl rfl rfl rfl (.arg hv) (by first | assumption | omega) rfl ?_
            refine RP.gtrue rfl ?_
            refine RP.move rfl rfl ?_
            refine RP.gtrue rfl ?_
            refine RP.call rfl rfl rfl hlo (fun st' lo' hi' hl' => refIn_ok hl' (hok _ (List.getElem_mem hltn))) ?_
            rintro _ _ ⟨rfl, rfl⟩
            refine RP.pick_ rfl rfl rfl ?_
            refine RP.nil ?_
            refine WP.cond_b rfl (fun hc57 => ?_) (fun hc57 => ?_)
            · skip
              refine WP.region ?_
              refine RP.move rfl rfl ?_
              refine RP.move rfl rfl ?_
              refine RP.bslice [(n : Int)] rfl rfl rfl rfl rfl rfl rfl rfl rfl rfl fI_len ?_
              intro v60 p60 hl60
              refine RP.append rfl rfl rfl rfl rfl rfl rfl rfl hI2 (fun _ => (by repeat (first | exact .here | apply HUpd.there | apply HUpd.app))) (.lin fI_len hl60 (by repeat (first | exact .here | apply HIn.there | apply HIn.app))) (flat_all fI_sc _) (by simp only [List.length_singleton]; omega) (fun e => (by first | rfl | cases e)) hlo ?_
              intro v61 p61 hl61
              refine RP.assign rfl rfl ?_
              refine RP.nil ?_
              refine WP.region ?_
              refine RP.move rfl rfl ?_
              refine RP.add rfl rfl rfl (by omega) (by omega) ?_
              refine RP.assign rfl rfl ?_
              refine RP.nil ?_
              have hsp : intoG m xs fs ch n = (may && inB m.spots[n] ch) := by
                unfold intoG inSpot
                rw [hall, List.getElem?_eq_getElem hltn]
              refine roundQ.mk (Q := fun _ _ _ => True) (n + 1, v61, p61) ⟨rfl, rfl, rfl, rfl, rfl, rfl, trivial⟩ (.cons (by repeat (first | exact .here | apply HRem.there | apply HRem.app)) (.cons (by repeat (first | exact .here | apply HRem.there | apply HRem.app)) .nil)) (by
                try dsimp only
                exact ⟨hltn, by rw [lst_step, hsp, hg48, Bool.true_and, if_pos hc57]; exact hl61⟩) (by
                try dsimp only
                omega)
            · skip
              refine WP.skip ?_
              refine WP.region ?_
              refine RP.move rfl rfl ?_
              refine RP.add rfl rfl rfl (by omega) (by omega) ?_
              refine RP.assign rfl rfl ?_
              refine RP.nil ?_
              have hsp : intoG m xs fs ch n = (may && inB m.spots[n] ch) := by
                unfold intoG inSpot
                rw [hall, List.getElem?_eq_getElem hltn]
              refine roundQ.mk (Q := fun _ _ _ => True) (n + 1, vo, po) ⟨rfl, rfl, rfl, rfl, rfl, rfl, trivial⟩ (.cons (by repeat (first | exact .here | apply HRem.there | apply HRem.app)) (.cons (by repeat (first | exact .here | apply HRem.there | apply HRem.app)) .nil)) (by
                try dsimp only
                exact ⟨hltn, by rw [lst_step, hsp, hg48, Bool.true_and, if_neg (by simpa using hc57), List.append_nil]; exact hI2⟩) (by
                try dsimp only
                omega)
          · skip
            refine RP.gfalse rfl rfl ?_
            refine RP.gfalse rfl rfl ?_
            refine RP.gfalse rfl rfl ?_
            refine RP.gfalse rfl rfl ?_
            refine RP.gfalse rfl rfl ?_
            refine RP.gfalse rfl rfl ?_
            refine RP.gfalse rfl rfl ?_
            refine RP.gfalse rfl rfl ?_
            refine RP.pick_ rfl rfl rfl ?_
            refine RP.nil ?_
            refine WP.cond_f rfl ?_
            refine WP.skip ?_
            refine WP.region ?_
            refine RP.move rfl rfl ?_
            refine RP.add rfl rfl rfl (by omega) (by omega) ?_
            refine RP.assign rfl rfl ?_
            refine RP.nil ?_
            have hsp : intoG m xs fs ch n = (may && inB m.spots[n] ch) := by
              unfold intoG inSpot
              rw [hall, List.getElem?_eq_getElem hltn]
            refine roundQ.mk (Q := fun _ _ _ => True) (n + 1, vo, po) ⟨rfl, rfl, rfl, rfl, rfl, rfl, trivial⟩ (.cons (by repeat (first | exact .here | apply HRem.there | apply HRem.app)) (.cons (by repeat (first | exact .here | apply HRem.there | apply HRem.app)) .nil)) (by
              try dsimp only
              exact ⟨hltn, by rw [lst_step, hsp, hg48, Bool.false_and, if_neg Bool.false_ne_true, List.append_nil]; exact hI2⟩) (by
              try dsimp only
              omega)
      · skip
        have hall : comeG m xs fs n = may := by rw [hK2, List.take_of_length_le (by omega)]
        refine RP.move rfl rfl ?_
        refine RP.gfalse rfl rfl ?_
        refine RP.gfalse rfl rfl ?_
        refine RP.pick_ rfl rfl rfl ?_
        refine RP.nil ?_
        refine WP.cond_f rfl ?_
        refine WP.exit ?_
        refine WP.seq ?_
        refine WP.region ?_
        refine RP.move rfl rfl ?_
        refine RP.move rfl rfl ?_
        refine RP.cases (d := 48) rfl (fun hg48 => ?_) (fun hg48 => ?_)
        · skip
          refine RP.gtrue rfl ?_
          refine RP.faddr rfl rfl rfl ?_
          refine RP.gtrue rfl ?_
          refine RP.load_box rfl rfl rfl rfl (by repeat (first | exact .here | apply HIn.there | apply HIn.app)) rfl ?_
          refine RP.gtrue rfl ?_
          refine RP.move rfl rfl ?_
          refine RP.gtrue rfl ?_
          first | refine RP.at_ rfl rfl rfl rfl rfl rfl (.arg hm.spots) (by first | assumption | omega) ?_ | refine RP.at_ rfl rfl rfl rfl rfl rfl (.arg hm.first) (by first | assumption | omega) ?_ | refine RP.at_ rfl rfl rfl rfl rfl rfl (.arg hm.follow) (by first | assumption | omega) ?_ | refine RP.at_ rfl rfl rfl rfl rfl rfl (.arg hm.last) (by first | assumption | omega) ?_ | refine RP.at_ rfl rfl rfl rfl rfl rfl (.arg hv) (by first | assumption | omega) ?_
          refine RP.gtrue rfl ?_
          first | refine RP.faddr_p rfl rfl rfl rfl rfl (.arg hm.spots) (by first | assumption | omega) ?_ | refine RP.faddr_p rfl rfl rfl rfl rfl (.arg hm.first) (by first | assumption | omega) ?_ | refine RP.faddr_p rfl rfl rfl rfl rfl (.arg hm.follow) (by first | assumption | omega) ?_ | refine RP.faddr_p rfl rfl rfl rfl rfl (.arg hm.last) (by first | assumption | omega) ?_ | refine RP.faddr_p rfl rfl rfl rfl rfl (.arg hv) (by first | assumption | omega) ?_
          refine RP.gtrue rfl ?_
          first | refine RP.load_elN rfl rfl rfl rfl rfl (.arg hm.spots) (by first | assumption | omega) rfl ?_ | refine RP.load_elN rfl rfl rfl rfl rfl (.arg hm.first) (by first | assumption | omega) rfl ?_ | refine RP.load_elN rfl rfl rfl rfl rfl (.arg hm.follow) (by first | assumption | omega) rfl ?_ | refine RP.load_elN rfl rfl rfl rfl rfl (.arg hm.last) (by first | assumption | omega) rfl ?_ | refine RP.load_elN rfl rfl rfl rfl rfl (.arg hv) (by first | assumption | omega) rfl ?_
          refine RP.gtrue rfl ?_
          refine RP.move rfl rfl ?_
          refine RP.gtrue rfl ?_
          refine RP.call rfl rfl rfl hlo (fun st' lo' hi' hl' => refIn_ok hl' (hok _ (List.getElem_mem hltn))) ?_
          rintro _ _ ⟨rfl, rfl⟩
          refine RP.pick_ rfl rfl rfl ?_
          refine RP.nil ?_
          refine WP.cond_b rfl (fun hc57 => ?_) (fun hc57 => ?_)
          · skip
            refine WP.region ?_
            refine RP.move rfl rfl ?_
            refine RP.move rfl rfl ?_
            refine RP.bslice [(n : Int)] rfl rfl rfl rfl rfl rfl rfl rfl rfl rfl fI_len ?_
            intro v60 p60 hl60
            refine RP.append rfl rfl rfl rfl rfl rfl rfl rfl hI2 (fun _ => (by repeat (first | exact .here | apply HUpd.there | apply HUpd.app))) (.lin fI_len hl60 (by repeat (first | exact .here | apply HIn.there | apply HIn.app))) (flat_all fI_sc _) (by simp only [List.length_singleton]; omega) (fun e => (by first | rfl | cases e)) hlo ?_
            intro v61 p61 hl61
            refine RP.assign rfl rfl ?_
            refine RP.nil ?_
            refine WP.region ?_
            refine RP.move rfl rfl ?_
            refine RP.add rfl rfl rfl (by omega) (by omega) ?_
            refine RP.assign rfl rfl ?_
            refine RP.nil ?_
            have hsp : intoG m xs fs ch n = (may && inB m.spots[n] ch) := by
              unfold intoG inSpot
              rw [hall, List.getElem?_eq_getElem hltn]
            refine roundQ.mk (Q := fun _ _ _ => True) (n + 1, v61, p61) ⟨rfl, rfl, rfl, rfl, rfl, rfl, trivial⟩ (.cons (by repeat (first | exact .here | apply HRem.there | apply HRem.app)) (.cons (by repeat (first | exact .here | apply HRem.there | apply HRem.app)) .nil)) (by
              try dsimp only
              exact ⟨hltn, by rw [lst_step, hsp, hg48, Bool.true_and, if_pos hc57]; exact hl61⟩) (by
              try dsimp only
              omega)
          · skip
            refine WP.skip ?_
            refine WP.region ?_
            refine RP.move rfl rfl ?_
            refine RP.add rfl rfl rfl (by omega) (by omega) ?_
            refine RP.assign rfl rfl ?_
            refine RP.nil ?_
            have hsp : intoG m xs fs ch n = (may && inB m.spots[n] ch) := by
              unfold intoG inSpot
              rw [hall, List.getElem?_eq_getElem hltn]
            refine roundQ.mk (Q := fun _ _ _ => True) (n + 1, vo, po) ⟨rfl, rfl, rfl, rfl, rfl, rfl, trivial⟩ (.cons (by repeat (first | exact .here | apply HRem.there | apply HRem.app)) (.cons (by repeat (first | exact .here | apply HRem.there | apply HRem.app)) .nil)) (by
              try dsimp only
              exact ⟨hltn, by rw [lst_step, hsp, hg48, Bool.true_and, if_neg (by simpa using hc57), List.append_nil]; exact hI2⟩) (by
              try dsimp only
              omega)
        · skip
          refine RP.gfalse rfl rfl ?_
          refine RP.gfalse rfl rfl ?_
          refine RP.gfalse rfl rfl ?_
          refine RP.gfalse rfl rfl ?_
          refine RP.gfalse rfl rfl ?_
          refine RP.gfalse rfl rfl ?_
          refine RP.gfalse rfl rfl ?_
          refine RP.gfalse rfl rfl ?_
          refine RP.pick_ rfl rfl rfl ?_
          refine RP.nil ?_
          refine WP.cond_f rfl ?_
          refine WP.skip ?_
          refine WP.region ?_
          refine RP.move rfl rfl ?_
          refine RP.add rfl rfl rfl (by omega) (by omega) ?_
          refine RP.assign rfl rfl ?_
          refine RP.nil ?_
          have hsp : intoG m xs fs ch n = (may && inB m.spots[n] ch) := by
            unfold intoG inSpot
            rw [hall, List.getElem?_eq_getElem hltn]
          refine roundQ.mk (Q := fun _ _ _ => True) (n + 1, vo, po) ⟨rfl, rfl, rfl, rfl, rfl, rfl, trivial⟩ (.cons (by repeat (first | exact .here | apply HRem.there | apply HRem.app)) (.cons (by repeat (first | exact .here | apply HRem.there | apply HRem.app)) .nil)) (by
            try dsimp only
            exact ⟨hltn, by rw [lst_step, hsp, hg48, Bool.false_and, if_neg Bool.false_ne_true, List.append_nil]; exact hI2⟩) (by
            try dsimp only
            omega)
    · skip
      refine RP.gfalse rfl rfl ?_
      refine RP.gfalse rfl rfl ?_
      refine RP.gfalse rfl rfl ?_
      refine RP.gfalse rfl rfl ?_
      refine RP.pick_ rfl rfl rfl ?_
      refine RP.assign rfl rfl ?_
      refine RP.nil ?_
      refine WP.seq ?_
      refine WP.seq ?_
      refine WP.region ?_
      refine RP.assign rfl rfl ?_
      refine RP.nil ?_
      refine WP.block rfl ?_
      refine WP.loop (α := Nat × Bool) (fun gh => [(1, vat), (2, .bool fs), (3, .int .u8 (ch.toNat : Int)), (4, .ptr (.own L4) 0), (9, vo), (10, .int .i64 (n : Int)), (11, .bool gh.2), (12, .int .i64 (gh.1 : Int))]) (fun gh => [(some L4, .cells (mv a b c d m).cells), po]) (fun gh => gh.1 ≤ xs.length ∧ gh.2 = comeG m (xs.take gh.1) fs n) (fun gh => xs.length - gh.1) ?_ (0, false) ⟨rfl, rfl, rfl, rfl, rfl, rfl, rfl, rfl, trivial⟩ (.cons (by repeat (first | exact .here | apply HRem.there | apply HRem.app)) (.cons (by repeat (first | exact .here | apply HRem.there | apply HRem.app)) .nil)) (by
        try dsimp only
        exact ⟨Nat.zero_le _, by show false = comeG m (xs.take 0) fs n; rw [List.take_zero, hg21]; rfl⟩)
      rintro ⟨i, may⟩ hI
      change i ≤ xs.length ∧ may = comeG m (xs.take i) fs n at hI
      change WP _ _ _ _ _ [(1, vat), (2, .bool fs), (3, .int .u8 (ch.toNat : Int)), (4, .ptr (.own L4) 0), (9, vo), (10, .int .i64 (n : Int)), (11, .bool may), (12, .int .i64 (i : Int))] ([(some L4, .cells (mv a b c d m).cells), po] : HL) _
      obtain ⟨hK1, hK2⟩ := hI
      refine WP.seq ?_
      refine WP.seq ?_
      refine WP.region ?_
      refine RP.move rfl rfl ?_
      refine RP.move rfl rfl ?_
      refine RP.len_sl rfl rfl (.arg hv) rfl ?_
      refine RP.lss rfl rfl rfl (fun h30 => ?_) (fun h30 => ?_)
      · skip
        have hlt : i < xs.length := by omega
        have hx := hr xs[i] (List.getElem_mem hlt)
        have hxf : xs[i].toNat < fol.length := by omega
        have hrow := hm.row hxf
        refine RP.move rfl rfl ?_
        refine RP.gtrue rfl ?_
        refine RP.move rfl rfl ?_
        refine RP.gtrue rfl ?_
        refine RP.un rfl rfl rfl ?_
        refine RP.pick_ rfl rfl rfl ?_
        refine RP.nil ?_
        refine WP.cond_b rfl (fun hc34 => ?_) (fun hc34 => ?_)
        · skip
          refine WP.skip ?_
          refine WP.seq ?_
          refine WP.block rfl ?_
          refine WP.drawn (by kernel_rfl) ?_
          refine RP.faddr rfl rfl rfl ?_
          refine RP.load_box rfl rfl rfl rfl (by repeat (first | exact .here | apply HIn.there | apply HIn.app)) rfl ?_
          refine RP.move rfl rfl ?_
          refine RP.move rfl rfl ?_
          refine RP.at_ rfl rfl rfl rfl rfl rfl (.arg hv) (by first | assumption | omega) ?_
          refine RP.load_el rfl rfl rfl rfl (.arg hv) (by first | assumption | omega) rfl ?_
          refine RP.at_ rfl rfl rfl (natOf_is (n := xs[i].toNat) (by omega)) rfl rfl (.arg hm.follow) (by first | assumption | omega) ?_
          refine RP.load_el rfl rfl rfl rfl (.arg hm.follow) (by first | assumption | omega) rfl ?_
          refine RP.move rfl rfl ?_
          refine RP.call rfl rfl rfl hlo (fun st' lo' hi' hl' => refhas_ok hl' (hrow.inv hi') (by have := hrl _ hxf; omega)) ?_
          rintro _ _ ⟨rfl, rfl⟩
          refine RP.assign rfl rfl ?_
          refine RP.nil ?_
          refine WP.region ?_
          refine RP.move rfl rfl ?_
          refine RP.add rfl rfl rfl (by omega) (by omega) ?_
          refine RP.assign rfl rfl ?_
          refine RP.nil ?_
          refine roundQ.mk (Q := fun _ _ _ => True) (i + 1, memI fol[xs[i].toNat].2 n) ⟨rfl, rfl, rfl, rfl, rfl, rfl, rfl, rfl, trivial⟩ (.cons (by repeat (first | exact .here | apply HRem.there | apply HRem.app)) (.cons (by repeat (first | exact .here | apply HRem.there | apply HRem.app)) .nil)) (by
            try dsimp only
            exact ⟨hlt, by rw [comeG_step hlt, ← hK2, hm.fol hxf, show may = false by simpa using hc34, Bool.false_or]⟩) (by
            try dsimp only
            omega)
        · skip
          have hmt : may = true := by simpa using hc34
          have hall : comeG m xs fs n = may := by
            have h1 : comeG m (xs.take i) fs n = true := by rw [← hK2]; exact hmt
            rw [comeG_on h1]; exact hmt.symm
          refine WP.exit ?_
          refine WP.seq ?_
          refine WP.region ?_
          refine RP.move rfl rfl ?_
          refine RP.move rfl rfl ?_
          refine RP.cases (d := 48) rfl (fun hg48 => ?_) (fun hg48 => ?_)
          · skip
            refine RP.gtrue rfl ?_
            refine RP.faddr rfl rfl rfl ?_
            refine RP.gtrue rfl ?_
            refine RP.load_box rfl rfl rfl rfl (by repeat (first | exact .here | apply HIn.there | apply HIn.app)) rfl ?_
            refine RP.gtrue rfl ?_
            refine RP.move rfl rfl ?_
            refine RP.gtrue rfl ?_
            first | refine RP.at_ rfl rfl rfl rfl rfl rfl (.arg hm.spots) (by first | assumption | omega) ?_ | refine RP.at_ rfl rfl rfl rfl rfl rfl (.arg hm.first) (by first | assumption | omega) ?_ | refine RP.at_ rfl rfl rfl rfl rfl rfl (.arg hm.follow) (by first | assumption | omega) ?_ | refine RP.at_ rfl rfl rfl rfl rfl rfl (.arg hm.last) (by first | assumption | omega) ?_ | refine RP.at_ rfl rfl rfl rfl rfl rfl (.arg hv) (by first | assumption | omega) ?_
            refine RP.gtrue rfl ?_
            first | refine RP.faddr_p rfl rfl rfl rfl rfl (.arg hm.spots) (by first | assumption | omega) ?_ | refine RP.faddr_p rfl rfl rfl rfl rfl (.arg hm.first) (by first | assumption | omega) ?_ | refine RP.faddr_p rfl rfl rfl rfl rfl (.arg hm.follow) (by first | assumption | omega) ?_ | refine RP.faddr_p rfl rfl rfl rfl rfl (.arg hm.last) (by first | assumption | omega) ?_ | refine RP.faddr_p rfl rfl rfl rfl rfl (.arg hv) (by first | assumption | omega) ?_
            refine RP.gtrue rfl ?_
            first | refine RP.load_elN rfl rfl rfl rfl rfl (.arg hm.spots) (by first | assumption | omega) rfl ?_ | refine RP.load_elN rfl rfl rfl rfl rfl (.arg hm.first) (by first | assumption | omega) rfl ?_ | refine RP.load_elN rfl rfl rfl rfl rfl (.arg hm.follow) (by first | assumption | omega) rfl ?_ | refine RP.load_elN rfl rfl rfl rfl rfl (.arg hm.last) (by first | assumption | omega) rfl ?_ | refine RP.load_elN rfl rfl rfl rfl rfl (.arg hv) (by first | assumption | omega) rfl ?_
            refine RP.gtrue rfl ?_
            refine RP.move rfl rfl ?_
            refine RP.gtrue rfl ?_
            refine RP.call rfl rfl rfl hlo (fun st' lo' hi' hl' => refIn_ok hl' (hok _ (List.getElem_mem hltn))) ?_
            rintro _ _ ⟨rfl, rfl⟩
            refine RP.pick_ rfl rfl rfl ?_
            refine RP.nil ?_
            refine WP.cond_b rfl (fun hc57 => ?_) (fun hc57 => ?_)
            · skip
              refine WP.region ?_
              refine RP.move rfl rfl ?_
              refine RP.move rfl rfl ?_
              refine RP.bslice [(n : Int)] rfl rfl rfl rfl rfl rfl rfl rfl rfl rfl fI_len ?_
              intro v60 p60 hl60
              refine RP.append rfl rfl rfl rfl rfl rfl rfl rfl hI2 (fun _ => (by repeat (first | exact .here | apply HUpd.there | apply HUpd.app))) (.lin fI_len hl60 (by repeat (first | exact .here | apply HIn.there | apply HIn.app))) (flat_all fI_sc _) (by simp only [List.length_singleton]; omega) (fun e => (by first | rfl | cases e)) hlo ?_
              intro v61 p61 hl61
              refine RP.assign rfl rfl ?_
              refine RP.nil ?_
              refine WP.region ?_
              refine RP.move rfl rfl ?_
              refine RP.add rfl rfl rfl (by omega) (by omega) ?_
              refine RP.assign rfl rfl ?_
              refine RP.nil ?_
              have hsp : intoG m xs fs ch n = (may && inB m.spots[n] ch) := by
                unfold intoG inSpot
                rw [hall, List.getElem?_eq_getElem hltn]
              refine roundQ.mk (Q := fun _ _ _ => True) (n + 1, v61, p61) ⟨rfl, rfl, rfl, rfl, rfl, rfl, trivial⟩ (.cons (by repeat (first | exact .here | apply HRem.there | apply HRem.app)) (.cons (by repeat (first | exact .here | apply HRem.there | apply HRem.app)) .nil)) (by
                try dsimp only
                exact ⟨hltn, by rw [lst_step, hsp, hg48, Bool.true_and, if_pos hc57]; exact hl61⟩) (by
                try dsimp only
                omega)
            · skip
              refine WP.skip ?_
              refine WP.region ?_
              refine RP.move rfl rfl ?_
              refine RP.add rfl rfl rfl (by omega) (by omega) ?_
              refine RP.assign rfl rfl ?_
              refine RP.nil ?_
              have hsp : intoG m xs fs ch n = (may && inB m.spots[n] ch) := by
                unfold intoG inSpot
                rw [hall, List.getElem?_eq_getElem hltn]
              refine roundQ.mk (Q := fun _ _ _ => True) (n + 1, vo, po) ⟨rfl, rfl, rfl, rfl, rfl, rfl, trivial⟩ (.cons (by repeat (first | exact .here | apply HRem.there | apply HRem.app)) (.cons (by repeat (first | exact .here | apply HRem.there | apply HRem.app)) .nil)) (by
                try dsimp only
                exact ⟨hltn, by rw [lst_step, hsp, hg48, Bool.true_and, if_neg (by simpa using hc57), List.append_nil]; exact hI2⟩) (by
                try dsimp only
                omega)
          · skip
            refine RP.gfalse rfl rfl ?_
            refine RP.gfalse rfl rfl ?_
            refine RP.gfalse rfl rfl ?_
            refine RP.gfalse rfl rfl ?_
            refine RP.gfalse rfl rfl ?_
            refine RP.gfalse rfl rfl ?_
            refine RP.gfalse rfl rfl ?_
            refine RP.gfalse rfl rfl ?_
            refine RP.pick_ rfl rfl rfl ?_
            refine RP.nil ?_
            refine WP.cond_f rfl ?_
            refine WP.skip ?_
            refine WP.region ?_
            refine RP.move rfl rfl ?_
            refine RP.add rfl rfl rfl (by omega) (by omega) ?_
            refine RP.assign rfl rfl ?_
            refine RP.nil ?_
            have hsp : intoG m xs fs ch n = (may && inB m.spots[n] ch) := by
              unfold intoG inSpot
              rw [hall, List.getElem?_eq_getElem hltn]
            refine roundQ.mk (Q := fun _ _ _ => True) (n + 1, vo, po) ⟨rfl, rfl, rfl, rfl, rfl, rfl, trivial⟩ (.cons (by repeat (first | exact .here | apply HRem.there | apply HRem.app)) (.cons (by repeat (first | exact .here | apply HRem.there | apply HRem.app)) .nil)) (by
              try dsimp only
              exact ⟨hltn, by rw [lst_step, hsp, hg48, Bool.false_and, if_neg Bool.false_ne_true, List.append_nil]; exact hI2⟩) (by
              try dsimp only
              omega)
      · skip
        have hall : comeG m xs fs n = may := by rw [hK2, List.take_of_length_le (by omega)]
        refine RP.move rfl rfl ?_
        refine RP.gfalse rfl rfl ?_
        refine RP.gfalse rfl rfl ?_
        refine RP.pick_ rfl rfl rfl ?_
        refine RP.nil ?_
        refine WP.cond_f rfl ?_
        refine WP.exit ?_
        refine WP.seq ?_
        refine WP.region ?_
        refine RP.move rfl rfl ?_
        refine RP.move rfl rfl ?_
        refine RP.cases (d := 48) rfl (fun hg48 => ?_) (fun hg48 => ?_)
        · skip
          refine RP.gtrue rfl ?_
          refine RP.faddr rfl rfl rfl ?_
          refine RP.gtrue rfl ?_
          refine RP.load_box rfl rfl rfl rfl (by repeat (first | exact .here | apply HIn.there | apply HIn.app)) rfl ?_
          refine RP.gtrue rfl ?_
          refine RP.move rfl rfl ?_
          refine RP.gtrue rfl ?_
          first | refine RP.at_ rfl rfl rfl rfl rfl rfl (.arg hm.spots) (by first | assumption | omega) ?_ | refine RP.at_ rfl rfl rfl rfl rfl rfl (.arg hm.first) (by first | assumption | omega) ?_ | refine RP.at_ rfl rfl rfl rfl rfl rfl (.arg hm.follow) (by first | assumption | omega) ?_ | refine RP.at_ rfl rfl rfl rfl rfl rfl (.arg hm.last) (by first | assumption | omega) ?_ | refine RP.at_ rfl rfl rfl rfl rfl rfl (.arg hv) (by first | assumption | omega) ?_
          refine RP.gtrue rfl ?_
          first | refine RP.faddr_p rfl rfl rfl rfl rfl (.arg hm.spots) (by first | assumption | omega) ?_ | refine RP.faddr_p rfl rfl rfl rfl rfl (.arg hm.first) (by first | assumption | omega) ?_ | refine RP.faddr_p rfl rfl rfl rfl rfl (.arg hm.follow) (by first | assumption | omega) ?_ | refine RP.faddr_p rfl rfl rfl rfl rfl (.arg hm.last) (by first | assumption | omega) ?_ | refine RP.faddr_p rfl rfl rfl rfl rfl (.arg hv) (by first | assumption | omega) ?_
          refine RP.gtrue rfl ?_
          first | refine RP.load_elN rfl rfl rfl rfl rfl (.arg hm.spots) (by first | assumption | omega) rfl ?_ | refine RP.load_elN rfl rfl rfl rfl rfl (.arg hm.first) (by first | assumption | omega) rfl ?_ | refine RP.load_elN rfl rfl rfl rfl rfl (.arg hm.follow) (by first | assumption | omega) rfl ?_ | refine RP.load_elN rfl rfl rfl rfl rfl (.arg hm.last) (by first | assumption | omega) rfl ?_ | refine RP.load_elN rfl rfl rfl rfl rfl (.arg hv) (by first | assumption | omega) rfl ?_
          refine RP.gtrue rfl ?_
          refine RP.move rfl rfl ?_
          refine RP.gtrue rfl ?_
          refine RP.call rfl rfl rfl hlo (fun st' lo' hi' hl' => refIn_ok hl' (hok _ (List.getElem_mem hltn))) ?_
          rintro _ _ ⟨rfl, rfl⟩
          refine RP.pick_ rfl rfl rfl ?_
          refine RP.nil ?_
          refine WP.cond_b rfl (fun hc57 => ?_) (fun hc57 => ?_)
          · skip
            refine WP.region ?_
            refine RP.move rfl rfl ?_
            refine RP.move rfl rfl ?_
            refine RP.bslice [(n : Int)] rfl rfl rfl rfl rfl rfl rfl rfl rfl rfl fI_len ?_
            intro v60 p60 hl60
            refine RP.append rfl rfl rfl rfl rfl rfl rfl rfl hI2 (fun _ => (by repeat (first | exact .here | apply HUpd.there | apply HUpd.app))) (.lin fI_len hl60 (by repeat (first | exact .here | apply HIn.there | apply HIn.app))) (flat_all fI_sc _) (by simp only [List.length_singleton]; omega) (fun e => (by first | rfl | cases e)) hlo ?_
            intro v61 p61 hl61
            refine RP.assign rfl rfl ?_
            refine RP.nil ?_
            refine WP.region ?_
            refine RP.move rfl rfl ?_
            refine RP.add rfl rfl rfl (by omega) (by omega) ?_
            refine RP.assign rfl rfl ?_
            refine RP.nil ?_
            have hsp : intoG m xs fs ch n = (may && inB m.spots[n] ch) := by
              unfold intoG inSpot
              rw [hall, List.getElem?_eq_getElem hltn]
            refine roundQ.mk (Q := fun _ _ _ => True) (n + 1, v61, p61) ⟨rfl, rfl, rfl, rfl, rfl, rfl, trivial⟩ (.cons (by repeat (first | exact .here | apply HRem.there | apply HRem.app)) (.cons (by repeat (first | exact .here | apply HRem.there | apply HRem.app)) .nil)) (by
              try dsimp only
              exact ⟨hltn, by rw [lst_step, hsp, hg48, Bool.true_and, if_pos hc57]; exact hl61⟩) (by
              try dsimp only
              omega)
          · skip
            refine WP.skip ?_
            refine WP.region ?_
            refine RP.move rfl rfl ?_
            refine RP.add rfl rfl rfl (by omega) (by omega) ?_
            refine RP.assign rfl rfl ?_
            refine RP.nil ?_
            have hsp : intoG m xs fs ch n = (may && inB m.spots[n] ch) := by
              unfold intoG inSpot
              rw [hall, List.getElem?_eq_getElem hltn]
            refine roundQ.mk (Q := fun _ _ _ => True) (n + 1, vo, po) ⟨rfl, rfl, rfl, rfl, rfl, rfl, trivial⟩ (.cons (by repeat (first | exact .here | apply HRem.there | apply HRem.app)) (.cons (by repeat (first | exact .here | apply HRem.there | apply HRem.app)) .nil)) (by
              try dsimp only
              exact ⟨hltn, by rw [lst_step, hsp, hg48, Bool.true_and, if_neg (by simpa using hc57), List.append_nil]; exact hI2⟩) (by
              try dsimp only
              omega)
        · skip
          refine RP.gfalse rfl rfl ?_
          refine RP.gfalse rfl rfl ?_
          refine RP.gfalse rfl rfl ?_
          refine RP.gfalse rfl rfl ?_
          refine RP.gfalse rfl rfl ?_
          refine RP.gfalse rfl rfl ?_
          refine RP.gfalse rfl rfl ?_
          refine RP.gfalse rfl rfl ?_
          refine RP.pick_ rfl rfl rfl ?_
          refine RP.nil ?_
          refine WP.cond_f rfl ?_
          refine WP.skip ?_
          refine WP.region ?_
          refine RP.move rfl rfl ?_
          refine RP.add rfl rfl rfl (by omega) (by omega) ?_
          refine RP.assign rfl rfl ?_
          refine RP.nil ?_
          have hsp : intoG m xs fs ch n = (may && inB m.spots[n] ch) := by
            unfold intoG inSpot
            rw [hall, List.getElem?_eq_getElem hltn]
          refine roundQ.mk (Q := fun _ _ _ => True) (n + 1, vo, po) ⟨rfl, rfl, rfl, rfl, rfl, rfl, trivial⟩ (.cons (by repeat (first | exact .here | apply HRem.there | apply HRem.app)) (.cons (by repeat (first | exact .here | apply HRem.there | apply HRem.app)) .nil)) (by
            try dsimp only
            exact ⟨hltn, by rw [lst_step, hsp, hg48, Bool.false_and, if_neg Bool.false_ne_true, List.append_nil]; exact hI2⟩) (by
            try dsimp only
            omega)
  · skip
    refine RP.nil ?_
    refine WP.cond_f rfl ?_
    refine WP.exit ?_
    refine WP.seq ?_
    refine WP.region ?_
    refine RP.move rfl rfl ?_
    refine RP.assign rfl rfl ?_
    refine RP.nil ?_
    refine WP.ret ?_
    exact End.one (Or.inr rfl) rfl (.tmp rfl) (.cons (by repeat (first | exact .here | apply HRem.there | apply HRem.app)) .nil) ⟨po, rfl, by rw [show n = m.spots.length by omega] at hI2; exact hI2⟩
end
end Go.Proofs.Ytpkeggejofeeeaa

namespace Go.Proofs.Ytpkeggejofeeeaa
open Go.Proofs.Ytpkeggejofeeeaa.Lvm Go

section
variable {bm : Nat → Nat → Option LV} {st : LSt} {lo : Nat} {a b c d : LV} {m : Mach} {fol : List (LV × List Int)}


theorem refrun_ok (hlo : lo ≤ st.nxt) (hm : MA (EE bm) st a b c d m fol) (h0 : Small60 m fol) (hok : ∀ s ∈ m.spots, SpotOk s) {w : ByteArray} (hw : w.size ≤ 1000000) :
    Fin (EE bm) lo 28 [mv a b c d m, .str w] st (fun v H => (¬ GoodM m ∧ v = .bool false ∧ H = []) ∨ (GoodM m ∧ v = .bool (takesF m w.data.toList) ∧ H = [])) := by
  obtain ⟨h01, h02, h03, h04, h05⟩ := h0
  have hfl := hm.len
  have hwl : w.data.toList.length = w.size := Array.length_toList
  refine Fin.of_body (fn := Try.f28) (c := Try.f28.body.getD .skip) rfl rfl rfl rfl ?_
  refine WP.seq ?_
  refine WP.region ?_
  refine RP.box rfl rfl hm.sc (fun L2 => ?_)
  refine RP.assign rfl rfl ?_
  refine RP.nil ?_
  refine WP.seq ?_
  refine WP.seq ?_
  refine WP.region ?_
  refine RP.load_boxN rfl rfl rfl rfl rfl (by repeat (first | exact .here | apply HIn.there | apply HIn.app)) rfl ?_
  refine RP.call rfl rfl rfl hlo (fun st' lo' hi' hl' => refright_ok hl' (hm.inv hi') (by omega) (fun j hj => by have := h05 j hj; omega)) ?_
  rintro _ _ (⟨hgd, rfl, rfl⟩ | ⟨hng, rfl, rfl⟩)
  · skip
    have hgf := hgd.flen
    have hgl := hgd.llen
    refine RP.un rfl rfl rfl ?_
    refine RP.nil ?_
    refine WP.cond_f rfl ?_
    refine WP.skip ?_
    refine WP.seq ?_
    refine WP.seq ?_
    refine WP.region ?_
    refine RP.move rfl rfl ?_
    refine RP.len_v rfl rfl (fun _ => rfl) ?_
    refine RP.eql rfl rfl rfl (fun h13 => ?_) (fun h13 => ?_)
    · skip
      refine RP.nil ?_
      refine WP.cond_t rfl ?_
      refine WP.seq ?_
      refine WP.region ?_
      refine RP.faddr rfl rfl rfl ?_
      refine RP.load_box rfl rfl rfl rfl (by repeat (first | exact .here | apply HIn.there | apply HIn.app)) rfl ?_
      refine RP.assign rfl rfl ?_
      refine RP.nil ?_
      refine WP.ret ?_
      exact End.one (Or.inr rfl) rfl (.tmp rfl) .nil (Or.inr ⟨hgd, by rw [show w.data.toList = [] by cases hwc : w.data.toList with
          | nil => rfl
          | cons x y => rw [hwc] at hwl; simp only [List.length_cons] at hwl; omega]; rfl, rfl⟩)
    · skip
      refine RP.nil ?_
      refine WP.cond_f rfl ?_
      refine WP.skip ?_
      refine WP.seq ?_
      refine WP.ghost .dead ?_
      refine WP.region ?_
      refine RP.assign rfl rfl ?_
      refine RP.nil ?_
      refine WP.seq ?_
      refine WP.seq ?_
      refine WP.region ?_
      refine RP.assign rfl rfl ?_
      refine RP.nil ?_
      refine WP.block rfl ?_
      refine WP.loop (α := Nat × LV × HE × List Int) (fun gh => [(1, .str w), (2, .ptr (.own L2) 0), (5, gh.2.1), (6, .int .i64 (gh.1 : Int))]) (fun gh => [(some L2, .cells (mv a b c d m).cells), gh.2.2.1]) (fun gh => gh.1 ≤ w.size ∧ Lin 1 fI true gh.2.1 gh.2.2.2 gh.2.2.1 ∧ (∀ x ∈ gh.2.2.2, 0 ≤ x ∧ x.toNat < m.spots.length) ∧ gh.2.2.2.length ≤ m.spots.length ∧ (gh.1 = 0 ∧ gh.2.2.2 = [] ∨ 0 < gh.1 ∧ takesF m w.data.toList = anyAt m.spots.length (memI gh.2.2.2) (goW m (w.data.toList.drop gh.1)))) (fun gh => w.size - gh.1) ?_ (0, .nilsl, (none, .dead), []) ⟨rfl, rfl, rfl, rfl, trivial⟩ (.cons (by repeat (first | exact .here | apply HRem.there | apply HRem.app)) (.cons (by repeat (first | exact .here | apply HRem.there | apply HRem.app)) .nil)) (by
        try dsimp only
        exact ⟨Nat.zero_le _, .nil, by simp, Nat.zero_le _, Or.inl ⟨rfl, rfl⟩⟩)
      rintro ⟨i, va, pa, xs⟩ hI
      change i ≤ w.size ∧ Lin 1 fI true va xs pa ∧ (∀ x ∈ xs, 0 ≤ x ∧ x.toNat < m.spots.length) ∧ xs.length ≤ m.spots.length ∧ (i = 0 ∧ xs = [] ∨ 0 < i ∧ takesF m w.data.toList = anyAt m.spots.length (memI xs) (goW m (w.data.toList.drop i))) at hI
      change WP _ _ _ _ _ [(1, .str w), (2, .ptr (.own L2) 0), (5, va), (6, .int .i64 (i : Int))] ([(some L2, .cells (mv a b c d m).cells), pa] : HL) _
      obtain ⟨hI1, hI2, hI3, hI4, hI5⟩ := hI
      refine WP.seq ?_
      refine WP.seq ?_
      refine WP.region ?_
      refine RP.move rfl rfl ?_
      refine RP.move rfl rfl ?_
      refine RP.len_v rfl rfl (fun _ => rfl) ?_
      refine RP.lss rfl rfl rfl (fun h19 => ?_) (fun h19 => ?_)
      · skip
        have hlw : i < w.data.toList.length := by omega
        refine RP.nil ?_
        refine WP.cond_t rfl ?_
        refine WP.skip ?_
        refine WP.seq ?_
        refine WP.block rfl ?_
        refine WP.drawn (by kernel_rfl) ?_
        refine RP.load_boxN rfl rfl rfl rfl rfl (by repeat (first | exact .here | apply HIn.there | apply HIn.app)) rfl ?_
        refine RP.move rfl rfl ?_
        refine RP.move rfl rfl ?_
        refine RP.eql rfl rfl rfl (fun h25 => ?_) (fun h25 => ?_)
        · skip
          refine RP.move rfl rfl ?_
          refine RP.move rfl rfl ?_
          refine RP.idx_str rfl rfl rfl rfl rfl (List.getElem?_eq_getElem (by first | assumption | omega)) ?_
          refine RP.call rfl rfl rfl hlo (fun st' lo' hi' hl' => step_ok hl' (hm.inv hi') hgd hok (by omega) (by omega) (fun j hj => by have := h05 j hj; omega) (SlH.lin fI_len hI2 (by repeat (first | exact .here | apply HIn.there | apply HIn.app)) _ hi') (by omega) hI3) ?_
          rintro v29 _ ⟨p29, rfl, hl29⟩
          refine RP.assign rfl rfl ?_
          refine RP.nil ?_
          refine WP.region ?_
          refine RP.move rfl rfl ?_
          refine RP.add rfl rfl rfl (by omega) (by omega) ?_
          refine RP.assign rfl rfl ?_
          refine RP.nil ?_
          have hnx : takesF m w.data.toList = anyAt m.spots.length (memI (stepF m xs true w.data.toList[i])) (goW m (w.data.toList.drop (i + 1))) := by
            obtain rfl : i = 0 := by omega
            obtain rfl : xs = [] := by rcases hI5 with h | h; (· exact h.2); (· omega)
            have h1 := List.drop_eq_getElem_cons hlw
            rw [List.drop_zero] at h1
            have h2 := step_first hgd (c := w.data.toList[0]) (r := w.data.toList.drop (0 + 1))
            rw [← h1] at h2; exact h2
          refine roundQ.mk (Q := fun _ _ _ => True) (i + 1, v29, p29, _) ⟨rfl, rfl, rfl, rfl, trivial⟩ (.cons (by repeat (first | exact .here | apply HRem.there | apply HRem.app)) (.cons (by repeat (first | exact .here | apply HRem.there | apply HRem.app)) .nil)) (by
            try dsimp only
            exact ⟨by omega, hl29, stepF_range, stepF_len, Or.inr ⟨by omega, hnx⟩⟩) (by
            try dsimp only
            omega)
        · skip
          refine RP.move rfl rfl ?_
          refine RP.move rfl rfl ?_
          refine RP.idx_str rfl rfl rfl rfl rfl (List.getElem?_eq_getElem (by first | assumption | omega)) ?_
          refine RP.call rfl rfl rfl hlo (fun st' lo' hi' hl' => step_ok hl' (hm.inv hi') hgd hok (by omega) (by omega) (fun j hj => by have := h05 j hj; omega) (SlH.lin fI_len hI2 (by repeat (first | exact .here | apply HIn.there | apply HIn.app)) _ hi') (by omega) hI3) ?_
          rintro v29 _ ⟨p29, rfl, hl29⟩
          refine RP.assign rfl rfl ?_
          refine RP.nil ?_
          refine WP.region ?_
          refine RP.move rfl rfl ?_
          refine RP.add rfl rfl rfl (by omega) (by omega) ?_
          refine RP.assign rfl rfl ?_
          refine RP.nil ?_
          have hnx : takesF m w.data.toList = anyAt m.spots.length (memI (stepF m xs false w.data.toList[i])) (goW m (w.data.toList.drop (i + 1))) := by
            rcases hI5 with h | h
            · omega
            · rw [h.2, List.drop_eq_getElem_cons hlw, step_fol hgd hI3]
          refine roundQ.mk (Q := fun _ _ _ => True) (i + 1, v29, p29, _) ⟨rfl, rfl, rfl, rfl, trivial⟩ (.cons (by repeat (first | exact .here | apply HRem.there | apply HRem.app)) (.cons (by repeat (first | exact .here | apply HRem.there | apply HRem.app)) .nil)) (by
            try dsimp only
            exact ⟨by omega, hl29, stepF_range, stepF_len, Or.inr ⟨by omega, hnx⟩⟩) (by
            try dsimp only
            omega)
      · skip
        refine RP.nil ?_
        refine WP.cond_f rfl ?_
        refine WP.exit ?_
        refine WP.seq ?_
        refine WP.seq ?_
        refine WP.region ?_
        refine RP.assign rfl rfl ?_
        refine RP.nil ?_
        refine WP.block rfl ?_
        refine WP.loop (α := Nat) (fun gh => [(2, .ptr (.own L2) 0), (5, va), (7, .int .i64 (gh : Int))]) (fun gh => [(some L2, .cells (mv a b c d m).cells), pa]) (fun gh => gh ≤ xs.length ∧ anyAt m.spots.length (memI xs) (goW m []) = (xs.drop gh).any fun x => goW m [] x.toNat) (fun gh => xs.length - gh) ?_ 0 ⟨rfl, rfl, rfl, trivial⟩ (.cons (by repeat (first | exact .here | apply HRem.there | apply HRem.app)) (.cons (by repeat (first | exact .here | apply HRem.there | apply HRem.app)) .nil)) (by
          try dsimp only
          exact ⟨Nat.zero_le _, by rw [List.drop_zero, any_anyAt hI3]⟩)
        rintro k hI
        change k ≤ xs.length ∧ anyAt m.spots.length (memI xs) (goW m []) = (xs.drop k).any fun x => goW m [] x.toNat at hI
        change WP _ _ _ _ _ [(2, .ptr (.own L2) 0), (5, va), (7, .int .i64 (k : Int))] ([(some L2, .cells (mv a b c d m).cells), pa] : HL) _
        obtain ⟨hK1, hK2⟩ := hI
        refine WP.seq ?_
        refine WP.seq ?_
        refine WP.region ?_
        refine RP.move rfl rfl ?_
        refine RP.move rfl rfl ?_
        refine RP.len_sl rfl rfl (.lin fI_len hI2 (by repeat (first | exact .here | apply HIn.there | apply HIn.app))) rfl ?_
        refine RP.lss rfl rfl rfl (fun h33 => ?_) (fun h33 => ?_)
        · skip
          have hlk : k < xs.length := by omega
          have hx := hI3 xs[k] (List.getElem_mem hlk)
          have hll : xs[k].toNat < m.last.length := by omega
          have hgo : goW m [] xs[k].toNat = m.last[xs[k].toNat] := by show (m.last[xs[k].toNat]?).getD false = _; rw [List.getElem?_eq_getElem hll]; rfl
          refine RP.nil ?_
          refine WP.cond_t rfl ?_
          refine WP.skip ?_
          refine WP.seq ?_
          refine WP.block rfl ?_
          refine WP.seq ?_
          refine WP.drawn (by kernel_rfl) ?_
          refine RP.faddr rfl rfl rfl ?_
          refine RP.load_box rfl rfl rfl rfl (by repeat (first | exact .here | apply HIn.there | apply HIn.app)) rfl ?_
          refine RP.move rfl rfl ?_
          refine RP.move rfl rfl ?_
          refine RP.at_ rfl rfl rfl rfl rfl rfl (.lin fI_len hI2 (by repeat (first | exact .here | apply HIn.there | apply HIn.app))) (by first | assumption | omega) ?_
          refine RP.load_el rfl rfl rfl rfl (.lin fI_len hI2 (by repeat (first | exact .here | apply HIn.there | apply HIn.app))) (by first | assumption | omega) rfl ?_
          refine RP.at_ rfl rfl rfl (natOf_is (n := xs[k].toNat) (by omega)) rfl rfl (.arg hm.last) (by first | assumption | omega) ?_
          refine RP.load_el rfl rfl rfl rfl (.arg hm.last) (by first | assumption | omega) rfl ?_
          refine RP.nil ?_
          refine WP.cond_b rfl (fun hc43 => ?_) (fun hc43 => ?_)
          · skip
            refine WP.seq ?_
            refine WP.region ?_
            refine RP.assign rfl rfl ?_
            refine RP.nil ?_
            refine WP.ret ?_
            have hres : takesF m w.data.toList = true := by
              rcases hI5 with h | h
              · omega
              · rw [h.2, List.drop_of_length_le (by omega), hK2]; rw [List.drop_eq_getElem_cons hlk, List.any_cons, hgo, hc43, Bool.true_or]
            exact End.one (Or.inr rfl) rfl (.tmp rfl) .nil (Or.inr ⟨hgd, by rw [hres], rfl⟩)
          · skip
            refine WP.skip ?_
            refine WP.region ?_
            refine RP.move rfl rfl ?_
            refine RP.add rfl rfl rfl (by omega) (by omega) ?_
            refine RP.assign rfl rfl ?_
            refine RP.nil ?_
            refine roundQ.mk (Q := fun _ _ _ => True) (k + 1) ⟨rfl, rfl, rfl, trivial⟩ (.cons (by repeat (first | exact .here | apply HRem.there | apply HRem.app)) (.cons (by repeat (first | exact .here | apply HRem.there | apply HRem.app)) .nil)) (by
              try dsimp only
              exact ⟨hlk, by rw [hK2, List.drop_eq_getElem_cons hlk, List.any_cons, hgo, show m.last[xs[k].toNat] = false by simpa using hc43, Bool.false_or]⟩) (by
              try dsimp only
              omega)
        · skip
          refine RP.nil ?_
          refine WP.cond_f rfl ?_
          refine WP.exit ?_
          refine WP.seq ?_
          refine WP.region ?_
          refine RP.assign rfl rfl ?_
          refine RP.nil ?_
          refine WP.ret ?_
          have hres : takesF m w.data.toList = false := by
            rcases hI5 with h | h
            · omega
            · rw [h.2, List.drop_of_length_le (by omega), hK2]; rw [List.drop_of_length_le (by omega)]; rfl
          exact End.one (Or.inr rfl) rfl (.tmp rfl) .nil (Or.inr ⟨hgd, by rw [hres], rfl⟩)
  · skip
    refine RP.un rfl rfl rfl ?_
    refine RP.nil ?_
    refine WP.cond_t rfl ?_
    refine WP.seq ?_
    refine WP.region ?_
    refine RP.assign rfl rfl ?_
    refine RP.nil ?_
    refine WP.ret ?_
    exact End.one (Or.inr rfl) rfl (.tmp rfl) .nil (Or.inl ⟨hng, rfl, rfl⟩)

theorem ends_ok (hlo : lo ≤ st.nxt) (hm : MA (EE bm) st a b c d m fol) (h0 : Small60 m fol) (hgd : GoodM m) (hok : ∀ s ∈ m.spots, SpotOk s) {w : ByteArray} (hw : w.size ≤ 1000000) {z : Int} {n : Nat} (hz : z = n) (hn : n < m.spots.length) :
    Fin (EE bm) lo 29 [mv a b c d m, .int .i64 z, .str w] st (fun v H => v = .bool (goW m w.data.toList n) ∧ H = []) := by
  subst hz
  obtain ⟨h01, h02, h03, h04, h05⟩ := h0
  have hfl := hm.len
  have hgf := hgd.flen
  have hgl := hgd.llen
  have hwl : w.data.toList.length = w.size := Array.length_toList
  refine Fin.of_body (fn := Try.f29) (c := Try.f29.body.getD .skip) rfl rfl rfl rfl ?_
  refine WP.seq ?_
  refine WP.region ?_
  refine RP.box rfl rfl hm.sc (fun L3 => ?_)
  refine RP.assign rfl rfl ?_
  refine RP.nil ?_
  refine WP.seq ?_
  refine WP.region ?_
  refine RP.move rfl rfl ?_
  refine RP.bslice [(n : Int)] rfl rfl rfl rfl rfl rfl rfl rfl rfl rfl fI_len ?_
  intro v11 p11 hl11
  refine RP.assign rfl rfl ?_
  refine RP.nil ?_
  refine WP.seq ?_
  refine WP.seq ?_
  refine WP.region ?_
  refine RP.assign rfl rfl ?_
  refine RP.nil ?_
  refine WP.block rfl ?_
  refine WP.loop (α := Nat × LV × HE × List Int) (fun gh => [(2, .str w), (3, .ptr (.own L3) 0), (7, gh.2.1), (8, .int .i64 (gh.1 : Int))]) (fun gh => [(some L3, .cells (mv a b c d m).cells), gh.2.2.1]) (fun gh => gh.1 ≤ w.size ∧ Lin 1 fI true gh.2.1 gh.2.2.2 gh.2.2.1 ∧ (∀ x ∈ gh.2.2.2, 0 ≤ x ∧ x.toNat < m.spots.length) ∧ gh.2.2.2.length ≤ 1000 ∧ goW m w.data.toList n = anyAt m.spots.length (memI gh.2.2.2) (goW m (w.data.toList.drop gh.1))) (fun gh => w.size - gh.1) ?_ (0, v11, p11, [(n : Int)]) ⟨rfl, rfl, rfl, rfl, trivial⟩ (.cons (by repeat (first | exact .here | apply HRem.there | apply HRem.app)) (.cons (by repeat (first | exact .here | apply HRem.there | apply HRem.app)) .nil)) (by
    try dsimp only
    exact ⟨Nat.zero_le _, hl11, by intro x hx; obtain rfl := List.mem_singleton.1 hx; exact ⟨by omega, by simpa using hn⟩, by simp, by rw [List.drop_zero, any_one hn]⟩)
  rintro ⟨i, va, pa, xs⟩ hI
  change i ≤ w.size ∧ Lin 1 fI true va xs pa ∧ (∀ x ∈ xs, 0 ≤ x ∧ x.toNat < m.spots.length) ∧ xs.length ≤ 1000 ∧ goW m w.data.toList n = anyAt m.spots.length (memI xs) (goW m (w.data.toList.drop i)) at hI
  change WP _ _ _ _ _ [(2, .str w), (3, .ptr (.own L3) 0), (7, va), (8, .int .i64 (i : Int))] ([(some L3, .cells (mv a b c d m).cells), pa] : HL) _
  obtain ⟨hI1, hI2, hI3, hI4, hI5⟩ := hI
  refine WP.seq ?_
  refine WP.seq ?_
  refine WP.region ?_
  refine RP.move rfl rfl ?_
  refine RP.move rfl rfl ?_
  refine RP.len_v rfl rfl (fun _ => rfl) ?_
  refine RP.lss rfl rfl rfl (fun h15 => ?_) (fun h15 => ?_)
  · skip
    have hlw : i < w.data.toList.length := by omega
    refine RP.nil ?_
    refine WP.cond_t rfl ?_
    refine WP.skip ?_
    refine WP.seq ?_
    refine WP.block rfl ?_
    refine WP.drawn (by kernel_rfl) ?_
    refine RP.load_boxN rfl rfl rfl rfl rfl (by repeat (first | exact .here | apply HIn.there | apply HIn.app)) rfl ?_
    refine RP.move rfl rfl ?_
    refine RP.move rfl rfl ?_
    refine RP.move rfl rfl ?_
    refine RP.idx_str rfl rfl rfl rfl rfl (List.getElem?_eq_getElem (by first | assumption | omega)) ?_
    refine RP.call rfl rfl rfl hlo (fun st' lo' hi' hl' => step_ok hl' (hm.inv hi') hgd hok (by omega) (by omega) (fun j hj => by have := h05 j hj; omega) (SlH.lin fI_len hI2 (by repeat (first | exact .here | apply HIn.there | apply HIn.app)) _ hi') (by omega) hI3) ?_
    rintro v23 _ ⟨p23, rfl, hl23⟩
    refine RP.assign rfl rfl ?_
    refine RP.nil ?_
    refine WP.region ?_
    refine RP.move rfl rfl ?_
    refine RP.add rfl rfl rfl (by omega) (by omega) ?_
    refine RP.assign rfl rfl ?_
    refine RP.nil ?_
    refine roundQ.mk (Q := fun _ _ _ => True) (i + 1, v23, p23, _) ⟨rfl, rfl, rfl, rfl, trivial⟩ (.cons (by repeat (first | exact .here | apply HRem.there | apply HRem.app)) (.cons (by repeat (first | exact .here | apply HRem.there | apply HRem.app)) .nil)) (by
      try dsimp only
      exact ⟨by omega, hl23, stepF_range, Nat.le_trans stepF_len (by omega), by rw [hI5, List.drop_eq_getElem_cons hlw, step_fol hgd hI3]⟩) (by
      try dsimp only
      omega)
  · skip
    refine RP.nil ?_
    refine WP.cond_f rfl ?_
    refine WP.exit ?_
    refine WP.seq ?_
    refine WP.seq ?_
    refine WP.region ?_
    refine RP.assign rfl rfl ?_
    refine RP.nil ?_
    refine WP.block rfl ?_
    refine WP.loop (α := Nat) (fun gh => [(2, .str w), (3, .ptr (.own L3) 0), (7, va), (9, .int .i64 (gh : Int))]) (fun gh => [(some L3, .cells (mv a b c d m).cells), pa]) (fun gh => gh ≤ xs.length ∧ anyAt m.spots.length (memI xs) (goW m []) = (xs.drop gh).any fun x => goW m [] x.toNat) (fun gh => xs.length - gh) ?_ 0 ⟨rfl, rfl, rfl, rfl, trivial⟩ (.cons (by repeat (first | exact .here | apply HRem.there | apply HRem.app)) (.cons (by repeat (first | exact .here | apply HRem.there | apply HRem.app)) .nil)) (by
      try dsimp only
      exact ⟨Nat.zero_le _, by rw [List.drop_zero, any_anyAt hI3]⟩)
    rintro k hI
    change k ≤ xs.length ∧ anyAt m.spots.length (memI xs) (goW m []) = (xs.drop k).any fun x => goW m [] x.toNat at hI
    change WP _ _ _ _ _ [(2, .str w), (3, .ptr (.own L3) 0), (7, va), (9, .int .i64 (k : Int))] ([(some L3, .cells (mv a b c d m).cells), pa] : HL) _
    obtain ⟨hK1, hK2⟩ := hI
    refine WP.seq ?_
    refine WP.seq ?_
    refine WP.region ?_
    refine RP.move rfl rfl ?_
    refine RP.move rfl rfl ?_
    refine RP.len_sl rfl rfl (.lin fI_len hI2 (by repeat (first | exact .here | apply HIn.there | apply HIn.app))) rfl ?_
    refine RP.lss rfl rfl rfl (fun h27 => ?_) (fun h27 => ?_)
    · skip
      have hlk : k < xs.length := by omega
      have hx := hI3 xs[k] (List.getElem_mem hlk)
      have hll : xs[k].toNat < m.last.length := by omega
      have hgo : goW m [] xs[k].toNat = m.last[xs[k].toNat] := by show (m.last[xs[k].toNat]?).getD false = _; rw [List.getElem?_eq_getElem hll]; rfl
      refine RP.nil ?_
      refine WP.cond_t rfl ?_
      refine WP.skip ?_
      refine WP.seq ?_
      refine WP.block rfl ?_
      refine WP.seq ?_
      refine WP.drawn (by kernel_rfl) ?_
      refine RP.faddr rfl rfl rfl ?_
      refine RP.load_box rfl rfl rfl rfl (by repeat (first | exact .here | apply HIn.there | apply HIn.app)) rfl ?_
      refine RP.move rfl rfl ?_
      refine RP.move rfl rfl ?_
      refine RP.at_ rfl rfl rfl rfl rfl rfl (.lin fI_len hI2 (by repeat (first | exact .here | apply HIn.there | apply HIn.app))) (by first | assumption | omega) ?_
      refine RP.load_el rfl rfl rfl rfl (.lin fI_len hI2 (by repeat (first | exact .here | apply HIn.there | apply HIn.app))) (by first | assumption | omega) rfl ?_
      refine RP.at_ rfl rfl rfl (natOf_is (n := xs[k].toNat) (by omega)) rfl rfl (.arg hm.last) (by first | assumption | omega) ?_
      refine RP.load_el rfl rfl rfl rfl (.arg hm.last) (by first | assumption | omega) rfl ?_
      refine RP.nil ?_
      refine WP.cond_b rfl (fun hc37 => ?_) (fun hc37 => ?_)
      · skip
        refine WP.seq ?_
        refine WP.region ?_
        refine RP.assign rfl rfl ?_
        refine RP.nil ?_
        refine WP.ret ?_
        have hres : goW m w.data.toList n = true := by
          rw [hI5, List.drop_of_length_le (by omega), hK2]; rw [List.drop_eq_getElem_cons hlk, List.any_cons, hgo, hc37, Bool.true_or]
        exact End.one (Or.inr rfl) rfl (.tmp rfl) .nil ⟨by rw [hres], rfl⟩
      · skip
        refine WP.skip ?_
        refine WP.region ?_
        refine RP.move rfl rfl ?_
        refine RP.add rfl rfl rfl (by omega) (by omega) ?_
        refine RP.assign rfl rfl ?_
        refine RP.nil ?_
        refine roundQ.mk (Q := fun _ _ _ => True) (k + 1) ⟨rfl, rfl, rfl, rfl, trivial⟩ (.cons (by repeat (first | exact .here | apply HRem.there | apply HRem.app)) (.cons (by repeat (first | exact .here | apply HRem.there | apply HRem.app)) .nil)) (by
          try dsimp only
          exact ⟨hlk, by rw [hK2, List.drop_eq_getElem_cons hlk, List.any_cons, hgo, show m.last[xs[k].toNat] = false by simpa using hc37, Bool.false_or]⟩) (by
          try dsimp only
          omega)
    · skip
      refine RP.nil ?_
      refine WP.cond_f rfl ?_
      refine WP.exit ?_
      refine WP.seq ?_
      refine WP.region ?_
      refine RP.assign rfl rfl ?_
      refine RP.nil ?_
      refine WP.ret ?_
      have hres : goW m w.data.toList n = false := by
        rw [hI5, List.drop_of_length_le (by omega), hK2]; rw [List.drop_of_length_le (by omega)]; rfl
      exact End.one (Or.inr rfl) rfl (.tmp rfl) .nil ⟨by rw [hres], rfl⟩

theorem marked_eq (hlo : lo ≤ st.nxt) {va vb : LV} {xs : List Int} (hxl : xs.length ≤ 1000000) (ha : SlT (EE bm) st va 1 fU xs) (hb : SlT (EE bm) st vb 1 fU xs) :
    Fin (EE bm) lo 13 [va, vb] st (fun v H => v = .bool true ∧ H = []) := by
  refine Fin.of_body (fn := Try.f13) (c := Try.f13.body.getD .skip) rfl rfl rfl rfl ?_
  refine WP.seq ?_
  refine WP.region ?_
  refine RP.assign rfl rfl ?_
  refine RP.nil ?_
  refine WP.seq ?_
  refine WP.seq ?_
  refine WP.region ?_
  refine RP.move rfl rfl ?_
  refine RP.len_sl rfl rfl (.arg ha) rfl ?_
  refine RP.move rfl rfl ?_
  refine RP.len_sl rfl rfl (.arg hb) rfl ?_
  refine RP.neq_f rfl rfl rfl (by omega) ?_
  refine RP.nil ?_
  refine WP.cond_f rfl ?_
  refine WP.skip ?_
  refine WP.seq ?_
  refine WP.seq ?_
  refine WP.region ?_
  refine RP.assign rfl rfl ?_
  refine RP.nil ?_
  refine WP.block rfl ?_
  refine WP.loop (α := Nat) (fun gh => [(0, va), (1, vb), (5, .int .i64 (gh : Int))]) (fun gh => []) (fun gh => gh ≤ xs.length) (fun gh => xs.length - gh) ?_ 0 ⟨rfl, rfl, rfl, trivial⟩ .nil (by
    try dsimp only
    exact Nat.zero_le _)
  rintro i hI
  change i ≤ xs.length at hI
  change WP _ _ _ _ _ [(0, va), (1, vb), (5, .int .i64 (i : Int))] ([] : HL) _
  refine WP.seq ?_
  refine WP.seq ?_
  refine WP.region ?_
  refine RP.move rfl rfl ?_
  refine RP.move rfl rfl ?_
  refine RP.len_sl rfl rfl (.arg ha) rfl ?_
  refine RP.lss rfl rfl rfl (fun h14 => ?_) (fun h14 => ?_)
  · skip
    have hlt : i < xs.length := by omega
    refine RP.nil ?_
    refine WP.cond_t rfl ?_
    refine WP.skip ?_
    refine WP.seq ?_
    refine WP.block rfl ?_
    refine WP.seq ?_
    refine WP.drawn (by kernel_rfl) ?_
    refine RP.move rfl rfl ?_
    refine RP.move rfl rfl ?_
    refine RP.at_ rfl rfl rfl rfl rfl rfl (.arg ha) (by first | assumption | omega) ?_
    refine RP.load_el rfl rfl rfl rfl (.arg ha) (by first | assumption | omega) rfl ?_
    refine RP.move rfl rfl ?_
    refine RP.move rfl rfl ?_
    refine RP.at_ rfl rfl rfl rfl rfl rfl (.arg hb) (by first | assumption | omega) ?_
    refine RP.load_el rfl rfl rfl rfl (.arg hb) (by first | assumption | omega) rfl ?_
    refine RP.bin (v := .bool false) rfl rfl rfl (by show some (LV.bool (xs[i] != xs[i])) = _; rw [bne_self_eq_false]) ?_
    refine RP.nil ?_
    refine WP.cond_f rfl ?_
    refine WP.skip ?_
    refine WP.region ?_
    refine RP.move rfl rfl ?_
    refine RP.add rfl rfl rfl (by omega) (by omega) ?_
    refine RP.assign rfl rfl ?_
    refine RP.nil ?_
    refine roundQ.mk (Q := fun _ _ _ => True) (i + 1) ⟨rfl, rfl, rfl, trivial⟩ .nil (by
      try dsimp only
      exact hlt) (by
      try dsimp only
      omega)
  · skip
    refine RP.nil ?_
    refine WP.cond_f rfl ?_
    refine WP.exit ?_
    refine WP.seq ?_
    refine WP.region ?_
    refine RP.assign rfl rfl ?_
    refine RP.nil ?_
    refine WP.ret ?_
    exact End.one (Or.inr rfl) rfl (.tmp rfl) .nil ⟨rfl, rfl⟩
end
end Go.Proofs.Ytpkeggejofeeeaa

namespace Go.Proofs.Ytpkeggejofeeeaa
open Go.Proofs.Ytpkeggejofeeeaa.Lvm Go

section
variable {bm : Nat → Nat → Option LV} {st : LSt} {lo : Nat} {a b c d : LV} {m : Mach} {fol : List (LV × List Int)}

theorem refmarks_ok (hlo : lo ≤ st.nxt) (hm : MA (EE bm) st a b c d m fol) (h0 : Small60 m fol) (hok : ∀ s ∈ m.spots, SpotOk s) {w : ByteArray} (hw : w.size ≤ 1000000) :
    Fin (EE bm) lo 12 [mv a b c d m, .str w] st (fun v H => ∃ (p : HE) (v' : LV) (ok : Bool) (tags : List Int), H = [p] ∧ Lin 1 fU true v' tags p ∧ v = .tup [v', .bool ok] ∧ MarksSpec m w.data.toList ok tags) := by
  have h0' := h0
  obtain ⟨h01, h02, h03, h04, h05⟩ := h0
  have hfl := hm.len
  have hwl : w.data.toList.length = w.size := Array.length_toList
  refine Fin.of_body (fn := Try.f12) (c := Try.f12.body.getD .skip) rfl rfl rfl rfl ?_
  refine WP.seq ?_
  refine WP.region ?_
  refine RP.box rfl rfl hm.sc (fun L2 => ?_)
  refine RP.assign rfl rfl ?_
  refine RP.assign rfl rfl ?_
  refine RP.nil ?_
  refine WP.seq ?_
  refine WP.seq ?_
  refine WP.region ?_
  refine RP.load_boxN rfl rfl rfl rfl rfl (by repeat (first | exact .here | apply HIn.there | apply HIn.app)) rfl ?_
  refine RP.move rfl rfl ?_
  refine RP.call rfl rfl rfl hlo (fun st' lo' hi' hl' => refrun_ok hl' (hm.inv hi') h0' hok hw) ?_
  rintro _ _ (⟨hng, rfl, rfl⟩ | ⟨hgd, rfl, rfl⟩)
  · skip
    have hres : MarksSpec m w.data.toList false [] := .bad hng
    refine RP.un rfl rfl rfl ?_
    refine RP.nil ?_
    refine WP.cond_t rfl ?_
    refine WP.seq ?_
    refine WP.ghost .dead ?_
    refine WP.region ?_
    refine RP.assign rfl rfl ?_
    refine RP.assign rfl rfl ?_
    refine RP.nil ?_
    refine WP.ret ?_
    refine End.two (Or.inr rfl) rfl (.tmp rfl) (.tmp rfl) (.cons (by repeat (first | exact .here | apply HRem.there | apply HRem.app)) .nil) ⟨_, _, _, _, rfl, .nil, rfl, ?_⟩
    exact hres
  · skip
    have hgf := hgd.flen
    have hgl := hgd.llen
    refine RP.un rfl rfl rfl ?_
    refine RP.nil ?_
    refine WP.cond_b rfl (fun hc15 => ?_) (fun hc15 => ?_)
    · skip
      have htk : takesF m w.data.toList = false := by simpa using hc15
      have hres : MarksSpec m w.data.toList false [] := by
        by_cases hwe : w.data.toList = []
        · rw [show false = m.empty by rw [hwe] at htk; exact htk.symm]; exact .none hgd hwe
        · refine .no hgd hwe ?_
          have h1 := markF_isSome (m := m) (xs := m.first) hwe
          rw [← takes_any hwe, htk] at h1
          simpa using h1
      refine WP.seq ?_
      refine WP.ghost .dead ?_
      refine WP.region ?_
      refine RP.assign rfl rfl ?_
      refine RP.assign rfl rfl ?_
      refine RP.nil ?_
      refine WP.ret ?_
      refine End.two (Or.inr rfl) rfl (.tmp rfl) (.tmp rfl) (.cons (by repeat (first | exact .here | apply HRem.there | apply HRem.app)) .nil) ⟨_, _, _, _, rfl, .nil, rfl, ?_⟩
      exact hres
    · skip
      have htk : takesF m w.data.toList = true := by simpa using hc15
      obtain ⟨Q, hQ⟩ : ∃ Q, markF m w.data.toList m.first = some Q := by
        by_cases hwe : w.data.toList = []
        · rw [hwe]; exact ⟨[], rfl⟩
        · have h1 := markF_isSome (m := m) (xs := m.first) hwe
          rw [← takes_any hwe, htk] at h1
          exact Option.isSome_iff_exists.1 h1
      refine WP.skip ?_
      refine WP.seq ?_
      refine WP.ghost .dead ?_
      refine WP.region ?_
      refine RP.assign rfl rfl ?_
      refine RP.nil ?_
      refine WP.seq ?_
      refine WP.ghost .dead ?_
      refine WP.region ?_
      refine RP.assign rfl rfl ?_
      refine RP.nil ?_
      refine WP.seq ?_
      refine WP.seq ?_
      refine WP.region ?_
      refine RP.assign rfl rfl ?_
      refine RP.nil ?_
      refine WP.block rfl ?_
      refine WP.loop (α := Nat × LV × HE × List Int × LV × HE × List Int × List Int) (fun gh => [(1, .str w), (2, .ptr (.own L2) 0), (6, gh.2.2.2.2.1), (7, gh.2.1), (8, .int .i64 (gh.1 : Int))]) (fun gh => [(some L2, .cells (mv a b c d m).cells), gh.2.2.1, gh.2.2.2.2.2.1]) (fun gh => gh.1 ≤ w.size ∧ Lin 1 fI true gh.2.1 gh.2.2.2.1 gh.2.2.1 ∧ (∀ x ∈ gh.2.2.2.1, 0 ≤ x ∧ x.toNat < m.spots.length) ∧ gh.2.2.2.1.length ≤ 1 ∧ (∀ n, comeG m gh.2.2.2.1 (decide (gh.1 = 0)) n = memI gh.2.2.2.2.2.2.2 n) ∧ risingF m.spots.length (-1) gh.2.2.2.2.2.2.2 = true ∧ Lin 1 fU true gh.2.2.2.2.1 gh.2.2.2.2.2.2.1 gh.2.2.2.2.2.1 ∧ gh.2.2.2.2.2.2.1.length ≤ gh.1 ∧ (markF m (w.data.toList.drop gh.1) gh.2.2.2.2.2.2.2).map (gh.2.2.2.2.2.2.1 ++ ·) = some Q) (fun gh => w.size - gh.1) ?_ (0, .nilsl, (none, .dead), [], .nilsl, (none, .dead), [], m.first) ⟨rfl, rfl, rfl, rfl, rfl, trivial⟩ (.cons (by repeat (first | exact .here | apply HRem.there | apply HRem.app)) (.cons (by repeat (first | exact .here | apply HRem.there | apply HRem.app)) (.cons (by repeat (first | exact .here | apply HRem.there | apply HRem.app)) .nil))) (by
        try dsimp only
        exact ⟨Nat.zero_le _, .nil, by simp, Nat.zero_le _, fun n => come_first, hgd.first, .nil, Nat.le_refl _, by rw [List.drop_zero, hQ]; rfl⟩)
      rintro ⟨i, va, pa, ys, vo, po, tags, xs⟩ hI
      change i ≤ w.size ∧ Lin 1 fI true va ys pa ∧ (∀ x ∈ ys, 0 ≤ x ∧ x.toNat < m.spots.length) ∧ ys.length ≤ 1 ∧ (∀ n, comeG m ys (decide (i = 0)) n = memI xs n) ∧ risingF m.spots.length (-1) xs = true ∧ Lin 1 fU true vo tags po ∧ tags.length ≤ i ∧ (markF m (w.data.toList.drop i) xs).map (tags ++ ·) = some Q at hI
      change WP _ _ _ _ _ [(1, .str w), (2, .ptr (.own L2) 0), (6, vo), (7, va), (8, .int .i64 (i : Int))] ([(some L2, .cells (mv a b c d m).cells), pa, po] : HL) _
      obtain ⟨hI1, hI2, hI3, hI4, hI5, hI6, hI7, hI8, hI9⟩ := hI
      refine WP.seq ?_
      refine WP.seq ?_
      refine WP.region ?_
      refine RP.move rfl rfl ?_
      refine RP.move rfl rfl ?_
      refine RP.len_v rfl rfl (fun _ => rfl) ?_
      refine RP.lss rfl rfl rfl (fun h19 => ?_) (fun h19 => ?_)
      · skip
        have hlw : i < w.data.toList.length := by omega
        have hdrop := List.drop_eq_getElem_cons hlw
        refine RP.nil ?_
        refine WP.cond_t rfl ?_
        refine WP.skip ?_
        refine WP.seq ?_
        refine WP.block rfl ?_
        refine WP.seq ?_
        refine WP.drawn (by kernel_rfl) ?_
        refine RP.load_boxN rfl rfl rfl rfl rfl (by repeat (first | exact .here | apply HIn.there | apply HIn.app)) rfl ?_
        refine RP.move rfl rfl ?_
        refine RP.move rfl rfl ?_
        refine RP.eql rfl rfl rfl (fun h25 => ?_) (fun h25 => ?_)
        · skip
          refine RP.move rfl rfl ?_
          refine RP.move rfl rfl ?_
          refine RP.idx_str rfl rfl rfl rfl rfl (List.getElem?_eq_getElem (by first | assumption | omega)) ?_
          refine RP.call rfl rfl rfl hlo (fun st' lo' hi' hl' => step_ok hl' (hm.inv hi') hgd hok (by omega) (by omega) (fun j hj => by have := h05 j hj; omega) (SlH.lin fI_len hI2 (by repeat (first | exact .here | apply HIn.there | apply HIn.app)) _ hi') (by omega) hI3) ?_
          rintro v29 _ ⟨p29, rfl, hl29⟩
          obtain ⟨ls, hls⟩ : ∃ ls, ls = stepF m ys (decide (i = 0)) w.data.toList[i] := ⟨_, rfl⟩
          replace hl29 : Lin 1 fI true v29 ls p29 := by
            have e : decide (i = 0) = true := decide_eq_true (by omega)
            rw [hls, e]; exact hl29
          have hlr : ∀ x ∈ ls, 0 ≤ x ∧ x.toNat < m.spots.length := hls ▸ stepF_range
          have hll : ls.length ≤ 60 := by rw [hls]; exact Nat.le_trans stepF_len h01
          have hfe : ls.find? (fun x => goW m (w.data.toList.drop (i + 1)) x.toNat) = xs.find? fun x => accept m (w.data.toList[i] :: w.data.toList.drop (i + 1)) x.toNat := by rw [hls]; exact step_find hI6 fun n _ => hI5 n
          refine RP.assign rfl rfl ?_
          refine RP.nil ?_
          refine WP.seq ?_
          refine WP.region ?_
          refine RP.assign rfl rfl ?_
          refine RP.nil ?_
          refine WP.seq ?_
          refine WP.seq ?_
          refine WP.region ?_
          refine RP.assign rfl rfl ?_
          refine RP.nil ?_
          refine WP.block rfl ?_
          refine WP.loop (α := Nat × Int) (fun gh => [(1, .str w), (2, .ptr (.own L2) 0), (6, vo), (8, .int .i64 (i : Int)), (9, v29), (10, .int .i64 gh.2), (11, .int .i64 (gh.1 : Int))]) (fun gh => [(some L2, .cells (mv a b c d m).cells), p29, po]) (fun gh => gh.1 ≤ ls.length ∧ (gh.2 = -1 ∧ ls.find? (fun x => goW m (w.data.toList.drop (i + 1)) x.toNat) = (ls.drop gh.1).find? (fun x => goW m (w.data.toList.drop (i + 1)) x.toNat) ∨ 0 ≤ gh.2 ∧ ls.find? (fun x => goW m (w.data.toList.drop (i + 1)) x.toNat) = some gh.2)) (fun gh => ls.length - gh.1) ?_ (0, -1) ⟨rfl, rfl, rfl, rfl, rfl, rfl, rfl, trivial⟩ (.cons (by repeat (first | exact .here | apply HRem.there | apply HRem.app)) (.cons (by repeat (first | exact .here | apply HRem.there | apply HRem.app)) (.cons (by repeat (first | exact .here | apply HRem.there | apply HRem.app)) .nil))) (by
            try dsimp only
            exact ⟨Nat.zero_le _, Or.inl ⟨rfl, rfl⟩⟩)
          rintro ⟨k, z⟩ hI
          change k ≤ ls.length ∧ (z = -1 ∧ ls.find? (fun x => goW m (w.data.toList.drop (i + 1)) x.toNat) = (ls.drop k).find? (fun x => goW m (w.data.toList.drop (i + 1)) x.toNat) ∨ 0 ≤ z ∧ ls.find? (fun x => goW m (w.data.toList.drop (i + 1)) x.toNat) = some z) at hI
          change WP _ _ _ _ _ [(1, .str w), (2, .ptr (.own L2) 0), (6, vo), (8, .int .i64 (i : Int)), (9, v29), (10, .int .i64 z), (11, .int .i64 (k : Int))] ([(some L2, .cells (mv a b c d m).cells), p29, po] : HL) _
          obtain ⟨hK1, hK2⟩ := hI
          refine WP.seq ?_
          refine WP.seq ?_
          refine WP.region ?_
          refine RP.move rfl rfl ?_
          refine RP.move rfl rfl ?_
          refine RP.len_sl rfl rfl (.lin fI_len hl29 (by repeat (first | exact .here | apply HIn.there | apply HIn.app))) rfl ?_
          refine RP.lss rfl rfl rfl (fun h33 => ?_) (fun h33 => ?_)
          · skip
            refine RP.move rfl rfl ?_
            refine RP.gtrue rfl ?_
            refine RP.move rfl rfl ?_
            refine RP.gtrue rfl ?_
            refine RP.lss rfl rfl rfl (fun h36 => ?_) (fun h36 => ?_)
            · skip
              have hlk : k < ls.length := by omega
              have hx := hlr ls[k] (List.getElem_mem hlk)
              have hz1 : z = -1 := by rcases hK2 with h | h; (· exact h.1); (· omega)
              have hws : (w.extract (i + 1) w.size).data.toList = w.data.toList.drop (i + 1) := by rw [ByteArray.data_extract, Array.toList_extract, List.extract, List.take_of_length_le (by rw [List.length_drop, hwl]; exact Nat.le_refl _)]
              have hrs : (w.extract (i + 1) w.size).size = w.size - (i + 1) := by rw [size_list, hws, List.length_drop, hwl]
              refine RP.pick_ rfl rfl rfl ?_
              refine RP.nil ?_
              refine WP.cond_t rfl ?_
              refine WP.skip ?_
              refine WP.seq ?_
              refine WP.block rfl ?_
              refine WP.seq ?_
              refine WP.drawn (by kernel_rfl) ?_
              refine RP.load_boxN rfl rfl rfl rfl rfl (by repeat (first | exact .here | apply HIn.there | apply HIn.app)) rfl ?_
              refine RP.move rfl rfl ?_
              refine RP.move rfl rfl ?_
              refine RP.at_ rfl rfl rfl rfl rfl rfl (.lin fI_len hl29 (by repeat (first | exact .here | apply HIn.there | apply HIn.app))) (by first | assumption | omega) ?_
              refine RP.load_el rfl rfl rfl rfl (.lin fI_len hl29 (by repeat (first | exact .here | apply HIn.there | apply HIn.app))) (by first | assumption | omega) rfl ?_
              refine RP.move rfl rfl ?_
              refine RP.move rfl rfl ?_
              refine RP.add rfl rfl rfl (by omega) (by omega) ?_
              refine RP.rest_str rfl rfl rfl (natOf_is (n := i + 1) (by omega)) rfl (by omega) ?_
              refine RP.call (Q := fun v H => v = LV.bool (goW m (w.extract (i + 1) w.size).data.toList ls[k].toNat) ∧ H = []) rfl rfl rfl hlo (fun st' lo' hi' hl' => ends_ok hl' (hm.inv hi') h0' hgd hok (w := w.extract (i + 1) w.size) (z := ls[k]'hlk) (by rw [hrs]; omega) (n := (ls[k]'hlk).toNat) (by omega) hx.2) ?_
              rintro _ _ ⟨rfl, rfl⟩
              refine RP.nil ?_
              refine WP.cond_b rfl (fun hc49 => ?_) (fun hc49 => ?_)
              · skip
                refine WP.region ?_
                refine RP.move rfl rfl ?_
                refine RP.move rfl rfl ?_
                refine RP.at_ rfl rfl rfl rfl rfl rfl (.lin fI_len hl29 (by repeat (first | exact .here | apply HIn.there | apply HIn.app))) (by first | assumption | omega) ?_
                refine RP.load_el rfl rfl rfl rfl (.lin fI_len hl29 (by repeat (first | exact .here | apply HIn.there | apply HIn.app))) (by first | assumption | omega) rfl ?_
                refine RP.assign rfl rfl ?_
                refine RP.nil ?_
                refine WP.region ?_
                refine RP.move rfl rfl ?_
                refine RP.add rfl rfl rfl (by omega) (by omega) ?_
                refine RP.assign rfl rfl ?_
                refine RP.nil ?_
                have hK3 : ls.find? (fun x => goW m (w.data.toList.drop (i + 1)) x.toNat) = (ls.drop k).find? (fun x => goW m (w.data.toList.drop (i + 1)) x.toNat) := by
                  rcases hK2 with h | h
                  · exact h.2
                  · omega
                rw [List.drop_eq_getElem_cons hlk, List.find?_cons, ← hws, hc49] at hK3
                refine roundQ.mk (Q := fun _ _ _ => True) (k + 1, ls[k]) ⟨rfl, rfl, rfl, rfl, rfl, rfl, rfl, trivial⟩ (.cons (by repeat (first | exact .here | apply HRem.there | apply HRem.app)) (.cons (by repeat (first | exact .here | apply HRem.there | apply HRem.app)) (.cons (by repeat (first | exact .here | apply HRem.there | apply HRem.app)) .nil))) (by
                  try dsimp only
                  exact ⟨by omega, Or.inr ⟨by omega, by rw [← hws]; exact hK3⟩⟩) (by
                  try dsimp only
                  omega)
              · skip
                refine WP.skip ?_
                refine WP.region ?_
                refine RP.move rfl rfl ?_
                refine RP.add rfl rfl rfl (by omega) (by omega) ?_
                refine RP.assign rfl rfl ?_
                refine RP.nil ?_
                have hK3 : ls.find? (fun x => goW m (w.data.toList.drop (i + 1)) x.toNat) = (ls.drop k).find? (fun x => goW m (w.data.toList.drop (i + 1)) x.toNat) := by
                  rcases hK2 with h | h
                  · exact h.2
                  · omega
                rw [List.drop_eq_getElem_cons hlk, List.find?_cons, ← hws, hc49] at hK3
                refine roundQ.mk (Q := fun _ _ _ => True) (k + 1, z) ⟨rfl, rfl, rfl, rfl, rfl, rfl, rfl, trivial⟩ (.cons (by repeat (first | exact .here | apply HRem.there | apply HRem.app)) (.cons (by repeat (first | exact .here | apply HRem.there | apply HRem.app)) (.cons (by repeat (first | exact .here | apply HRem.there | apply HRem.app)) .nil))) (by
                  try dsimp only
                  exact ⟨by omega, Or.inl ⟨hz1, by rw [← hws]; exact hK3⟩⟩) (by
                  try dsimp only
                  omega)
            · skip
              refine RP.pick_ rfl rfl rfl ?_
              refine RP.nil ?_
              refine WP.cond_f rfl ?_
              refine WP.exit ?_
              refine WP.seq ?_
              have hfx : xs.find? (fun x => accept m (w.data.toList[i] :: w.data.toList.drop (i + 1)) x.toNat) = some z := by
                rw [← hfe]
                rcases hK2 with ⟨hz1, h⟩ | h
                · exfalso
                  have e : ls.drop k = [] := List.drop_of_length_le (by omega)
                  rw [e] at h
                  rw [hdrop, markF, ← hfe, h] at hI9
                  cases hI9
                · exact h.2
              have hzr := hlr z (List.mem_of_find?_eq_some (by rw [hfe]; exact hfx))
              have hzs := hzr.2
              refine WP.region ?_
              refine RP.move rfl rfl ?_
              refine RP.bslice [z] rfl rfl rfl rfl rfl rfl rfl rfl rfl rfl fI_len ?_
              intro v55 p55 hl55
              refine RP.assign rfl rfl ?_
              refine RP.nil ?_
              refine WP.region ?_
              refine RP.move rfl rfl ?_
              refine RP.faddr rfl rfl rfl ?_
              refine RP.load_box rfl rfl rfl rfl (by repeat (first | exact .here | apply HIn.there | apply HIn.app)) rfl ?_
              refine RP.move rfl rfl ?_
              refine RP.at_ rfl rfl rfl (natOf_is (n := z.toNat) (by omega)) rfl rfl (.arg hm.spots) (by first | assumption | omega) ?_
              first | refine RP.faddr_p rfl rfl rfl rfl rfl (.arg hm.spots) (by first | assumption | omega) ?_ | refine RP.faddr_p rfl rfl rfl rfl rfl (.arg hm.first) (by first | assumption | omega) ?_ | refine RP.faddr_p rfl rfl rfl rfl rfl (.arg hm.follow) (by first | assumption | omega) ?_ | refine RP.faddr_p rfl rfl rfl rfl rfl (.arg hm.last) (by first | assumption | omega) ?_
              first | refine RP.load_el rfl rfl rfl rfl (.arg hm.spots) (by first | assumption | omega) rfl ?_ | refine RP.load_el rfl rfl rfl rfl (.arg hm.first) (by first | assumption | omega) rfl ?_ | refine RP.load_el rfl rfl rfl rfl (.arg hm.follow) (by first | assumption | omega) rfl ?_ | refine RP.load_el rfl rfl rfl rfl (.arg hm.last) (by first | assumption | omega) rfl ?_
              refine RP.bslice [m.spots[z.toNat].tag] rfl rfl rfl rfl rfl rfl rfl rfl rfl rfl fU_len ?_
              intro v63 p63 hl63
              refine RP.append rfl rfl rfl rfl rfl rfl rfl rfl hI7 (fun _ => (by repeat (first | exact .here | apply HUpd.there | apply HUpd.app))) (.lin fU_len hl63 (by repeat (first | exact .here | apply HIn.there | apply HIn.app))) (flat_all fU_sc _) (by simp only [List.length_singleton]; omega) (fun e => (by first | rfl | cases e)) hlo ?_
              intro v64 p64 hl64
              refine RP.assign rfl rfl ?_
              refine RP.nil ?_
              refine WP.region ?_
              refine RP.move rfl rfl ?_
              refine RP.add rfl rfl rfl (by omega) (by omega) ?_
              refine RP.assign rfl rfl ?_
              refine RP.nil ?_
              refine roundQ.mk (Q := fun _ _ _ => True) (i + 1, v55, p55, [z], v64, p64, tags ++ [m.spots[z.toNat].tag], folOf m z.toNat) ⟨rfl, rfl, rfl, rfl, rfl, trivial⟩ (.cons (by repeat (first | exact .here | apply HRem.there | apply HRem.app)) (.cons (by repeat (first | exact .here | apply HRem.there | apply HRem.app)) (.cons (by repeat (first | exact .here | apply HRem.there | apply HRem.app)) .nil))) (by
                try dsimp only
                exact ⟨by omega, hl55, fun x hx => by obtain rfl := List.mem_singleton.1 hx; exact hzr, by simp, fun n => by rw [show decide (i + 1 = 0) = false by simp]; exact come_one, hgd.rise _, hl64, by rw [List.length_append]; simp only [List.length_singleton]; omega, by
                  rw [← hI9, hdrop, markF, hfx, Option.map_map, show tagOf m z.toNat = m.spots[z.toNat].tag by unfold tagOf; rw [List.getElem?_eq_getElem hzs]]
                  cases markF m (w.data.toList.drop (i + 1)) (folOf m z.toNat) with
                  | none => rfl
                  | some l => simp⟩) (by
                try dsimp only
                omega)
          · skip
            refine RP.move rfl rfl ?_
            refine RP.gfalse rfl rfl ?_
            refine RP.gfalse rfl rfl ?_
            refine RP.pick_ rfl rfl rfl ?_
            refine RP.nil ?_
            refine WP.cond_f rfl ?_
            refine WP.exit ?_
            refine WP.seq ?_
            have hfx : xs.find? (fun x => accept m (w.data.toList[i] :: w.data.toList.drop (i + 1)) x.toNat) = some z := by
              rw [← hfe]
              rcases hK2 with ⟨hz1, h⟩ | h
              · exfalso
                have e : ls.drop k = [] := List.drop_of_length_le (by omega)
                rw [e] at h
                rw [hdrop, markF, ← hfe, h] at hI9
                cases hI9
              · exact h.2
            have hzr := hlr z (List.mem_of_find?_eq_some (by rw [hfe]; exact hfx))
            have hzs := hzr.2
            refine WP.region ?_
            refine RP.move rfl rfl ?_
            refine RP.bslice [z] rfl rfl rfl rfl rfl rfl rfl rfl rfl rfl fI_len ?_
            intro v55 p55 hl55
            refine RP.assign rfl rfl ?_
            refine RP.nil ?_
            refine WP.region ?_
            refine RP.move rfl rfl ?_
            refine RP.faddr rfl rfl rfl ?_
            refine RP.load_box rfl rfl rfl rfl (by repeat (first | exact .here | apply HIn.there | apply HIn.app)) rfl ?_
            refine RP.move rfl rfl ?_
            refine RP.at_ rfl rfl rfl (natOf_is (n := z.toNat) (by omega)) rfl rfl (.arg hm.spots) (by first | assumption | omega) ?_
            first | refine RP.faddr_p rfl rfl rfl rfl rfl (.arg hm.spots) (by first | assumption | omega) ?_ | refine RP.faddr_p rfl rfl rfl rfl rfl (.arg hm.first) (by first | assumption | omega) ?_ | refine RP.faddr_p rfl rfl rfl rfl rfl (.arg hm.follow) (by first | assumption | omega) ?_ | refine RP.faddr_p rfl rfl rfl rfl rfl (.arg hm.last) (by first | assumption | omega) ?_
            first | refine RP.load_el rfl rfl rfl rfl (.arg hm.spots) (by first | assumption | omega) rfl ?_ | refine RP.load_el rfl rfl rfl rfl (.arg hm.first) (by first | assumption | omega) rfl ?_ | refine RP.load_el rfl rfl rfl rfl (.arg hm.follow) (by first | assumption | omega) rfl ?_ | refine RP.load_el rfl rfl rfl rfl (.arg hm.last) (by first | assumption | omega) rfl ?_
            refine RP.bslice [m.spots[z.toNat].tag] rfl rfl rfl rfl rfl rfl rfl rfl rfl rfl fU_len ?_
            intro v63 p63 hl63
            refine RP.append rfl rfl rfl rfl rfl rfl rfl rfl hI7 (fun _ => (by repeat (first | exact .here | apply HUpd.there | apply HUpd.app))) (.lin fU_len hl63 (by repeat (first | exact .here | apply HIn.there | apply HIn.app))) (flat_all fU_sc _) (by simp only [List.length_singleton]; omega) (fun e => (by first | rfl | cases e)) hlo ?_
            intro v64 p64 hl64
            refine RP.assign rfl rfl ?_
            refine RP.nil ?_
            refine WP.region ?_
            refine RP.move rfl rfl ?_
            refine RP.add rfl rfl rfl (by omega) (by omega) ?_
            refine RP.assign rfl rfl ?_
            refine RP.nil ?_
            refine roundQ.mk (Q := fun _ _ _ => True) (i + 1, v55, p55, [z], v64, p64, tags ++ [m.spots[z.toNat].tag], folOf m z.toNat) ⟨rfl, rfl, rfl, rfl, rfl, trivial⟩ (.cons (by repeat (first | exact .here | apply HRem.there | apply HRem.app)) (.cons (by repeat (first | exact .here | apply HRem.there | apply HRem.app)) (.cons (by repeat (first | exact .here | apply HRem.there | apply HRem.app)) .nil))) (by
              try dsimp only
              exact ⟨by omega, hl55, fun x hx => by obtain rfl := List.mem_singleton.1 hx; exact hzr, by simp, fun n => by rw [show decide (i + 1 = 0) = false by simp]; exact come_one, hgd.rise _, hl64, by rw [List.length_append]; simp only [List.length_singleton]; omega, by
                rw [← hI9, hdrop, markF, hfx, Option.map_map, show tagOf m z.toNat = m.spots[z.toNat].tag by unfold tagOf; rw [List.getElem?_eq_getElem hzs]]
                cases markF m (w.data.toList.drop (i + 1)) (folOf m z.toNat) with
                | none => rfl
                | some l => simp⟩) (by
              try dsimp only
              omega)
        · skip
          refine RP.move rfl rfl ?_
          refine RP.move rfl rfl ?_
          refine RP.idx_str rfl rfl rfl rfl rfl (List.getElem?_eq_getElem (by first | assumption | omega)) ?_
          refine RP.call rfl rfl rfl hlo (fun st' lo' hi' hl' => step_ok hl' (hm.inv hi') hgd hok (by omega) (by omega) (fun j hj => by have := h05 j hj; omega) (SlH.lin fI_len hI2 (by repeat (first | exact .here | apply HIn.there | apply HIn.app)) _ hi') (by omega) hI3) ?_
          rintro v29 _ ⟨p29, rfl, hl29⟩
          obtain ⟨ls, hls⟩ : ∃ ls, ls = stepF m ys (decide (i = 0)) w.data.toList[i] := ⟨_, rfl⟩
          replace hl29 : Lin 1 fI true v29 ls p29 := by
            have e : decide (i = 0) = false := decide_eq_false (by omega)
            rw [hls, e]; exact hl29
          have hlr : ∀ x ∈ ls, 0 ≤ x ∧ x.toNat < m.spots.length := hls ▸ stepF_range
          have hll : ls.length ≤ 60 := by rw [hls]; exact Nat.le_trans stepF_len h01
          have hfe : ls.find? (fun x => goW m (w.data.toList.drop (i + 1)) x.toNat) = xs.find? fun x => accept m (w.data.toList[i] :: w.data.toList.drop (i + 1)) x.toNat := by rw [hls]; exact step_find hI6 fun n _ => hI5 n
          refine RP.assign rfl rfl ?_
          refine RP.nil ?_
          refine WP.seq ?_
          refine WP.region ?_
          refine RP.assign rfl rfl ?_
          refine RP.nil ?_
          refine WP.seq ?_
          refine WP.seq ?_
          refine WP.region ?_
          refine RP.assign rfl rfl ?_
          refine RP.nil ?_
          refine WP.block rfl ?_
          refine WP.loop (α := Nat × Int) (fun gh => [(1, .str w), (2, .ptr (.own L2) 0), (6, vo), (8, .int .i64 (i : Int)), (9, v29), (10, .int .i64 gh.2), (11, .int .i64 (gh.1 : Int))]) (fun gh => [(some L2, .cells (mv a b c d m).cells), p29, po]) (fun gh => gh.1 ≤ ls.length ∧ (gh.2 = -1 ∧ ls.find? (fun x => goW m (w.data.toList.drop (i + 1)) x.toNat) = (ls.drop gh.1).find? (fun x => goW m (w.data.toList.drop (i + 1)) x.toNat) ∨ 0 ≤ gh.2 ∧ ls.find? (fun x => goW m (w.data.toList.drop (i + 1)) x.toNat) = some gh.2)) (fun gh => ls.length - gh.1) ?_ (0, -1) ⟨rfl, rfl, rfl, rfl, rfl, rfl, rfl, trivial⟩ (.cons (by repeat (first | exact .here | apply HRem.there | apply HRem.app)) (.cons (by repeat (first | exact .here | apply HRem.there | apply HRem.app)) (.cons (by repeat (first | exact .here | apply HRem.there | apply HRem.app)) .nil))) (by
            try dsimp only
            exact ⟨Nat.zero_le _, Or.inl ⟨rfl, rfl⟩⟩)
          rintro ⟨k, z⟩ hI
          change k ≤ ls.length ∧ (z = -1 ∧ ls.find? (fun x => goW m (w.data.toList.drop (i + 1)) x.toNat) = (ls.drop k).find? (fun x => goW m (w.data.toList.drop (i + 1)) x.toNat) ∨ 0 ≤ z ∧ ls.find? (fun x => goW m (w.data.toList.drop (i + 1)) x.toNat) = some z) at hI
          change WP _ _ _ _ _ [(1, .str w), (2, .ptr (.own L2) 0), (6, vo), (8, .int .i64 (i : Int)), (9, v29), (10, .int .i64 z), (11, .int .i64 (k : Int))] ([(some L2, .cells (mv a b c d m).cells), p29, po] : HL) _
          obtain ⟨hK1, hK2⟩ := hI
          refine WP.seq ?_
          refine WP.seq ?_
          refine WP.region ?_
          refine RP.move rfl rfl ?_
          refine RP.move rfl rfl ?_
          refine RP.len_sl rfl rfl (.lin fI_len hl29 (by repeat (first | exact .here | apply HIn.there | apply HIn.app))) rfl ?_
          refine RP.lss rfl rfl rfl (fun h33 => ?_) (fun h33 => ?_)
          · skip
            refine RP.move rfl rfl ?_
            refine RP.gtrue rfl ?_
            refine RP.move rfl rfl ?_
            refine RP.gtrue rfl ?_
            refine RP.lss rfl rfl rfl (fun h36 => ?_) (fun h36 => ?_)
            · skip
              have hlk : k < ls.length := by omega
              have hx := hlr ls[k] (List.getElem_mem hlk)
              have hz1 : z = -1 := by rcases hK2 with h | h; (· exact h.1); (· omega)
              have hws : (w.extract (i + 1) w.size).data.toList = w.data.toList.drop (i + 1) := by rw [ByteArray.data_extract, Array.toList_extract, List.extract, List.take_of_length_le (by rw [List.length_drop, hwl]; exact Nat.le_refl _)]
              have hrs : (w.extract (i + 1) w.size).size = w.size - (i + 1) := by rw [size_list, hws, List.length_drop, hwl]
              refine RP.pick_ rfl rfl rfl ?_
              refine RP.nil ?_
              refine WP.cond_t rfl ?_
              refine WP.skip ?_
              refine WP.seq ?_
              refine WP.block rfl ?_
              refine WP.seq ?_
              refine WP.drawn (by kernel_rfl) ?_
              refine RP.load_boxN rfl rfl rfl rfl rfl (by repeat (first | exact .here | apply HIn.there | apply HIn.app)) rfl ?_
              refine RP.move rfl rfl ?_
              refine RP.move rfl rfl ?_
              refine RP.at_ rfl rfl rfl rfl rfl rfl (.lin fI_len hl29 (by repeat (first | exact .here | apply HIn.there | apply HIn.app))) (by first | assumption | omega) ?_
              refine RP.load_el rfl rfl rfl rfl (.lin fI_len hl29 (by repeat (first | exact .here | apply HIn.there | apply HIn.app))) (by first | assumption | omega) rfl ?_
              refine RP.move rfl rfl ?_
              refine RP.move rfl rfl ?_
              refine RP.add rfl rfl rfl (by omega) (by omega) ?_
              refine RP.rest_str rfl rfl rfl (natOf_is (n := i + 1) (by omega)) rfl (by omega) ?_
              refine RP.call (Q := fun v H => v = LV.bool (goW m (w.extract (i + 1) w.size).data.toList ls[k].toNat) ∧ H = []) rfl rfl rfl hlo (fun st' lo' hi' hl' => ends_ok hl' (hm.inv hi') h0' hgd hok (w := w.extract (i + 1) w.size) (z := ls[k]'hlk) (by rw [hrs]; omega) (n := (ls[k]'hlk).toNat) (by omega) hx.2) ?_
              rintro _ _ ⟨rfl, rfl⟩
              refine RP.nil ?_
              refine WP.cond_b rfl (fun hc49 => ?_) (fun hc49 => ?_)
              · skip
                refine WP.region ?_
                refine RP.move rfl rfl ?_
                refine RP.move rfl rfl ?_
                refine RP.at_ rfl rfl rfl rfl rfl rfl (.lin fI_len hl29 (by repeat (first | exact .here | apply HIn.there | apply HIn.app))) (by first | assumption | omega) ?_
                refine RP.load_el rfl rfl rfl rfl (.lin fI_len hl29 (by repeat (first | exact .here | apply HIn.there | apply HIn.app))) (by first | assumption | omega) rfl ?_
                refine RP.assign rfl rfl ?_
                refine RP.nil ?_
                refine WP.region ?_
                refine RP.move rfl rfl ?_
                refine RP.add rfl rfl rfl (by omega) (by omega) ?_
                refine RP.assign rfl rfl ?_
                refine RP.nil ?_
                have hK3 : ls.find? (fun x => goW m (w.data.toList.drop (i + 1)) x.toNat) = (ls.drop k).find? (fun x => goW m (w.data.toList.drop (i + 1)) x.toNat) := by
                  rcases hK2 with h | h
                  · exact h.2
                  · omega
                rw [List.drop_eq_getElem_cons hlk, List.find?_cons, ← hws, hc49] at hK3
                refine roundQ.mk (Q := fun _ _ _ => True) (k + 1, ls[k]) ⟨rfl, rfl, rfl, rfl, rfl, rfl, rfl, trivial⟩ (.cons (by repeat (first | exact .here | apply HRem.there | apply HRem.app)) (.cons (by repeat (first | exact .here | apply HRem.there | apply HRem.app)) (.cons (by repeat (first | exact .here | apply HRem.there | apply HRem.app)) .nil))) (by
                  try dsimp only
                  exact ⟨by omega, Or.inr ⟨by omega, by rw [← hws]; exact hK3⟩⟩) (by
                  try dsimp only
                  omega)
              · skip
                refine WP.skip ?_
                refine WP.region ?_
                refine RP.move rfl rfl ?_
                refine RP.add rfl rfl rfl (by omega) (by omega) ?_
                refine RP.assign rfl rfl ?_
                refine RP.nil ?_
                have hK3 : ls.find? (fun x => goW m (w.data.toList.drop (i + 1)) x.toNat) = (ls.drop k).find? (fun x => goW m (w.data.toList.drop (i + 1)) x.toNat) := by
                  rcases hK2 with h | h
                  · exact h.2
                  · omega
                rw [List.drop_eq_getElem_cons hlk, List.find?_cons, ← hws, hc49] at hK3
                refine roundQ.mk (Q := fun _ _ _ => True) (k + 1, z) ⟨rfl, rfl, rfl, rfl, rfl, rfl, rfl, trivial⟩ (.cons (by repeat (first | exact .here | apply HRem.there | apply HRem.app)) (.cons (by repeat (first | exact .here | apply HRem.there | apply HRem.app)) (.cons (by repeat (first | exact .here | apply HRem.there | apply HRem.app)) .nil))) (by
                  try dsimp only
                  exact ⟨by omega, Or.inl ⟨hz1, by rw [← hws]; exact hK3⟩⟩) (by
                  try dsimp only
                  omega)
            · skip
              refine RP.pick_ rfl rfl rfl ?_
              refine RP.nil ?_
              refine WP.cond_f rfl ?_
              refine WP.exit ?_
              refine WP.seq ?_
              have hfx : xs.find? (fun x => accept m (w.data.toList[i] :: w.data.toList.drop (i + 1)) x.toNat) = some z := by
                rw [← hfe]
                rcases hK2 with ⟨hz1, h⟩ | h
                · exfalso
                  have e : ls.drop k = [] := List.drop_of_length_le (by omega)
                  rw [e] at h
                  rw [hdrop, markF, ← hfe, h] at hI9
                  cases hI9
                · exact h.2
              have hzr := hlr z (List.mem_of_find?_eq_some (by rw [hfe]; exact hfx))
              have hzs := hzr.2
              refine WP.region ?_
              refine RP.move rfl rfl ?_
              refine RP.bslice [z] rfl rfl rfl rfl rfl rfl rfl rfl rfl rfl fI_len ?_
              intro v55 p55 hl55
              refine RP.assign rfl rfl ?_
              refine RP.nil ?_
              refine WP.region ?_
              refine RP.move rfl rfl ?_
              refine RP.faddr rfl rfl rfl ?_
              refine RP.load_box rfl rfl rfl rfl (by repeat (first | exact .here | apply HIn.there | apply HIn.app)) rfl ?_
              refine RP.move rfl rfl ?_
              refine RP.at_ rfl rfl rfl (natOf_is (n := z.toNat) (by omega)) rfl rfl (.arg hm.spots) (by first | assumption | omega) ?_
              first | refine RP.faddr_p rfl rfl rfl rfl rfl (.arg hm.spots) (by first | assumption | omega) ?_ | refine RP.faddr_p rfl rfl rfl rfl rfl (.arg hm.first) (by first | assumption | omega) ?_ | refine RP.faddr_p rfl rfl rfl rfl rfl (.arg hm.follow) (by first | assumption | omega) ?_ | refine RP.faddr_p rfl rfl rfl rfl rfl (.arg hm.last) (by first | assumption | omega) ?_
              first | refine RP.load_el rfl rfl rfl rfl (.arg hm.spots) (by first | assumption | omega) rfl ?_ | refine RP.load_el rfl rfl rfl rfl (.arg hm.first) (by first | assumption | omega) rfl ?_ | refine RP.load_el rfl rfl rfl rfl (.arg hm.follow) (by first | assumption | omega) rfl ?_ | refine RP.load_el rfl rfl rfl rfl (.arg hm.last) (by first | assumption | omega) rfl ?_
              refine RP.bslice [m.spots[z.toNat].tag] rfl rfl rfl rfl rfl rfl rfl rfl rfl rfl fU_len ?_
              intro v63 p63 hl63
              refine RP.append rfl rfl rfl rfl rfl rfl rfl rfl hI7 (fun _ => (by repeat (first | exact .here | apply HUpd.there | apply HUpd.app))) (.lin fU_len hl63 (by repeat (first | exact .here | apply HIn.there | apply HIn.app))) (flat_all fU_sc _) (by simp only [List.length_singleton]; omega) (fun e => (by first | rfl | cases e)) hlo ?_
              intro v64 p64 hl64
              refine RP.assign rfl rfl ?_
              refine RP.nil ?_
              refine WP.region ?_
              refine RP.move rfl rfl ?_
              refine RP.add rfl rfl rfl (by omega) (by omega) ?_
              refine RP.assign rfl rfl ?_
              refine RP.nil ?_
              refine roundQ.mk (Q := fun _ _ _ => True) (i + 1, v55, p55, [z], v64, p64, tags ++ [m.spots[z.toNat].tag], folOf m z.toNat) ⟨rfl, rfl, rfl, rfl, rfl, trivial⟩ (.cons (by repeat (first | exact .here | apply HRem.there | apply HRem.app)) (.cons (by repeat (first | exact .here | apply HRem.there | apply HRem.app)) (.cons (by repeat (first | exact .here | apply HRem.there | apply HRem.app)) .nil))) (by
                try dsimp only
                exact ⟨by omega, hl55, fun x hx => by obtain rfl := List.mem_singleton.1 hx; exact hzr, by simp, fun n => by rw [show decide (i + 1 = 0) = false by simp]; exact come_one, hgd.rise _, hl64, by rw [List.length_append]; simp only [List.length_singleton]; omega, by
                  rw [← hI9, hdrop, markF, hfx, Option.map_map, show tagOf m z.toNat = m.spots[z.toNat].tag by unfold tagOf; rw [List.getElem?_eq_getElem hzs]]
                  cases markF m (w.data.toList.drop (i + 1)) (folOf m z.toNat) with
                  | none => rfl
                  | some l => simp⟩) (by
                try dsimp only
                omega)
          · skip
            refine RP.move rfl rfl ?_
            refine RP.gfalse rfl rfl ?_
            refine RP.gfalse rfl rfl ?_
            refine RP.pick_ rfl rfl rfl ?_
            refine RP.nil ?_
            refine WP.cond_f rfl ?_
            refine WP.exit ?_
            refine WP.seq ?_
            have hfx : xs.find? (fun x => accept m (w.data.toList[i] :: w.data.toList.drop (i + 1)) x.toNat) = some z := by
              rw [← hfe]
              rcases hK2 with ⟨hz1, h⟩ | h
              · exfalso
                have e : ls.drop k = [] := List.drop_of_length_le (by omega)
                rw [e] at h
                rw [hdrop, markF, ← hfe, h] at hI9
                cases hI9
              · exact h.2
            have hzr := hlr z (List.mem_of_find?_eq_some (by rw [hfe]; exact hfx))
            have hzs := hzr.2
            refine WP.region ?_
            refine RP.move rfl rfl ?_
            refine RP.bslice [z] rfl rfl rfl rfl rfl rfl rfl rfl rfl rfl fI_len ?_
            intro v55 p55 hl55
            refine RP.assign rfl rfl ?_
            refine RP.nil ?_
            refine WP.region ?_
            refine RP.move rfl rfl ?_
            refine RP.faddr rfl rfl rfl ?_
            refine RP.load_box rfl rfl rfl rfl (by repeat (first | exact .here | apply HIn.there | apply HIn.app)) rfl ?_
            refine RP.move rfl rfl ?_
            refine RP.at_ rfl rfl rfl (natOf_is (n := z.toNat) (by omega)) rfl rfl (.arg hm.spots) (by first | assumption | omega) ?_
            first | refine RP.faddr_p rfl rfl rfl rfl rfl (.arg hm.spots) (by first | assumption | omega) ?_ | refine RP.faddr_p rfl rfl rfl rfl rfl (.arg hm.first) (by first | assumption | omega) ?_ | refine RP.faddr_p rfl rfl rfl rfl rfl (.arg hm.follow) (by first | assumption | omega) ?_ | refine RP.faddr_p rfl rfl rfl rfl rfl (.arg hm.last) (by first | assumption | omega) ?_
            first | refine RP.load_el rfl rfl rfl rfl (.arg hm.spots) (by first | assumption | omega) rfl ?_ | refine RP.load_el rfl rfl rfl rfl (.arg hm.first) (by first | assumption | omega) rfl ?_ | refine RP.load_el rfl rfl rfl rfl (.arg hm.follow) (by first | assumption | omega) rfl ?_ | refine RP.load_el rfl rfl rfl rfl (.arg hm.last) (by first | assumption | omega) rfl ?_
            refine RP.bslice [m.spots[z.toNat].tag] rfl rfl rfl rfl rfl rfl rfl rfl rfl rfl fU_len ?_
            intro v63 p63 hl63
            refine RP.append rfl rfl rfl rfl rfl rfl rfl rfl hI7 (fun _ => (by repeat (first | exact .here | apply HUpd.there | apply HUpd.app))) (.lin fU_len hl63 (by repeat (first | exact .here | apply HIn.there | apply HIn.app))) (flat_all fU_sc _) (by simp only [List.length_singleton]; omega) (fun e => (by first | rfl | cases e)) hlo ?_
            intro v64 p64 hl64
            refine RP.assign rfl rfl ?_
            refine RP.nil ?_
            refine WP.region ?_
            refine RP.move rfl rfl ?_
            refine RP.add rfl rfl rfl (by omega) (by omega) ?_
            refine RP.assign rfl rfl ?_
            refine RP.nil ?_
            refine roundQ.mk (Q := fun _ _ _ => True) (i + 1, v55, p55, [z], v64, p64, tags ++ [m.spots[z.toNat].tag], folOf m z.toNat) ⟨rfl, rfl, rfl, rfl, rfl, trivial⟩ (.cons (by repeat (first | exact .here | apply HRem.there | apply HRem.app)) (.cons (by repeat (first | exact .here | apply HRem.there | apply HRem.app)) (.cons (by repeat (first | exact .here | apply HRem.there | apply HRem.app)) .nil))) (by
              try dsimp only
              exact ⟨by omega, hl55, fun x hx => by obtain rfl := List.mem_singleton.1 hx; exact hzr, by simp, fun n => by rw [show decide (i + 1 = 0) = false by simp]; exact come_one, hgd.rise _, hl64, by rw [List.length_append]; simp only [List.length_singleton]; omega, by
                rw [← hI9, hdrop, markF, hfx, Option.map_map, show tagOf m z.toNat = m.spots[z.toNat].tag by unfold tagOf; rw [List.getElem?_eq_getElem hzs]]
                cases markF m (w.data.toList.drop (i + 1)) (folOf m z.toNat) with
                | none => rfl
                | some l => simp⟩) (by
              try dsimp only
              omega)
      · skip
        refine RP.nil ?_
        refine WP.cond_f rfl ?_
        refine WP.exit ?_
        refine WP.seq ?_
        refine WP.region ?_
        refine RP.move rfl rfl ?_
        refine RP.assign rfl rfl ?_
        refine RP.assign rfl rfl ?_
        refine RP.nil ?_
        refine WP.ret ?_
        refine End.two (Or.inr rfl) rfl (.tmp rfl) (.tmp rfl) (.cons (by repeat (first | exact .here | apply HRem.there | apply HRem.app)) .nil) ⟨po, _, _, _, rfl, hI7, rfl, ?_⟩
        rw [List.drop_of_length_le (by omega)] at hI9
        have hq2 : tags = Q := by simpa [markF] using hI9
        subst hq2
        by_cases hwe : w.data.toList = []
        · have hmq : tags = [] := by rw [hwe] at hQ; simpa [markF] using hQ.symm
          subst hmq
          have := MarksSpec.none hgd hwe
          rw [show m.empty = true by rw [hwe] at htk; exact htk] at this
          exact this
        · exact .yes hgd hwe hQ
end
end Go.Proofs.Ytpkeggejofeeeaa

namespace Go.Proofs.Ytpkeggejofeeeaa
open Go.Proofs.Ytpkeggejofeeeaa.Lvm Go

section
variable {bm : Nat → Nat → Option LV} {st : LSt} {lo : Nat} {a b c d : LV} {m : Mach} {fol : List (LV × List Int)}

theorem refprun_ok (hlo : lo ≤ st.nxt) (hm : MA (EE bm) st a b c d m fol) (h0 : Small60 m fol) (hok : ∀ s ∈ m.spots, SpotOk s) {w : ByteArray} (hw : w.size ≤ 1000000) :
    Fin (EE bm) lo 15 [mv a b c d m, .str w] st (fun v H => ∃ ok tags, MarksSpec m w.data.toList ok tags ∧ v = parsedV ok tags w.data.toList ∧ H = []) := by
  have hwl : w.data.toList.length = w.size := Array.length_toList
  refine Fin.of_body (fn := Try.f15) (c := Try.f15.body.getD .skip) rfl rfl rfl rfl ?_
  refine WP.seq ?_
  refine WP.region ?_
  refine RP.box rfl rfl hm.sc (fun L2 => ?_)
  refine RP.alloc rfl rfl rfl (fun L4 => ?_)
  refine RP.nil ?_
  refine WP.seq ?_
  refine WP.region ?_
  refine RP.load_boxN rfl rfl rfl rfl rfl (by repeat (first | exact .here | apply HIn.there | apply HIn.app)) rfl ?_
  refine RP.move rfl rfl ?_
  refine RP.call rfl rfl rfl hlo (fun st' lo' hi' hl' => refmarks_ok hl' (hm.inv hi') h0 hok hw) ?_
  rintro _ _ ⟨pm, v', ok, tags, rfl, hl12, rfl, hsp⟩
  have hsl := hsp.len
  refine RP.move rfl rfl ?_
  refine RP.extract_ rfl rfl rfl ?_
  refine RP.extract_ rfl rfl rfl ?_
  refine RP.assign rfl rfl ?_
  refine RP.assign rfl rfl ?_
  refine RP.nil ?_
  refine WP.seq ?_
  refine WP.region ?_
  refine RP.move rfl rfl ?_
  refine RP.build rfl rfl rfl ?_
  refine RP.alloc rfl rfl rfl (fun L7 => ?_)
  refine RP.store_box rfl rfl rfl rfl rfl rfl hlo (by repeat (first | exact .here | apply HUpd.there | apply HUpd.app)) ?_
  refine RP.nil ?_
  refine WP.seq ?_
  refine WP.seq ?_
  refine WP.region ?_
  refine RP.assign rfl rfl ?_
  refine RP.nil ?_
  refine WP.block rfl ?_
  refine WP.loop (α := Nat × ByteArray × ByteArray) (fun gh => [(1, .str w), (4, .ptr (.own L4) 0), (5, v'), (7, .ptr (.own L7) 0), (8, .int .i64 (gh.1 : Int))]) (fun gh => [(some L4, .cells [.bool false, .str .empty, .str .empty]), (some L7, .cells [.bool ok, .str gh.2.1, .str gh.2.2]), pm]) (fun gh => gh.1 ≤ tags.length ∧ gh.2.1.data.toList = pickF 1 (tags.take gh.1) (w.data.toList.take gh.1) ∧ gh.2.2.data.toList = pickF 2 (tags.take gh.1) (w.data.toList.take gh.1)) (fun gh => tags.length - gh.1) ?_ (0, ⟨#[]⟩, ⟨#[]⟩) ⟨rfl, rfl, rfl, rfl, rfl, trivial⟩ (.cons (by repeat (first | exact .here | apply HRem.there | apply HRem.app)) (.cons (by repeat (first | exact .here | apply HRem.there | apply HRem.app)) (.cons (by repeat (first | exact .here | apply HRem.there | apply HRem.app)) .nil))) (by
    try dsimp only
    exact ⟨Nat.zero_le _, rfl, rfl⟩)
  rintro ⟨i, hs, qs⟩ hI
  change i ≤ tags.length ∧ hs.data.toList = pickF 1 (tags.take i) (w.data.toList.take i) ∧ qs.data.toList = pickF 2 (tags.take i) (w.data.toList.take i) at hI
  change WP _ _ _ _ _ [(1, .str w), (4, .ptr (.own L4) 0), (5, v'), (7, .ptr (.own L7) 0), (8, .int .i64 (i : Int))] ([(some L4, .cells [.bool false, .str .empty, .str .empty]), (some L7, .cells [.bool ok, .str hs, .str qs]), pm] : HL) _
  obtain ⟨hI1, hI2, hI3⟩ := hI
  have hb1 := pickF_len (t := 1) (l := tags.take i) (w := w.data.toList.take i)
  have hb2 := pickF_len (t := 2) (l := tags.take i) (w := w.data.toList.take i)
  rw [List.length_take] at hb1 hb2
  rw [← hI2, ← size_list] at hb1
  rw [← hI3, ← size_list] at hb2
  refine WP.seq ?_
  refine WP.seq ?_
  refine WP.region ?_
  refine RP.move rfl rfl ?_
  refine RP.move rfl rfl ?_
  refine RP.len_sl rfl rfl (.lin fU_len hl12 (by repeat (first | exact .here | apply HIn.there | apply HIn.app))) rfl ?_
  refine RP.lss rfl rfl rfl (fun h20 => ?_) (fun h20 => ?_)
  · skip
    have hlt : i < tags.length := by omega
    have hlw : i < w.data.toList.length := by omega
    refine RP.nil ?_
    refine WP.cond_t rfl ?_
    refine WP.skip ?_
    refine WP.seq ?_
    refine WP.block rfl ?_
    refine WP.seq ?_
    refine WP.seq ?_
    refine WP.region ?_
    refine RP.move rfl rfl ?_
    refine RP.move rfl rfl ?_
    refine RP.at_ rfl rfl rfl rfl rfl rfl (.lin fU_len hl12 (by repeat (first | exact .here | apply HIn.there | apply HIn.app))) (by first | assumption | omega) ?_
    refine RP.load_el rfl rfl rfl rfl (.lin fU_len hl12 (by repeat (first | exact .here | apply HIn.there | apply HIn.app))) (by first | assumption | omega) rfl ?_
    refine RP.eql rfl rfl rfl (fun h27 => ?_) (fun h27 => ?_)
    · skip
      refine RP.nil ?_
      refine WP.cond_t rfl ?_
      refine WP.drawn (by kernel_rfl) ?_
      refine RP.faddr rfl rfl rfl ?_
      refine RP.load_box rfl rfl rfl rfl (by repeat (first | exact .here | apply HIn.there | apply HIn.app)) rfl ?_
      refine RP.move rfl rfl ?_
      refine RP.move rfl rfl ?_
      refine RP.move rfl rfl ?_
      refine RP.add rfl rfl rfl (by omega) (by omega) ?_
      refine RP.sub_str rfl rfl rfl rfl rfl (natOf_is (n := i + 1) (by omega)) rfl (by omega) (by omega) ?_
      refine RP.cat rfl rfl rfl (by rw [size_list (w.extract i (i + 1)), sub_list hlw]; simp only [List.length_singleton]; omega) ?_
      refine RP.faddr rfl rfl rfl ?_
      refine RP.store_box1 rfl rfl rfl rfl rfl hlo (by repeat (first | exact .here | apply HUpd.there | apply HUpd.app)) ?_
      refine RP.nil ?_
      refine WP.seq ?_
      refine WP.region ?_
      refine RP.move rfl rfl ?_
      refine RP.move rfl rfl ?_
      refine RP.at_ rfl rfl rfl rfl rfl rfl (.lin fU_len hl12 (by repeat (first | exact .here | apply HIn.there | apply HIn.app))) (by first | assumption | omega) ?_
      refine RP.load_el rfl rfl rfl rfl (.lin fU_len hl12 (by repeat (first | exact .here | apply HIn.there | apply HIn.app))) (by first | assumption | omega) rfl ?_
      refine RP.eql rfl rfl rfl (fun h41 => ?_) (fun h41 => ?_)
      · skip
        refine RP.nil ?_
        refine WP.cond_t rfl ?_
        refine WP.drawn (by kernel_rfl) ?_
        refine RP.faddr rfl rfl rfl ?_
        refine RP.load_box rfl rfl rfl rfl (by repeat (first | exact .here | apply HIn.there | apply HIn.app)) rfl ?_
        refine RP.move rfl rfl ?_
        refine RP.move rfl rfl ?_
        refine RP.move rfl rfl ?_
        refine RP.add rfl rfl rfl (by omega) (by omega) ?_
        refine RP.sub_str rfl rfl rfl rfl rfl (natOf_is (n := i + 1) (by omega)) rfl (by omega) (by omega) ?_
        refine RP.cat rfl rfl rfl (by rw [size_list (w.extract i (i + 1)), sub_list hlw]; simp only [List.length_singleton]; omega) ?_
        refine RP.faddr rfl rfl rfl ?_
        refine RP.store_box1 rfl rfl rfl rfl rfl hlo (by repeat (first | exact .here | apply HUpd.there | apply HUpd.app)) ?_
        refine RP.nil ?_
        refine WP.region ?_
        refine RP.move rfl rfl ?_
        refine RP.add rfl rfl rfl (by omega) (by omega) ?_
        refine RP.assign rfl rfl ?_
        refine RP.nil ?_
        refine roundQ.mk (Q := fun _ _ _ => True) (i + 1, hs ++ w.extract i (i + 1), qs ++ w.extract i (i + 1)) ⟨rfl, rfl, rfl, rfl, rfl, trivial⟩ (.cons (by repeat (first | exact .here | apply HRem.there | apply HRem.app)) (.cons (by repeat (first | exact .here | apply HRem.there | apply HRem.app)) (.cons (by repeat (first | exact .here | apply HRem.there | apply HRem.app)) .nil))) (by
          try dsimp only
          exact ⟨hlt, by rw [cat_list, sub_list hlw, pickF_step hlt hlw, if_pos h27, hI2], by rw [cat_list, sub_list hlw, pickF_step hlt hlw, if_pos h41, hI3]⟩) (by
          try dsimp only
          omega)
      · skip
        refine RP.nil ?_
        refine WP.cond_f rfl ?_
        refine WP.skip ?_
        refine WP.region ?_
        refine RP.move rfl rfl ?_
        refine RP.add rfl rfl rfl (by omega) (by omega) ?_
        refine RP.assign rfl rfl ?_
        refine RP.nil ?_
        refine roundQ.mk (Q := fun _ _ _ => True) (i + 1, hs ++ w.extract i (i + 1), qs) ⟨rfl, rfl, rfl, rfl, rfl, trivial⟩ (.cons (by repeat (first | exact .here | apply HRem.there | apply HRem.app)) (.cons (by repeat (first | exact .here | apply HRem.there | apply HRem.app)) (.cons (by repeat (first | exact .here | apply HRem.there | apply HRem.app)) .nil))) (by
          try dsimp only
          exact ⟨hlt, by rw [cat_list, sub_list hlw, pickF_step hlt hlw, if_pos h27, hI2], by rw [pickF_step hlt hlw, if_neg h41, List.append_nil]; exact hI3⟩) (by
          try dsimp only
          omega)
    · skip
      refine RP.nil ?_
      refine WP.cond_f rfl ?_
      refine WP.skip ?_
      refine WP.seq ?_
      refine WP.region ?_
      refine RP.move rfl rfl ?_
      refine RP.move rfl rfl ?_
      refine RP.at_ rfl rfl rfl rfl rfl rfl (.lin fU_len hl12 (by repeat (first | exact .here | apply HIn.there | apply HIn.app))) (by first | assumption | omega) ?_
      refine RP.load_el rfl rfl rfl rfl (.lin fU_len hl12 (by repeat (first | exact .here | apply HIn.there | apply HIn.app))) (by first | assumption | omega) rfl ?_
      refine RP.eql rfl rfl rfl (fun h41 => ?_) (fun h41 => ?_)
      · skip
        refine RP.nil ?_
        refine WP.cond_t rfl ?_
        refine WP.drawn (by kernel_rfl) ?_
        refine RP.faddr rfl rfl rfl ?_
        refine RP.load_box rfl rfl rfl rfl (by repeat (first | exact .here | apply HIn.there | apply HIn.app)) rfl ?_
        refine RP.move rfl rfl ?_
        refine RP.move rfl rfl ?_
        refine RP.move rfl rfl ?_
        refine RP.add rfl rfl rfl (by omega) (by omega) ?_
        refine RP.sub_str rfl rfl rfl rfl rfl (natOf_is (n := i + 1) (by omega)) rfl (by omega) (by omega) ?_
        refine RP.cat rfl rfl rfl (by rw [size_list (w.extract i (i + 1)), sub_list hlw]; simp only [List.length_singleton]; omega) ?_
        refine RP.faddr rfl rfl rfl ?_
        refine RP.store_box1 rfl rfl rfl rfl rfl hlo (by repeat (first | exact .here | apply HUpd.there | apply HUpd.app)) ?_
        refine RP.nil ?_
        refine WP.region ?_
        refine RP.move rfl rfl ?_
        refine RP.add rfl rfl rfl (by omega) (by omega) ?_
        refine RP.assign rfl rfl ?_
        refine RP.nil ?_
        refine roundQ.mk (Q := fun _ _ _ => True) (i + 1, hs, qs ++ w.extract i (i + 1)) ⟨rfl, rfl, rfl, rfl, rfl, trivial⟩ (.cons (by repeat (first | exact .here | apply HRem.there | apply HRem.app)) (.cons (by repeat (first | exact .here | apply HRem.there | apply HRem.app)) (.cons (by repeat (first | exact .here | apply HRem.there | apply HRem.app)) .nil))) (by
          try dsimp only
          exact ⟨hlt, by rw [pickF_step hlt hlw, if_neg h27, List.append_nil]; exact hI2, by rw [cat_list, sub_list hlw, pickF_step hlt hlw, if_pos h41, hI3]⟩) (by
          try dsimp only
          omega)
      · skip
        refine RP.nil ?_
        refine WP.cond_f rfl ?_
        refine WP.skip ?_
        refine WP.region ?_
        refine RP.move rfl rfl ?_
        refine RP.add rfl rfl rfl (by omega) (by omega) ?_
        refine RP.assign rfl rfl ?_
        refine RP.nil ?_
        refine roundQ.mk (Q := fun _ _ _ => True) (i + 1, hs, qs) ⟨rfl, rfl, rfl, rfl, rfl, trivial⟩ (.cons (by repeat (first | exact .here | apply HRem.there | apply HRem.app)) (.cons (by repeat (first | exact .here | apply HRem.there | apply HRem.app)) (.cons (by repeat (first | exact .here | apply HRem.there | apply HRem.app)) .nil))) (by
          try dsimp only
          exact ⟨hlt, by rw [pickF_step hlt hlw, if_neg h27, List.append_nil]; exact hI2, by rw [pickF_step hlt hlw, if_neg h41, List.append_nil]; exact hI3⟩) (by
          try dsimp only
          omega)
  · skip
    refine RP.nil ?_
    refine WP.cond_f rfl ?_
    refine WP.exit ?_
    refine WP.seq ?_
    refine WP.region ?_
    refine RP.load_boxN rfl rfl rfl rfl rfl (by repeat (first | exact .here | apply HIn.there | apply HIn.app)) rfl ?_
    refine RP.store_box rfl rfl rfl rfl rfl rfl hlo (by repeat (first | exact .here | apply HUpd.there | apply HUpd.app)) ?_
    refine RP.nil ?_
    refine WP.ret ?_
    have ht1 : pickF 1 (tags.take i) (w.data.toList.take i) = pickF 1 tags w.data.toList := pickF_all (by omega) hsl
    have ht2 : pickF 2 (tags.take i) (w.data.toList.take i) = pickF 2 tags w.data.toList := pickF_all (by omega) hsl
    exact End.one (by first | exact Or.inl rfl | exact Or.inr rfl) rfl (.cellN rfl rfl rfl rfl (by repeat (first | exact .here | apply HIn.there | apply HIn.app)) rfl) .nil ⟨ok, tags, hsp, by show LV.agg [_, _, _] = _; rw [bytes_is (hI2.trans ht1), bytes_is (hI3.trans ht2)]; rfl, rfl⟩

theorem fstMarks_ok (hlo : lo ≤ st.nxt) (hm : MA (EE bm) st a b c d m fol) (hok : ∀ s ∈ m.spots, SpotOk s) {w : ByteArray} : Fin (EE bm) lo 3 [mv a b c d m, .str w] st (fun v H => v = .bool true ∧ H = []) := by
  refine Fin.of_body (fn := Try.f3) (c := Try.f3.body.getD .skip) rfl rfl rfl rfl ?_
  refine WP.seq ?_
  refine WP.region ?_
  refine RP.box rfl rfl hm.sc (fun L2 => ?_)
  refine RP.assign rfl rfl ?_
  refine RP.nil ?_
  refine WP.seq ?_
  refine WP.seq ?_
  refine WP.region ?_
  refine RP.load_boxN rfl rfl rfl rfl rfl (by repeat (first | exact .here | apply HIn.there | apply HIn.app)) rfl ?_
  refine RP.call rfl rfl rfl hlo (fun st' lo' hi' hl' => great_ok hl' (hm.inv hi')) ?_
  rintro _ _ (⟨rfl, rfl⟩ | ⟨h0, rfl, rfl⟩)
  · skip
    refine RP.move rfl rfl ?_
    refine RP.gfalse rfl rfl ?_
    refine RP.gfalse rfl rfl ?_
    refine RP.gfalse rfl rfl ?_
    refine RP.pick_ rfl rfl rfl ?_
    refine RP.nil ?_
    refine WP.cond_t rfl ?_
    refine WP.seq ?_
    refine WP.region ?_
    refine RP.call rfl rfl rfl hlo (fun st' lo' hi' hl' => awake_ok) ?_
    rintro _ _ ⟨rfl, rfl⟩
    refine RP.assign rfl rfl ?_
    refine RP.nil ?_
    refine WP.ret ?_
    exact End.one (Or.inr rfl) rfl (.tmp rfl) .nil ⟨rfl, rfl⟩
  · skip
    have h0i := h0
    obtain ⟨h01, h02, h03, h04, h05⟩ := h0i
    refine RP.move rfl rfl ?_
    refine RP.gtrue rfl ?_
    refine RP.move rfl rfl ?_
    refine RP.gtrue rfl ?_
    refine RP.len_v rfl rfl (fun _ => rfl) ?_
    refine RP.gtrue rfl ?_
    refine RP.gtr rfl rfl rfl (fun h14 => ?_) (fun h14 => ?_)
    · skip
      refine RP.pick_ rfl rfl rfl ?_
      refine RP.nil ?_
      refine WP.cond_t rfl ?_
      refine WP.seq ?_
      refine WP.region ?_
      refine RP.call rfl rfl rfl hlo (fun st' lo' hi' hl' => awake_ok) ?_
      rintro _ _ ⟨rfl, rfl⟩
      refine RP.assign rfl rfl ?_
      refine RP.nil ?_
      refine WP.ret ?_
      exact End.one (Or.inr rfl) rfl (.tmp rfl) .nil ⟨rfl, rfl⟩
    · skip
      refine RP.pick_ rfl rfl rfl ?_
      refine RP.nil ?_
      refine WP.cond_f rfl ?_
      refine WP.skip ?_
      refine WP.seq ?_
      refine WP.region ?_
      refine RP.load_boxN rfl rfl rfl rfl rfl (by repeat (first | exact .here | apply HIn.there | apply HIn.app)) rfl ?_
      refine RP.move rfl rfl ?_
      refine RP.call rfl rfl rfl hlo (fun st' lo' hi' hl' => marks_ok hl' (hm.inv hi') h0 hok (by omega)) ?_
      rintro _ _ ⟨pm, v', ok, tags, rfl, hl20, rfl, hsp⟩
      have hsl := hsp.len
      have hwl : w.data.toList.length = w.size := Array.length_toList
      refine RP.move rfl rfl ?_
      refine RP.extract_ rfl rfl rfl ?_
      refine RP.extract_ rfl rfl rfl ?_
      refine RP.assign rfl rfl ?_
      refine RP.assign rfl rfl ?_
      refine RP.nil ?_
      refine WP.seq ?_
      refine WP.region ?_
      refine RP.load_boxN rfl rfl rfl rfl rfl (by repeat (first | exact .here | apply HIn.there | apply HIn.app)) rfl ?_
      refine RP.move rfl rfl ?_
      refine RP.call rfl rfl rfl hlo (fun st' lo' hi' hl' => refmarks_ok hl' (hm.inv hi') h0 hok (by omega)) ?_
      rintro _ _ ⟨pm2, v2, ok2, tags2, rfl, hl26, rfl, hsp2⟩
      obtain ⟨e1, e2⟩ := hsp.both hsp2
      subst e1 e2
      refine RP.move rfl rfl ?_
      refine RP.extract_ rfl rfl rfl ?_
      refine RP.extract_ rfl rfl rfl ?_
      refine RP.assign rfl rfl ?_
      refine RP.assign rfl rfl ?_
      refine RP.nil ?_
      refine WP.seq ?_
      refine WP.drawn (by kernel_rfl) ?_
      refine RP.move rfl rfl ?_
      refine RP.move rfl rfl ?_
      refine RP.call rfl rfl rfl hlo (fun st' lo' hi' hl' => marked_eq hl' (by omega) (SlH.lin fU_len hl20 (by repeat (first | exact .here | apply HIn.there | apply HIn.app)) _ hi') (SlH.lin fU_len hl26 (by repeat (first | exact .here | apply HIn.there | apply HIn.app)) _ hi')) ?_
      rintro _ _ ⟨rfl, rfl⟩
      refine RP.move rfl rfl ?_
      refine RP.gtrue rfl ?_
      refine RP.move rfl rfl ?_
      refine RP.gtrue rfl ?_
      refine RP.move rfl rfl ?_
      refine RP.gtrue rfl ?_
      refine RP.bin (v := .bool true) rfl rfl rfl (by cases ok <;> rfl) ?_
      refine RP.pick_ rfl rfl rfl ?_
      refine RP.move rfl rfl ?_
      refine RP.gtrue rfl ?_
      refine RP.load_boxN rfl rfl rfl rfl rfl (by repeat (first | exact .here | apply HIn.there | apply HIn.app)) rfl ?_
      refine RP.gtrue rfl ?_
      refine RP.move rfl rfl ?_
      refine RP.gtrue rfl ?_
      refine RP.call rfl rfl rfl hlo (fun st' lo' hi' hl' => frun_ok hl' (hm.inv hi') h0 hok (by omega)) ?_
      rintro _ _ ⟨ok3, tags3, hsp3, rfl, rfl⟩
      obtain ⟨e1, e2⟩ := hsp.both hsp3
      subst e1 e2
      refine RP.gtrue rfl ?_
      refine RP.load_boxN rfl rfl rfl rfl rfl (by repeat (first | exact .here | apply HIn.there | apply HIn.app)) rfl ?_
      refine RP.gtrue rfl ?_
      refine RP.move rfl rfl ?_
      refine RP.gtrue rfl ?_
      refine RP.call rfl rfl rfl hlo (fun st' lo' hi' hl' => refprun_ok hl' (hm.inv hi') h0 hok (by omega)) ?_
      rintro _ _ ⟨ok4, tags4, hsp4, rfl, rfl⟩
      obtain ⟨e1, e2⟩ := hsp.both hsp4
      subst e1 e2
      refine RP.gtrue rfl ?_
      refine RP.bin (v := .bool true) rfl rfl rfl (by show some (LV.bool (cellsEq _ _)) = _; rw [cells_same]) ?_
      refine RP.pick_ rfl rfl rfl ?_
      refine RP.move rfl rfl ?_
      refine RP.gtrue rfl ?_
      refine RP.call rfl rfl rfl hlo (fun st' lo' hi' hl' => awake_ok) ?_
      rintro _ _ ⟨rfl, rfl⟩
      refine RP.pick_ rfl rfl rfl ?_
      refine RP.assign rfl rfl ?_
      refine RP.nil ?_
      refine WP.ret ?_
      exact End.one (Or.inr rfl) rfl (.tmp rfl) .nil ⟨rfl, rfl⟩
end
end Go.Proofs.Ytpkeggejofeeeaa
