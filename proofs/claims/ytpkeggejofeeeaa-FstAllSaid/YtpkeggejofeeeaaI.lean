/- Laws of the small machine, of how it stands to the model, and of what functions come to on it; a helper of the statement: no statement is proved here. -/
import Derived.Test.YtpkeggejofeeeaaH
import Derived.Deep.Slices
import Derived.OpenShut
import Derived.ReadAgain
import Derived.ChangeSame
import Derived.Laws.Strings
import Derived.IntWalk
set_option linter.unusedVariables false
namespace Go.Proofs.Ytpkeggejofeeeaa.Lvm

/-! ### machines, as they lie in memory -/
def fI (x : Int) : List LV := [.int .i64 x]
def fB (x : Bool) : List LV := [.bool x]
def fY (x : UInt8) : List LV := [.int .u8 x.toNat]
structure Spot where
  a : Int
  b : Int
  c : Int
  d : Int
  tag : Int
def fS (s : Spot) : List LV := [.int .u64 s.a, .int .u64 s.b, .int .u64 s.c, .int .u64 s.d, .int .u8 s.tag]
def fP {α : Type} (p : LV × α) : List LV := [p.1]
structure Mach where
  spots : List Spot
  first : List Int
  follow : List (List Int)
  last : List Bool
  empty : Bool
theorem fI_len (x : Int) : (fI x).length = 1 := rfl
theorem fB_len (x : Bool) : (fB x).length = 1 := rfl
theorem fS_len (x : Spot) : (fS x).length = 5 := rfl
theorem fP_len {α : Type} (x : LV × α) : (fP x).length = 1 := rfl
theorem fI_sc (x : Int) : (fI x).all LV.scalar = true := rfl
theorem fB_sc (x : Bool) : (fB x).all LV.scalar = true := rfl
theorem fS_sc (x : Spot) : (fS x).all LV.scalar = true := rfl

theorem spot_self (s : Spot) : cellsEq (fS s) (fS s) = true := by simp [fS, cellsEq]
/-- What a spot's numbers keep to. -/
def SpotOk (s : Spot) : Prop := (∀ y ∈ [s.a, s.b, s.c, s.d], 0 ≤ y ∧ y < 18446744073709551616) ∧ 0 ≤ s.tag ∧ s.tag < 256
/-- An argument that is a machine, its parts taken apart. -/
structure MA (E : Env) (st : LSt) (a b c d : LV) (m : Mach) (fol : List (LV × List Int)) : Prop where
  spots : SlT E st a 5 fS m.spots
  first : SlT E st b 1 fI m.first
  follow : SlT E st c 1 fP fol
  rows : ∀ p ∈ fol, SlT E st p.1 1 fI p.2
  last : SlT E st d 1 fB m.last
  same : m.follow = fol.map (·.2)
def mv (a b c d : LV) (m : Mach) : LV := .agg [a, b, c, d, .bool m.empty]
section
variable {E : Env} {st st' : LSt} {a b c d : LV} {m : Mach} {fol : List (LV × List Int)} {H : HL}
theorem SlT.inv {v : LV} {sz : Nat} {α : Type} {f : α → List LV} {l : List α} (h : SlT E st v sz f l) (hi : Inv st H st') : SlT E st' v sz f l := h.keep hi.nxt hi.old
theorem MA.inv (h : MA E st a b c d m fol) (hi : Inv st H st') : MA E st' a b c d m fol :=
  ⟨h.spots.inv hi, h.first.inv hi, h.follow.inv hi, fun p hp => (h.rows p hp).inv hi, h.last.inv hi, h.same⟩
theorem MA.sc (h : MA E st a b c d m fol) : (mv a b c d m).cells.all LV.scalar = true := by
  simp [mv, LV.cells, h.spots.scalar, h.first.scalar, h.follow.scalar, h.last.scalar]; rfl
theorem MA.len (h : MA E st a b c d m fol) : m.follow.length = fol.length := by rw [h.same, List.length_map]
theorem MA.row (h : MA E st a b c d m fol) {i : Nat} (hi : i < fol.length) : SlT E st fol[i].1 1 fI fol[i].2 := h.rows _ (List.getElem_mem hi)
theorem MA.at_ (h : MA E st a b c d m fol) {i : Nat} (hi : i < fol.length) : m.follow[i]? = some fol[i].2 := by
  rw [h.same, List.getElem?_map, List.getElem?_eq_getElem hi]; rfl
theorem SlT.map {v : LV} {sz : Nat} {α β : Type} {f : α → List LV} {f' : β → List LV} {g : α → β} {l : List α} (h : SlT E st v sz f l) (hg : ∀ x, f' (g x) = f x) (hf : ∀ x, (f' x).length = sz) : SlT E st v sz f' (l.map g) := by
  obtain ⟨_, ⟨rfl, rfl⟩ | ⟨b, o, cap, ex, rfl, hb, hl⟩⟩ := h
  · exact ⟨hf, Or.inl ⟨rfl, rfl⟩⟩
  · refine ⟨hf, Or.inr ⟨b, o, cap, ex, by rw [List.length_map], hb, ?_⟩⟩
    rw [List.length_map, hl, List.flatMap_map]
    simp only [hg]
theorem Lin.map {v : LV} {sz : Nat} {α β : Type} {f : α → List LV} {f' : β → List LV} {g : α → β} {l : List α} {tight : Bool} {p : HE} (h : Lin sz f tight v l p) (hg : ∀ x, f' (g x) = f x) : Lin sz f' tight v (l.map g) p := by
  have hfl : (l.map g).flatMap f' = l.flatMap f := by rw [List.flatMap_map]; simp only [hg]
  have hl : (l.map g).length = l.length := List.length_map ..
  cases h with
  | nil => exact .nil
  | zero => exact .zero
  | @own L cap l cs h1 h2 h3 h4 =>
    have := Lin.own (sz := sz) (f := f') (tight := tight) (L := L) (cap := cap) (l := l.map g) (cs := cs) (by rw [hl, hfl]; exact h1) (by rw [hl]; exact h2) (by rw [hl]; exact h3) (by rw [hl]; exact h4)
    rw [hl] at this; exact this
  | @room L cap l cs h1 h2 h3 h4 =>
    have := Lin.room (sz := sz) (f := f') (tight := tight) (L := L) (cap := cap) (l := l.map g) (cs := cs) (by rw [hl, hfl]; exact h1) h2 (by rw [hl]; exact h3) (by rw [hl]; exact h4)
    rw [hl] at this; exact this
def f1 (v : LV) : List LV := [v]
theorem f1_len (x : LV) : (f1 x).length = 1 := rfl
theorem Lin.unmap {v : LV} {sz : Nat} {α β : Type} {f : α → List LV} {f' : β → List LV} {g : α → β} {l : List α} {l' : List β} {tight : Bool} {p : HE} (h : Lin sz f' tight v l' p) (hl : l.map g = l') (hg : ∀ x, f x = f' (g x)) : Lin sz f tight v l p := by
  have hfl : l.flatMap f = l'.flatMap f' := by rw [← hl, List.flatMap_map]; exact congrArg (fun k => List.flatMap k l) (funext hg)
  have hlen : l.length = l'.length := by rw [← hl, List.length_map]
  cases h with
  | nil => obtain rfl : l = [] := List.length_eq_zero_iff.1 hlen; exact .nil
  | zero => obtain rfl : l = [] := List.length_eq_zero_iff.1 hlen; exact .zero
  | @own L cap l' cs h1 h2 h3 h4 =>
    have := Lin.own (sz := sz) (f := f) (tight := tight) (L := L) (cap := cap) (l := l) (cs := cs) (by rw [hlen, hfl]; exact h1) (by rw [hlen]; exact h2) (by rw [hlen]; exact h3) (by rw [hlen]; exact h4)
    rw [hlen] at this; exact this
  | @room L cap l' cs h1 h2 h3 h4 =>
    have := Lin.room (sz := sz) (f := f) (tight := tight) (L := L) (cap := cap) (l := l) (cs := cs) (by rw [hlen, hfl]; exact h1) h2 (by rw [hlen]; exact h3) (by rw [hlen]; exact h4)
    rw [hlen] at this; exact this
/-- A machine in blocks of one's own. -/
abbrev Row := LV × List Int × HE
structure MO (a b c d : LV) (pa pb pc pd : HE) (rows : List Row) (m : Mach) : Prop where
  spots : Lin 5 fS false a m.spots pa
  first : Lin 1 fI false b m.first pb
  follow : Lin 1 fP false c rows pc
  each : ∀ r ∈ rows, Lin 1 fI false r.1 r.2.1 r.2.2
  last : Lin 1 fB false d m.last pd
  same : m.follow = rows.map (·.2.1)
def heapO (pa pb pc pd : HE) (rows : List Row) : HL := pa :: pb :: pc :: pd :: rows.map (·.2.2)
theorem MO.arg {s0 : LSt} {pa pb pc pd : HE} {rows : List Row} (h : MO a b c d pa pb pc pd rows m) (hi : Inv s0 H st) (hs : ∀ p ∈ heapO pa pb pc pd rows, p ∈ H) : MA E st a b c d m (rows.map fun r => (r.1, r.2.1)) where
  spots := SlH.lin fS_len h.spots (HIn.of_mem (hs _ (by simp [heapO]))) st hi
  first := SlH.lin fI_len h.first (HIn.of_mem (hs _ (by simp [heapO]))) st hi
  follow := SlT.map (SlH.lin fP_len h.follow (HIn.of_mem (hs _ (by simp [heapO]))) st hi) (fun _ => rfl) fP_len
  rows := fun p hp => by
    obtain ⟨r, hr, rfl⟩ := List.mem_map.1 hp
    exact SlH.lin fI_len (h.each r hr) (HIn.of_mem (hs _ (by
      simp only [heapO, List.mem_cons]
      exact Or.inr (Or.inr (Or.inr (Or.inr (List.mem_map.2 ⟨r, hr, rfl⟩))))))) st hi
  last := SlH.lin fB_len h.last (HIn.of_mem (hs _ (by simp [heapO]))) st hi
  same := by rw [h.same, List.map_map]; rfl
theorem MO.sc {pa pb pc pd : HE} {rows : List Row} (h : MO a b c d pa pb pc pd rows m) : (mv a b c d m).cells.all LV.scalar = true := by
  show ([a, b, c, d, .bool m.empty] : List LV).all LV.scalar = true
  simp only [List.all_cons, List.all_nil, h.spots.scalar, h.first.scalar, h.follow.scalar, h.last.scalar]; rfl
theorem pull_row (A B : List Row) (r : Row) (X : HL) : ((A ++ r :: B).map (fun r => r.2.2) ++ X).Perm (r.2.2 :: (A.map (fun r => r.2.2) ++ (B.map (fun r => r.2.2) ++ X))) := by
  rw [List.map_append, List.map_cons, List.append_assoc, List.cons_append]
  exact List.perm_middle
theorem cut_row {cur : List Row} {i : Nat} (h : i < cur.length) : ∃ A r B, cur = A ++ r :: B ∧ A.length = i := ⟨cur.take i, cur[i], cur.drop (i + 1), by rw [← List.drop_eq_getElem_cons h, List.take_append_drop], by rw [List.length_take]; omega⟩
end
end Go.Proofs.Ytpkeggejofeeeaa.Lvm

namespace Go.Proofs.Ytpkeggejofeeeaa.Lvm

/-! ### plain laws on machines -/
def risingF (bound : Int) : Int → List Int → Bool
  | _, [] => true
  | last, n :: ns => if n ≤ last ∨ bound ≤ n then false else risingF bound n ns
theorem risingF_step {bound last : Int} {xs : List Int} {i : Nat} (hi : i < xs.length) : risingF bound last (xs.drop i) = if xs[i] ≤ last ∨ bound ≤ xs[i] then false else risingF bound xs[i] (xs.drop (i + 1)) := by
  rw [List.drop_eq_getElem_cons hi]; rfl
theorem risingF_mem {bound : Int} : ∀ {xs : List Int} {last : Int}, risingF bound last xs = true → ∀ x ∈ xs, last < x ∧ x < bound
  | [], _, _, _, hx => by cases hx
  | n :: ns, last, h, x, hx => by
    rw [risingF] at h
    split at h
    · cases h
    · rename_i hn
      rcases List.mem_cons.1 hx with rfl | hx
      · omega
      · have := risingF_mem h x hx; omega
/-- May a machine be? -/
structure GoodM (m : Mach) : Prop where
  size : m.spots.length ≤ 250
  flen : m.follow.length = m.spots.length
  llen : m.last.length = m.spots.length
  first : risingF m.spots.length (-1) m.first = true
  tags : ∀ i (h : i < m.spots.length), m.spots[i].tag ≤ 2
  rows : ∀ i (h : i < m.follow.length), risingF m.spots.length (-1) m.follow[i] = true
/-! how many bits: the very steps that the library takes -/
def wA (a b : Int) : Int := IntKind.u64.wrap (a + b)
def wN (a b : Int) : Int := IntKind.u64.wrap (BitVec.ofInt IntKind.u64.bits a &&& BitVec.ofInt IntKind.u64.bits b).toNat
def wS (a : Int) (k : Nat) : Int := a.fdiv (2 ^ (min k 64))
def ones1 (x : Int) : Int := wA (wN (wS x 1) 6148914691236517205) (wN x 6148914691236517205)
def ones2 (x : Int) : Int := wA (wN (wS x 2) 3689348814741910323) (wN x 3689348814741910323)
def ones3 (x : Int) : Int := wN (wA (wS x 4) x) 1085102592571150095
def ones4 (k : Nat) (x : Int) : Int := wA x (wS x k)
def onesF (x : Int) : Int :=
  IntKind.i64.wrap (BitVec.ofInt IntKind.i64.bits (IntKind.i64.wrap (ones4 32 (ones4 16 (ones4 8 (ones3 (ones2 (ones1 x))))))) &&& BitVec.ofInt IntKind.i64.bits 127).toNat
def countF (s : Spot) : Int := IntKind.i64.wrap (IntKind.i64.wrap (IntKind.i64.wrap (IntKind.i64.wrap (0 + onesF s.a) + onesF s.b) + onesF s.c) + onesF s.d)
def someF (s : Spot) : Bool := decide (countF s > 0)
end Go.Proofs.Ytpkeggejofeeeaa.Lvm

namespace Go.Proofs.Ytpkeggejofeeeaa.Lvm

/-! ### spots to which a run comes -/
inductive ReachM (m : Mach) : Nat → Prop where
  | first {x : Int} {s : Spot} (h : x ∈ m.first) (hs : m.spots[x.toNat]? = some s) (hn : someF s = true) : ReachM m x.toNat
  | step {i : Nat} {x : Int} {l : List Int} {s : Spot} (hr : ReachM m i) (hl : m.follow[i]? = some l) (hx : x ∈ l) (hs : m.spots[x.toNat]? = some s) (hn : someF s = true) : ReachM m x.toNat
/-- Nothing is left to do for a number. -/
def Done (m : Mach) (out : List Bool) (x : Int) : Prop := out[x.toNat]? = some true ∨ ∃ s, m.spots[x.toNat]? = some s ∧ someF s = false
structure RInv (m : Mach) (out : List Bool) (td : List Int) : Prop where
  sound : ∀ i : Nat, out[i]? = some true → ReachM m i
  cand : ∀ x ∈ td, ∀ s, m.spots[x.toNat]? = some s → someF s = true → ReachM m x.toNat
  first : ∀ x ∈ m.first, Done m out x ∨ x ∈ td
  close : ∀ (i : Nat) (l : List Int), out[i]? = some true → m.follow[i]? = some l → ∀ x ∈ l, Done m out x ∨ x ∈ td
theorem mem_last {td : List Int} {x y : Int} {k : Nat} (hk : td.length = k + 1) (hx : td[k]? = some x) (hy : y ∈ td) : y ∈ td.take k ∨ y = x := by
  obtain ⟨j, hj, rfl⟩ := List.mem_iff_getElem.1 hy
  by_cases e : j = k
  · subst e; rw [List.getElem?_eq_getElem hj] at hx; exact Or.inr (Option.some.inj hx)
  · left
    rw [List.mem_iff_getElem]
    exact ⟨j, by rw [List.length_take]; omega, by rw [List.getElem_take]⟩
theorem RInv.init {m : Mach} {n : Nat} : RInv m (List.replicate n false) m.first where
  sound := fun i h => by rw [List.getElem?_replicate] at h; split at h <;> simp at h
  cand := fun x hx s hs hn => .first hx hs hn
  first := fun x hx => Or.inr hx
  close := fun i l h => by rw [List.getElem?_replicate] at h; split at h <;> simp at h
theorem RInv.skip {m : Mach} {out : List Bool} {td : List Int} {x : Int} {k : Nat} (h : RInv m out td) (hk : td.length = k + 1) (hx : td[k]? = some x) (hd : Done m out x) : RInv m out (td.take k) where
  sound := h.sound
  cand := fun y hy => h.cand y (List.mem_of_mem_take hy)
  first := fun y hy => by
    rcases h.first y hy with h1 | h1
    · exact Or.inl h1
    · rcases mem_last hk hx h1 with h2 | rfl
      · exact Or.inr h2
      · exact Or.inl hd
  close := fun i l hi hl y hy => by
    rcases h.close i l hi hl y hy with h1 | h1
    · exact Or.inl h1
    · rcases mem_last hk hx h1 with h2 | rfl
      · exact Or.inr h2
      · exact Or.inl hd
theorem Done.set {m : Mach} {out : List Bool} {x : Int} {i : Nat} (h : Done m out x) : Done m (out.set i true) x := by
  rcases h with h | h
  · left
    by_cases e : i = x.toNat
    · subst e; rw [List.getElem?_set_self (by exact (List.getElem?_eq_some_iff.1 h).1)]
    · rw [List.getElem?_set_ne e]; exact h
  · exact Or.inr h
theorem RInv.mark {m : Mach} {out : List Bool} {td row : List Int} {x : Int} {k : Nat} {s : Spot} (h : RInv m out td) (hk : td.length = k + 1) (hx : td[k]? = some x) (hlt : x.toNat < out.length) (hs : m.spots[x.toNat]? = some s) (hn : someF s = true) (hr : m.follow[x.toNat]? = some row) :
    RInv m (out.set x.toNat true) (td.take k ++ row) := by
  have hd : Done m (out.set x.toNat true) x := Or.inl (by rw [List.getElem?_set_self hlt])
  have hrx : ReachM m x.toNat := h.cand x (List.mem_of_getElem? hx) s hs hn
  refine ⟨fun i hi => ?_, fun y hy t ht hm => ?_, fun y hy => ?_, fun i l hi hl y hy => ?_⟩
  · by_cases e : x.toNat = i
    · rw [← e]; exact hrx
    · rw [List.getElem?_set_ne e] at hi; exact h.sound i hi
  · rcases List.mem_append.1 hy with h1 | h1
    · exact h.cand y (List.mem_of_mem_take h1) t ht hm
    · exact .step hrx hr h1 ht hm
  · rcases h.first y hy with h1 | h1
    · exact Or.inl h1.set
    · rcases mem_last hk hx h1 with h2 | rfl
      · exact Or.inr (List.mem_append_left _ h2)
      · exact Or.inl hd
  · by_cases e : x.toNat = i
    · subst e
      rw [hr] at hl
      obtain rfl := Option.some.inj hl
      exact Or.inr (List.mem_append_right _ hy)
    · rw [List.getElem?_set_ne e] at hi
      rcases h.close i l hi hl y hy with h1 | h1
      · exact Or.inl h1.set
      · rcases mem_last hk hx h1 with h2 | rfl
        · exact Or.inr (List.mem_append_left _ h2)
        · exact Or.inl hd
theorem RInv.fin {m : Mach} {out : List Bool} (h : RInv m out []) (i : Nat) : out[i]? = some true ↔ ReachM m i := by
  refine ⟨h.sound i, fun hr => ?_⟩
  have hd : ∀ {x : Int} {s : Spot}, Done m out x → m.spots[x.toNat]? = some s → someF s = true → out[x.toNat]? = some true := by
    rintro x s (h1 | ⟨t, h1, h2⟩) hs hn
    · exact h1
    · rw [hs] at h1; obtain rfl := Option.some.inj h1; rw [hn] at h2; cases h2
  induction hr with
  | first hx hs hn =>
    rcases h.first _ hx with h1 | h1
    · exact hd h1 hs hn
    · cases h1
  | step _ hl hx hs hn ih =>
    rcases h.close _ _ ih hl _ hx with h1 | h1
    · exact hd h1 hs hn
    · cases h1
theorem count_mark {out : List Bool} {i : Nat} (h : i < out.length) (hf : out[i] = false) : (out.set i true).count false + 1 = out.count false := by
  have hp : 0 < out.count false := List.count_pos_iff.2 (hf ▸ List.getElem_mem h)
  rw [List.count_set h, hf]; simp; omega
end Go.Proofs.Ytpkeggejofeeeaa.Lvm

namespace Go.Proofs.Ytpkeggejofeeeaa.Lvm
/-- Where a number is first found. -/
def IdxSpec (p : Int → Bool) (xs : List Int) (r : Int) : Prop :=
  (r = -1 ∧ ∀ x ∈ xs, p x = false) ∨ ∃ (i : Nat) (h : i < xs.length), r = i ∧ p xs[i] = true ∧ ∀ (j : Nat) (h : j < xs.length), j < i → p xs[j] = false
theorem IdxSpec.no {p : Int → Bool} {xs : List Int} {i : Nat} (hi : ¬ (i : Int) < (xs.length : Int)) (h : ∀ (j : Nat) (h : j < xs.length), j < i → p xs[j] = false) : IdxSpec p xs (-1) :=
  Or.inl ⟨rfl, fun x hx => by obtain ⟨j, hj, rfl⟩ := List.mem_iff_getElem.1 hx; exact h j hj (by omega)⟩
theorem IdxSpec.yes {p : Int → Bool} {xs : List Int} {i : Nat} (hi : i < xs.length) (hp : p xs[i] = true) (h : ∀ (j : Nat) (h : j < xs.length), j < i → p xs[j] = false) : IdxSpec p xs i := Or.inr ⟨i, hi, rfl, hp, h⟩
theorem IdxSpec.any {p : Int → Bool} {xs : List Int} {r : Int} (h : IdxSpec p xs r) : xs.any p = decide (0 ≤ r) := by
  rcases h with ⟨rfl, h⟩ | ⟨i, hi, rfl, hp, _⟩
  · simp only [Int.reduceNeg, Int.reduceLE, decide_false, List.any_eq_false]; exact fun x hx => by rw [h x hx]; exact Bool.false_ne_true
  · rw [decide_eq_true (by omega), List.any_eq_true]; exact ⟨_, List.getElem_mem hi, hp⟩
/-! ### spots from which a last one is reached, too -/
inductive UsefulM (m : Mach) : Nat → Prop where
  | last {i : Nat} (hr : ReachM m i) (hl : m.last[i]? = some true) : UsefulM m i
  | step {i : Nat} {l : List Int} {x : Int} (hr : ReachM m i) (hl : m.follow[i]? = some l) (hx : x ∈ l) (hu : UsefulM m x.toNat) : UsefulM m i
theorem ReachM.lt {m : Mach} {i : Nat} (h : ReachM m i) : i < m.spots.length := by
  cases h with
  | first _ hs _ => exact (List.getElem?_eq_some_iff.1 hs).1
  | step _ _ _ hs _ => exact (List.getElem?_eq_some_iff.1 hs).1
theorem UsefulM.reach {m : Mach} {i : Nat} (h : UsefulM m i) : ReachM m i := by
  cases h <;> assumption
def UInv (m : Mach) (out : List Bool) : Prop := ∀ i : Nat, out[i]? = some true → UsefulM m i
def markedAny (out : List Bool) (l : List Int) : Bool := l.any fun x => (out[x.toNat]?).getD false
inductive UStay (m : Mach) (out : List Bool) (i : Nat) : Prop where
  | out (h : out[i]? = some true) : UStay m out i
  | come (h : ¬ ReachM m i) : UStay m out i
  | dead {l : List Int} (hl : m.last[i]? = some false) (hf : m.follow[i]? = some l) (h : markedAny out l = false) : UStay m out i
def UEnd (m : Mach) (out : List Bool) (k : Nat) : Prop := ∀ i, i < k → UStay m out i
theorem UInv.init {m : Mach} {n : Nat} : UInv m (List.replicate n false) := fun i h => by rw [List.getElem?_replicate] at h; split at h <;> simp at h
theorem UEnd.zero {m : Mach} {out : List Bool} : UEnd m out 0 := fun _ h => absurd h (Nat.not_lt_zero _)
theorem UEnd.succ {m : Mach} {out : List Bool} {k : Nat} (h : UEnd m out k) (hk : UStay m out k) : UEnd m out (k + 1) := fun i hi => if e : i = k then e ▸ hk else h i (by omega)
theorem UInv.mark {m : Mach} {out : List Bool} {i : Nat} (h : UInv m out) (hr : ReachM m i) (hw : m.last[i]? = some true ∨ ∃ l, m.follow[i]? = some l ∧ markedAny out l = true) : UInv m (out.set i true) := fun j hj => by
  by_cases e : i = j
  · subst e
    rcases hw with hw | ⟨l, hl, ha⟩
    · exact .last hr hw
    · obtain ⟨x, hx, hm⟩ := List.any_eq_true.1 ha
      refine .step hr hl hx (h _ ?_)
      cases ho : out[x.toNat]? with
      | none => rw [ho] at hm; cases hm
      | some b => rw [ho] at hm; simp only [Option.getD_some] at hm; rw [hm]
  · rw [List.getElem?_set_ne e] at hj; exact h j hj
theorem UInv.fin {m : Mach} {out : List Bool} (h : UInv m out) (he : UEnd m out m.spots.length) (i : Nat) : out[i]? = some true ↔ UsefulM m i := by
  refine ⟨h i, fun hu => ?_⟩
  induction hu with
  | @last i hr hl =>
    cases he _ hr.lt with
    | out h => exact h
    | come h => exact absurd hr h
    | dead h2 _ _ => rw [hl] at h2; cases h2
  | @step i l x hr hl hx hu ih =>
    cases he _ hr.lt with
    | out h => exact h
    | come h => exact absurd hr h
    | dead h2 hf hn =>
      rw [hl] at hf; obtain rfl := Option.some.inj hf
      have := List.any_eq_false.1 hn x hx
      rw [ih] at this; exact absurd rfl this
end Go.Proofs.Ytpkeggejofeeeaa.Lvm

namespace Go.Proofs.Ytpkeggejofeeeaa.Lvm
/-! ### a machine, trimmed -/
def keptF {α : Type} (keep : List Bool) (l : List α) : List α := ((l.zip keep).filter (·.2)).map (·.1)
def numF (keep : List Bool) : List Int := (List.range keep.length).map fun i => ((keep.take i).count true : Int)
def leftF (keep : List Bool) (number : List Int) (xs : List Int) : List Int := xs.filterMap fun x => if (keep[x.toNat]?).getD false then number[x.toNat]? else none
def trimF (keep : List Bool) (m : Mach) : Mach where
  spots := keptF keep m.spots
  first := leftF keep (numF keep) m.first
  follow := (keptF keep m.follow).map (leftF keep (numF keep))
  last := keptF keep m.last
  empty := m.empty
theorem keptF_step {α : Type} {keep : List Bool} {l : List α} {i : Nat} (h1 : i < keep.length) (h2 : i < l.length) :
    keptF (keep.take (i + 1)) (l.take (i + 1)) = keptF (keep.take i) (l.take i) ++ (if keep[i] then [l[i]] else []) := by
  unfold keptF
  rw [List.take_succ_eq_append_getElem h1, List.take_succ_eq_append_getElem h2, List.zip_append (by simp; omega), List.filter_append, List.map_append]
  congr 1
  cases h : keep[i] <;> simp
theorem keptF_all {α : Type} {keep : List Bool} {l : List α} {i : Nat} (h1 : keep.length ≤ i) (h2 : l.length ≤ i) : keptF (keep.take i) (l.take i) = keptF keep l := by rw [List.take_of_length_le h1, List.take_of_length_le h2]
theorem keptF_map {α β : Type} {keep : List Bool} {l : List α} {g : α → β} : keptF keep (l.map g) = (keptF keep l).map g := by
  unfold keptF
  rw [List.zip_map_left, List.filter_map, List.map_map, List.map_map]
  congr 1
theorem keptF_len {α β : Type} : ∀ {keep : List Bool} {l : List α} {l' : List β}, l.length = l'.length → (keptF keep l).length = (keptF keep l').length
  | [], l, l', _ => by simp [keptF]
  | k :: keep, [], [], _ => rfl
  | k :: keep, x :: l, y :: l', h => by
    have ih := keptF_len (keep := keep) (l := l) (l' := l') (by simpa using h)
    unfold keptF at ih ⊢
    cases k <;> simpa using ih
  | _, [], _ :: _, h => by simp at h
  | _, _ :: _, [], h => by simp at h
theorem keptF_le {α : Type} {keep : List Bool} {l : List α} : (keptF keep l).length ≤ l.length := by
  unfold keptF
  rw [List.length_map]
  exact Nat.le_trans (List.length_filter_le ..) (by rw [List.length_zip]; omega)
theorem leftF_step {keep : List Bool} {number xs : List Int} {i : Nat} (hi : i < xs.length) : leftF keep number (xs.take (i + 1)) = leftF keep number (xs.take i) ++ (if (keep[xs[i].toNat]?).getD false then number[xs[i].toNat]? else none).toList := by
  unfold leftF
  rw [List.take_succ_eq_append_getElem hi, List.filterMap_append]
  congr 1
theorem leftF_le {keep : List Bool} {number xs : List Int} : (leftF keep number xs).length ≤ xs.length := List.length_filterMap_le ..
theorem numF_is {keep : List Bool} {nums : List Int} (hl : nums.length = keep.length) (h : ∀ j : Nat, j < keep.length → nums[j]? = some ((keep.take j).count true : Int)) : nums = numF keep := by
  refine List.ext_getElem? fun j => ?_
  unfold numF
  by_cases hj : j < keep.length
  · rw [h j hj, List.getElem?_map, List.getElem?_range hj]; rfl
  · rw [List.getElem?_eq_none (by omega), List.getElem?_eq_none (by simp; omega)]
theorem numF_len {keep : List Bool} : (numF keep).length = keep.length := by simp [numF]
theorem count_step {keep : List Bool} {i : Nat} (h : i < keep.length) : (keep.take (i + 1)).count true = (keep.take i).count true + if keep[i] then 1 else 0 := by
  rw [List.take_succ_eq_append_getElem h, List.count_append]
  cases hk : keep[i] <;> simp
end Go.Proofs.Ytpkeggejofeeeaa.Lvm

namespace Go.Proofs.Ytpkeggejofeeeaa.Lvm
open Go.RowKit (Below)

/-! ### from the model's memory: what was there before the call -/
def liftB : Value → Option LV
  | .slice (some a) len cap => if len ≤ cap ∧ (a.spot = none ∨ cap = 0) then some (.sl (.base a.block) a.off 1 len cap true) else none
  | .pointer (some a) => if a.spot = none then some (.ptr (.base a.block) a.off) else none
  | v => liftS v
theorem slice_rel {inj : Inj} {a : Addr} {len cap sz : Nat} (h1 : len ≤ cap) (h2 : a.spot = none ∨ cap = 0) : VRel inj (.sl (.base a.block) a.off sz len cap true) (.slice (some a) len cap) := by
  obtain ⟨b, o, s⟩ := a
  simp only [VRel]
  exact ⟨b, o, cap, s, rfl, rfl, h2.imp (fun h => ⟨rfl, h⟩) id, Nat.le_refl _, fun _ => rfl, h1, fun L n hL => by cases hL⟩
theorem liftB_rel {v : Value} {x : LV} (h : liftB v = some x) (inj : Inj) : VRel inj x v := by
  unfold liftB at h
  split at h
  · split at h
    · rename_i hc
      simp only [Option.some.injEq] at h; subst h
      exact slice_rel hc.1 hc.2
    · cases h
  · split at h
    · rename_i a hc
      simp only [Option.some.injEq] at h; subst h
      obtain ⟨b, o, s⟩ := a
      simp only at hc; subst hc
      simp only [VRel]; exact ⟨b, rfl, rfl⟩
    · cases h
  · exact liftS_rel h
theorem liftS_any {v : Value} {x : LV} (h : liftS v = some x) (i j : Inj) {u : Value} (hu : VRel i x u) : VRel j x u := by
  unfold liftS at h
  split at h <;> simp only [Option.some.injEq, reduceCtorEq] at h <;> subst h <;> simpa [VRel] using hu
theorem liftB_any {v : Value} {x : LV} (h : liftB v = some x) (i j : Inj) {u : Value} (hu : VRel i x u) : VRel j x u := by
  unfold liftB at h
  split at h
  · split at h
    · simp only [Option.some.injEq] at h; subst h
      simp only [VRel] at hu ⊢
      obtain ⟨r, o, c, sp, h1, h2, h3, h4, h5, h6, _⟩ := hu
      exact ⟨r, o, c, sp, h1, h2, h3, h4, h5, h6, fun L n hL => by cases hL⟩
    · cases h
  · split at h
    · simp only [Option.some.injEq] at h; subst h
      simp only [VRel] at hu ⊢
      obtain ⟨r, h1, h2⟩ := hu
      exact ⟨r, h1, h2⟩
    · cases h
  · exact liftS_any h i j hu
def bmW (w : World) (r o : Nat) : Option LV := (w.cell? ⟨r, o, none⟩).bind liftB
theorem bmW_some {w : World} {r o : Nat} {v : LV} (h : bmW w r o = some v) : r < w.heap.size ∧ ∃ u, w.cell? ⟨r, o, none⟩ = some u ∧ ∀ inj, VRel inj v u := by
  obtain ⟨u, h1, h2⟩ := Option.bind_eq_some_iff.1 h
  refine ⟨?_, u, h1, fun inj => liftB_rel h2 inj⟩
  unfold World.cell? at h1
  rcases Nat.lt_or_ge r w.heap.size with hl | hl
  · exact hl
  · rw [show w.heap[r]? = none from Array.getElem?_eq_none hl] at h1; cases h1

theorem bmW_any {w : World} : ∀ r o v, bmW w r o = some v → ∀ (i j : Inj) u, VRel i v u → VRel j v u := fun r o v h i j u hu => by
  obtain ⟨_, _, h2⟩ := Option.bind_eq_some_iff.1 h
  exact liftB_any h2 i j hu
/-! ### a function taken by its contract: it takes nothing, and answers true -/
def oneExt (k : FuncId) : FuncId → Option (List LV → LSt → Option (LV × LSt)) := fun f => cond (Nat.beq f k) (some fun args st => match args with
  | [] => some (.bool true, st)
  | _ => none) none
theorem oneExt_some {k f : FuncId} {g : List LV → LSt → Option (LV × LSt)} (h : oneExt k f = some g) {args : List LV} {st st' : LSt} {r : LV} (hg : g args st = some (r, st')) : f = k ∧ args = [] ∧ r = .bool true ∧ st' = st := by
  unfold oneExt at h
  cases hb : Nat.beq f k with
  | false => rw [hb] at h; cases h
  | true =>
    rw [hb, cond_true, Option.some.injEq] at h
    subst h
    have := Nat.eq_of_beq_eq_true hb
    cases args with
    | nil => simp only [Option.some.injEq, Prod.mk.injEq] at hg; exact ⟨this, rfl, hg.1.symm, hg.2.symm⟩
    | cons _ _ => cases hg
theorem oneExt_sound {E : Env} {B : Nat} {k : FuncId} (he : E.ext = oneExt k) (hc : ∀ w, (callFunc k #[]).run E.P w = .ok (.enter k #[]) w) (ha : ∀ w, Calls E.P k #[] w fun e w' => e = .returned (.bool true) ∧ Below w.heap.size w w') : ExtSound E B := by
  intro f g hf lo args st r st' hg inj w args' hrel hlo hv
  rw [he] at hf
  obtain ⟨rfl, rfl, rfl, rfl⟩ := oneExt_some hf hg
  have e0 : args' = #[] := by
    simp only [VRels] at hv
    cases args'; simp_all
  subst e0
  refine ⟨hc w, (ha w).mono fun e w' ⟨h1, h2⟩ => ?_⟩
  refine ⟨.bool true, inj, h1, by simp [VRel], ?_, ?_⟩
  · refine ⟨⟨fun L q hL => ?_, fun L q o hL ho => ?_, hrel.new, fun r o v hb => ?_, Nat.le_trans hrel.low h2.size⟩, hrel.full, hrel.uniq⟩
    · have := hrel.dom L q hL
      exact ⟨this.1, this.2.1, Nat.lt_of_lt_of_le this.2.2 h2.size⟩
    · have := hrel.obj L q o hL ho
      rw [h2.block q.1 (hrel.dom L q hL).2.2]; exact this
    · obtain ⟨h3, u, h4, h5⟩ := hrel.base r o v hb
      exact ⟨h3, u, by rw [h2.cell (p := ⟨r, o, none⟩) (Nat.lt_of_lt_of_le h3 hrel.low)]; exact h4, h5⟩
  · exact ⟨fun _ _ => rfl, Nat.le_refl _, h2.size, fun b hb _ => h2.block b hb, fun L q hL hl hi => Or.inr ⟨L, q, hL, hl, hi, rfl⟩, fun _ _ => rfl, ⟨h2.os, h2.tape, h2.output⟩⟩
theorem oneExt_eff {E : Env} {k : FuncId} (he : E.ext = oneExt k) : ExtEff E := by
  intro f g hf args st r st' hg hn
  rw [he] at hf
  obtain ⟨_, _, _, rfl⟩ := oneExt_some hf hg
  exact CEff.refl hn

/-- A call that the small machine works out, from the memory that was there. -/
theorem enter_true {E : Env} {w : World} (hE : E.Ok) (hb : E.bm = bmW w) (hx1 : ExtSound E w.heap.size) (hx2 : ExtEff E) {f : FuncId} {args : List LV} {args' : Array Value} (ha : VRels (fun _ => none) args args'.toList) {n : Nat} {st' : LSt}
    (h : vrun E n 0 f args { mem := .leaf, nxt := 0 } = some (.bool true, st')) : Calls E.P f args' w fun e w' => e = .returned (.bool true) ∧ Below w.heap.size w w' := by
  have hrel : Rel E w.heap.size (fun _ => none) { mem := .leaf, nxt := 0 } w := by
    refine ⟨⟨fun L q h => (by cases h), fun L q o h => (by cases h), fun _ _ => rfl, fun r o v h => ?_, Nat.le_refl _⟩, fun L h => ?_, fun L L' q q' h => ?_⟩
    · rw [hb] at h
      obtain ⟨h1, u, h2, h3⟩ := bmW_some h
      exact ⟨h1, u, h2, h3 _⟩
    · obtain ⟨x, hx, _⟩ := h; cases hx
    · obtain ⟨x, hx, _⟩ := h; cases hx
  obtain ⟨_, hc⟩ := vrun_sound hE (B := w.heap.size) hx1 hx2 walk_sound n 0 f args { mem := .leaf, nxt := 0 } (.bool true) st' h _ w args' hrel (Nat.le_refl _) ha
  refine hc.mono fun e w' he => ?_
  obtain ⟨u, inj', rfl, hv, hr', hs⟩ := he
  exact ⟨by rw [rel_of_bool hv], ⟨hs.al.os, hs.al.tape, hs.al.output, hs.size, fun k hk => hs.keep k hk fun L q _ _ h => by cases h⟩⟩

/-! ### slices that came in -/
theorem flatMap_get {α : Type} {f : α → List LV} {sz : Nat} (hf : ∀ x, (f x).length = sz) (hs : 0 < sz) {l : List α} {k : Nat} {c : LV} (h : (l.flatMap f)[k]? = some c) : ∃ (j i : Nat) (hj : j < l.length), k = j * sz + i ∧ i < sz ∧ (f l[j])[i]? = some c := by
  have hk := (List.getElem?_eq_some_iff.1 h).1
  rw [flatMap_len hf] at hk
  have hj : k / sz < l.length := by rw [Nat.div_lt_iff_lt_mul hs]; exact hk
  refine ⟨k / sz, k % sz, hj, by rw [Nat.mul_comm]; exact (Nat.div_add_mod k sz).symm, Nat.mod_lt _ hs, ?_⟩
  have e : k = k / sz * sz + k % sz := by rw [Nat.mul_comm]; exact (Nat.div_add_mod k sz).symm
  rw [e, ← List.getElem?_drop, flatMap_at hf hj, List.getElem?_append_left (by rw [hf]; exact Nat.mod_lt _ hs)] at h
  exact h
theorem choose_list {α : Type} {n : Nat} {p : Nat → α → Prop} (h : ∀ j, j < n → ∃ x, p j x) : ∃ xs : List α, xs.length = n ∧ ∀ (j : Nat) (hj : j < xs.length), p j xs[j] := by
  induction n with
  | zero => exact ⟨[], rfl, fun j hj => absurd hj (Nat.not_lt_zero _)⟩
  | succ n ih =>
    obtain ⟨xs, hl, hx⟩ := ih fun j hj => h j (Nat.lt_succ_of_lt hj)
    obtain ⟨x, hp⟩ := h n (Nat.lt_succ_self n)
    refine ⟨xs ++ [x], by simp [hl], fun j hj => ?_⟩
    by_cases e : j < xs.length
    · rw [List.getElem_append_left e]; exact hx j e
    · have : j = n := by simp at hj; omega
      subst this
      rw [List.getElem_append_right (by omega)]; simpa [hl] using hp
theorem base_slice {E : Env} {w : World} (hb : E.bm = bmW w) {α : Type} {f : α → List LV} {n : Nat} (hn : 0 < n) (hf : ∀ x, (f x).length = n) {b o len cap : Nat} {Q : α → Prop}
    (h : ∀ j, j < len → ∃ x : α, Q x ∧ ∀ i c, (f x)[i]? = some c → bmW w b (o + (j * n + i)) = some c) :
    ∃ xs : List α, xs.length = len ∧ (∀ x ∈ xs, Q x) ∧ ∀ st, SlT E st (.sl (.base b) o n len cap true) n f xs := by
  obtain ⟨xs, hl, hx⟩ := choose_list h
  refine ⟨xs, hl, fun x hm => ?_, fun st => ⟨hf, Or.inr ⟨.base b, o, cap, true, by rw [hl], fun L e => (by cases e), ?_⟩⟩⟩
  · obtain ⟨j, hj, rfl⟩ := List.mem_iff_getElem.1 hm
    exact (hx j hj).1
  · show baseN E.bm b o (xs.length * n) = _
    rw [← flatMap_len hf, hb]
    refine baseN_of fun k c hk => ?_
    obtain ⟨j, i, hj, rfl, _, hc⟩ := flatMap_get hf hn hk
    exact (hx j hj).2 i c hc

theorem cell_add {w : World} {a : Addr} {x y : Nat} {v : Value} (h : w.cell? ((a.add x).add y) = some v) : w.cell? ⟨a.block, a.off + (x + y), none⟩ = some v ∧ (x + y = 0 → a.spot = none) := by
  obtain ⟨b, o, s⟩ := a
  unfold Addr.add at h
  by_cases hy : y = 0
  · subst hy
    by_cases hx : x = 0
    · subst hx
      simp only [if_true] at h
      cases s with
      | none => exact ⟨h, fun _ => rfl⟩
      | some s =>
        unfold World.cell? at h
        split at h <;> simp at h
    · simp only [if_true, if_neg hx] at h
      exact ⟨by simpa using h, fun e => by omega⟩
  · simp only [if_neg hy] at h
    by_cases hx : x = 0
    · subst hx; simp only [if_true] at h; exact ⟨by simpa using h, fun e => by omega⟩
    · simp only [if_neg hx] at h; exact ⟨by rw [← h]; congr 2; simp only; omega, fun e => by omega⟩
section
variable {H : Type} {enc : TypeId × Value → H} {P : Program} {w : World}
theorem cells_get {a : Addr} {n : Nat} {cs : List Value} (h : w.cells? 0 a n = some cs) {i : Nat} {u : Value} (hi : cs[i]? = some u) : w.cell? (a.add i) = some u := by
  unfold World.cells? at h
  rw [if_pos (Nat.zero_le _)] at h
  have hl : cs.length = n := by simpa using mapM_some_length h
  have hlt : i < n := by have := (List.getElem?_eq_some_iff.1 hi).1; omega
  rw [← hi]
  exact mapM_some_get h i i (by simp [hlt])
/-- A slice that came in, each of whose elements reads. -/
theorem slice_in {t e : TypeId} (ht : P.underlying t = some (.slice e)) {sz : Nat} (hc : P.cellsOf e = sz) (hsz : 0 < sz) {α : Type} {f : α → List LV} (hf : ∀ x, (f x).length = sz) {Q : α → Prop}
    (hel : ∀ (n : Nat) (cs : List Value) (x : DataW H × List MemPlace), DataW.trod enc P w 0 (fun _ => true) true n e cs = some x → ∃ y : α, Q y ∧ ∀ (i : Nat) (c : LV), (f y)[i]? = some c → ∃ u, cs[i]? = some u ∧ liftB u = some c)
    {E : Env} (hb : E.bm = bmW w) {n : Nat} {cs : List Value} {x : DataW H × List MemPlace} (h : DataW.trod enc P w 0 (fun _ => true) true n t cs = some x) :
    ∃ (v : Value) (lv : LV) (xs : List α), cs = [v] ∧ (∀ inj, VRel inj lv v) ∧ (sz = 1 → liftB v = some lv) ∧ (∀ x ∈ xs, Q x) ∧ ∀ st, SlT E st lv sz f xs := by
  rcases Deep.open_slice ht h with ⟨rfl, rfl⟩ | ⟨a, len, cap, m, n', D, Pl, rfl, _, hl, hm, hmm, rfl, hx⟩
  · exact ⟨_, .nilsl, [], rfl, fun inj => by simp [VRel], fun _ => rfl, by simp, fun st => ⟨hf, Or.inl ⟨rfl, rfl⟩⟩⟩
  · simp only [if_true] at hmm
    subst hmm
    rw [hc] at hx
    have hsp : a.spot = none ∨ m = 0 := by
      rcases Nat.eq_zero_or_pos m with h0 | h0
      · exact Or.inr h0
      · left
        obtain ⟨cs', h1, _⟩ := hx 0 h0
        have hl' : cs'.length = sz := by
          unfold World.cells? at h1
          rw [if_pos (Nat.zero_le _)] at h1
          simpa using mapM_some_length h1
        have h2 := cells_get h1 (i := 0) (u := cs'[0]) (List.getElem?_eq_getElem (by omega))
        exact (cell_add h2).2 (by simp)
    obtain ⟨xs, hxl, hq, hs⟩ := base_slice hb (b := a.block) (o := a.off) (len := len) (cap := m) hsz hf (Q := Q) fun j hj => by
      obtain ⟨cs', h1, h2⟩ := hx j (by omega)
      obtain ⟨y, hy, hg⟩ := hel _ _ _ h2
      refine ⟨y, hy, fun i c hi => ?_⟩
      obtain ⟨u, hu, hlu⟩ := hg i c hi
      exact Option.bind_eq_some_iff.2 ⟨u, (cell_add (cells_get h1 hu)).1, hlu⟩
    refine ⟨_, .sl (.base a.block) a.off sz len m true, xs, rfl, fun inj => slice_rel hl hsp, fun e1 => ?_, hq, hs⟩
    show (if len ≤ m ∧ (a.spot = none ∨ m = 0) then some (LV.sl (Blk.base a.block) a.off 1 len m true) else none) = _
    rw [if_pos ⟨hl, hsp⟩, e1]
end

/-! ### a row's ending: the arguments read as they did -/
section
open Go.ChangeShapes Go.WideShapes
variable {H : Type} {enc : TypeId × Value → H} {P : Program}
theorem post_read {f : Func} {s : ChangeSpec} {apart fresh handsOn again : Bool} {W W' : World} {args : Array Value} {v : Value} {ds : List (DataW H)} {before : List MemPlace}
    (K : Kids P (· < P.types.size)) (hz : ∀ t e, t < P.types.size → P.underlying t = some (.slice e) → 0 < P.cellsOf e) (hts : ∀ t ∈ f.params.toList, t < P.types.size) (hsv : s.vars = [])
    (hW : DataW.Whole enc P f.params.toList s.vars apart W args.toList ds [] before) (hA : DataW.TrodAll enc P W 0 (fun _ => true) true f.params.toList args.toList ds before)
    (hres : ∀ (b : Nat) (sp : Nat → Bool) (hd : Bool), DataW.TrodAll enc P W' b sp hd f.resultTypes.toList (v.resultList f.resultTypes.size) (s.fn H (ds ++ [])).results []) (hargs : (s.fn H (ds ++ [])).args = ds) (hvars : (s.fn H (ds ++ [])).vars = [])
    (hb : Below W.heap.size W W') (hok : ∀ (j : Nat) (t : TypeId) (r : Value), f.resultTypes[j]? = some t → (v.resultList f.resultTypes.size)[j]? = some r → Value.okWide P W' .any 0 t r) :
    s.post enc P f apart fresh handsOn again W args v W' := by
  have hlt : ∀ p ∈ before, p.block < W.heap.size := DataW.TrodAll.lt hA
  have hv : ∀ sp : Nat → Bool, DataW.TrodVars enc P W' sp s.vars (s.fn H (ds ++ [])).vars [] := fun sp => by rw [hsv, hvars]; rfl
  have carry : ∀ {ts : List TypeId} {vs : List Value} {es : List (DataW H)} {ps : List MemPlace}, DataW.TrodAll enc P W 0 (fun _ => true) true ts vs es ps → (∀ p ∈ ps, W.sameAt W' p) → DataW.TrodAll enc P W' 0 (fun _ => true) true ts vs es ps := by
    intro ts
    induction ts with
    | nil => intro vs es ps h _; obtain ⟨rfl, rfl, rfl⟩ := trodAll_nil h; exact trodAll_mk0
    | cons t ts ih =>
      intro vs es ps h hs
      obtain ⟨v, vs', d, ds', p, q, rfl, rfl, rfl, ⟨n, h1⟩, h2⟩ := trodAll_cons h
      exact ⟨p, q, ⟨n, DataW.trod_carry n _ _ _ h1 fun x hx => hs x (List.mem_append_left _ hx)⟩, ih h2 fun x hx => hs x (List.mem_append_right _ hx), rfl⟩
  have hA' := carry hA fun p hp => hb.same (hlt p hp)
  have ha : ∀ sp : Nat → Bool, (∀ p ∈ before, sp p.block = true) → DataW.TrodAll enc P W' 0 sp true f.params.toList args.toList (s.fn H (ds ++ [])).args before := fun sp hsp => by
    rw [hargs]; exact DataW.TrodAll.respare K hz hts hA' hsp
  have hold : ∀ p ∈ before, (fun b => decide (b < W.heap.size)) p.block = true := fun p hp => by simpa using hlt p hp
  have hW0 := hW
  obtain ⟨_, _, _, _, _, hfz, hnd⟩ := hW0
  refine ⟨ds, [], before, [], before, [], hW, hres _ _ _, ha _ hold, hv _, World.keptBut_mono (fun p hp => ⟨hp, Or.inr (Or.inl hp)⟩) (hb.frame (· ∈ before)), fun _ => ⟨hok, ?_⟩⟩
  refine ⟨(s.fn H (ds ++ [])).results ++ (s.fn H (ds ++ [])).args, (s.fn H (ds ++ [])).vars, before, ⟨before, [], trodAll_append (ha (fun _ => true) fun _ _ => rfl) (hres 0 (fun _ => true) true) |> fun h => by simpa using h, hv _, by simp, fun b off hp => ?_, hnd⟩, fun p hp _ => hp⟩
  rw [hb.frozen (p := ⟨b, off, none⟩) (hlt _ hp)]
  exact hfz b off hp
end
end Go.Proofs.Ytpkeggejofeeeaa.Lvm

namespace Go.Proofs.Ytpkeggejofeeeaa.Lvm
section
variable {E : Env} {s0 : LSt} {lo n : Nat} {K : KL} {H : HL} {R : KL → HL → Prop} {draw : Bool} {ops l : List Oper} {ty : TypeId} {ps : String} {af : Array Edge} {d : Nat} {v u : LV} {x y z : Operand} {t t2 e : TypeId} {s s' : ByteArray}
/-! strings -/
theorem RP.idx_str {w : LV} {j : Nat} {b : UInt8} (hn : Nat.blt d n = true) (hx : kev K x = some (.str s)) (hy : kev K y = some w) (hj : natOf w = some j) (hu : E.und t = some .string) (hb : s.data.toList[j]? = some b) (h' : RP E s0 lo draw ops l n ((d, .int .u8 (b.toNat : Int)) :: K) H R) :
    RP E s0 lo draw ops (⟨some d, .index t x y, ty, ps, af, none⟩ :: l) n K H R := RP.pure hn (fun st _ => by simp only [vop, opIndex, leval_kfr, hx, hy, indexL, hj, hu, hb]) h'
theorem RP.sub_str {w w' : LV} {i j : Nat} (hn : Nat.blt d n = true) (hx : kev K x = some (.str s)) (hy : kev K y = some w) (hz : kev K z = some w') (hi : natOf w = some i) (hj : natOf w' = some j) (hu : E.und t = some .string) (hij : i ≤ j) (hjs : j ≤ s.size) (h' : RP E s0 lo draw ops l n ((d, .str (s.extract i j)) :: K) H R) :
    RP E s0 lo draw ops (⟨some d, .slice t x (some y) (some z) none, ty, ps, af, none⟩ :: l) n K H R := RP.pure hn (fun st _ => by
  have h1 : Nat.ble i j = true := Nat.ble_eq_true_of_le hij
  have h2 : Nat.ble j s.size = true := Nat.ble_eq_true_of_le hjs
  have hy' : leval (kfr n K) y = some w := by rw [leval_kfr]; exact hy
  have hz' : leval (kfr n K) z = some w' := by rw [leval_kfr]; exact hz
  simp [vop, opSlice, leval_kfr, hx, sliceL, hu, optNat, hy, hz, hi, hj, h1, h2]) h'
theorem RP.rest_str {w : LV} {i : Nat} (hn : Nat.blt d n = true) (hx : kev K x = some (.str s)) (hy : kev K y = some w) (hi : natOf w = some i) (hu : E.und t = some .string) (hij : i ≤ s.size) (h' : RP E s0 lo draw ops l n ((d, .str (s.extract i s.size)) :: K) H R) :
    RP E s0 lo draw ops (⟨some d, .slice t x (some y) none none, ty, ps, af, none⟩ :: l) n K H R := RP.pure hn (fun st _ => by
  have h1 : Nat.ble i s.size = true := Nat.ble_eq_true_of_le hij
  have h2 : Nat.ble s.size s.size = true := Nat.ble_eq_true_of_le (Nat.le_refl _)
  simp [vop, opSlice, leval_kfr, hx, sliceL, hu, optNat, hy, hi, h1, h2]) h'
theorem RP.cat (hn : Nat.blt d n = true) (hx : kev K x = some (.str s)) (hy : kev K y = some (.str s')) (hs : s.size + s'.size ≤ 140737488355328) (h' : RP E s0 lo draw ops l n ((d, .str (s ++ s')) :: K) H R) :
    RP E s0 lo draw ops (⟨some d, .binOp .add t x y t2, ty, ps, af, none⟩ :: l) n K H R := RP.pure hn (fun st _ => by simp only [vop, opBin, leval_kfr, hx, hy, binL, strOp, if_pos hs]) h'
theorem RP.eqs (hn : Nat.blt d n = true) (hx : kev K x = some (.str s)) (hy : kev K y = some (.str s')) (h' : RP E s0 lo draw ops l n ((d, .bool (s.data.toList == s'.data.toList)) :: K) H R) :
    RP E s0 lo draw ops (⟨some d, .binOp .eql t x y t2, ty, ps, af, none⟩ :: l) n K H R := RP.pure hn (fun st _ => by simp only [vop, opBin, leval_kfr, hx, hy, binL, strOp, ByteArray.toList_eq]) h'
theorem bytesOf_flat : ∀ (l : List UInt8), bytesOf (l.flatMap fY) = some l
  | [] => rfl
  | b :: l => by
    rw [List.flatMap_cons]
    show (match bytesOf (l.flatMap fY) with | some r => some (UInt8.ofNat ((b.toNat : Int).toNat) :: r) | none => none) = _
    rw [bytesOf_flat l]; simp
theorem fY_len (x : UInt8) : (fY x).length = 1 := rfl
theorem fY_sc (x : UInt8) : (fY x).all LV.scalar = true := rfl
/-- Bytes as a string. -/
theorem RP.conv_bytes {bs : List UInt8} (hn : Nat.blt d n = true) (hx : kev K x = some u) (hs : E.und t = some (.slice e)) (he : E.und e = some (.int .u8)) (hd : E.und t2 = some .string) (hl : SlH E s0 H u 1 fY bs) (h' : RP E s0 lo draw ops l n ((d, .str ⟨bs.toArray⟩) :: K) H R) :
    RP E s0 lo draw ops (⟨some d, .convert t t2 x, ty, ps, af, none⟩ :: l) n K H R := RP.pure hn (fun st hi => by
  obtain ⟨_, ⟨rfl, rfl⟩ | ⟨b, o, cap, ex, rfl, _, hld⟩⟩ := hl st hi
  · simp only [vop, opConv, leval_kfr, hx, convL, hs, hd, he]; rfl
  · rw [Nat.mul_one] at hld
    have h1 : Nat.beq 1 1 = true := rfl
    simp only [vop, opConv, leval_kfr, hx, convL, hs, hd, he, h1, cond_true, hld, bytesOf_flat]) h'
theorem RP.shl {k k' : IntKind} {a b : Int} (hn : Nat.blt d n = true) (hx : kev K x = some (.int k a)) (hy : kev K y = some (.int k' b)) (hb : 0 ≤ b) (h' : RP E s0 lo draw ops l n ((d, .int k (k.wrap (a * 2 ^ (min b.toNat k.bits)))) :: K) H R) :
    RP E s0 lo draw ops (⟨some d, .binOp .shl t x y t2, ty, ps, af, none⟩ :: l) n K H R := RP.pure hn (fun st _ => vop_shl (by rw [leval_kfr]; exact hx) (by rw [leval_kfr]; exact hy) hb) h'
theorem RP.at_arr {w : LV} {L o j sz len : Nat} (hn : Nat.blt d n = true) (hx : kev K x = some (.ptr (.own L) o)) (hy : kev K y = some w) (hj : natOf w = some j) (hu : E.und t = some (.array len e)) (hs : E.size e = some sz) (hlt : j < len) (h' : RP E s0 lo draw ops l n ((d, .ptr (.own L) (o + j * sz)) :: K) H R) :
    RP E s0 lo draw ops (⟨some d, .indexAddr t x y, ty, ps, af, none⟩ :: l) n K H R := RP.pure hn (fun st _ => by
  have h1 : Nat.blt j len = true := by rw [Nat.blt_eq]; exact hlt
  simp [vop, opIndexAddr, leval_kfr, hx, hy, indexAddrL, hj, hu, hs, h1]) h'
theorem RP.load_box_at {L o : Nat} {td : TypeDesc} {cs : List LV} (v : LV) (hn : Nat.blt d n = true) (hx : kev K x = some (.ptr (.own L) o)) (hu : E.und t = some td) (hd : isAggD td = false) (hp : HIn (some L, .cells cs) H) (hc : cs[o]? = some v) (h' : RP E s0 lo draw ops l n ((d, v) :: K) H R) :
    RP E s0 lo draw ops (⟨some d, .load t x, ty, ps, af, none⟩ :: l) n K H R := RP.load_box hn hx hu hd hp hc h'
end
theorem binL_eqs {E : Env} {t : TypeId} {s s' : ByteArray} (h : s.data.toList = s'.data.toList) : binL E .eql t (.str s) (.str s') = some (.bool true) := by
  simp only [binL, strOp, ByteArray.toList_eq, h, beq_self_eq_true]
theorem cat_list (s t : ByteArray) : (s ++ t).data.toList = s.data.toList ++ t.data.toList := by simp
theorem sub_list {s : ByteArray} {i : Nat} (h : i < s.data.toList.length) : (s.extract i (i + 1)).data.toList = [s.data.toList[i]] := by
  rw [ByteArray.data_extract, Array.toList_extract]
  simp [List.extract, List.drop_eq_getElem_cons h]
theorem size_list (s : ByteArray) : s.size = s.data.toList.length := Array.length_toList.symm
/-! blocks that are none, many at a time -/
theorem Inv.ghosts {s0 st : LSt} {H : HL} (hi : Inv s0 H st) : ∀ (G : HL), (∀ p ∈ G, p.1 = none) → Inv s0 (G ++ H) st
  | [], _ => hi
  | (none, o) :: G, h => (hi.ghosts G fun p hp => h p (List.mem_cons_of_mem _ hp)).ghost o
  | (some L, o) :: G, h => by have := h _ (List.mem_cons_self ..); cases this
end Go.Proofs.Ytpkeggejofeeeaa.Lvm

namespace Go.Proofs.Ytpkeggejofeeeaa.Lvm

/-! ### what a machine takes of a text -/
def word (s : Spot) (k : Nat) : Int := match k with
  | 0 => s.a
  | 1 => s.b
  | 2 => s.c
  | _ => s.d
/-- Is a byte in a spot's set? -/
def inB (s : Spot) (c : UInt8) : Bool := (word s (c.toNat / 64)).toNat.testBit (c.toNat % 64)
def inSpot (m : Mach) (c : UInt8) (n : Nat) : Bool := match m.spots[n]? with
  | some s => inB s c
  | none => false
def folOf (m : Mach) (n : Nat) : List Int := (m.follow[n]?).getD []
/-- From a spot, over a text, to a last one. -/
def goW (m : Mach) : List UInt8 → Nat → Bool
  | [], n => (m.last[n]?).getD false
  | c :: r, n => (folOf m n).any fun k => inSpot m c k.toNat && goW m r k.toNat
/-- Into a spot by the first byte, and on. -/
def accept (m : Mach) : List UInt8 → Nat → Bool
  | [], _ => false
  | c :: r, n => inSpot m c n && goW m r n
def takesF (m : Mach) : List UInt8 → Bool
  | [] => m.empty
  | w => m.first.any fun x => accept m w x.toNat
theorem goW_cons {m : Mach} {c : UInt8} {r : List UInt8} {n : Nat} : goW m (c :: r) n = (folOf m n).any fun k => accept m (c :: r) k.toNat := rfl

/-! ### tables of truth values -/
def tab (N : Nat) (f : Nat → Bool) : List Bool := (List.range N).map f
theorem tab_len {N : Nat} {f : Nat → Bool} : (tab N f).length = N := by simp [tab]
theorem tab_get {N n : Nat} {f : Nat → Bool} (h : n < N) : (tab N f)[n]? = some (f n) := by simp [tab, h]
theorem tab_at {N n : Nat} {f : Nat → Bool} (h : n < (tab N f).length) : (tab N f)[n] = f n := by simp [tab]
theorem tab_congr {N : Nat} {f g : Nat → Bool} (h : ∀ n, n < N → f n = g n) : tab N f = tab N g := by
  unfold tab; exact List.map_congr_left fun n hn => h n (List.mem_range.1 hn)
theorem tab_false {N : Nat} : List.replicate N false = tab N fun _ => false := by
  unfold tab; induction N with
  | zero => rfl
  | succ n ih => rw [List.range_succ, List.map_append, ← ih, List.replicate_succ']; rfl
theorem tab_set {N i : Nat} {f : Nat → Bool} {b : Bool} : (tab N f).set i b = tab N fun n => if n = i then b else f n := by
  refine List.ext_getElem? fun n => ?_
  by_cases hn : n < N
  · rw [tab_get hn]
    by_cases e : i = n
    · subst e; rw [List.getElem?_set_self (by rw [tab_len]; exact hn), if_pos rfl]
    · rw [List.getElem?_set_ne e, tab_get hn, if_neg (fun h => e h.symm)]
  · rw [List.getElem?_eq_none (by rw [List.length_set, tab_len]; omega), List.getElem?_eq_none (by rw [tab_len]; omega)]
/-- Filled up to a place. -/
def upto (i : Nat) (f : Nat → Bool) (n : Nat) : Bool := decide (n < i) && f n
theorem upto_zero {N : Nat} {f : Nat → Bool} : List.replicate N false = tab N (upto 0 f) := by
  rw [tab_false]; exact tab_congr fun n _ => by simp [upto]
theorem upto_set {N i : Nat} {f : Nat → Bool} {b : Bool} (h : b = f i) : (tab N (upto i f)).set i b = tab N (upto (i + 1) f) := by
  rw [tab_set]
  refine tab_congr fun n _ => ?_
  unfold upto
  by_cases e : n = i
  · subst e; rw [if_pos rfl, h]; simp
  · rw [if_neg e]
    by_cases h2 : n < i
    · simp [h2, Nat.lt_succ_of_lt h2]
    · simp [h2, show ¬ n < i + 1 by omega]
theorem upto_skip {N i : Nat} {f : Nat → Bool} (h : f i = false) : tab N (upto i f) = tab N (upto (i + 1) f) := by
  refine tab_congr fun n _ => ?_
  unfold upto
  by_cases e : n = i
  · subst e; simp [h]
  · by_cases h2 : n < i
    · simp [h2, Nat.lt_succ_of_lt h2]
    · simp [h2, show ¬ n < i + 1 by omega]
theorem upto_all {N i : Nat} {f : Nat → Bool} (h : N ≤ i) : tab N (upto i f) = tab N f := tab_congr fun n hn => by simp [upto, show n < i by omega]

/-! ### sets of spots, as tables -/
def memI (l : List Int) (n : Nat) : Bool := l.any fun x => x == (n : Int)
theorem memI_step {l : List Int} {i : Nat} (hi : i < l.length) (h0 : 0 ≤ l[i]) {N : Nat} {g : Nat → Bool} : (tab N fun n => g n || memI (l.take i) n).set l[i].toNat true = tab N fun n => g n || memI (l.take (i + 1)) n := by
  rw [tab_set]
  refine tab_congr fun n _ => ?_
  unfold memI
  rw [List.take_succ_eq_append_getElem hi, List.any_append]
  by_cases e : n = l[i].toNat
  · have : (l[i] == (n : Int)) = true := by rw [beq_iff_eq]; omega
    rw [if_pos e]; simp [this]
  · have : (l[i] == (n : Int)) = false := by rw [beq_eq_false_iff_ne]; omega
    rw [if_neg e]; simp [this]
/-- The spots behind some. -/
def behindF (m : Mach) (at_ : Nat → Bool) (k n : Nat) : Bool := (List.range k).any fun i => at_ i && memI (folOf m i) n
theorem behindF_step {m : Mach} {at_ : Nat → Bool} {k : Nat} : behindF m at_ (k + 1) = fun n => behindF m at_ k n || (at_ k && memI (folOf m k) n) := by
  funext n; unfold behindF; rw [List.range_succ, List.any_append]; simp
/-- Does a run go on well from one of some spots? -/
def anyAt (N : Nat) (at_ : Nat → Bool) (f : Nat → Bool) : Bool := (List.range N).any fun n => at_ n && f n
theorem anyAt_congr {N : Nat} {a a' f f' : Nat → Bool} (h : ∀ n, n < N → (a n && f n) = (a' n && f' n)) : anyAt N a f = anyAt N a' f' := by
  unfold anyAt
  rw [Bool.eq_iff_iff, List.any_eq_true, List.any_eq_true]
  exact ⟨fun ⟨n, hn, hx⟩ => ⟨n, hn, by rw [← h n (List.mem_range.1 hn)]; exact hx⟩, fun ⟨n, hn, hx⟩ => ⟨n, hn, by rw [h n (List.mem_range.1 hn)]; exact hx⟩⟩
theorem anyAt_iff {N : Nat} {a f : Nat → Bool} : anyAt N a f = true ↔ ∃ n, n < N ∧ a n = true ∧ f n = true := by
  unfold anyAt; simp [List.any_eq_true]
theorem memI_iff {l : List Int} {n : Nat} : memI l n = true ↔ (n : Int) ∈ l := by
  unfold memI; simp [List.any_eq_true]
theorem any_anyAt {N : Nat} {l : List Int} {f : Nat → Bool} (h : ∀ x ∈ l, 0 ≤ x ∧ x.toNat < N) : (l.any fun x => f x.toNat) = anyAt N (memI l) f := by
  rw [Bool.eq_iff_iff, List.any_eq_true, anyAt_iff]
  constructor
  · rintro ⟨x, hx, hf⟩
    exact ⟨x.toNat, (h x hx).2, memI_iff.2 (by have := (h x hx).1; rwa [Int.toNat_of_nonneg this]), hf⟩
  · rintro ⟨n, _, hm, hf⟩
    exact ⟨n, memI_iff.1 hm, by simpa using hf⟩
/-- One byte further. -/
theorem anyAt_step {m : Mach} {N : Nat} {a : Nat → Bool} {c : UInt8} {r : List UInt8} (h : ∀ n, n < N → ∀ x ∈ folOf m n, 0 ≤ x ∧ x.toNat < N) :
    anyAt N a (goW m (c :: r)) = anyAt N (fun n => behindF m a N n && inSpot m c n) (goW m r) := by
  rw [Bool.eq_iff_iff, anyAt_iff, anyAt_iff]
  constructor
  · rintro ⟨n, hn, ha, hg⟩
    obtain ⟨x, hx, h2⟩ := List.any_eq_true.1 hg
    have hr := h n hn x hx
    rw [Bool.and_eq_true] at h2
    refine ⟨x.toNat, hr.2, ?_, h2.2⟩
    rw [Bool.and_eq_true]
    refine ⟨List.any_eq_true.2 ⟨n, List.mem_range.2 hn, ?_⟩, h2.1⟩
    rw [Bool.and_eq_true]
    exact ⟨ha, memI_iff.2 (by rwa [Int.toNat_of_nonneg hr.1])⟩
  · rintro ⟨k, _, hb, hg⟩
    rw [Bool.and_eq_true] at hb
    obtain ⟨n, hn, h2⟩ := List.any_eq_true.1 hb.1
    rw [Bool.and_eq_true] at h2
    refine ⟨n, List.mem_range.1 hn, h2.1, List.any_eq_true.2 ⟨_, memI_iff.1 h2.2, ?_⟩⟩
    rw [Bool.and_eq_true]
    exact ⟨by simpa using hb.2, by simpa using hg⟩
end Go.Proofs.Ytpkeggejofeeeaa.Lvm
namespace Go.Proofs.Ytpkeggejofeeeaa.Lvm
/-! ### a byte in a set, by the program's own steps -/
def bitV (c : UInt8) : Int := 2 ^ (c.toNat % 64)
theorem bit_val (c : UInt8) : IntKind.u64.wrap (1 * 2 ^ (min (Int.tmod (c.toNat : Int) 64).toNat IntKind.u64.bits)) = bitV c := by
  have h : (Int.tmod (c.toNat : Int) 64).toNat = c.toNat % 64 := by rw [Int.tmod_eq_emod_of_nonneg (by omega)]; omega
  rw [h, show min (c.toNat % 64) IntKind.u64.bits = c.toNat % 64 from Nat.min_eq_left (by have := Nat.mod_lt c.toNat (show 64 > 0 by omega); simp only [IntKind.bits]; omega), Int.one_mul]
  have hl : (2 : Int) ^ (c.toNat % 64) ≤ 2 ^ 63 := by
    have h1 : (2 : Nat) ^ (c.toNat % 64) ≤ 2 ^ 63 := Nat.pow_le_pow_right (by omega) (by have := Nat.mod_lt c.toNat (show 64 > 0 by omega); omega)
    have h2 : ((2 ^ (c.toNat % 64) : Nat) : Int) ≤ ((2 ^ 63 : Nat) : Int) := Int.ofNat_le.2 h1
    simpa using h2
  have h0 : (0 : Int) < 2 ^ (c.toNat % 64) := Int.pow_pos (by omega)
  unfold bitV
  exact IntWalk.u64_in _ ⟨by omega, by omega⟩
theorem quo_val (c : UInt8) : IntKind.i64.wrap (IntKind.u8.wrap (Int.tdiv (c.toNat : Int) 64)) = ((c.toNat / 64 : Nat) : Int) := by
  have hc : c.toNat < 256 := c.toNat_lt
  rw [Int.tdiv_eq_ediv_of_nonneg (by omega), IntWalk.u8_in _ ⟨by omega, by omega⟩, IntWalk.i64_in _ ⟨by omega, by omega⟩]
  omega
theorem word_at {s : Spot} {j : Nat} (hj : j < 4) : ([.int .u64 s.a, .int .u64 s.b, .int .u64 s.c, .int .u64 s.d] : List LV)[0 + j * 1]? = some (.int .u64 (word s j)) := by
  match j, hj with
  | 0, _ | 1, _ | 2, _ | 3, _ => rfl
theorem word_ok {s : Spot} (h : SpotOk s) (j : Nat) : 0 ≤ word s j ∧ word s j < 18446744073709551616 := by
  have := h.1
  unfold word
  split <;> exact this _ (by simp)
theorem and_pow (n k : Nat) : n &&& 2 ^ k = if n.testBit k then 2 ^ k else 0 := by
  refine Nat.eq_of_testBit_eq fun i => ?_
  rw [Nat.testBit_and, Nat.testBit_two_pow]
  by_cases e : k = i
  · subst e; cases n.testBit k <;> simp
  · cases h : n.testBit k <;> simp [e]
/-- The test of the bit. -/
theorem has_val {s : Spot} (h : SpotOk s) (c : UInt8) : (IntKind.u64.wrap ((BitVec.ofInt IntKind.u64.bits (word s (c.toNat / 64)) &&& BitVec.ofInt IntKind.u64.bits (bitV c)).toNat : Int) != 0) = inB s c := by
  obtain ⟨h0, h1⟩ := word_ok h (c.toNat / 64)
  unfold inB
  generalize word s (c.toNat / 64) = x at h0 h1 ⊢
  have hm := Nat.mod_lt c.toNat (show 64 > 0 by omega)
  unfold bitV
  generalize c.toNat % 64 = k at hm ⊢
  obtain ⟨n, rfl⟩ := Int.eq_ofNat_of_zero_le h0
  have e1 : (BitVec.ofInt IntKind.u64.bits (n : Int)).toNat = n := by
    simp only [IntKind.bits, BitVec.toNat_ofInt]; omega
  have hk : (2 : Nat) ^ k < 2 ^ 64 := Nat.pow_lt_pow_right (by omega) hm
  have e2 : (BitVec.ofInt IntKind.u64.bits ((2 : Int) ^ k)).toNat = 2 ^ k := by
    have : (2 : Int) ^ k = ((2 ^ k : Nat) : Int) := by simp
    show (BitVec.ofInt 64 ((2 : Int) ^ k)).toNat = 2 ^ k
    rw [this, BitVec.toNat_ofInt]
    generalize 2 ^ k = m at hk ⊢
    omega
  rw [BitVec.toNat_and, e1, e2, and_pow]
  have hp : (2 : Nat) ^ k > 0 := Nat.pow_pos (by omega)
  simp only [Int.toNat_natCast]
  generalize 2 ^ k = p at hk hp ⊢
  cases n.testBit k with
  | false => simp [IntWalk.u64_in]
  | true =>
    rw [if_pos rfl, IntWalk.u64_in _ ⟨by omega, by omega⟩, bne_iff_ne]
    omega
end Go.Proofs.Ytpkeggejofeeeaa.Lvm
namespace Go.Proofs.Ytpkeggejofeeeaa.Lvm
theorem memI_nil {N : Nat} {l : List Int} {g : Nat → Bool} : tab N g = tab N fun n => g n || memI (l.take 0) n := tab_congr fun n _ => by simp [memI]
theorem memI_full {N i : Nat} {l : List Int} {g : Nat → Bool} (h : l.length ≤ i) : (tab N fun n => g n || memI (l.take i) n) = tab N fun n => g n || memI l n := by rw [List.take_of_length_le h]
theorem MA.fol {E : Env} {st : LSt} {a b c d : LV} {m : Mach} {fol : List (LV × List Int)} (h : MA E st a b c d m fol) {i : Nat} (hi : i < fol.length) : folOf m i = fol[i].2 := by unfold folOf; rw [h.at_ hi]; rfl
theorem GoodM.range {m : Mach} (h : GoodM m) {n : Nat} {x : Int} (hx : x ∈ folOf m n) : 0 ≤ x ∧ x.toNat < m.spots.length := by
  unfold folOf at hx
  cases hf : m.follow[n]? with
  | none => rw [hf] at hx; cases hx
  | some l =>
    rw [hf] at hx
    obtain ⟨hn, rfl⟩ := List.getElem?_eq_some_iff.1 hf
    have := risingF_mem (h.rows n hn) x hx
    omega
theorem GoodM.start {m : Mach} (h : GoodM m) {x : Int} (hx : x ∈ m.first) : 0 ≤ x ∧ x.toNat < m.spots.length := by
  have := risingF_mem h.first x hx; omega
theorem Lin.tab {v : LV} {tight : Bool} {p : HE} {N : Nat} {f g : Nat → Bool} (h : Lin 1 fB tight v (tab N f) p) (he : ∀ n, n < N → f n = g n) : Lin 1 fB tight v (Lvm.tab N g) p := by rw [← tab_congr he]; exact h
/-- A text's run begins. -/
theorem takes_start {m : Mach} (h : GoodM m) {c : UInt8} {r : List UInt8} : takesF m (c :: r) = anyAt m.spots.length (fun n => memI m.first n && inSpot m c n) (goW m r) := by
  show (m.first.any fun x => accept m (c :: r) x.toNat) = _
  rw [any_anyAt (f := accept m (c :: r)) fun x hx => h.start hx]
  exact anyAt_congr fun n _ => by simp [accept, Bool.and_assoc]
end Go.Proofs.Ytpkeggejofeeeaa.Lvm
namespace Go.Proofs.Ytpkeggejofeeeaa.Lvm
/-! ### marks -/
def fU (x : Int) : List LV := [.int .u8 x]
theorem fU_len (x : Int) : (fU x).length = 1 := rfl
theorem fU_sc (x : Int) : (fU x).all LV.scalar = true := rfl
def tagOf (m : Mach) (n : Nat) : Int := match m.spots[n]? with
  | some s => s.tag
  | none => 0
def markF (m : Mach) : List UInt8 → List Int → Option (List Int)
  | [], _ => some []
  | c :: r, xs => match xs.find? fun x => accept m (c :: r) x.toNat with
    | none => none
    | some x => (markF m r (folOf m x.toNat)).map (tagOf m x.toNat :: ·)
theorem find_first {p : Int → Bool} {xs : List Int} {i : Nat} (hi : i < xs.length) (hp : p xs[i] = true) (h : ∀ (j : Nat) (hj : j < xs.length), j < i → p xs[j] = false) : xs.find? p = some xs[i] := by
  rw [List.find?_eq_some_iff_append]
  refine ⟨hp, xs.take i, xs.drop (i + 1), by rw [← List.drop_eq_getElem_cons hi, List.take_append_drop], fun a ha => ?_⟩
  obtain ⟨j, hj, rfl⟩ := List.mem_iff_getElem.1 ha
  rw [List.length_take] at hj
  rw [List.getElem_take, h j (by omega) (by omega)]; rfl
theorem find_none {p : Int → Bool} {xs : List Int} (h : ∀ x ∈ xs, p x = false) : xs.find? p = none := List.find?_eq_none.2 fun x hx => by rw [h x hx]; exact Bool.false_ne_true
theorem markF_isSome {m : Mach} : ∀ {w : List UInt8} {xs : List Int}, w ≠ [] → (markF m w xs).isSome = xs.any fun x => accept m w x.toNat
  | [], _, h => absurd rfl h
  | c :: r, xs, _ => by
    rw [markF]
    cases hf : xs.find? fun x => accept m (c :: r) x.toNat with
    | none =>
      have := List.find?_eq_none.1 hf
      symm; simp only [Option.isSome_none]
      rw [List.any_eq_false]; exact this
    | some x =>
      have hp := List.find?_some hf
      have hm := List.mem_of_find?_eq_some hf
      have ha : (xs.any fun x => accept m (c :: r) x.toNat) = true := List.any_eq_true.2 ⟨x, hm, hp⟩
      simp only [Option.isSome_map]
      rw [ha]
      cases r with
      | nil => rfl
      | cons c' r' =>
        rw [markF_isSome (by simp)]
        simp only [accept, Bool.and_eq_true] at hp
        exact hp.2
theorem markF_len {m : Mach} : ∀ {w : List UInt8} {xs l : List Int}, markF m w xs = some l → l.length = w.length
  | [], _, l, h => by rw [markF, Option.some.injEq] at h; subst h; rfl
  | c :: r, xs, l, h => by
    rw [markF] at h
    split at h
    · cases h
    · obtain ⟨l', h1, rfl⟩ := Option.map_eq_some_iff.1 h
      simp [markF_len h1]
/-- What marking comes to. -/
inductive MarksSpec (m : Mach) (w : List UInt8) : Bool → List Int → Prop where
  | bad (h : ¬ GoodM m) : MarksSpec m w false []
  | none (h : GoodM m) (hw : w = []) : MarksSpec m w m.empty []
  | no (h : GoodM m) (hw : w ≠ []) (hm : markF m w m.first = none) : MarksSpec m w false []
  | yes {l : List Int} (h : GoodM m) (hw : w ≠ []) (hm : markF m w m.first = some l) : MarksSpec m w true l
theorem MarksSpec.len {m : Mach} {w : List UInt8} {ok : Bool} {l : List Int} (h : MarksSpec m w ok l) : l.length ≤ w.length := by
  cases h with
  | yes _ _ hm => rw [markF_len hm]; exact Nat.le_refl _
  | _ => simp
theorem MarksSpec.takes {m : Mach} {w : List UInt8} {ok : Bool} {l : List Int} (h : MarksSpec m w ok l) (hg : GoodM m) : ok = takesF m w := by
  cases h with
  | bad h => exact absurd hg h
  | none _ hw => subst hw; rfl
  | no _ hw hm =>
    have := markF_isSome (m := m) (xs := m.first) hw
    rw [hm] at this
    cases w with
    | nil => exact absurd rfl hw
    | cons c r => exact this
  | yes _ hw hm =>
    have := markF_isSome (m := m) (xs := m.first) hw
    rw [hm] at this
    cases w with
    | nil => exact absurd rfl hw
    | cons c r => exact this
/-- The bytes with a tag. -/
def pickF (t : Int) (l : List Int) (w : List UInt8) : List UInt8 := ((l.zip w).filter fun p => p.1 == t).map (·.2)
theorem pickF_step {t : Int} {l : List Int} {w : List UInt8} {i : Nat} (h1 : i < l.length) (h2 : i < w.length) : pickF t (l.take (i + 1)) (w.take (i + 1)) = pickF t (l.take i) (w.take i) ++ (if l[i] = t then [w[i]] else []) := by
  unfold pickF
  rw [List.take_succ_eq_append_getElem h1, List.take_succ_eq_append_getElem h2, List.zip_append (by simp; omega), List.filter_append, List.map_append]
  congr 1
  by_cases h : l[i] = t <;> simp [h]
theorem pickF_all {t : Int} {l : List Int} {w : List UInt8} {i : Nat} (h1 : l.length ≤ i) (h2 : l.length ≤ w.length) : pickF t (l.take i) (w.take i) = pickF t l w := by
  unfold pickF
  rw [show (l.take i).zip (w.take i) = (l.zip w).take i from List.take_zipWith.symm, List.take_of_length_le (by rw [List.length_zip]; omega)]
theorem pickF_len {t : Int} {l : List Int} {w : List UInt8} : (pickF t l w).length ≤ w.length := by
  unfold pickF
  rw [List.length_map]
  exact Nat.le_trans (List.length_filter_le ..) (by rw [List.length_zip]; omega)
end Go.Proofs.Ytpkeggejofeeeaa.Lvm
namespace Go.Proofs.Ytpkeggejofeeeaa.Lvm
theorem MarksSpec.nil {m : Mach} {w : List UInt8} {ok : Bool} {l : List Int} (h : MarksSpec m w ok l) (ho : ok = false) : l = [] := by
  cases h with
  | yes => cases ho
  | _ => rfl
/-- A text's fields. -/
def parsedV (ok : Bool) (l : List Int) (w : List UInt8) : LV := .agg [.bool ok, .str ⟨(pickF 1 l w).toArray⟩, .str ⟨(pickF 2 l w).toArray⟩]
end Go.Proofs.Ytpkeggejofeeeaa.Lvm
namespace Go.Proofs.Ytpkeggejofeeeaa.Lvm
theorem MarksSpec.both {m : Mach} {w : List UInt8} {ok ok' : Bool} {l l' : List Int} (h : MarksSpec m w ok l) (h' : MarksSpec m w ok' l') : ok = ok' ∧ l = l' := by
  cases h <;> cases h' <;> first | exact ⟨rfl, rfl⟩ | contradiction | skip
  all_goals (rename_i hm _ _ hm'; rw [hm] at hm'; first | (cases hm'; done) | (obtain rfl := Option.some.inj hm'; exact ⟨rfl, rfl⟩))
theorem MarksSpec.same_ok {m : Mach} {w : List UInt8} {ok ok' : Bool} {l l' : List Int} (h : MarksSpec m w ok l) (h' : MarksSpec m w ok' l') : ok = ok' := (h.both h').1
theorem MarksSpec.same {m : Mach} {w : List UInt8} {ok ok' : Bool} {l l' : List Int} (h : MarksSpec m w ok l) (h' : MarksSpec m w ok' l') : l = l' := (h.both h').2
theorem MarksSpec.bad_ok {m : Mach} {w : List UInt8} {ok : Bool} {l : List Int} (h : MarksSpec m w ok l) (hb : ¬ GoodM m) : ok = false := by
  cases h <;> first | rfl | contradiction
end Go.Proofs.Ytpkeggejofeeeaa.Lvm
