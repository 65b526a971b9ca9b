/- Laws of the small machine, of how it stands to the model, and of what functions come to on it; a helper of the statement: no statement is proved here. -/
import Derived.Test.YtpkeggejofeeeaaM
set_option linter.unusedVariables false
namespace Go.Proofs.Ytpkeggejofeeeaa.Lvm
/-! ### maps whose keys are pairs of numbers -/
abbrev PP := Int × Int
def keyV (p : PP) : LV := .agg [.int .i64 p.1, .int .i64 p.2]
def menc (es : List (PP × LV)) : List (LV × LV) := es.map fun e => (keyV e.1, e.2)
def lk (es : List (PP × LV)) (p : PP) : Option LV := (es.find? fun e => e.1 == p).map (·.2)
theorem cellsEq_key {p q : PP} : cellsEq (keyV p).cells (keyV q).cells = (p == q) := by
  show (p.1 == q.1 && (p.2 == q.2 && true)) = _
  rw [Bool.and_true]; rfl
theorem menc_append {es fs : List (PP × LV)} : menc (es ++ fs) = menc es ++ menc fs := List.map_append ..
theorem menc_set {es : List (PP × LV)} {i : Nat} {e : PP × LV} : menc (es.set i e) = (menc es).set i (keyV e.1, e.2) := List.map_set ..
theorem menc_get {es : List (PP × LV)} {i : Nat} : (menc es)[i]? = es[i]?.map fun e => (keyV e.1, e.2) := List.getElem?_map ..
theorem findL_none {p : PP} : ∀ {es : List (PP × LV)} {i : Nat}, (∀ e ∈ es, e.1 ≠ p) → findL (keyV p) (menc es) i = none
  | [], _, _ => rfl
  | e :: es, i, h => by
    show cond (cellsEq (keyV p).cells (keyV e.1).cells) _ _ = _
    rw [cellsEq_key, show (p == e.1) = false from beq_eq_false_iff_ne.2 fun h2 => h e (List.mem_cons_self ..) h2.symm, cond_false]
    exact findL_none fun e he => h e (List.mem_cons_of_mem _ he)
theorem findL_has {p : PP} : ∀ {es : List (PP × LV)} {i : Nat}, ¬ (∀ e ∈ es, e.1 ≠ p) → ∃ j v, es[j]? = some (p, v) ∧ findL (keyV p) (menc es) i = some (i + j, v) ∧ lk es p = some v
  | [], _, h => absurd (by simp) h
  | e :: es, i, h => by
    show ∃ j v, _ ∧ cond (cellsEq (keyV p).cells (keyV e.1).cells) _ _ = _ ∧ _
    rw [cellsEq_key]
    by_cases he : e.1 = p
    · subst he
      exact ⟨0, e.2, rfl, by simp, by simp [lk]⟩
    · rw [show (p == e.1) = false from beq_eq_false_iff_ne.2 fun h2 => he h2.symm, cond_false]
      obtain ⟨j, v, h1, h2, h3⟩ := findL_has (es := es) (i := i + 1) fun h3 => h fun x hx => by
        rcases List.mem_cons.1 hx with rfl | hx
        · exact he
        · exact h3 x hx
      refine ⟨j + 1, v, by simpa using h1, ?_, ?_⟩
      · show findL (keyV p) (menc es) (i + 1) = _
        rw [h2, show i + 1 + j = i + (j + 1) by omega]
      · unfold lk at h3 ⊢
        rw [List.find?_cons, show (e.1 == p) = false from beq_eq_false_iff_ne.2 he]; exact h3
theorem lk_none {p : PP} {es : List (PP × LV)} (h : ∀ e ∈ es, e.1 ≠ p) : lk es p = none := by
  unfold lk
  rw [List.find?_eq_none.2 fun e he => by simpa using h e he]; rfl
theorem findL_lk {p : PP} {es : List (PP × LV)} {i : Nat} : (findL (keyV p) (menc es) i).map (·.2) = lk es p := by
  by_cases h : ∀ e ∈ es, e.1 ≠ p
  · rw [findL_none h, lk_none h]; rfl
  · obtain ⟨j, v, _, h2, h3⟩ := findL_has (i := i) h
    rw [h2, h3]; rfl
theorem es_same {α : Type} {es : List α} {j : Nat} {e : α} (h : es[j]? = some e) : es.set j e = es := by
  refine List.ext_getElem? fun i => ?_
  by_cases hi : j = i
  · subst hi
    obtain ⟨h1, h2⟩ := List.getElem?_eq_some_iff.1 h
    rw [List.getElem?_set_self h1, h]
  · rw [List.getElem?_set_ne hi]
/-- An entry for a key: the one that is, or a new one. -/
def EntryAt (es : List (PP × LV)) (p : PP) (z : LV) (es' : List (PP × LV)) (i : Nat) (v : LV) : Prop :=
  es'[i]? = some (p, v) ∧ ((¬ (∀ e ∈ es, e.1 ≠ p)) ∧ es' = es ∧ lk es p = some v ∨ (∀ e ∈ es, e.1 ≠ p) ∧ es' = es ++ [(p, z)] ∧ i = es.length ∧ v = z)

section
variable {E : Env} {s0 : LSt} {lo n : Nat} {K : KL} {H : HL} {R : KL → HL → Prop} {draw : Bool} {ops l : List Oper} {ty : TypeId} {ps : String} {af : Array Edge} {d : Nat} {v u : LV} {x y k : Operand} {t e kt et : TypeId} {L : Nat} {es : List (PP × LV)} {p : PP}
theorem RP.mkmap (hn : Nat.blt d n = true) (hu : E.und t = some (.map kt et)) (h' : ∀ L, RP E s0 lo draw ops l n ((d, .map L) :: K) ((some L, .map kt (menc [])) :: H) R) :
    RP E s0 lo draw ops (⟨some d, .makeMap t none, ty, ps, af, none⟩ :: l) n K H R :=
  RP.fresh (g := fun L => .map L) hn (fun st _ => by simp only [vop, opMakeMap, hu, newK_eq]; rfl) h'
theorem RP.look {z : LV} (p : PP) (hn : Nat.blt d n = true) (hx : kev K x = some (.map L)) (hy : kev K y = some (keyV p)) (hu : E.und t = some (.map kt et)) (hko : keyOk E kt (keyV p) = some true) (hz : E.zero et = some z)
    (hp : HIn (some L, .map kt (menc es)) H) (h' : RP E s0 lo draw ops l n ((d, (lk es p).getD z) :: K) H R) : RP E s0 lo draw ops (⟨some d, .lookup t x y false, ty, ps, af, none⟩ :: l) n K H R :=
  RP.pure hn (fun st hi => by
    have hh := (hi.has _ hp.mem L rfl).2.2
    have hb : Nat.beq kt kt = true := Nat.beq_refl _
    simp only [vop, opLookup, leval_kfr, hx, hy, lookupL, hu, hko, hz, hh, hb, cond_true, findL_lk]
    cases lk es p <;> rfl) h'
theorem RP.mset {H' : HL} (p : PP) (hx : kev K x = some (.map L)) (hy : kev K y = some (keyV p)) (hv : kev K k = some v) (hu : E.und t = some (.map kt et)) (hko : keyOk E kt (keyV p) = some true) (hnew : ∀ e ∈ es, e.1 ≠ p) (hlo : lo ≤ s0.nxt)
    (hp : HUpd (some L, .map kt (menc es)) (some L, .map kt (menc (es ++ [(p, v)]))) H H') (h' : RP E s0 lo draw ops l n K H' R) : RP E s0 lo draw ops (⟨none, .mapUpdate t x y k, ty, ps, af, none⟩ :: l) n K H R :=
  RP.any0 fun st hi => ⟨_, H', _, ⟨0, by
    have hh := hi.has _ hp.mem.1 L rfl
    have hb : Nat.beq kt kt = true := Nat.beq_refl _
    have hl : Nat.ble lo L = true := Nat.ble_eq_true_of_le (Nat.le_trans hlo hh.1)
    simp only [vop, opMapUpdate, leval_kfr, hx, hy, hv, mapSetL, hu, hko, hl, cond_true, hh.2.2, hb, findL_none hnew, setObjK_eq]
    rw [menc_append]; rfl⟩, hi.upd hp rfl rfl, h'⟩
theorem RP.mentry {z : LV} {H' : List (PP × LV) → HL} (p : PP) (hn : Nat.blt d n = true) (hx : kev K x = some (.map L)) (hy : kev K y = some (keyV p)) (hu : E.und t = some (.map kt et)) (hko : keyOk E kt (keyV p) = some true) (hz : E.zero et = some z) (hlo : lo ≤ s0.nxt)
    (hp : ∀ es', HUpd (some L, .map kt (menc es)) (some L, .map kt (menc es')) H (H' es')) (h' : ∀ (i : Nat) es' v, EntryAt es p z es' i v → RP E s0 lo draw ops l n ((d, .tup [v, .int .i64 (i : Int)]) :: K) (H' es') R) :
    RP E s0 lo draw ops (⟨some d, .mapEntry t x y, ty, ps, af, none⟩ :: l) n K H R :=
  RP.any hn fun st hi => by
    have hh := hi.has _ (hp es).mem.1 L rfl
    have hb : Nat.beq kt kt = true := Nat.beq_refl _
    have hl : Nat.ble lo L = true := Nat.ble_eq_true_of_le (Nat.le_trans hlo hh.1)
    by_cases h : ∀ e ∈ es, e.1 ≠ p
    · refine ⟨_, _, _, ⟨0, ?_⟩, hi.upd (hp (es ++ [(p, z)])) rfl rfl, h' es.length _ z ⟨by simp, Or.inr ⟨h, rfl, rfl, rfl⟩⟩⟩
      simp only [vop, opMapEntry, leval_kfr, hx, hy, mapEntryL, hu, hko, hl, cond_true, hh.2.2, hb, findL_none h, hz, setObjK_eq, menc_append]
      simp [menc]
    · obtain ⟨j, v, h1, h2, h3⟩ := findL_has (i := 0) h
      refine ⟨_, _, _, ⟨0, ?_⟩, hi.upd (hp es) rfl rfl, h' j _ v ⟨h1, Or.inl ⟨h, rfl, h3⟩⟩⟩
      simp only [vop, opMapEntry, leval_kfr, hx, hy, mapEntryL, hu, hko, hl, cond_true, hh.2.2, hb, h2, setObjK_eq]
      have h4 : (menc es).set j (keyV p, v) = menc es := es_same (by rw [menc_get, h1]; rfl)
      rw [Nat.zero_add, h4]; rfl
theorem RP.mstore {H' : HL} {i : Nat} {v0 : LV} (p : PP) (hx : kev K x = some (.map L)) (hy : kev K y = some (.int .i64 (i : Int))) (hv : kev K k = some v) (he : es[i]? = some (p, v0)) (hlo : lo ≤ s0.nxt)
    (hp : HUpd (some L, .map kt (menc es)) (some L, .map kt (menc (es.set i (p, v)))) H H') (h' : RP E s0 lo draw ops l n K H' R) : RP E s0 lo draw ops (⟨none, .entryStore t x y k, ty, ps, af, none⟩ :: l) n K H R :=
  RP.any0 fun st hi => ⟨_, H', _, ⟨0, by
    have hh := hi.has _ hp.mem.1 L rfl
    have hl : Nat.ble lo L = true := Nat.ble_eq_true_of_le (Nat.le_trans hlo hh.1)
    have h1 : (menc es)[i]? = some (keyV p, v0) := by rw [menc_get, he]; rfl
    have h2 : natOf (.int .i64 (i : Int)) = some i := rfl
    simp only [vop, opEntryStore, leval_kfr, hx, hy, hv, entryStoreL, h2, hl, cond_true, hh.2.2, h1, setObjK_eq]
    rw [menc_set]⟩, hi.upd hp rfl rfl, h'⟩
theorem RP.mrange (hn : Nat.blt d n = true) (hx : kev K x = some (.map L)) (hu : E.und t = some (.map kt et)) (hp : HIn (some L, .map kt (menc es)) H)
    (h' : ∀ L', RP E s0 lo draw ops l n ((d, .ptr (.own L') 0) :: K) ((some L', .iter L (menc es).length none) :: H) R) : RP E s0 lo draw ops (⟨some d, .range t x, ty, ps, af, none⟩ :: l) n K H R :=
  RP.fresh (g := fun L => .ptr (.own L) 0) hn (fun st hi => by
    have hh := (hi.has _ hp.mem L rfl).2.2
    simp only [vop, opRange, leval_kfr, hx, rangeL, hu, hh, newK_eq]) h'
/-- The entry at which a walk stands, in memory that lies still. -/
theorem RP.entry_old {Li m i len : Nat} {es : List (LV × LV)} {a b : LV} (hn : Nat.blt d n = true) (hx : kev K x = some (.ptr (.own Li) 0)) (h1 : Li < s0.nxt) (h2 : s0.mem.get Li = some (.iter m len (some i))) (h3 : m < s0.nxt) (h4 : s0.mem.get m = some (.map kt es)) (h5 : es.length = len) (h6 : es[i]? = some (a, b))
    (h' : RP E s0 lo draw ops l n ((d, .tup [a, b]) :: K) H R) : RP E s0 lo draw ops (⟨some d, .entry x, ty, ps, af, none⟩ :: l) n K H R :=
  RP.pure hn (fun st hi => by
    have hb : Nat.beq es.length len = true := by rw [h5]; exact Nat.beq_refl _
    simp only [vop, opEntry, leval_kfr, hx, entryL, hi.old Li h1, h2, hi.old m h3, h4, hb, cond_true, h6]) h'
end
/-! ### walks over maps -/
theorem alikeF_stay : ∀ (ds : List Nat) {fr a b : LFr} {r : Nat} {w : Bool}, fr.m.get r = some (.bool w) → a.m.get r = some (.bool w) → (alikeF fr a b ds).m.get r = some (.bool w)
  | [], _, _, _, _, _, h, _ => h
  | d :: ds, fr, a, b, r, w, h, ha => by
    rw [alikeF]
    split
    · rename_i x y hx hy
      cases hxy : x == y with
      | false => exact alikeF_stay ds h ha
      | true =>
        refine alikeF_stay ds ?_ ha
        show (fr.m.set d (.bool x)).get r = _
        rw [Mem.get_set]
        split
        · rename_i e; subst e; rw [hx] at ha; exact ha
        · exact h
    · exact alikeF_stay ds h ha
theorem alikeF_has : ∀ (ds : List Nat) {fr a b : LFr} {r : Nat} {w : Bool}, r ∈ ds → a.m.get r = some (.bool w) → b.m.get r = some (.bool w) → (alikeF fr a b ds).m.get r = some (.bool w)
  | [], _, _, _, _, _, h, _, _ => by cases h
  | d :: ds, fr, a, b, r, w, h, ha, hb => by
    by_cases e : d = r
    · subst e
      rw [alikeF, ha, hb]
      simp only [beq_self_eq_true, cond_true]
      exact alikeF_stay ds (by show (fr.m.set d (.bool w)).get d = _; rw [Mem.get_set]; simp) ha
    · have hr : r ∈ ds := by rcases List.mem_cons.1 h with h | h; (· exact absurd h.symm e); (· exact h)
      rw [alikeF]
      split
      · cases (_ : Bool) == _ <;> exact alikeF_has ds hr ha hb
      · exact alikeF_has ds hr ha hb
theorem alikeF_keep : ∀ (ds : List Nat) {fr a b : LFr} {t : Nat}, t ∉ ds → (alikeF fr a b ds).m.get t = fr.m.get t
  | [], _, _, _, _, _ => rfl
  | d :: ds, fr, a, b, t, h => by
    have h1 : t ≠ d := fun e => h (e ▸ List.mem_cons_self ..)
    have h2 : t ∉ ds := fun e => h (List.mem_cons_of_mem _ e)
    rw [alikeF]
    split
    · cases (_ : Bool) == _ with
      | false => exact alikeF_keep ds h2
      | true =>
        rw [cond_true, alikeF_keep ds h2]
        show (fr.m.set d _).get t = _
        rw [Mem.get_set, if_neg (fun e => h1 e.symm)]
    · exact alikeF_keep ds h2

section
variable {E : Env} {s0 : LSt} {lo n : Nat} {K : KL} {H : HL}
theorem kclear_le {ds : List Nat} : ∀ {Kc K : KL}, ksub Kc K → (Kc.all fun e => ds.all fun d => !Nat.beq e.1 d) = true → FrLe (kfr n Kc) (clearF (kfr n K) ds)
  | [], K, _, _ => FrLe.leaf (by rw [clearF_n, kfr_n])
  | (d, v) :: Kc, K, h, h2 => by
    simp only [List.all_cons, Bool.and_eq_true] at h2
    refine FrLe.add (kclear_le h.2 h2.2) ?_
    have hd : d ∉ ds := fun hd => by
      have := List.all_eq_true.1 h2.1 d hd
      rw [Nat.beq_refl] at this; cases this
    rw [clearF_keep _ _ _ hd, kfr_get]
    exact h.1
/-- A loop over a map, whatever its order: the rounds of the entries that are bad end the function with one answer. -/
theorem WP.walk {Q : LExit → KL → HL → Prop} {id x n' c m Li kt : Nat} {es : List (LV × LV)} {b body : Code} {r : Nat} {w : Bool} (Kc : KL) (bad : LV → Bool) (Hw : LObj → HL) (hw : walkOf body = some (x, n', c, id, b))
    (hx : klook Kc x = some (.ptr (.own Li) 0)) (hK : ksub Kc K) (hKc : (Kc.all fun e => (n' :: c :: dsts b).all fun d => !Nat.beq e.1 d) = true) (hr : (n' :: c :: dsts b).any (fun d => Nat.beq r d) = true)
    (hb : (Nat.blt n' n && Nat.blt c n) = true) (hlo : lo ≤ s0.nxt) (hup : ∀ o, HUpd (some Li, .iter m es.length none) (some Li, o) H (Hw o)) (hm : HIn (some m, .map kt es) H)
    (hbody : ∀ (i : Nat) (k v : LV), es[i]? = some (k, v) → ∀ st1, Inv s0 (Hw (.iter m es.length (some i))) st1 → st1.mem.get m = some (.map kt es) → WP E st1 st1.nxt n b ((c, .bool true) :: (n', .tup [.bool true, k, v]) :: Kc) [] (fun ex K2 _ => (bad k = false ∧ ex = .normal) ∨ (bad k = true ∧ ex = .ret ∧ klook K2 r = some (.bool w))))
    (h1 : (∀ e ∈ es, bad e.1 = false) → Q .normal Kc (Hw .dead)) (h2 : (∃ e ∈ es, bad e.1 = true) → Q .ret ((r, .bool w) :: Kc) (Hw .dead)) : WP E s0 lo n (.block id body) K H Q := ⟨fun st hi => by
  have hrd : r ∈ n' :: c :: dsts b := by
    obtain ⟨d, hd, e⟩ := List.any_eq_true.1 hr
    exact (Nat.eq_of_beq_eq_true e) ▸ hd
  have hcl := kclear_le (n := n) hK hKc
  have hiL := hi.has _ (hup .dead).mem.1 Li rfl
  have hiM := hi.has _ hm.mem m rfl
  have hLm : Li ≠ m := fun e => by rw [e, hiM.2.2] at hiL; cases hiL.2.2
  rw [Bool.and_eq_true] at hb
  have hb1 : Nat.blt n' (clearF (kfr n K) (n' :: c :: dsts b)).n = true := by rw [clearF_n, kfr_n]; exact hb.1
  have hb2 : Nat.blt c (clearF (kfr n K) (n' :: c :: dsts b)).n = true := by rw [clearF_n, kfr_n]; exact hb.2
  generalize hds : n' :: c :: dsts b = ds at hcl hKc hr hrd hb1 hb2
  generalize hfr : clearF (kfr n K) ds = fr0 at hcl hb1 hb2
  have main : ∀ (l : List (LV × LV)) (i : Nat) (e : WEnd), (∀ j, l[j]? = es[i + j]?) → (∀ fr, e = .back fr → FrLe (kfr n ((r, .bool w) :: Kc)) fr) →
      ∃ N e', rounds (vcode E N) n' c b fr0 st Li m es.length ds l i e = some e' ∧ (e' = .on → e = .on ∧ ∀ x ∈ l, bad x.1 = false) ∧ (∀ fr, e' = .back fr → FrLe (kfr n ((r, .bool w) :: Kc)) fr ∧ (e ≠ .on ∨ ∃ x ∈ l, bad x.1 = true)) := by
    intro l
    induction l with
    | nil => exact fun i e _ he => ⟨0, e, rfl, fun h => ⟨h, by simp⟩, fun fr h => ⟨he fr h, Or.inl (by rw [h]; exact WEnd.noConfusion)⟩⟩
    | cons kv l ih =>
      obtain ⟨k, v⟩ := kv
      intro i e hl he
      have hkv : es[i]? = some (k, v) := (hl 0).symm
      have hl' : ∀ j, l[j]? = es[i + 1 + j]? := fun j => by have := hl (j + 1); rw [show i + 1 + j = i + (j + 1) by omega]; exact this
      let st1 : LSt := { st with mem := st.mem.set Li (.iter m es.length (some i)) }
      have hi1 : Inv s0 (Hw (.iter m es.length (some i))) st1 := hi.upd (hup _) rfl rfl
      have hm1 : st1.mem.get m = some (.map kt es) := by show (st.mem.set Li _).get m = _; rw [Mem.get_set, if_neg hLm]; exact hiM.2.2
      obtain ⟨ex, K2, H2, fr2, st2, g1, g2, g3, g4⟩ := (hbody i k v hkv st1 hi1 hm1).run st1 Inv.refl
      have hf : FrLe (kfr n ((c, .bool true) :: (n', .tup [.bool true, k, v]) :: Kc)) ((fr0.put n' (.tup [.bool true, k, v])).put c (.bool true)) := (hcl.put _ _).put _ _
      obtain ⟨fr3, ⟨N1, g5⟩, g6⟩ := g1.weak hf
      have step : ∀ (N : Nat) (e2 e3 : WEnd), N1 ≤ N → (ex = .normal ∧ e2 = e ∨ ex = .ret ∧ e = .on ∧ e2 = .back (alikeF fr0 fr3 fr3 ds) ∨ ex = .ret ∧ ∃ f, e = .back f ∧ e2 = .back (alikeF fr0 f fr3 ds)) → rounds (vcode E N) n' c b fr0 st Li m es.length ds l (i + 1) e2 = some e3 → rounds (vcode E N) n' c b fr0 st Li m es.length ds ((k, v) :: l) i e = some e3 := by
        intro N e2 e3 hN hc hrr
        have g7 := vcode_mono hN _ _ _ _ _ g5
        rw [rounds]
        simp only [lputK_eq, hb1, cond_true, setObjK_eq]
        rw [show (fr0.put n' (.tup [.bool true, k, v])).n = fr0.n from rfl, hb2, cond_true]
        rw [show st.nxt = st1.nxt from rfl]
        rw [g7]
        rcases hc with ⟨rfl, rfl⟩ | ⟨rfl, rfl, rfl⟩ | ⟨rfl, f, rfl, rfl⟩ <;> exact hrr
      rcases g4 with ⟨hbk, rfl⟩ | ⟨hbk, rfl, hr2⟩
      · obtain ⟨N2, e', h3, h4, h5⟩ := ih (i + 1) e hl' he
        refine ⟨max N1 N2, e', step _ e e' (Nat.le_max_left ..) (Or.inl ⟨rfl, rfl⟩) (rounds_mono (vcode_mono (Nat.le_max_right ..)) _ _ _ _ h3), fun hh => ?_, fun fr hh => ?_⟩
        · obtain ⟨h6, h7⟩ := h4 hh
          exact ⟨h6, fun x hx => by rcases List.mem_cons.1 hx with rfl | hx; (· exact hbk); (· exact h7 x hx)⟩
        · obtain ⟨h6, h7⟩ := h5 fr hh
          exact ⟨h6, h7.imp (fun y => y) fun ⟨x, hx, hb⟩ => ⟨x, List.mem_cons_of_mem _ hx, hb⟩⟩
      · have hr3 : fr3.m.get r = some (.bool w) := g6.get (g2.get (by rw [kfr_get]; exact hr2))
        have hkeep : ∀ a bb : LFr, a.m.get r = some (.bool w) → bb.m.get r = some (.bool w) → FrLe (kfr n ((r, .bool w) :: Kc)) (alikeF fr0 a bb ds) := fun a bb ha hbb => by
          refine FrLe.add ⟨by rw [alikeF_n]; exact hcl.1, fun t u hu => ?_⟩ (alikeF_has ds hrd ha hbb)
          have htd : t ∉ ds := fun htd => by
            have h6 : ∀ {Kc : KL}, (Kc.all fun e => ds.all fun d => !Nat.beq e.1 d) = true → klook Kc t = none := by
              intro Kc
              induction Kc with
              | nil => exact fun _ => rfl
              | cons q Kc ih2 =>
                intro h7
                simp only [List.all_cons, Bool.and_eq_true] at h7
                have h8 := List.all_eq_true.1 h7.1 t htd
                obtain ⟨q1, q2⟩ := q
                show cond (Nat.beq q1 t) _ _ = _
                simp only [Bool.not_eq_true'] at h8
                rw [h8, cond_false]; exact ih2 h7.2
            rw [kfr_get, h6 hKc] at hu; cases hu
          rw [alikeF_keep ds htd]; exact hcl.2 t u hu
        cases e with
        | on =>
          obtain ⟨N2, e', h3, h4, h5⟩ := ih (i + 1) (.back (alikeF fr0 fr3 fr3 ds)) hl' (fun fr hh => by cases hh; exact hkeep _ _ hr3 hr3)
          refine ⟨max N1 N2, e', step _ _ e' (Nat.le_max_left ..) (Or.inr (Or.inl ⟨rfl, rfl, rfl⟩)) (rounds_mono (vcode_mono (Nat.le_max_right ..)) _ _ _ _ h3), fun hh => ?_, fun fr hh => ?_⟩
          · have := (h4 hh).1; cases this
          · exact ⟨(h5 fr hh).1, Or.inr ⟨_, List.mem_cons_self .., hbk⟩⟩
        | back f =>
          have hf0 : f.m.get r = some (.bool w) := (he f rfl).get (by rw [kfr_get]; show cond (Nat.beq r r) _ _ = _; rw [Nat.beq_refl]; rfl)
          obtain ⟨N2, e', h3, h4, h5⟩ := ih (i + 1) (.back (alikeF fr0 f fr3 ds)) hl' (fun fr hh => by cases hh; exact hkeep _ _ hf0 hr3)
          refine ⟨max N1 N2, e', step _ _ e' (Nat.le_max_left ..) (Or.inr (Or.inr ⟨rfl, f, rfl, rfl⟩)) (rounds_mono (vcode_mono (Nat.le_max_right ..)) _ _ _ _ h3), fun hh => ?_, fun fr hh => ?_⟩
          · have := (h4 hh).1; cases this
          · exact ⟨(h5 fr hh).1, Or.inr ⟨_, List.mem_cons_self .., hbk⟩⟩
  obtain ⟨N, e', g1, g2, g3⟩ := main es 0 .on (fun j => by rw [Nat.zero_add]) (fun fr h => by cases h)
  have hxg : fr0.m.get x = some (.ptr (.own Li) 0) := hcl.2 x _ (by rw [kfr_get]; exact hx)
  have hend : ∀ ex fr', (e' = .on ∧ ex = .normal ∧ fr' = fr0 ∨ ex = .ret ∧ e' = .back fr') → Ends E lo (.block id body) (kfr n K) st ex fr' { st with mem := st.mem.set Li .dead } := fun ex fr' hc => by
    refine ⟨N + 1, ?_⟩
    have hbq : Nat.beq id id = true := Nat.beq_refl _
    have hlb : Nat.ble lo Li = true := Nat.ble_eq_true_of_le (Nat.le_trans hlo hiL.1)
    have hlen : Nat.beq es.length es.length = true := Nat.beq_refl _
    rw [vcode_succ]
    simp only [vstep, hw, hbq, cond_true, vwalk, hds, hfr, hxg, hlb, hiL.2.2, hiM.2.2, hlen, kfr_n, hb.1, hb.2, Bool.and_self, g1, setObjK_eq]
    rcases hc with ⟨rfl, rfl, rfl⟩ | ⟨rfl, rfl⟩ <;> rfl
  cases he : e' with
  | on => exact ⟨_, _, _, _, _, hend _ _ (Or.inl ⟨he, rfl, rfl⟩), hcl, hi.upd (hup .dead) rfl rfl, h1 (g2 he).2⟩
  | back f =>
    obtain ⟨h3, h4⟩ := g3 f he
    exact ⟨_, _, _, _, _, hend _ _ (Or.inr ⟨rfl, he⟩), h3, hi.upd (hup .dead) rfl rfl, h2 (by rcases h4 with h4 | h4; (· exact absurd rfl h4); (· exact h4))⟩⟩
end
end Go.Proofs.Ytpkeggejofeeeaa.Lvm

namespace Go.Proofs.Ytpkeggejofeeeaa.Lvm
/-! ### a count of ones is zero just if the number is -/
theorem and_split (x m b : Nat) : x &&& m = (x % 2 ^ b &&& m % 2 ^ b) + 2 ^ b * ((x / 2 ^ b) &&& (m / 2 ^ b)) := by
  have h1 := Nat.and_mod_two_pow (a := x) (b := m) (n := b)
  have h2 := Nat.and_div_two_pow (a := x) (b := m) (n := b)
  rw [← h1, ← h2]; have := Nat.mod_add_div (x &&& m) (2 ^ b); omega
def NibP (B : Nat) : Nat → Nat → Prop
  | 0, x => x = 0
  | k + 1, x => x % 16 ≤ B ∧ NibP B k (x / 16)
def m3 : Nat → Nat
  | 0 => 0
  | k + 1 => 3 + 16 * m3 k
def m15 : Nat → Nat
  | 0 => 0
  | k + 1 => 15 + 256 * m15 k
theorem nib_and : ∀ (k x : Nat), NibP 3 k (x &&& m3 k)
  | 0, x => by simp [NibP, m3]
  | k + 1, x => by
    have h := and_split x (m3 (k + 1)) 4
    have h1 : m3 (k + 1) % 2 ^ 4 = 3 := by simp only [m3]; omega
    have h2 : m3 (k + 1) / 2 ^ 4 = m3 k := by simp only [m3]; omega
    rw [h1, h2] at h
    have h3 : x % 2 ^ 4 &&& 3 ≤ 3 := Nat.and_le_right
    refine ⟨by omega, ?_⟩
    rw [show (x &&& m3 (k + 1)) / 16 = (x / 2 ^ 4) &&& m3 k by omega]
    exact nib_and k _
theorem nib_add : ∀ (k a b : Nat), NibP 3 k a → NibP 3 k b → NibP 6 k (a + b)
  | 0, a, b, h, h' => by simp only [NibP] at *; omega
  | k + 1, a, b, h, h' => by
    obtain ⟨h1, h2⟩ := h
    obtain ⟨h3, h4⟩ := h'
    refine ⟨by omega, ?_⟩
    rw [show (a + b) / 16 = a / 16 + b / 16 by omega]
    exact nib_add k _ _ h2 h4
theorem nib_lt : ∀ (k x : Nat), NibP 6 k x → 2 * x < 16 ^ k
  | 0, x, h => by simp only [NibP] at h; omega
  | k + 1, x, h => by
    have := nib_lt k _ h.2
    have h1 := h.1
    rw [Nat.pow_succ]; omega
theorem nib_zero : ∀ (k x : Nat), NibP 6 (2 * k) x → (x + x / 16) &&& m15 k = 0 → x = 0
  | 0, x, h, _ => h
  | k + 1, x, h, hz => by
    obtain ⟨h1, h2, h3⟩ := (h : NibP 6 (2 * k + 1 + 1) x)
    have hy : x / 256 % 16 ≤ 6 := by
      cases k with
      | zero => have : x / 16 / 16 = 0 := h3; omega
      | succ k => have := h3.1; omega
    have hs := and_split (x + x / 16) (m15 (k + 1)) 8
    have e1 : m15 (k + 1) % 2 ^ 8 = 2 ^ 4 - 1 := by simp only [m15]; omega
    have e2 : m15 (k + 1) / 2 ^ 8 = m15 k := by simp only [m15]; omega
    rw [e1, e2, Nat.and_two_pow_sub_one_eq_mod, hz] at hs
    obtain ⟨n0, g0⟩ : ∃ n, n = x % 16 := ⟨_, rfl⟩
    obtain ⟨n1, g1⟩ : ∃ n, n = x / 16 % 16 := ⟨_, rfl⟩
    obtain ⟨y, g2⟩ : ∃ n, n = x / 256 := ⟨_, rfl⟩
    obtain ⟨y0, g3⟩ : ∃ n, n = x / 256 % 16 := ⟨_, rfl⟩
    obtain ⟨y1, g4⟩ : ∃ n, n = x / 256 / 16 := ⟨_, rfl⟩
    have hzz : x + x / 16 = (n0 + n1 + 16 * (n1 + y0)) + 256 * (y + y1) := by omega
    have hn1 : n1 ≤ 6 := g1 ▸ h2
    have hn0 : n0 ≤ 6 := g0 ▸ h1
    have hy0 : y0 ≤ 6 := g3 ▸ hy
    have e3 : (x + x / 16) / 2 ^ 8 = x / 256 + x / 256 / 16 := by
      rw [← g4, ← g2, hzz]; clear g0 g1 g2 g3 g4 h1 h2 h3 hy hzz hs; omega
    have e4 : (x + x / 16) % 2 ^ 8 % 2 ^ 4 = n0 + n1 := by
      rw [hzz]; clear g0 g1 g2 g3 g4 h1 h2 h3 hy hzz hs; omega
    rw [e4] at hs
    rw [e3] at hs
    have := nib_zero k (x / 256) (by rw [show x / 256 = x / 16 / 16 by omega]; exact h3) (by omega)
    omega
theorem mask_zero {x m k : Nat} (hx : x < 2 ^ 64) (h1 : x &&& m = 0) (h2 : (x >>> k) &&& m = 0) (hm : ∀ i, i < 64 → (m.testBit i || (decide (k ≤ i) && m.testBit (i - k))) = true) : x = 0 := by
  refine Nat.eq_of_testBit_eq fun i => ?_
  rw [Nat.zero_testBit]
  by_cases hi : i < 64
  · have h := hm i hi
    have g1 := congrArg (fun z => z.testBit i) h1
    have g2 := congrArg (fun z => z.testBit (i - k)) h2
    simp only [Nat.testBit_and, Nat.zero_testBit, Nat.testBit_shiftRight] at g1 g2
    rw [Bool.or_eq_true, Bool.and_eq_true, decide_eq_true_iff] at h
    rcases h with h | ⟨h, h'⟩
    · rw [h, Bool.and_true] at g1; exact g1
    · rw [h', Bool.and_true, show k + (i - k) = i by omega] at g2; exact g2
  · exact Nat.testBit_lt_two_pow (Nat.lt_of_lt_of_le hx (Nat.pow_le_pow_right (by omega) (by omega)))
theorem and15_small : ∀ (k x : Nat), ∃ c y, x &&& m15 (k + 1) = c + 256 * y ∧ c ≤ 15 ∧ y = (x / 256) &&& m15 k := fun k x => by
  have hs := and_split x (m15 (k + 1)) 8
  have e1 : m15 (k + 1) % 2 ^ 8 = 2 ^ 4 - 1 := by simp only [m15]; omega
  have e2 : m15 (k + 1) / 2 ^ 8 = m15 k := by simp only [m15]; omega
  rw [e1, e2, Nat.and_two_pow_sub_one_eq_mod] at hs
  exact ⟨x % 2 ^ 8 % 2 ^ 4, _, hs, by omega, rfl⟩
/-- The bytes' sum. -/
theorem byte_sum {z x4 x5 x6 : Nat} {x : Nat} (hx : x = z &&& m15 8) (h4 : x4 = x + x / 256) (h5 : x5 = x4 + x4 / 65536) (h6 : x6 = x5 + x5 / 4294967296) : x < 2 ^ 60 ∧ (x6 % 128 = 0 ↔ x = 0) := by
  obtain ⟨c0, y1, e0, d0, f1⟩ := and15_small 7 z
  obtain ⟨c1, y2, e1, d1, f2⟩ := and15_small 6 (z / 256)
  obtain ⟨c2, y3, e2, d2, f3⟩ := and15_small 5 (z / 256 / 256)
  obtain ⟨c3, y4, e3, d3, f4⟩ := and15_small 4 (z / 256 / 256 / 256)
  obtain ⟨c4, y5, e4, d4, f5⟩ := and15_small 3 (z / 256 / 256 / 256 / 256)
  obtain ⟨c5, y6, e5, d5, f6⟩ := and15_small 2 (z / 256 / 256 / 256 / 256 / 256)
  obtain ⟨c6, y7, e6, d6, f7⟩ := and15_small 1 (z / 256 / 256 / 256 / 256 / 256 / 256)
  obtain ⟨c7, y8, e7, d7, f8⟩ := and15_small 0 (z / 256 / 256 / 256 / 256 / 256 / 256 / 256)
  rw [show m15 0 = 0 from rfl, Nat.and_zero] at f8
  rw [e7] at f7
  rw [e6] at f6
  rw [e5] at f5
  rw [e4] at f4
  rw [e3] at f3
  rw [e2] at f2
  rw [e1] at f1
  rw [e0] at hx
  clear e0 e1 e2 e3 e4 e5 e6 e7
  subst f8
  have g1 : x / 256 = y1 := by omega
  have g2 : x4 / 65536 = y2 + y3 := by omega
  have g3 : x5 / 4294967296 = y4 + y5 + y6 + y7 := by omega
  have g4 : x6 = (c0 + c1 + c2 + c3 + c4 + c5 + c6 + c7) + 256 * (y1 + y2 + y3 + y4 + y5 + y6 + y7) := by omega
  have g5 : x6 % 128 = c0 + c1 + c2 + c3 + c4 + c5 + c6 + c7 := by
    generalize y1 + y2 + y3 + y4 + y5 + y6 + y7 = t at g4
    clear hx h4 h5 h6 f1 f2 f3 f4 f5 f6 f7 g1 g2 g3
    omega
  clear g1 g2 g3 g4 h4 h5 h6
  refine ⟨by omega, ?_⟩
  rw [g5]
  constructor <;> intro h <;> omega
end Go.Proofs.Ytpkeggejofeeeaa.Lvm
namespace Go.Proofs.Ytpkeggejofeeeaa.Lvm
theorem bv_nat {a : Nat} (h : a < 18446744073709551616) : (BitVec.ofInt 64 (a : Int)).toNat = a := by rw [BitVec.toNat_ofInt]; omega
theorem wN_nat {a b : Nat} (ha : a < 18446744073709551616) (hb : b < 18446744073709551616) : wN (a : Int) (b : Int) = ((a &&& b : Nat) : Int) := by
  unfold wN
  rw [BitVec.toNat_and]
  show IntKind.u64.wrap (((BitVec.ofInt 64 (a : Int)).toNat &&& (BitVec.ofInt 64 (b : Int)).toNat : Nat) : Int) = _
  rw [bv_nat ha, bv_nat hb]
  have h : a &&& b ≤ a := Nat.and_le_left
  exact IntWalk.u64_in _ ⟨by omega, by omega⟩
theorem wA_nat {a b : Nat} (h : a + b < 18446744073709551616) : wA (a : Int) (b : Int) = ((a + b : Nat) : Int) := by
  unfold wA
  exact IntWalk.u64_in _ ⟨by omega, by omega⟩
theorem wS_nat {a k : Nat} (h : k ≤ 64) : wS (a : Int) k = ((a / 2 ^ k : Nat) : Int) := by
  unfold wS
  rw [Nat.min_eq_left h, Int.fdiv_eq_ediv_of_nonneg _ (by have : (0 : Int) < 2 ^ k := Int.pow_pos (by omega); omega)]
  have : (2 : Int) ^ k = ((2 ^ k : Nat) : Int) := by simp
  rw [this]; rfl
theorem m3_16 : m3 16 = 3689348814741910323 := by decide
theorem m15_8 : m15 8 = 1085102592571150095 := by decide
theorem onesF_zero {n : Nat} (hn : n < 18446744073709551616) : ∃ c : Nat, onesF (n : Int) = (c : Int) ∧ c < 128 ∧ (c = 0 ↔ n = 0) := by
  -- the first step
  have a1 : (n / 2 ^ 1) &&& 6148914691236517205 ≤ 6148914691236517205 := Nat.and_le_right
  have a2 : n &&& 6148914691236517205 ≤ 6148914691236517205 := Nat.and_le_right
  obtain ⟨x1, e1⟩ : ∃ x, x = ((n / 2 ^ 1) &&& 6148914691236517205) + (n &&& 6148914691236517205) := ⟨_, rfl⟩
  have o1 : ones1 (n : Int) = (x1 : Int) := by
    unfold ones1
    rw [wS_nat (by omega), show ((6148914691236517205 : Int)) = ((6148914691236517205 : Nat) : Int) from rfl, wN_nat (by omega) (by omega), wN_nat hn (by omega), wA_nat (by omega), e1]
  have z1 : x1 = 0 ↔ n = 0 := by
    constructor
    · intro h
      refine mask_zero (m := 6148914691236517205) (k := 1) (by omega) (by omega) (by rw [Nat.shiftRight_eq_div_pow]; show (n / 2 ^ 1) &&& _ = 0; omega) (by decide)
    · intro h; subst h; rw [e1]; decide
  have l1 : x1 < 18446744073709551616 := by omega
  -- the second
  have b1 : (x1 / 2 ^ 2) &&& 3689348814741910323 ≤ 3689348814741910323 := Nat.and_le_right
  have b2 : x1 &&& 3689348814741910323 ≤ 3689348814741910323 := Nat.and_le_right
  obtain ⟨x2, e2⟩ : ∃ x, x = ((x1 / 2 ^ 2) &&& 3689348814741910323) + (x1 &&& 3689348814741910323) := ⟨_, rfl⟩
  have o2 : ones2 (x1 : Int) = (x2 : Int) := by
    unfold ones2
    rw [wS_nat (by omega), show ((3689348814741910323 : Int)) = ((3689348814741910323 : Nat) : Int) from rfl, wN_nat (by omega) (by omega), wN_nat l1 (by omega), wA_nat (by omega), e2]
  have z2 : x2 = 0 ↔ x1 = 0 := by
    constructor
    · intro h
      refine mask_zero (m := 3689348814741910323) (k := 2) (by omega) (by omega) (by rw [Nat.shiftRight_eq_div_pow]; show (x1 / 2 ^ 2) &&& _ = 0; omega) (by decide)
    · intro h; subst h; rw [e2]; decide
  have nb : NibP 6 16 x2 := by rw [e2, ← m3_16]; exact nib_add 16 _ _ (nib_and 16 _) (nib_and 16 _)
  have l2 := nib_lt 16 x2 nb
  have l2' : 2 * x2 < 18446744073709551616 := l2
  -- the third
  obtain ⟨x3, e3⟩ : ∃ x, x = (x2 + x2 / 16) &&& m15 8 := ⟨_, rfl⟩
  have o3 : ones3 (x2 : Int) = (x3 : Int) := by
    unfold ones3
    rw [wS_nat (by omega), show ((1085102592571150095 : Int)) = ((1085102592571150095 : Nat) : Int) from rfl, wA_nat (by omega), wN_nat (by omega) (by omega), e3, m15_8, Nat.add_comm]
  have z3 : x3 = 0 ↔ x2 = 0 := by
    constructor
    · intro h; exact nib_zero 8 x2 nb (e3 ▸ h)
    · intro h; subst h; rw [e3]; decide
  -- the sum of the bytes
  obtain ⟨l3, z4⟩ := byte_sum e3 rfl rfl rfl
  have l3' : x3 < 1152921504606846976 := l3
  obtain ⟨x4, e4⟩ : ∃ x, x = x3 + x3 / 256 := ⟨_, rfl⟩
  rw [← e4] at z4
  obtain ⟨x5, e5⟩ : ∃ x, x = x4 + x4 / 65536 := ⟨_, rfl⟩
  rw [← e5] at z4
  obtain ⟨x6, e6⟩ : ∃ x, x = x5 + x5 / 4294967296 := ⟨_, rfl⟩
  rw [← e6] at z4
  have o4 : ones4 8 (x3 : Int) = (x4 : Int) := by
    unfold ones4; rw [wS_nat (by omega), wA_nat (by omega), e4]
  have o5 : ones4 16 (x4 : Int) = (x5 : Int) := by
    unfold ones4; rw [wS_nat (by omega), wA_nat (by omega), e5]
  have o6 : ones4 32 (x5 : Int) = (x6 : Int) := by
    unfold ones4; rw [wS_nat (by omega), wA_nat (by omega), e6]
  have l6 : x6 < 9223372036854775808 := by omega
  refine ⟨x6 % 128, ?_, by omega, by rw [z4, z3, z2, z1]⟩
  unfold onesF
  rw [o1, o2, o3, o4, o5, o6, IntWalk.i64_in (x6 : Int) ⟨by omega, by omega⟩, BitVec.toNat_and]
  show IntKind.i64.wrap (((BitVec.ofInt 64 (x6 : Int)).toNat &&& 127 : Nat) : Int) = _
  rw [bv_nat (by omega), show (127 : Nat) = 2 ^ 7 - 1 from rfl, Nat.and_two_pow_sub_one_eq_mod]
  exact IntWalk.i64_in _ ⟨by omega, by omega⟩
def andI (a b : Int) : Int := wN a b
/-- What two sets have in common. -/
def andS (s t : Spot) : Spot := { s with a := andI s.a t.a, b := andI s.b t.b, c := andI s.c t.c, d := andI s.d t.d }
def meetS (s t : Spot) : Prop := ∃ c, inB s c = true ∧ inB t c = true
theorem word_and {s t : Spot} (j : Nat) : word (andS s t) j = andI (word s j) (word t j) := by
  unfold word andS
  split <;> rfl
theorem andI_nat {s t : Spot} (hs : SpotOk s) (ht : SpotOk t) (j : Nat) : andI (word s j) (word t j) = (((word s j).toNat &&& (word t j).toNat : Nat) : Int) := by
  have h1 := word_ok hs j
  have h2 := word_ok ht j
  unfold andI
  generalize word s j = x at h1 ⊢
  generalize word t j = y at h2 ⊢
  obtain ⟨a, rfl⟩ := Int.eq_ofNat_of_zero_le h1.1
  obtain ⟨b, rfl⟩ := Int.eq_ofNat_of_zero_le h2.1
  exact wN_nat (by omega) (by omega)
theorem count_zero {s t : Spot} (hs : SpotOk s) (ht : SpotOk t) : countF (andS s t) = 0 ↔ ¬ meetS s t := by
  have hw : ∀ j, ∃ n c : Nat, word (andS s t) j = (n : Int) ∧ n = (word s j).toNat &&& (word t j).toNat ∧ n < 18446744073709551616 ∧ onesF (n : Int) = (c : Int) ∧ c < 128 ∧ (c = 0 ↔ n = 0) := fun j => by
    have h1 := word_ok hs j
    have hlt : (word s j).toNat &&& (word t j).toNat < 18446744073709551616 := Nat.lt_of_le_of_lt Nat.and_le_left (by omega)
    obtain ⟨c, h2, h3, h4⟩ := onesF_zero hlt
    exact ⟨_, c, by rw [word_and, andI_nat hs ht], rfl, hlt, h2, h3, h4⟩
  obtain ⟨n0, c0, w0, f0, l0, p0, q0, r0⟩ := hw 0
  obtain ⟨n1, c1, w1, f1, l1, p1, q1, r1⟩ := hw 1
  obtain ⟨n2, c2, w2, f2, l2, p2, q2, r2⟩ := hw 2
  obtain ⟨n3, c3, w3, f3, l3, p3, q3, r3⟩ := hw 3
  have w0' : (andS s t).a = (n0 : Int) := w0
  have w1' : (andS s t).b = (n1 : Int) := w1
  have w2' : (andS s t).c = (n2 : Int) := w2
  have w3' : (andS s t).d = (n3 : Int) := w3
  have hcount : countF (andS s t) = ((c0 + c1 + c2 + c3 : Nat) : Int) := by
    unfold countF
    rw [w0', w1', w2', w3', p0, p1, p2, p3, IntWalk.i64_in (0 + (c0 : Int)) ⟨by omega, by omega⟩, IntWalk.i64_in (0 + (c0 : Int) + (c1 : Int)) ⟨by omega, by omega⟩, IntWalk.i64_in (0 + (c0 : Int) + (c1 : Int) + (c2 : Int)) ⟨by omega, by omega⟩, IntWalk.i64_in (0 + (c0 : Int) + (c1 : Int) + (c2 : Int) + (c3 : Int)) ⟨by omega, by omega⟩]
    omega
  rw [hcount]
  have hall : (∀ j, j < 4 → (word s j).toNat &&& (word t j).toNat = 0) ↔ n0 = 0 ∧ n1 = 0 ∧ n2 = 0 ∧ n3 = 0 := by
    constructor
    · intro h; exact ⟨by rw [f0]; exact h 0 (by omega), by rw [f1]; exact h 1 (by omega), by rw [f2]; exact h 2 (by omega), by rw [f3]; exact h 3 (by omega)⟩
    · rintro ⟨h0, h1, h2, h3⟩ j hj
      match j, hj with
      | 0, _ => rw [← f0]; exact h0
      | 1, _ => rw [← f1]; exact h1
      | 2, _ => rw [← f2]; exact h2
      | 3, _ => rw [← f3]; exact h3
  have hm : ¬ meetS s t ↔ ∀ j, j < 4 → (word s j).toNat &&& (word t j).toNat = 0 := by
    constructor
    · intro h j hj
      refine Nat.eq_of_testBit_eq fun i => ?_
      rw [Nat.zero_testBit]
      by_cases hi : i < 64
      · cases hb : ((word s j).toNat &&& (word t j).toNat).testBit i with
        | false => rfl
        | true =>
          rw [Nat.testBit_and, Bool.and_eq_true] at hb
          refine absurd ⟨UInt8.ofNat (64 * j + i), ?_⟩ h
          have e : (UInt8.ofNat (64 * j + i)).toNat = 64 * j + i := by rw [UInt8.toNat_ofNat']; omega
          unfold inB
          rw [e, show (64 * j + i) / 64 = j by omega, show (64 * j + i) % 64 = i by omega]
          exact hb
      · exact Nat.testBit_lt_two_pow (Nat.lt_of_lt_of_le (Nat.lt_of_le_of_lt Nat.and_le_left (by have := word_ok hs j; omega : (word s j).toNat < 2 ^ 64)) (Nat.pow_le_pow_right (by omega) (by omega)))
    · rintro h ⟨c, h1, h2⟩
      have hc := c.toNat_lt
      have := congrArg (fun z => z.testBit (c.toNat % 64)) (h (c.toNat / 64) (by omega))
      simp only [Nat.testBit_and, Nat.zero_testBit] at this
      unfold inB at h1 h2
      rw [h1, h2] at this; cases this
  rw [hm, hall]
  omega
end Go.Proofs.Ytpkeggejofeeeaa.Lvm

namespace Go.Proofs.Ytpkeggejofeeeaa.Lvm
/-! ### pairs of spots in which two runs are -/
def meets (m : Mach) (p : PP) : Prop := ∃ c, inSpot m c p.1.toNat = true ∧ inSpot m c p.2.toNat = true
def lastOf (m : Mach) (n : Nat) : Bool := (m.last[n]?).getD false
inductive ComeP (m : Mach) : PP → Prop where
  | start {p : PP} (h1 : p.1 ∈ m.first) (h2 : p.2 ∈ m.first) (h : meets m p) : ComeP m p
  | step {q p : PP} (hq : ComeP m q) (h1 : p.1 ∈ folOf m q.1.toNat) (h2 : p.2 ∈ folOf m q.2.toNat) (h : meets m p) : ComeP m p
inductive EndP (m : Mach) : PP → Prop where
  | last {p : PP} (h1 : lastOf m p.1.toNat = true) (h2 : lastOf m p.2.toNat = true) : EndP m p
  | step {p q : PP} (h1 : q.1 ∈ folOf m p.1.toNat) (h2 : q.2 ∈ folOf m p.2.toNat) (h : meets m q) (hq : EndP m q) : EndP m p
/-- Do all runs mark alike? -/
def SingleM (m : Mach) : Prop := GoodM m ∧ ∀ p, ComeP m p → EndP m p → tagOf m p.1.toNat = tagOf m p.2.toNat
theorem ComeP.range {m : Mach} (hg : GoodM m) {p : PP} (h : ComeP m p) : (0 ≤ p.1 ∧ p.1.toNat < m.spots.length) ∧ 0 ≤ p.2 ∧ p.2.toNat < m.spots.length := by
  cases h with
  | start h1 h2 _ => exact ⟨hg.start h1, hg.start h2⟩
  | step _ h1 h2 _ => exact ⟨hg.range h1, hg.range h2⟩
theorem ComeP.meet {m : Mach} {p : PP} (h : ComeP m p) : meets m p := by
  cases h with
  | start _ _ h => exact h
  | step _ _ _ h => exact h
theorem meets_iff {m : Mach} {p : PP} (h1 : p.1.toNat < m.spots.length) (h2 : p.2.toNat < m.spots.length) : meets m p ↔ meetS m.spots[p.1.toNat] m.spots[p.2.toNat] := by
  unfold meets meetS inSpot
  rw [List.getElem?_eq_getElem h1, List.getElem?_eq_getElem h2]
/-- One pair put in. -/
def PutR (m : Mach) (xs : List PP) (p : PP) (xs' : List PP) : Prop := (p ∈ xs ∨ ¬ meets m p) ∧ xs' = xs ∨ p ∉ xs ∧ meets m p ∧ xs' = xs ++ [p]
theorem PutR.ext {m : Mach} {xs xs' : List PP} {p : PP} (h : PutR m xs p xs') : ∃ r, xs' = xs ++ r := by
  rcases h with ⟨_, rfl⟩ | ⟨_, _, rfl⟩
  · exact ⟨[], by simp⟩
  · exact ⟨_, rfl⟩
theorem PutR.has {m : Mach} {xs xs' : List PP} {p : PP} (h : PutR m xs p xs') (hm : meets m p) : p ∈ xs' := by
  rcases h with ⟨h1, rfl⟩ | ⟨_, _, rfl⟩
  · rcases h1 with h1 | h1
    · exact h1
    · exact absurd hm h1
  · simp
/-- The pairs found are some of those that are. -/
structure FoundP (m : Mach) (xs : List PP) : Prop where
  come : ∀ p ∈ xs, ComeP m p
  nodup : xs.Nodup
theorem FoundP.put {m : Mach} {xs xs' : List PP} {p : PP} (h : FoundP m xs) (hp : PutR m xs p xs') (hc : meets m p → ComeP m p) : FoundP m xs' := by
  rcases hp with ⟨_, rfl⟩ | ⟨h1, h2, rfl⟩
  · exact h
  · refine ⟨fun q hq => ?_, ?_⟩
    · rcases List.mem_append.1 hq with h3 | h3
      · exact h.come q h3
      · obtain rfl := List.mem_singleton.1 h3; exact hc h2
    · rw [List.nodup_append]
      exact ⟨h.nodup, by simp, fun a ha b hb => by obtain rfl := List.mem_singleton.1 hb; exact fun e => h1 (e ▸ ha)⟩
theorem FoundP.len {m : Mach} {xs : List PP} (h : FoundP m xs) (hg : GoodM m) : xs.length ≤ m.spots.length * m.spots.length := by
  have h1 : (xs.map fun p => p.1.toNat * m.spots.length + p.2.toNat).Nodup := by
    rw [List.Nodup, List.pairwise_map]
    refine h.nodup.imp_of_mem ?_
    intro p q hp hq hne e
    obtain ⟨⟨a1, a2⟩, a3, a4⟩ := (h.come p hp).range hg
    obtain ⟨⟨b1, b2⟩, b3, b4⟩ := (h.come q hq).range hg
    have e1 : p.1.toNat = q.1.toNat := by
      have h2 := congrArg (· / m.spots.length) e
      rw [Nat.mul_comm, Nat.mul_comm q.1.toNat, Nat.mul_add_div (by omega), Nat.mul_add_div (by omega), Nat.div_eq_of_lt a4, Nat.div_eq_of_lt b4] at h2
      omega
    rw [e1] at e
    exact hne (Prod.ext (by omega) (by omega))
  have h2 := h1.length_le_of_subset (l₂ := List.range (m.spots.length * m.spots.length)) fun z hz => by
    obtain ⟨p, hp, rfl⟩ := List.mem_map.1 hz
    obtain ⟨⟨a1, a2⟩, a3, a4⟩ := (h.come p hp).range hg
    rw [List.mem_range]
    calc p.1.toNat * m.spots.length + p.2.toNat < p.1.toNat * m.spots.length + m.spots.length := by omega
      _ = (p.1.toNat + 1) * m.spots.length := by rw [Nat.succ_mul]
      _ ≤ m.spots.length * m.spots.length := Nat.mul_le_mul_right _ a2
  rwa [List.length_map, List.length_range] at h2
def Cov (m : Mach) (xs : List PP) (l1 l2 : List Int) (i : Nat) : Prop := ∀ a ∈ l1.take i, ∀ b ∈ l2, meets m (a, b) → (a, b) ∈ xs
def Cov1 (m : Mach) (xs : List PP) (a : Int) (l2 : List Int) (k : Nat) : Prop := ∀ b ∈ l2.take k, meets m (a, b) → (a, b) ∈ xs
theorem Cov.zero {m : Mach} {xs : List PP} {l1 l2 : List Int} : Cov m xs l1 l2 0 := fun a ha => by simp at ha
theorem Cov1.zero {m : Mach} {xs : List PP} {a : Int} {l2 : List Int} : Cov1 m xs a l2 0 := fun a ha => by simp at ha
theorem Cov.put {m : Mach} {xs xs' : List PP} {l1 l2 : List Int} {i : Nat} {p : PP} (h : Cov m xs l1 l2 i) (hp : PutR m xs p xs') : Cov m xs' l1 l2 i := fun a ha b hb hm => by
  obtain ⟨r, rfl⟩ := hp.ext
  exact List.mem_append_left _ (h a ha b hb hm)
theorem Cov1.put {m : Mach} {xs xs' : List PP} {a : Int} {l2 : List Int} {k : Nat} (h : Cov1 m xs a l2 k) (hk : k < l2.length) (hp : PutR m xs (a, l2[k]) xs') : Cov1 m xs' a l2 (k + 1) := fun b hb hm => by
  rw [List.take_succ_eq_append_getElem hk] at hb
  rcases List.mem_append.1 hb with hb | hb
  · obtain ⟨r, e⟩ := hp.ext
    rw [e]; exact List.mem_append_left _ (h b hb hm)
  · obtain rfl := List.mem_singleton.1 hb
    exact hp.has hm
theorem Cov.step {m : Mach} {xs : List PP} {l1 l2 : List Int} {i k : Nat} (h : Cov m xs l1 l2 i) (hi : i < l1.length) (hk : l2.length ≤ k) (h1 : Cov1 m xs l1[i] l2 k) : Cov m xs l1 l2 (i + 1) := fun a ha b hb hm => by
  rw [List.take_succ_eq_append_getElem hi] at ha
  rcases List.mem_append.1 ha with ha | ha
  · exact h a ha b hb hm
  · obtain rfl := List.mem_singleton.1 ha
    exact h1 b (by rw [List.take_of_length_le hk]; exact hb) hm
/-- Those behind the first pairs are in. -/
def Clo (m : Mach) (xs : List PP) (i : Nat) : Prop := ∀ q ∈ xs.take i, ∀ p : PP, p.1 ∈ folOf m q.1.toNat → p.2 ∈ folOf m q.2.toNat → meets m p → p ∈ xs
theorem Clo.zero {m : Mach} {xs : List PP} : Clo m xs 0 := fun q hq => by simp at hq
theorem Clo.put {m : Mach} {xs xs' : List PP} {i : Nat} {p : PP} (h : Clo m xs i) (hi : i ≤ xs.length) (hp : PutR m xs p xs') : Clo m xs' i := fun q hq p' h1 h2 h3 => by
  obtain ⟨r, rfl⟩ := hp.ext
  rw [List.take_append_of_le_length hi] at hq
  exact List.mem_append_left _ (h q hq p' h1 h2 h3)
theorem Clo.step {m : Mach} {xs : List PP} {i k : Nat} {x : PP} (h : Clo m xs i) (hx : xs[i]? = some x) (hk : (folOf m x.1.toNat).length ≤ k) (hc : Cov m xs (folOf m x.1.toNat) (folOf m x.2.toNat) k) : Clo m xs (i + 1) := fun q hq p h1 h2 h3 => by
  obtain ⟨hi, e⟩ := List.getElem?_eq_some_iff.1 hx
  rw [List.take_succ_eq_append_getElem hi] at hq
  rcases List.mem_append.1 hq with hq | hq
  · exact h q hq p h1 h2 h3
  · obtain rfl := (List.mem_singleton.1 hq).trans e
    exact hc p.1 (by rw [List.take_of_length_le hk]; exact h1) p.2 h2 h3
theorem put_get {m : Mach} {xs xs' : List PP} {p x : PP} {i : Nat} (hp : PutR m xs p xs') (h : xs[i]? = some x) : xs'[i]? = some x := by
  obtain ⟨r, rfl⟩ := hp.ext
  obtain ⟨hi, _⟩ := List.getElem?_eq_some_iff.1 h
  rw [List.getElem?_append_left hi]; exact h
theorem all_come {m : Mach} {xs : List PP} {i k : Nat} (hf : FoundP m xs) (hk : m.first.length ≤ k) (h1 : Cov m xs m.first m.first k) (hi : xs.length ≤ i) (h2 : Clo m xs i) (p : PP) : p ∈ xs ↔ ComeP m p := by
  refine ⟨hf.come p, fun h => ?_⟩
  induction h with
  | start ha hb hm => exact h1 _ (by rw [List.take_of_length_le hk]; exact ha) _ hb hm
  | step _ ha hb hm ih => exact h2 _ (by rw [List.take_of_length_le hi]; exact ih) _ ha hb hm
/-! the map of pairs that are in -/
def fP2 (p : PP) : List LV := [.int .i64 p.1, .int .i64 p.2]
theorem fP2_len (p : PP) : (fP2 p).length = 2 := rfl
theorem fP2_sc (p : PP) : (fP2 p).all LV.scalar = true := rfl
def onesM (xs : List PP) : List (PP × LV) := xs.map fun p => (p, .int .i64 1)
def isIn (xs : List PP) (p : PP) : Int := if p ∈ xs then 1 else 0
theorem onesM_lk : ∀ (xs : List PP) (p : PP), (lk (onesM xs) p).getD (.int .i64 0) = .int .i64 (isIn xs p)
  | [], p => by simp [onesM, lk, isIn]
  | x :: xs, p => by
    have ih := onesM_lk xs p
    unfold onesM lk isIn at ih ⊢
    rw [List.map_cons, List.find?_cons]
    by_cases h : x = p
    · subst h; simp
    · rw [show (((x, LV.int .i64 1) : PP × LV).1 == p) = false from beq_eq_false_iff_ne.2 h]
      simp only [List.mem_cons, show ¬ p = x from fun e => h e.symm, false_or]
      exact ih
theorem onesM_new {xs : List PP} {p : PP} (h : p ∉ xs) : ∀ e ∈ onesM xs, e.1 ≠ p := fun e he h2 => by
  obtain ⟨q, hq, rfl⟩ := List.mem_map.1 he
  exact h (h2 ▸ hq)
theorem onesM_put {xs : List PP} {p : PP} : onesM (xs ++ [p]) = onesM xs ++ [(p, .int .i64 1)] := by simp [onesM]
section
variable {E : Env} {s0 : LSt} {lo n : Nat} {K : KL} {H : HL} {R : KL → HL → Prop} {draw : Bool} {ops l : List Oper} {ty : TypeId} {ps : String} {af : Array Edge} {d : Nat} {x y : Operand} {t kt et : TypeId} {L : Nat}
theorem RP.look1 {xs : List PP} (p : PP) (hn : Nat.blt d n = true) (hx : kev K x = some (.map L)) (hy : kev K y = some (keyV p)) (hu : E.und t = some (.map kt et)) (hko : keyOk E kt (keyV p) = some true) (hz : E.zero et = some (.int .i64 0))
    (hp : HIn (some L, .map kt (menc (onesM xs))) H) (h' : RP E s0 lo draw ops l n ((d, .int .i64 (isIn xs p)) :: K) H R) : RP E s0 lo draw ops (⟨some d, .lookup t x y false, ty, ps, af, none⟩ :: l) n K H R :=
  RP.look p hn hx hy hu hko hz hp (by rw [onesM_lk]; exact h')
end
theorem isIn_pos {xs : List PP} {p : PP} : isIn xs p > 0 ↔ p ∈ xs := by unfold isIn; split <;> simp [*]
theorem isIn_zero {xs : List PP} {p : PP} : isIn xs p = 0 ↔ p ∉ xs := by unfold isIn; split <;> simp [*]
theorem End.none {E : Env} {n : Nat} {K : KL} {H H' : HL} {fn : Func} {Q : LV → HL → Prop} {ex : LExit} (hx : ex = .normal ∨ ex = .ret) (hr : fn.results.toList = []) (hp : Pick H' H) (hq : Q (.tup []) H') : endQ E n fn Q ex K H :=
  ⟨hx, fun s0 st fr hi hf => ⟨.tup [], H', by simp only [vresults, hr, vresultsL], hp, hq⟩⟩
/-- The pairs' own block. -/
def pcells (a b c d : LV) (m : Mach) (va : LV) (Lm : Nat) : List LV := [a, b, c, d, .bool m.empty, va, .map Lm]
end Go.Proofs.Ytpkeggejofeeeaa.Lvm

namespace Go.Proofs.Ytpkeggejofeeeaa.Lvm
/-! ### the way back: who stands behind whom -/
/-- A row: a pair, and those from which it is read into (a slice, its things, its block). -/
abbrev ARow := PP × LV × List PP × HE
def encR (rows : List ARow) : List (PP × LV) := rows.map fun r => (r.1, r.2.1)
def tailR (rows : List ARow) : HL := rows.map fun r => r.2.2.2
def Ahead (rows : List ARow) (y x : PP) : Prop := ∃ r ∈ rows, r.1 = y ∧ x ∈ r.2.2.1
def EdgeP (m : Mach) (xs : List PP) (x y : PP) : Prop := x ∈ xs ∧ y ∈ xs ∧ y.1 ∈ folOf m x.1.toNat ∧ y.2 ∈ folOf m x.2.toNat
structure AI (m : Mach) (xs : List PP) (rows : List ARow) (e : Nat) : Prop where
  lin : ∀ r ∈ rows, Lin 2 fP2 true r.2.1 r.2.2.1 r.2.2.2
  sound : ∀ r ∈ rows, ∀ x ∈ r.2.2.1, EdgeP m xs x r.1
  nodup : (rows.map (·.1)).Nodup
  len : ∀ r ∈ rows, r.2.2.1.length ≤ e
theorem AI.nil {m : Mach} {xs : List PP} : AI m xs [] 0 := ⟨by simp, by simp, by simp, by simp⟩
theorem AI.more {m : Mach} {xs : List PP} {rows : List ARow} {e e' : Nat} (h : AI m xs rows e) (he : e ≤ e') : AI m xs rows e' := ⟨h.lin, h.sound, h.nodup, fun r hr => Nat.le_trans (h.len r hr) he⟩
/-- The row of a pair: the one that is, or a new one. -/
def RowAt (rows : List ARow) (y : PP) (rows2 : List ARow) (i : Nat) (v : LV) (l : List PP) (pr : HE) : Prop :=
  rows2[i]? = some (y, v, l, pr) ∧ (rows2 = rows ∨ (∀ r ∈ rows, r.1 ≠ y) ∧ rows2 = rows ++ [(y, .nilsl, [], (none, .dead))] ∧ i = rows.length)
theorem RowAt.ai {m : Mach} {xs : List PP} {rows rows2 : List ARow} {e i : Nat} {y : PP} {v : LV} {l : List PP} {pr : HE} (h : AI m xs rows e) (hr : RowAt rows y rows2 i v l pr) : AI m xs rows2 e ∧ (∀ y' x', Ahead rows y' x' → Ahead rows2 y' x') := by
  rcases hr.2 with rfl | ⟨hn, rfl, _⟩
  · exact ⟨h, fun _ _ h => h⟩
  · refine ⟨⟨fun r hr => ?_, fun r hr => ?_, ?_, fun r hr => ?_⟩, fun y' x' ⟨r, hr, h2⟩ => ⟨r, List.mem_append_left _ hr, h2⟩⟩
    · rcases List.mem_append.1 hr with hr | hr
      · exact h.lin r hr
      · obtain rfl := List.mem_singleton.1 hr; exact .nil
    · rcases List.mem_append.1 hr with hr | hr
      · exact h.sound r hr
      · obtain rfl := List.mem_singleton.1 hr; intro x hx; cases hx
    · rw [List.map_append, List.nodup_append]
      refine ⟨h.nodup, by simp, fun a ha b hb => ?_⟩
      obtain ⟨r, hr0, rfl⟩ := List.mem_map.1 ha
      obtain rfl := List.mem_singleton.1 hb
      exact hn r hr0
    · rcases List.mem_append.1 hr with hr | hr
      · exact h.len r hr
      · obtain rfl := List.mem_singleton.1 hr; exact Nat.zero_le _
theorem AI.set {m : Mach} {xs : List PP} {rows2 : List ARow} {e i : Nat} {x y : PP} {v v' : LV} {l : List PP} {pr p' : HE} (h : AI m xs rows2 e) (hr : rows2[i]? = some (y, v, l, pr)) (hl : Lin 2 fP2 true v' (l ++ [x]) p') (he : EdgeP m xs x y) :
    AI m xs (rows2.set i (y, v', l ++ [x], p')) (e + 1) ∧ (∀ y' x', Ahead rows2 y' x' → Ahead (rows2.set i (y, v', l ++ [x], p')) y' x') ∧ Ahead (rows2.set i (y, v', l ++ [x], p')) y x := by
  obtain ⟨hi, hri⟩ := List.getElem?_eq_some_iff.1 hr
  have hm : (y, v, l, pr) ∈ rows2 := hri ▸ List.getElem_mem hi
  have hms : (y, v', l ++ [x], p') ∈ rows2.set i (y, v', l ++ [x], p') := List.mem_set hi _
  refine ⟨⟨fun r hr => ?_, fun r hr => ?_, ?_, fun r hr => ?_⟩, fun y' x' ⟨r, hr2, h2, h3⟩ => ?_, ⟨_, hms, rfl, by simp⟩⟩
  · rcases List.mem_or_eq_of_mem_set hr with hr | rfl
    · exact h.lin r hr
    · exact hl
  · rcases List.mem_or_eq_of_mem_set hr with hr | rfl
    · exact h.sound r hr
    · intro x' hx'
      rcases List.mem_append.1 hx' with hx' | hx'
      · exact h.sound _ hm x' hx'
      · obtain rfl := List.mem_singleton.1 hx'; exact he
  · rw [List.map_set]
    have e1 : (rows2.map (·.1)).set i y = rows2.map (·.1) := es_same (by rw [List.getElem?_map, hr]; rfl)
    show ((rows2.map (·.1)).set i y).Nodup
    rw [e1]; exact h.nodup
  · rcases List.mem_or_eq_of_mem_set hr with hr | rfl
    · exact Nat.le_succ_of_le (h.len r hr)
    · have := h.len _ hm
      show (l ++ [x]).length ≤ e + 1
      rw [List.length_append]; simpa using this
  · obtain ⟨j, hj, rfl⟩ := List.mem_iff_getElem.1 hr2
    by_cases e1 : i = j
    · subst e1
      rw [hri] at h2 h3
      exact ⟨_, hms, h2, List.mem_append_left _ h3⟩
    · exact ⟨rows2[j], List.mem_iff_getElem.2 ⟨j, by rw [List.length_set]; exact hj, by rw [List.getElem_set_ne e1]⟩, h2, h3⟩
theorem encR_set {rows : List ARow} {i : Nat} {r : ARow} : encR (rows.set i r) = (encR rows).set i (r.1, r.2.1) := List.map_set ..
theorem tailR_set {rows : List ARow} {i : Nat} {r : ARow} : tailR (rows.set i r) = (tailR rows).set i r.2.2.2 := List.map_set ..
theorem tailR_get {rows : List ARow} {i : Nat} {r : ARow} (h : rows[i]? = some r) : (tailR rows)[i]? = some r.2.2.2 := by unfold tailR; rw [List.getElem?_map, h]; rfl
theorem encR_get {rows : List ARow} {i : Nat} {r : ARow} (h : rows[i]? = some r) : (encR rows)[i]? = some (r.1, r.2.1) := by unfold encR; rw [List.getElem?_map, h]; rfl
theorem lkR {rows : List ARow} {y : PP} (hn : (rows.map (·.1)).Nodup) : (∃ r ∈ rows, r.1 = y ∧ lk (encR rows) y = some r.2.1 ∧ ∀ r' ∈ rows, r'.1 = y → r' = r) ∨ (∀ r ∈ rows, r.1 ≠ y) ∧ lk (encR rows) y = none := by
  induction rows with
  | nil => exact Or.inr ⟨by simp, rfl⟩
  | cons r rows ih =>
    rw [List.map_cons, List.nodup_cons] at hn
    by_cases h : r.1 = y
    · subst h
      refine Or.inl ⟨r, List.mem_cons_self .., rfl, by simp [encR, lk], fun r' hr' h' => ?_⟩
      rcases List.mem_cons.1 hr' with rfl | hr'
      · rfl
      · exact absurd (List.mem_map.2 ⟨r', hr', h'⟩) hn.1
    · have hs : lk (encR (r :: rows)) y = lk (encR rows) y := by
        unfold lk encR
        rw [List.map_cons, List.find?_cons, show (((r.1, r.2.1) : PP × LV).1 == y) = false from beq_eq_false_iff_ne.2 h]
      rcases ih hn.2 with ⟨r0, h1, h2, h3, h4⟩ | ⟨h1, h2⟩
      · exact Or.inl ⟨r0, List.mem_cons_of_mem _ h1, h2, hs.trans h3, fun r' hr' h' => by
          rcases List.mem_cons.1 hr' with rfl | hr'
          · exact absurd h' h
          · exact h4 r' hr' h'⟩
      · exact Or.inr ⟨fun r' hr' => by
          rcases List.mem_cons.1 hr' with rfl | hr'
          · exact h
          · exact h1 r' hr', hs.trans h2⟩
section
variable {E : Env} {s0 : LSt} {lo n : Nat} {K : KL} {H : HL} {R : KL → HL → Prop} {draw : Bool} {ops l : List Oper} {ty : TypeId} {ps : String} {af : Array Edge} {d : Nat} {x y : Operand} {t kt et : TypeId} {L : Nat}
theorem RP.pickH {H' : HL} (hp : Pick H' H) (h : RP E s0 lo draw ops l n K H' R) : RP E s0 lo draw ops l n K H R := ⟨fun st hi => h.run st (hi.pick hp)⟩
theorem RP.mentryR {rows : List ARow} {T : HL} (B : List (PP × LV) → HL) (p : PP) (hn : Nat.blt d n = true) (hx : kev K x = some (.map L)) (hy : kev K y = some (keyV p)) (hu : E.und t = some (.map kt et)) (hko : keyOk E kt (keyV p) = some true) (hz : E.zero et = some .nilsl) (hlo : lo ≤ s0.nxt)
    (hp : ∀ es', HUpd (some L, .map kt (menc (encR rows))) (some L, .map kt (menc es')) H (B es' ++ (tailR rows ++ T)))
    (h' : ∀ (i : Nat) rows2 v l0 pr, RowAt rows p rows2 i v l0 pr → RP E s0 lo draw ops l n ((d, .tup [v, .int .i64 (i : Int)]) :: K) (B (encR rows2) ++ (tailR rows2 ++ T)) R) :
    RP E s0 lo draw ops (⟨some d, .mapEntry t x y, ty, ps, af, none⟩ :: l) n K H R := by
  refine RP.mentry (z := .nilsl) p hn hx hy hu hko hz hlo hp fun i es' v he => ?_
  rcases he with ⟨h1, ⟨h2, rfl, h3⟩ | ⟨h2, rfl, rfl, rfl⟩⟩
  · unfold encR at h1
    rw [List.getElem?_map] at h1
    obtain ⟨⟨r1, r2, r3, r4⟩, hr, e⟩ := Option.map_eq_some_iff.1 h1
    simp only [Prod.mk.injEq] at e
    obtain ⟨rfl, rfl⟩ := e
    exact h' i rows _ r3 r4 ⟨hr, Or.inl rfl⟩
  · have h3 : ∀ r ∈ rows, r.1 ≠ p := fun r hr => h2 (r.1, r.2.1) (List.mem_map.2 ⟨r, hr, rfl⟩)
    have h4 := h' rows.length (rows ++ [(p, .nilsl, [], (none, .dead))]) .nilsl [] (none, .dead) ⟨by simp, Or.inr ⟨h3, rfl, rfl⟩⟩
    have e1 : encR (rows ++ [(p, .nilsl, [], (none, .dead))]) = encR rows ++ [(p, .nilsl)] := by simp [encR]
    have e2 : tailR (rows ++ [(p, .nilsl, [], (none, .dead))]) = tailR rows ++ [(none, .dead)] := by simp [tailR]
    have e3 : (encR rows).length = rows.length := by simp [encR]
    rw [e1, e2] at h4
    rw [e3]
    refine RP.ghost .dead (RP.pickH (.perm ?_ .refl) h4)
    rw [List.append_assoc]
    refine (List.Perm.append_left (B _) (List.perm_middle (l₁ := tailR rows) (a := (none, LObj.dead)) (l₂ := T))).trans ?_
    exact List.perm_middle
theorem RP.lookR {rows : List ARow} (p : PP) (hn : Nat.blt d n = true) (hx : kev K x = some (.map L)) (hy : kev K y = some (keyV p)) (hu : E.und t = some (.map kt et)) (hko : keyOk E kt (keyV p) = some true) (hz : E.zero et = some .nilsl) (hp : HIn (some L, .map kt (menc (encR rows))) H)
    {m : Mach} {xs : List PP} {e : Nat} (ha : AI m xs rows e) (htl : ∀ q ∈ tailR rows, HIn q H)
    (h' : ∀ v l0, SlH E s0 H v 2 fP2 l0 → (∀ x, x ∈ l0 ↔ Ahead rows p x) → l0.length ≤ e → RP E s0 lo draw ops l n ((d, v) :: K) H R) : RP E s0 lo draw ops (⟨some d, .lookup t x y false, ty, ps, af, none⟩ :: l) n K H R := by
  refine RP.look p hn hx hy hu hko hz hp ?_
  rcases lkR (y := p) ha.nodup with ⟨r, h1, h2, h3, h4⟩ | ⟨h1, h2⟩
  · rw [h3]
    exact h' _ r.2.2.1 (SlH.lin fP2_len (ha.lin r h1) (htl _ (List.mem_map.2 ⟨r, h1, rfl⟩))) (fun x => ⟨fun hx => ⟨r, h1, h2, hx⟩, fun ⟨r', hr', h5, h6⟩ => by rw [h4 r' hr' h5] at h6; exact h6⟩) (ha.len r h1)
  · rw [h2]
    exact h' _ [] (fun st hi => ⟨fP2_len, Or.inl ⟨rfl, rfl⟩⟩) (fun x => ⟨fun hx => (by cases hx), fun ⟨r', hr', h5, _⟩ => absurd h5 (h1 r' hr')⟩) (Nat.zero_le _)
end
/-! the walks back -/
def BothLast (m : Mach) (p : PP) : Prop := lastOf m p.1.toNat = true ∧ lastOf m p.2.toNat = true
structure TI (m : Mach) (xs td : List PP) (i : Nat) : Prop where
  sound : ∀ x ∈ td, x ∈ xs ∧ BothLast m x
  all : ∀ x ∈ xs.take i, BothLast m x → x ∈ td
def CE (m : Mach) (xs : List PP) (rows : List ARow) (i : Nat) : Prop := ∀ x ∈ xs.take i, ∀ y ∈ xs, y.1 ∈ folOf m x.1.toNat → y.2 ∈ folOf m x.2.toNat → Ahead rows y x
def CB (m : Mach) (xs : List PP) (rows : List ARow) (x : PP) (l1 l2 : List Int) (j : Nat) : Prop := ∀ a ∈ l1.take j, ∀ b ∈ l2, (a, b) ∈ xs → Ahead rows (a, b) x
def CC (xs : List PP) (rows : List ARow) (x : PP) (a : Int) (l2 : List Int) (k : Nat) : Prop := ∀ b ∈ l2.take k, (a, b) ∈ xs → Ahead rows (a, b) x
theorem CE.grow {m : Mach} {xs : List PP} {rows rows' : List ARow} {i : Nat} (h : CE m xs rows i) (hg : ∀ y x, Ahead rows y x → Ahead rows' y x) : CE m xs rows' i := fun x hx y hy h1 h2 => hg _ _ (h x hx y hy h1 h2)
theorem CB.grow {m : Mach} {xs : List PP} {rows rows' : List ARow} {x : PP} {l1 l2 : List Int} {i : Nat} (h : CB m xs rows x l1 l2 i) (hg : ∀ y x, Ahead rows y x → Ahead rows' y x) : CB m xs rows' x l1 l2 i := fun a ha b hb h1 => hg _ _ (h a ha b hb h1)
theorem CC.step {xs : List PP} {rows rows' : List ARow} {x : PP} {a : Int} {l2 : List Int} {k : Nat} (h : CC xs rows x a l2 k) (hk : k < l2.length) (hg : ∀ y x, Ahead rows y x → Ahead rows' y x) (h1 : (a, l2[k]) ∈ xs → Ahead rows' (a, l2[k]) x) : CC xs rows' x a l2 (k + 1) := fun b hb hm => by
  rw [List.take_succ_eq_append_getElem hk] at hb
  rcases List.mem_append.1 hb with hb | hb
  · exact hg _ _ (h b hb hm)
  · obtain rfl := List.mem_singleton.1 hb; exact h1 hm
theorem CB.step {m : Mach} {xs : List PP} {rows : List ARow} {x : PP} {l1 l2 : List Int} {j k : Nat} (h : CB m xs rows x l1 l2 j) (hj : j < l1.length) (hk : l2.length ≤ k) (h1 : CC xs rows x l1[j] l2 k) : CB m xs rows x l1 l2 (j + 1) := fun a ha b hb hm => by
  rw [List.take_succ_eq_append_getElem hj] at ha
  rcases List.mem_append.1 ha with ha | ha
  · exact h a ha b hb hm
  · obtain rfl := List.mem_singleton.1 ha
    exact h1 b (by rw [List.take_of_length_le hk]; exact hb) hm
theorem CE.step {m : Mach} {xs : List PP} {rows : List ARow} {i j : Nat} {x : PP} (h : CE m xs rows i) (hx : xs[i]? = some x) (hj : (folOf m x.1.toNat).length ≤ j) (h1 : CB m xs rows x (folOf m x.1.toNat) (folOf m x.2.toNat) j) : CE m xs rows (i + 1) := fun q hq y hy h2 h3 => by
  obtain ⟨hi, e⟩ := List.getElem?_eq_some_iff.1 hx
  rw [List.take_succ_eq_append_getElem hi] at hq
  rcases List.mem_append.1 hq with hq | hq
  · exact h q hq y hy h2 h3
  · obtain rfl := (List.mem_singleton.1 hq).trans e
    exact h1 y.1 (by rw [List.take_of_length_le hj]; exact h2) y.2 h3 hy
/-- On the way back: those done, and those to do. -/
structure BI (m : Mach) (xs : List PP) (rows : List ARow) (out td : List PP) : Prop where
  sound : ∀ x, x ∈ out ∨ x ∈ td → x ∈ xs ∧ EndP m x
  last : ∀ x ∈ xs, BothLast m x → x ∈ out ∨ x ∈ td
  back : ∀ y ∈ out, ∀ x, Ahead rows y x → x ∈ out ∨ x ∈ td
  nodup : out.Nodup
theorem BI.start {m : Mach} {xs : List PP} {rows : List ARow} {td : List PP} {i : Nat} (h : TI m xs td i) (hi : xs.length ≤ i) : BI m xs rows [] td :=
  ⟨fun x hx => by
    rcases hx with hx | hx
    · cases hx
    · exact ⟨(h.sound x hx).1, .last (h.sound x hx).2.1 (h.sound x hx).2.2⟩, fun x hx hb => Or.inr (h.all x (by rw [List.take_of_length_le hi]; exact hx) hb), fun y hy => (by cases hy), List.nodup_nil⟩
theorem last_split {td : List PP} {x : PP} (h : td[td.length - 1]? = some x) : td = td.take (td.length - 1) ++ [x] := by
  obtain ⟨hi, e⟩ := List.getElem?_eq_some_iff.1 h
  have := List.take_succ_eq_append_getElem hi
  rw [e, show td.length - 1 + 1 = td.length by omega, List.take_length] at this
  exact this
theorem BI.skip {m : Mach} {xs : List PP} {rows : List ARow} {out td : List PP} {x : PP} (h : BI m xs rows out td) (hx : td[td.length - 1]? = some x) (ho : x ∈ out) : BI m xs rows out (td.take (td.length - 1)) := by
  have e := last_split hx
  have hto : ∀ z, z ∈ out ∨ z ∈ td → z ∈ out ∨ z ∈ td.take (td.length - 1) := fun z hz => by
    rcases hz with hz | hz
    · exact Or.inl hz
    · rw [e] at hz
      rcases List.mem_append.1 hz with hz | hz
      · exact Or.inr hz
      · exact Or.inl (List.mem_singleton.1 hz ▸ ho)
  exact ⟨fun z hz => h.sound z (hz.imp (fun a => a) List.mem_of_mem_take), fun z hz hb => hto z (h.last z hz hb), fun y hy z hz => hto z (h.back y hy z hz), h.nodup⟩
theorem BI.mark {m : Mach} {xs : List PP} {rows : List ARow} {out td l0 : List PP} {x : PP} {e : Nat} (h : BI m xs rows out td) (ha : AI m xs rows e) (hc : ∀ p ∈ xs, ComeP m p) (hx : td[td.length - 1]? = some x) (ho : x ∉ out) (hl : ∀ z, z ∈ l0 ↔ Ahead rows x z) : BI m xs rows (out ++ [x]) (td.take (td.length - 1) ++ l0) := by
  have e := last_split hx
  have hxt : x ∈ td := by rw [e]; simp
  have hto : ∀ z, z ∈ out ∨ z ∈ td → z ∈ out ++ [x] ∨ z ∈ td.take (td.length - 1) ++ l0 := fun z hz => by
    rcases hz with hz | hz
    · exact Or.inl (List.mem_append_left _ hz)
    · rw [e] at hz
      rcases List.mem_append.1 hz with hz | hz
      · exact Or.inr (List.mem_append_left _ hz)
      · exact Or.inl (List.mem_append_right _ hz)
  have hxe := h.sound x (Or.inr hxt)
  refine ⟨fun z hz => ?_, fun z hz hb => hto z (h.last z hz hb), fun y hy z hz => ?_, ?_⟩
  · rcases hz with hz | hz
    · rcases List.mem_append.1 hz with hz | hz
      · exact h.sound z (Or.inl hz)
      · obtain rfl := List.mem_singleton.1 hz; exact hxe
    · rcases List.mem_append.1 hz with hz | hz
      · exact h.sound z (Or.inr (List.mem_of_mem_take hz))
      · obtain ⟨r, hr, h1, h2⟩ := (hl z).1 hz
        obtain ⟨g1, g2, g3, g4⟩ := ha.sound r hr z h2
        rw [h1] at g2 g3 g4
        exact ⟨g1, .step g3 g4 (hc x g2).meet hxe.2⟩
  · rcases List.mem_append.1 hy with hy | hy
    · exact hto z (h.back y hy z hz)
    · obtain rfl := List.mem_singleton.1 hy
      exact Or.inr (List.mem_append_right _ ((hl z).2 hz))
  · rw [List.nodup_append]
    exact ⟨h.nodup, by simp, fun a ha b hb => by obtain rfl := List.mem_singleton.1 hb; exact fun e => ho (e ▸ ha)⟩
theorem BI.fin {m : Mach} {xs : List PP} {rows : List ARow} {out : List PP} {i : Nat} (h : BI m xs rows out []) (hc : ∀ p, p ∈ xs ↔ ComeP m p) (hi : xs.length ≤ i) (he : CE m xs rows i) (p : PP) : p ∈ out ↔ ComeP m p ∧ EndP m p := by
  constructor
  · intro hp
    have := h.sound p (Or.inl hp)
    exact ⟨(hc p).1 this.1, this.2⟩
  · rintro ⟨h1, h2⟩
    have main : ∀ p, EndP m p → p ∈ xs → p ∈ out := fun p hp => by
      induction hp with
      | last a b => intro hx; exact (h.last _ hx ⟨a, b⟩).elim (fun a => a) (fun a => by cases a)
      | @step p q a b hm _ ih =>
        intro hx
        have hq : q ∈ xs := (hc q).2 (.step ((hc p).1 hx) a b hm)
        exact (h.back q (ih hq) p (he p (by rw [List.take_of_length_le hi]; exact hx) q hq a b)).elim (fun a => a) (fun a => by cases a)
    exact main p h2 ((hc p).2 h1)
end Go.Proofs.Ytpkeggejofeeeaa.Lvm
namespace Go.Proofs.Ytpkeggejofeeeaa.Lvm
theorem TI.on {m : Mach} {xs td : List PP} {i : Nat} {x : PP} (h : TI m xs td i) (hx : xs[i]? = some x) (hb : BothLast m x) : TI m xs (td ++ [x]) (i + 1) := by
  obtain ⟨hi, e⟩ := List.getElem?_eq_some_iff.1 hx
  refine ⟨fun z hz => ?_, fun z hz hb' => ?_⟩
  · rcases List.mem_append.1 hz with hz | hz
    · exact h.sound z hz
    · obtain rfl := List.mem_singleton.1 hz; exact ⟨e ▸ List.getElem_mem hi, hb⟩
  · rw [List.take_succ_eq_append_getElem hi] at hz
    rcases List.mem_append.1 hz with hz | hz
    · exact List.mem_append_left _ (h.all z hz hb')
    · obtain rfl := (List.mem_singleton.1 hz).trans e; simp
theorem TI.off {m : Mach} {xs td : List PP} {i : Nat} {x : PP} (h : TI m xs td i) (hx : xs[i]? = some x) (hb : ¬ BothLast m x) : TI m xs td (i + 1) := by
  obtain ⟨hi, e⟩ := List.getElem?_eq_some_iff.1 hx
  refine ⟨h.sound, fun z hz hb' => ?_⟩
  rw [List.take_succ_eq_append_getElem hi] at hz
  rcases List.mem_append.1 hz with hz | hz
  · exact h.all z hz hb'
  · obtain rfl := (List.mem_singleton.1 hz).trans e; exact absurd hb' hb
theorem BI.len {m : Mach} {xs : List PP} {rows : List ARow} {out td : List PP} (h : BI m xs rows out td) : out.length ≤ xs.length := h.nodup.length_le_of_subset fun z hz => (h.sound z (Or.inl hz)).1
end Go.Proofs.Ytpkeggejofeeeaa.Lvm

namespace Go.Proofs.Ytpkeggejofeeeaa.Lvm
/-- Does an entry of the walk bear two tags? -/
def badK (m : Mach) : LV → Bool
  | .agg [.int _ x, .int _ y] => tagOf m x.toNat != tagOf m y.toNat
  | _ => false
theorem badK_key {m : Mach} {p : PP} : badK m (keyV p) = (tagOf m p.1.toNat != tagOf m p.2.toNat) := rfl
theorem onesM_at {out : List PP} {i : Nat} {k v : LV} (h : (menc (onesM out))[i]? = some (k, v)) : ∃ p ∈ out, k = keyV p ∧ v = .int .i64 1 := by
  unfold menc onesM at h
  rw [List.getElem?_map, List.getElem?_map] at h
  obtain ⟨e, he, h2⟩ := Option.map_eq_some_iff.1 h
  obtain ⟨p, hp, rfl⟩ := Option.map_eq_some_iff.1 he
  simp only [Prod.mk.injEq] at h2
  exact ⟨p, List.mem_of_getElem? hp, h2.1.symm, h2.2.symm⟩
theorem single_yes {m : Mach} {out : List PP} (hg : GoodM m) (ho : ∀ p, p ∈ out ↔ ComeP m p ∧ EndP m p) (h : ∀ e ∈ menc (onesM out), badK m e.1 = false) : SingleM m := by
  refine ⟨hg, fun p h1 h2 => ?_⟩
  have := h (keyV p, .int .i64 1) (List.mem_map.2 ⟨(p, .int .i64 1), List.mem_map.2 ⟨p, (ho p).2 ⟨h1, h2⟩, rfl⟩, rfl⟩)
  rw [badK_key] at this
  simpa using this
theorem single_no {m : Mach} {out : List PP} (ho : ∀ p, p ∈ out ↔ ComeP m p ∧ EndP m p) (h : ∃ e ∈ menc (onesM out), badK m e.1 = true) : ¬ SingleM m := fun hs => by
  obtain ⟨e, he, hb⟩ := h
  obtain ⟨i, hi, hie⟩ := List.mem_iff_getElem.1 he
  obtain ⟨p, hp, h1, _⟩ := onesM_at (out := out) (i := i) (k := e.1) (v := e.2) (by rw [List.getElem?_eq_getElem hi, hie])
  rw [h1, badK_key] at hb
  have h2 := (ho p).1 hp
  rw [hs.2 p h2.1 h2.2] at hb
  simp at hb
end Go.Proofs.Ytpkeggejofeeeaa.Lvm

namespace Go.Proofs.Ytpkeggejofeeeaa.Lvm
/-! ### a set with a byte is some set -/
theorem count_spot {s : Spot} (hs : SpotOk s) : ∃ k : Nat, countF s = (k : Int) ∧ (∀ c, inB s c = true → k ≠ 0) := by
  have hw : ∀ j, ∃ n c : Nat, word s j = (n : Int) ∧ n = (word s j).toNat ∧ onesF (n : Int) = (c : Int) ∧ c < 128 ∧ (c = 0 ↔ n = 0) := fun j => by
    have h1 := word_ok hs j
    obtain ⟨c, h2, h3, h4⟩ := onesF_zero (n := (word s j).toNat) (by omega)
    exact ⟨_, c, by omega, rfl, h2, h3, h4⟩
  obtain ⟨n0, c0, w0, f0, p0, q0, r0⟩ := hw 0
  obtain ⟨n1, c1, w1, f1, p1, q1, r1⟩ := hw 1
  obtain ⟨n2, c2, w2, f2, p2, q2, r2⟩ := hw 2
  obtain ⟨n3, c3, w3, f3, p3, q3, r3⟩ := hw 3
  have w0' : s.a = (n0 : Int) := w0
  have w1' : s.b = (n1 : Int) := w1
  have w2' : s.c = (n2 : Int) := w2
  have w3' : s.d = (n3 : Int) := w3
  refine ⟨c0 + c1 + c2 + c3, ?_, fun c hc hk => ?_⟩
  · unfold countF
    rw [w0', w1', w2', w3', p0, p1, p2, p3, IntWalk.i64_in (0 + (c0 : Int)) ⟨by omega, by omega⟩, IntWalk.i64_in (0 + (c0 : Int) + (c1 : Int)) ⟨by omega, by omega⟩, IntWalk.i64_in (0 + (c0 : Int) + (c1 : Int) + (c2 : Int)) ⟨by omega, by omega⟩, IntWalk.i64_in (0 + (c0 : Int) + (c1 : Int) + (c2 : Int) + (c3 : Int)) ⟨by omega, by omega⟩]
    omega
  · have hall : ∀ j, j < 4 → (word s j).toNat = 0 := fun j hj => by
      match j, hj with
      | 0, _ => rw [← f0]; omega
      | 1, _ => rw [← f1]; omega
      | 2, _ => rw [← f2]; omega
      | 3, _ => rw [← f3]; omega
    unfold inB at hc
    have := c.toNat_lt
    rw [hall _ (by omega), Nat.zero_testBit] at hc
    cases hc
theorem some_in {s : Spot} (hs : SpotOk s) {c : UInt8} (h : inB s c = true) : someF s = true := by
  obtain ⟨k, h1, h2⟩ := count_spot hs
  have := h2 c h
  unfold someF
  rw [h1, decide_eq_true_iff]; omega
/-! ### numbers of the spots that are kept -/
def rk (keep : List Bool) (i : Nat) : Nat := (keep.take i).count true
def kpt (keep : List Bool) (i : Nat) : Bool := (keep[i]?).getD false
theorem kpt_iff {keep : List Bool} {i : Nat} : kpt keep i = true ↔ keep[i]? = some true := by
  unfold kpt
  cases h : keep[i]? with
  | none => simp
  | some b => simp
theorem rk_get {α : Type} : ∀ {keep : List Bool} {l : List α} {i : Nat}, l.length = keep.length → keep[i]? = some true → (keptF keep l)[rk keep i]? = l[i]?
  | [], _, i, _, h => by simp at h
  | k :: keep, [], i, hl, h => by simp at hl
  | k :: keep, x :: l, 0, _, h => by
    simp only [List.getElem?_cons_zero, Option.some.injEq] at h
    subst h
    simp [keptF, rk]
  | k :: keep, x :: l, i + 1, hl, h => by
    have ih := rk_get (keep := keep) (l := l) (i := i) (by simpa using hl) (by simpa using h)
    unfold keptF rk at ih ⊢
    cases k <;> simpa using ih
theorem rk_step {keep : List Bool} {i : Nat} (h : i < keep.length) : rk keep (i + 1) = rk keep i + if kpt keep i then 1 else 0 := by
  unfold rk
  rw [count_step h]
  unfold kpt
  rw [List.getElem?_eq_getElem h]; rfl
theorem rk_le {keep : List Bool} {i : Nat} : ∀ {j : Nat}, i ≤ j → rk keep i ≤ rk keep j := fun {j} h => by
  unfold rk
  exact List.Sublist.count_le true (List.take_sublist_take_left h)
theorem rk_lt {keep : List Bool} {i j : Nat} (h : kpt keep i = true) (hij : i < j) : rk keep i < rk keep j := by
  have hi : i < keep.length := (List.getElem?_eq_some_iff.1 (kpt_iff.1 h)).1
  have h1 := rk_step hi
  rw [h, if_pos rfl] at h1
  have := rk_le (keep := keep) (i := i + 1) (j := j) hij
  omega
theorem rk_all {α : Type} : ∀ {keep : List Bool} {l : List α}, l.length = keep.length → (keptF keep l).length = rk keep keep.length
  | [], [], _ => rfl
  | [], _ :: _, h => by simp at h
  | _ :: _, [], h => by simp at h
  | k :: keep, x :: l, h => by
    have ih := rk_all (keep := keep) (l := l) (by simpa using h)
    unfold keptF rk at ih ⊢
    cases k <;> simpa using ih
theorem rk_inj {keep : List Bool} {i j : Nat} (hi : kpt keep i = true) (hj : kpt keep j = true) (h : rk keep i = rk keep j) : i = j := by
  rcases Nat.lt_trichotomy i j with h1 | h1 | h1
  · have := rk_lt hi h1; omega
  · exact h1
  · have := rk_lt hj h1; omega
def rkI (keep : List Bool) (x : Int) : Int := ((rk keep x.toNat : Nat) : Int)
theorem rkI_nat {keep : List Bool} {x : Int} : (rkI keep x).toNat = rk keep x.toNat := by unfold rkI; omega
theorem leftF_eq {keep : List Bool} : ∀ {xs : List Int}, leftF keep (numF keep) xs = (xs.filter fun x => kpt keep x.toNat).map (rkI keep)
  | [] => rfl
  | x :: xs => by
    have ih := leftF_eq (keep := keep) (xs := xs)
    unfold leftF at ih ⊢
    rw [List.filterMap_cons, ih, List.filter_cons]
    rw [show (keep[x.toNat]?).getD false = kpt keep x.toNat from rfl]
    cases h : kpt keep x.toNat with
    | false => simp
    | true =>
      have hi := (List.getElem?_eq_some_iff.1 (kpt_iff.1 h)).1
      have e : (numF keep)[x.toNat]? = some (rkI keep x) := by
        unfold numF rkI rk
        rw [List.getElem?_map, List.getElem?_range hi]; rfl
      simp [e]
theorem leftF_mem {keep : List Bool} {xs : List Int} {y : Int} : y ∈ leftF keep (numF keep) xs ↔ ∃ x ∈ xs, kpt keep x.toNat = true ∧ y = rkI keep x := by
  rw [leftF_eq, List.mem_map]
  constructor
  · rintro ⟨x, hx, rfl⟩; rw [List.mem_filter] at hx; exact ⟨x, hx.1, hx.2, rfl⟩
  · rintro ⟨x, hx, h, rfl⟩; exact ⟨x, List.mem_filter.2 ⟨hx, h⟩, rfl⟩
theorem rising_of {b : Int} : ∀ {xs : List Int} {last : Int}, xs.Pairwise (· < ·) → (∀ x ∈ xs, last < x ∧ x < b) → risingF b last xs = true
  | [], _, _, _ => rfl
  | x :: xs, last, hp, h => by
    obtain ⟨h1, h2⟩ := List.pairwise_cons.1 hp
    rw [risingF, if_neg (by have := h x (List.mem_cons_self ..); omega)]
    exact rising_of h2 fun y hy => ⟨h1 y hy, (h y (List.mem_cons_of_mem _ hy)).2⟩
/-- What is known of a trimmed machine. -/
structure TrimH (m : Mach) (keep : List Bool) : Prop where
  good : GoodM m
  len : keep.length = m.spots.length
  use_ : ∀ i : Nat, keep[i]? = some true ↔ UsefulM m i
  ok : ∀ s ∈ m.spots, SpotOk s
section
variable {m : Mach} {keep : List Bool}
theorem TrimH.kp (h : TrimH m keep) {i : Nat} : kpt keep i = true ↔ UsefulM m i := kpt_iff.trans (h.use_ i)
theorem TrimH.t_in (h : TrimH m keep) {i : Nat} (hi : kpt keep i = true) {c : UInt8} : inSpot (trimF keep m) c (rk keep i) = inSpot m c i := by
  unfold inSpot trimF
  rw [rk_get h.len.symm (kpt_iff.1 hi)]
theorem TrimH.t_tag (h : TrimH m keep) {i : Nat} (hi : kpt keep i = true) : tagOf (trimF keep m) (rk keep i) = tagOf m i := by
  unfold tagOf trimF
  rw [rk_get h.len.symm (kpt_iff.1 hi)]
theorem TrimH.t_last (h : TrimH m keep) {i : Nat} (hi : kpt keep i = true) : lastOf (trimF keep m) (rk keep i) = lastOf m i := by
  unfold lastOf trimF
  rw [rk_get (by rw [h.good.llen, h.len]) (kpt_iff.1 hi)]
theorem TrimH.t_fol (h : TrimH m keep) {i : Nat} (hi : kpt keep i = true) : folOf (trimF keep m) (rk keep i) = leftF keep (numF keep) (folOf m i) := by
  unfold folOf trimF
  rw [List.getElem?_map, rk_get (by rw [h.good.flen, h.len]) (kpt_iff.1 hi)]
  cases m.follow[i]? <;> rfl
theorem in_some (h : TrimH m keep) {n : Nat} {c : UInt8} (hc : inSpot m c n = true) : ∃ s, m.spots[n]? = some s ∧ someF s = true := by
  unfold inSpot at hc
  cases hs : m.spots[n]? with
  | none => rw [hs] at hc; cases hc
  | some s => rw [hs] at hc; exact ⟨s, rfl, some_in (h.ok s (List.mem_of_getElem? hs)) hc⟩
theorem reach_first (h : TrimH m keep) {x : Int} (hx : x ∈ m.first) {c : UInt8} (hc : inSpot m c x.toNat = true) : ReachM m x.toNat := by
  obtain ⟨s, h1, h2⟩ := in_some h hc
  exact .first hx h1 h2
theorem fol_some {n : Nat} {x : Int} (hx : x ∈ folOf m n) : m.follow[n]? = some (folOf m n) := by
  unfold folOf at hx ⊢
  cases hf : m.follow[n]? with
  | none => rw [hf] at hx; cases hx
  | some l => rfl
theorem reach_fol (h : TrimH m keep) {n : Nat} (hr : ReachM m n) {x : Int} (hx : x ∈ folOf m n) {c : UInt8} (hc : inSpot m c x.toNat = true) : ReachM m x.toNat := by
  obtain ⟨s, h1, h2⟩ := in_some h hc
  exact .step hr (fol_some hx) hx h1 h2
theorem last_get {n : Nat} (h : lastOf m n = true) : m.last[n]? = some true := by
  unfold lastOf at h
  cases hl : m.last[n]? with
  | none => rw [hl] at h; cases h
  | some b => rw [hl] at h; simpa using h
theorem go_useful (h : TrimH m keep) : ∀ {w : List UInt8} {n : Nat}, ReachM m n → goW m w n = true → UsefulM m n
  | [], n, hr, hg => .last hr (last_get hg)
  | c :: r, n, hr, hg => by
    obtain ⟨x, hx, h2⟩ := List.any_eq_true.1 hg
    rw [Bool.and_eq_true] at h2
    exact .step hr (fol_some hx) hx (go_useful h (reach_fol h hr hx h2.1) h2.2)
theorem go_trim (h : TrimH m keep) : ∀ {w : List UInt8} {n : Nat}, kpt keep n = true → goW (trimF keep m) w (rk keep n) = goW m w n
  | [], n, hk => h.t_last hk
  | c :: r, n, hk => by
    show (folOf (trimF keep m) (rk keep n)).any _ = (folOf m n).any _
    rw [h.t_fol hk, Bool.eq_iff_iff, List.any_eq_true, List.any_eq_true]
    constructor
    · rintro ⟨y, hy, h2⟩
      obtain ⟨x, hx, hkx, rfl⟩ := leftF_mem.1 hy
      rw [rkI_nat, h.t_in hkx, go_trim h hkx] at h2
      exact ⟨x, hx, h2⟩
    · rintro ⟨x, hx, h2⟩
      have h3 := h2
      rw [Bool.and_eq_true] at h3
      have hkx := h.kp.2 (go_useful h (reach_fol h ((h.kp.1 hk).reach) hx h3.1) h3.2)
      refine ⟨rkI keep x, leftF_mem.2 ⟨x, hx, hkx, rfl⟩, ?_⟩
      rw [rkI_nat, h.t_in hkx, go_trim h hkx]; exact h2
/-- Of a list whose spots are reached. -/
def Live (m : Mach) (xs : List Int) : Prop := ∀ x ∈ xs, ∀ c, inSpot m c x.toNat = true → ReachM m x.toNat
theorem find_map_filter {α β : Type} {p : α → Bool} {q : β → Bool} {k : α → Bool} {f : α → β} : ∀ {l : List α}, (∀ x ∈ l, k x = true → q (f x) = p x) → (∀ x ∈ l, p x = true → k x = true) → ((l.filter k).map f).find? q = (l.find? p).map f
  | [], _, _ => rfl
  | x :: l, h1, h2 => by
    have ih := find_map_filter (l := l) (fun y hy => h1 y (List.mem_cons_of_mem _ hy)) (fun y hy => h2 y (List.mem_cons_of_mem _ hy))
    rw [List.filter_cons, List.find?_cons]
    cases hk : k x with
    | true =>
      rw [if_pos rfl, List.map_cons, List.find?_cons, h1 x (List.mem_cons_self ..) hk]
      cases hp : p x with
      | true => rfl
      | false => exact ih
    | false =>
      rw [if_neg Bool.false_ne_true]
      cases hp : p x with
      | true => have := h2 x (List.mem_cons_self ..) hp; rw [hk] at this; cases this
      | false => exact ih
theorem mark_trim (h : TrimH m keep) : ∀ {w : List UInt8} {xs : List Int}, Live m xs → markF (trimF keep m) w (leftF keep (numF keep) xs) = markF m w xs
  | [], xs, _ => rfl
  | c :: r, xs, hl => by
    have huse : ∀ x ∈ xs, accept m (c :: r) x.toNat = true → kpt keep x.toNat = true := fun x hx ha => by
      simp only [accept, Bool.and_eq_true] at ha
      exact h.kp.2 (go_useful h (hl x hx c ha.1) ha.2)
    have hf : (leftF keep (numF keep) xs).find? (fun x => accept (trimF keep m) (c :: r) x.toNat) = (xs.find? fun x => accept m (c :: r) x.toNat).map (rkI keep) := by
      rw [leftF_eq]
      exact find_map_filter (fun x hx hk => by simp only [accept]; rw [rkI_nat, h.t_in hk, go_trim h hk]) huse
    rw [markF, markF, hf]
    cases hx : xs.find? fun x => accept m (c :: r) x.toNat with
    | none => rfl
    | some x =>
      have hm := List.mem_of_find?_eq_some hx
      have hk := huse x hm (List.find?_some (p := fun x : Int => accept m (c :: r) x.toNat) hx)
      simp only [Option.map_some]
      rw [rkI_nat, h.t_fol hk, h.t_tag hk, mark_trim h fun y hy c' hc' => reach_fol h ((h.kp.1 hk).reach) hy hc']
theorem trim_good (h : TrimH m keep) : GoodM (trimF keep m) := by
  have hN : (trimF keep m).spots.length = rk keep keep.length := rk_all h.len.symm
  have hrise : ∀ {xs : List Int}, risingF m.spots.length (-1) xs = true → risingF (trimF keep m).spots.length (-1) (leftF keep (numF keep) xs) = true := fun {xs} hx => by
    refine rising_of ?_ fun y hy => ?_
    · rw [leftF_eq, List.pairwise_map]
      refine ((rising_sorted hx).filter _).imp_of_mem fun {a b} ha hb hab => ?_
      rw [List.mem_filter] at ha hb
      have h1 := risingF_mem hx a ha.1
      have h2 := rk_lt ha.2 (show a.toNat < b.toNat by omega)
      unfold rkI; omega
    · obtain ⟨x, hx1, hk, rfl⟩ := leftF_mem.1 hy
      have h1 := risingF_mem hx x hx1
      have h2 := rk_lt hk (show x.toNat < keep.length by rw [h.len]; omega)
      rw [hN]; unfold rkI; omega
  have hf : (trimF keep m).follow.length = (trimF keep m).spots.length := by
    show ((keptF keep m.follow).map _).length = (keptF keep m.spots).length
    rw [List.length_map]; exact keptF_len h.good.flen
  refine ⟨Nat.le_trans keptF_le h.good.size, hf, keptF_len h.good.llen, hrise h.good.first, fun i hi => ?_, fun i hi => ?_⟩
  · have hm : (trimF keep m).spots[i] ∈ m.spots := by
      have := List.getElem_mem hi
      obtain ⟨p, hp, he⟩ := List.mem_map.1 (show (trimF keep m).spots[i] ∈ ((m.spots.zip keep).filter (·.2)).map (·.1) from this)
      rw [← he]; exact (List.of_mem_zip (List.mem_filter.1 hp).1).1
    obtain ⟨j, hj, he⟩ := List.mem_iff_getElem.1 hm
    rw [← he]; exact h.good.tags j hj
  · have hi2 : i < (keptF keep m.follow).length := by
      have : i < ((keptF keep m.follow).map (leftF keep (numF keep))).length := hi
      simpa using this
    have hgi : (trimF keep m).follow[i] = leftF keep (numF keep) (keptF keep m.follow)[i] := List.getElem_map (leftF keep (numF keep))
    rw [hgi]
    refine hrise ?_
    obtain ⟨p, hp, he⟩ := List.mem_map.1 (show (keptF keep m.follow)[i] ∈ ((m.follow.zip keep).filter (·.2)).map (·.1) from List.getElem_mem hi2)
    rw [← he]
    obtain ⟨j, hj, he2⟩ := List.mem_iff_getElem.1 (List.of_mem_zip (List.mem_filter.1 hp).1).1
    rw [← he2]; exact h.good.rows j hj
theorem live_first (h : TrimH m keep) : Live m m.first := fun x hx c hc => reach_first h hx hc
theorem marks_trim (h : TrimH m keep) {w : List UInt8} {ok : Bool} {tags : List Int} (hs : MarksSpec m w ok tags) : MarksSpec (trimF keep m) w ok tags := by
  have hg := trim_good h
  have hm : markF (trimF keep m) w (trimF keep m).first = markF m w m.first := mark_trim h (live_first h)
  cases hs with
  | bad hb => exact absurd h.good hb
  | none _ hw => exact (.none hg hw : MarksSpec (trimF keep m) w (trimF keep m).empty [])
  | no _ hw hq => exact .no hg hw (hm.trans hq)
  | yes _ hw hq => exact .yes hg hw (hm.trans hq)
/-! one tag for both, trimmed or not -/
def rkP (keep : List Bool) (p : PP) : PP := (rkI keep p.1, rkI keep p.2)
def KP (keep : List Bool) (p : PP) : Prop := kpt keep p.1.toNat = true ∧ kpt keep p.2.toNat = true
theorem meets_trim (h : TrimH m keep) {p : PP} (hk : KP keep p) : meets (trimF keep m) (rkP keep p) ↔ meets m p := by
  unfold meets rkP
  simp only [rkI_nat, h.t_in hk.1, h.t_in hk.2]
theorem come_reach (h : TrimH m keep) {p : PP} (hc : ComeP m p) : ReachM m p.1.toNat ∧ ReachM m p.2.toNat := by
  induction hc with
  | start h1 h2 hm => obtain ⟨c, a, b⟩ := hm; exact ⟨reach_first h h1 a, reach_first h h2 b⟩
  | step _ h1 h2 hm ih => obtain ⟨c, a, b⟩ := hm; exact ⟨reach_fol h ih.1 h1 a, reach_fol h ih.2 h2 b⟩
theorem end_kept (h : TrimH m keep) {p : PP} (he : EndP m p) : ReachM m p.1.toNat → ReachM m p.2.toNat → KP keep p := by
  induction he with
  | last h1 h2 => intro a b; exact ⟨h.kp.2 (.last a (last_get h1)), h.kp.2 (.last b (last_get h2))⟩
  | @step p q h1 h2 hm _ ih =>
    intro a b
    have hk := ih (by obtain ⟨c, u, _⟩ := hm; exact reach_fol h a h1 u) (by obtain ⟨c, _, u⟩ := hm; exact reach_fol h b h2 u)
    exact ⟨h.kp.2 (.step a (fol_some h1) h1 (h.kp.1 hk.1)), h.kp.2 (.step b (fol_some h2) h2 (h.kp.1 hk.2))⟩
theorem come_back (h : TrimH m keep) {q : PP} (hc : ComeP (trimF keep m) q) : ∃ p, q = rkP keep p ∧ KP keep p ∧ ComeP m p := by
  induction hc with
  | @start p h1 h2 hm =>
    obtain ⟨x, hx, hkx, e1⟩ := leftF_mem.1 h1
    obtain ⟨y, hy, hky, e2⟩ := leftF_mem.1 h2
    have e : p = rkP keep (x, y) := Prod.ext e1 e2
    rw [e] at hm
    exact ⟨(x, y), e, ⟨hkx, hky⟩, .start hx hy ((meets_trim h (p := (x, y)) ⟨hkx, hky⟩).1 hm)⟩
  | @step q p _ h1 h2 hm ih =>
    obtain ⟨p0, rfl, hk, hc⟩ := ih
    simp only [rkP, rkI_nat] at h1 h2
    rw [h.t_fol hk.1] at h1
    rw [h.t_fol hk.2] at h2
    obtain ⟨x, hx, hkx, e1⟩ := leftF_mem.1 h1
    obtain ⟨y, hy, hky, e2⟩ := leftF_mem.1 h2
    have e : p = rkP keep (x, y) := Prod.ext e1 e2
    rw [e] at hm
    exact ⟨(x, y), e, ⟨hkx, hky⟩, .step hc hx hy ((meets_trim h (p := (x, y)) ⟨hkx, hky⟩).1 hm)⟩
theorem end_back (h : TrimH m keep) {q : PP} (he : EndP (trimF keep m) q) : ∀ p, q = rkP keep p → KP keep p → EndP m p := by
  induction he with
  | last h1 h2 =>
    intro p e hk
    subst e
    simp only [rkP, rkI_nat] at h1 h2
    exact .last ((h.t_last hk.1).symm.trans h1) ((h.t_last hk.2).symm.trans h2)
  | @step q' q h1 h2 hm _ ih =>
    intro p e hk
    subst e
    simp only [rkP, rkI_nat] at h1 h2
    rw [h.t_fol hk.1] at h1
    rw [h.t_fol hk.2] at h2
    obtain ⟨x, hx, hkx, e1⟩ := leftF_mem.1 h1
    obtain ⟨y, hy, hky, e2⟩ := leftF_mem.1 h2
    have e : q = rkP keep (x, y) := Prod.ext e1 e2
    have hm' := hm
    rw [e] at hm'
    exact .step (q := (x, y)) hx hy ((meets_trim h (p := (x, y)) ⟨hkx, hky⟩).1 hm') (ih (x, y) e ⟨hkx, hky⟩)
theorem come_on (h : TrimH m keep) {p : PP} (hc : ComeP m p) : EndP m p → ComeP (trimF keep m) (rkP keep p) := by
  induction hc with
  | @start p h1 h2 hm =>
    intro he
    have hr := come_reach h (.start h1 h2 hm)
    have hk := end_kept h he hr.1 hr.2
    exact .start (leftF_mem.2 ⟨_, h1, hk.1, rfl⟩) (leftF_mem.2 ⟨_, h2, hk.2, rfl⟩) ((meets_trim h hk).2 hm)
  | @step q p hq h1 h2 hm ih =>
    intro he
    have hr := come_reach h (.step hq h1 h2 hm)
    have hk := end_kept h he hr.1 hr.2
    have heq : EndP m q := .step h1 h2 hm he
    have hrq := come_reach h hq
    have hkq := end_kept h heq hrq.1 hrq.2
    refine .step (ih heq) ?_ ?_ ((meets_trim h hk).2 hm)
    · show rkI keep p.1 ∈ folOf _ (rkI keep q.1).toNat
      rw [rkI_nat, h.t_fol hkq.1]; exact leftF_mem.2 ⟨_, h1, hk.1, rfl⟩
    · show rkI keep p.2 ∈ folOf _ (rkI keep q.2).toNat
      rw [rkI_nat, h.t_fol hkq.2]; exact leftF_mem.2 ⟨_, h2, hk.2, rfl⟩
theorem end_on (h : TrimH m keep) {p : PP} (he : EndP m p) : ReachM m p.1.toNat → ReachM m p.2.toNat → EndP (trimF keep m) (rkP keep p) := by
  induction he with
  | @last p h1 h2 =>
    intro a b
    have hk := end_kept h (.last h1 h2) a b
    refine .last ?_ ?_
    · show lastOf _ (rkI keep p.1).toNat = true
      rw [rkI_nat, h.t_last hk.1]; exact h1
    · show lastOf _ (rkI keep p.2).toNat = true
      rw [rkI_nat, h.t_last hk.2]; exact h2
  | @step p q h1 h2 hm hq ih =>
    intro a b
    have ra : ReachM m q.1.toNat := by obtain ⟨c, u, _⟩ := hm; exact reach_fol h a h1 u
    have rb : ReachM m q.2.toNat := by obtain ⟨c, _, u⟩ := hm; exact reach_fol h b h2 u
    have hkq := end_kept h hq ra rb
    have hk := end_kept h (.step h1 h2 hm hq) a b
    refine .step (q := rkP keep q) ?_ ?_ ((meets_trim h hkq).2 hm) (ih ra rb)
    · show rkI keep q.1 ∈ folOf _ (rkI keep p.1).toNat
      rw [rkI_nat, h.t_fol hk.1]; exact leftF_mem.2 ⟨_, h1, hkq.1, rfl⟩
    · show rkI keep q.2 ∈ folOf _ (rkI keep p.2).toNat
      rw [rkI_nat, h.t_fol hk.2]; exact leftF_mem.2 ⟨_, h2, hkq.2, rfl⟩
theorem single_trim (h : TrimH m keep) : SingleM m ↔ SingleM (trimF keep m) := by
  constructor
  · rintro ⟨_, hs⟩
    refine ⟨trim_good h, fun q hc he => ?_⟩
    obtain ⟨p, rfl, hk, hcp⟩ := come_back h hc
    have := hs p hcp (end_back h he p rfl hk)
    show tagOf _ (rkI keep p.1).toNat = tagOf _ (rkI keep p.2).toNat
    rw [rkI_nat, rkI_nat, h.t_tag hk.1, h.t_tag hk.2]; exact this
  · rintro ⟨_, hs⟩
    refine ⟨h.good, fun p hc he => ?_⟩
    have hr := come_reach h hc
    have hk := end_kept h he hr.1 hr.2
    have := hs (rkP keep p) (come_on h hc he) (end_on h he hr.1 hr.2)
    change tagOf _ (rkI keep p.1).toNat = tagOf _ (rkI keep p.2).toNat at this
    rw [rkI_nat, rkI_nat, h.t_tag hk.1, h.t_tag hk.2] at this; exact this
end
end Go.Proofs.Ytpkeggejofeeeaa.Lvm
namespace Go.Proofs.Ytpkeggejofeeeaa.Lvm
theorem keptF_mem {α : Type} {keep : List Bool} {l : List α} {x : α} (h : x ∈ keptF keep l) : x ∈ l := by
  obtain ⟨p, hp, rfl⟩ := List.mem_map.1 h
  exact (List.of_mem_zip (List.mem_filter.1 hp).1).1
theorem trim_rows {m : Mach} {keep : List Bool} {l : List Int} (h : l ∈ (trimF keep m).follow) : ∃ l' ∈ m.follow, l.length ≤ l'.length := by
  obtain ⟨l', h1, rfl⟩ := List.mem_map.1 (show l ∈ (keptF keep m.follow).map _ from h)
  exact ⟨l', keptF_mem h1, leftF_le⟩
end Go.Proofs.Ytpkeggejofeeeaa.Lvm

namespace Go.Proofs.Ytpkeggejofeeeaa.Lvm
/-! ### of a single-valued machine all runs mark alike -/
theorem go_end {m : Mach} : ∀ {r : List UInt8} {x z : Int}, goW m r x.toNat = true → goW m r z.toNat = true → EndP m (x, z)
  | [], x, z, h1, h2 => .last h1 h2
  | c :: r, x, z, h1, h2 => by
    obtain ⟨x', hx, g1⟩ := List.any_eq_true.1 h1
    obtain ⟨z', hz, g2⟩ := List.any_eq_true.1 h2
    rw [Bool.and_eq_true] at g1 g2
    exact .step (q := (x', z')) hx hz ⟨c, g1.1, g2.1⟩ (go_end g1.2 g2.2)
/-- A run of choices, and the marks that are left. -/
def AllI (m : Mach) (W : List UInt8) (tags : List Int) (i : Nat) (ys : List Int) : Prop :=
  ∃ xs, markF m (W.drop i) xs = some (tags.drop i) ∧ ((i = 0 ∧ ys = [] ∧ xs = m.first) ∨ (0 < i ∧ ∃ n c : Int, ys = [c] ∧ xs = folOf m n.toNat ∧ ComeP m (n, c) ∧ goW m (W.drop i) c.toNat = true))
theorem AllI.start {m : Mach} {W : List UInt8} {tags : List Int} (h : markF m W m.first = some tags) : AllI m W tags 0 [] := ⟨m.first, by simpa using h, Or.inl ⟨rfl, rfl, rfl⟩⟩
theorem AllI.step {m : Mach} {W : List UInt8} {tags ys : List Int} {i : Nat} (hS : SingleM m) (h : AllI m W tags i ys) (hi : i < W.length) (fs : Bool) (hfs : fs = decide (i = 0)) :
    ((stepF m ys fs W[i]).filter fun x => goW m (W.drop (i + 1)) x.toNat) ≠ [] ∧ ∀ z ∈ (stepF m ys fs W[i]).filter fun x => goW m (W.drop (i + 1)) x.toNat, (0 ≤ z ∧ z.toNat < m.spots.length) ∧ tags[i]? = some (tagOf m z.toNat) ∧ AllI m W tags (i + 1) [z] := by
  obtain ⟨xs, hm, hc⟩ := h
  have hg := hS.1
  rw [List.drop_eq_getElem_cons hi, markF] at hm
  cases hf : xs.find? fun x => accept m (W[i] :: W.drop (i + 1)) x.toNat with
  | none => rw [hf] at hm; cases hm
  | some x =>
    rw [hf] at hm
    simp only at hm
    obtain ⟨rest, hr1, hr2⟩ := Option.map_eq_some_iff.1 hm
    have hxm := List.mem_of_find?_eq_some hf
    have hxa := List.find?_some (p := fun x : Int => accept m (W[i] :: W.drop (i + 1)) x.toNat) hf
    simp only [accept, Bool.and_eq_true] at hxa
    have htag : tags[i]? = some (tagOf m x.toNat) := by
      have h1 : (tags.drop i)[0]? = some (tagOf m x.toNat) := by rw [← hr2]; rfl
      rw [List.getElem?_drop] at h1; exact h1
    have hrest : rest = tags.drop (i + 1) := by
      have h1 : (tags.drop i).drop 1 = rest := by rw [← hr2]; rfl
      rw [← h1, List.drop_drop]
    rw [hrest] at hr1
    -- who may come
    have hmem : ∀ z : Int, z ∈ stepF m ys fs W[i] ↔ (0 ≤ z ∧ z.toNat < m.spots.length) ∧ comeG m ys fs z.toNat = true ∧ inSpot m W[i] z.toNat = true := fun z => by
      rw [stepF, lst_mem, intoG, Bool.and_eq_true]
      exact ⟨fun ⟨a, b, c⟩ => ⟨⟨a, b⟩, c⟩, fun ⟨⟨a, b⟩, c⟩ => ⟨a, b, c⟩⟩
    constructor
    · -- one goes on
      have : ∃ z, z ∈ stepF m ys fs W[i] ∧ goW m (W.drop (i + 1)) z.toNat = true := by
        rcases hc with ⟨h0, rfl, rfl⟩ | ⟨h0, n, c, rfl, rfl, hcp, hgo⟩
        · have hr := hg.start hxm
          refine ⟨x, (hmem x).2 ⟨hr, ?_, hxa.1⟩, hxa.2⟩
          rw [hfs, show decide (i = 0) = true from decide_eq_true h0, come_first, memI_iff, Int.toNat_of_nonneg hr.1]; exact hxm
        · rw [List.drop_eq_getElem_cons hi] at hgo
          obtain ⟨z, hz, h2⟩ := List.any_eq_true.1 hgo
          rw [Bool.and_eq_true] at h2
          have hr := hg.range hz
          refine ⟨z, (hmem z).2 ⟨hr, ?_, h2.1⟩, h2.2⟩
          rw [hfs, show decide (i = 0) = false from decide_eq_false (by omega), come_one, memI_iff, Int.toNat_of_nonneg hr.1]; exact hz
      obtain ⟨z, hz, h2⟩ := this
      exact List.ne_nil_of_mem (List.mem_filter.2 ⟨hz, h2⟩)
    · intro z hz
      rw [List.mem_filter] at hz
      obtain ⟨hzr, hzc, hzi⟩ := (hmem z).1 hz.1
      have hcome : ComeP m (x, z) := by
        rcases hc with ⟨h0, rfl, rfl⟩ | ⟨h0, n, c, rfl, rfl, hcp, hgo⟩
        · rw [hfs, show decide (i = 0) = true from decide_eq_true h0, come_first, memI_iff, Int.toNat_of_nonneg hzr.1] at hzc
          exact .start hxm hzc ⟨W[i], hxa.1, hzi⟩
        · rw [hfs, show decide (i = 0) = false from decide_eq_false (by omega), come_one, memI_iff, Int.toNat_of_nonneg hzr.1] at hzc
          exact .step hcp hxm hzc ⟨W[i], hxa.1, hzi⟩
      have he : tagOf m x.toNat = tagOf m z.toNat := hS.2 (x, z) hcome (go_end hxa.2 hz.2)
      refine ⟨hzr, he ▸ htag, folOf m x.toNat, hr1, Or.inr ⟨by omega, x, z, rfl, rfl, hcome, hz.2⟩⟩
theorem MarksSpec.len_ok {m : Mach} {w : List UInt8} {ok : Bool} {l : List Int} (h : MarksSpec m w ok l) (ho : ok = true) : l.length = w.length := by
  cases h with
  | bad => cases ho
  | none _ hw => subst hw; rfl
  | no => cases ho
  | yes _ _ hm => exact markF_len hm
theorem MarksSpec.mark {m : Mach} {w : List UInt8} {ok : Bool} {l : List Int} (h : MarksSpec m w ok l) (ho : ok = true) : markF m w m.first = some l := by
  cases h with
  | bad => cases ho
  | none _ hw => subst hw; rfl
  | no => cases ho
  | yes _ _ hm => exact hm
theorem filter_step {α : Type} {p : α → Bool} {l : List α} {k : Nat} (hk : k < l.length) : (l.take (k + 1)).filter p = (l.take k).filter p ++ if p l[k] = true then [l[k]] else [] := by
  rw [List.take_succ_eq_append_getElem hk, List.filter_append]
  cases h : p l[k] <;> simp [h]
end Go.Proofs.Ytpkeggejofeeeaa.Lvm
