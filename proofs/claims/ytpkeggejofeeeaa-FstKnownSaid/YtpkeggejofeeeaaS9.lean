/- Laws of the small machine and of how it stands to the model; a helper of the statements: no statement is proved here. -/
import Derived.Test.YtpkeggejofeeeaaS8
namespace Go.Proofs.Ytpkeggejofeeeaa.Lvm

theorem growBy_le : ∀ (k need c : Nat), Builtin.growBy need k c ≤ max c (need + (need + 768) / 4)
  | 0, need, c => by simp [Builtin.growBy]; omega
  | k + 1, need, c => by
    simp only [Builtin.growBy]
    split
    · omega
    · rename_i h
      have := growBy_le k need (c + (c + 768) / 4)
      omega

theorem nextcap_le {need cap : Nat} (h : cap < need) : Builtin.nextslicecap need cap ≤ 2 * need + 1000 := by
  unfold Builtin.nextslicecap
  split
  · omega
  · split
    · omega
    · have := growBy_le 4 need cap
      omega

section
variable {E : Env} {B : Nat} {inj : Inj} {st st' : LSt} {w : World} {fr : LFr} {a : Act} {lo : Nat}

theorem lenL_sound {x : LV} {v : Value} {n : Nat} (h : lenL x = some n) (hx : VRel inj x v) : (Builtin.lenOf v).run E.P w = .ok n w := by
  unfold lenL at h
  split at h
  · simp at h; subst h; simp only [VRel] at hx; subst hx; simp [Builtin.lenOf]
  · simp at h; subst h; simp only [VRel] at hx; obtain ⟨r, o', c, rfl, _⟩ := hx; simp [Builtin.lenOf]
  · simp at h; subst h; simp only [VRel] at hx; subst hx; simp [Builtin.lenOf]
  · cases h

theorem loadCells_of {P : Program} {r o : Nat} {n : Nat} {vs : List Value} (hn : vs.length = n) (h : ∀ j v, vs[j]? = some v → w.cell? ⟨r, o + j, none⟩ = some v) :
    (loadCells ⟨r, o, none⟩ n).run P w = .ok vs.toArray w := by
  subst hn
  unfold loadCells
  have := run_loadCells (P := P) vs 0 #[] (fun j v hj => by simpa using h j v hj)
  simpa using this

theorem srcCells_sound (hm : Emb E B inj st w) {x : LV} {v : Value} {n sz : Nat} {new : List LV} (h : srcCells E st sz x = some new) (hn : lenL x = some n) (hx : VRel inj x v) :
    ∃ vs : Array Value, (∀ w' : World, w'.heap = w.heap → (Builtin.firstCells sz n v).run E.P w' = .ok vs w') ∧ VRels inj new vs.toList ∧ vs.size = new.length := by
  unfold srcCells at h
  split at h
  · simp at h; subst h; simp only [VRel] at hx; subst hx
    exact ⟨#[], fun _ _ => by simp [Builtin.firstCells], VRels.nil, rfl⟩
  · rename_i b o sz' len cap ex
    cases hb : Nat.beq sz' sz with
    | false => rw [hb] at h; simp at h
    | true =>
      rw [hb] at h; simp only [cond_true] at h
      have hz := Nat.eq_of_beq_eq_true hb
      subst hz
      simp [lenL] at hn; subst hn
      simp only [VRel] at hx
      obtain ⟨r, o', c, rfl, hbr, ho, hc, hex, hle, hcap⟩ := hx
      obtain ⟨vs, h1, h2, h3⟩ := loadN_sound hm h hbr
      have hl := h2.length
      by_cases hl0 : len * sz' = 0
      · have : vs = [] := List.eq_nil_of_length_eq_zero (by omega)
        subst this
        refine ⟨#[], fun w' _ => ?_, h2, by simp at hl ⊢; omega⟩
        simp only [Builtin.firstCells]
        exact loadCells_of (by simp [hl0]) (by simp)
      · have ho : o' = o := by
          rcases ho with ho | ho
          · exact ho
          · have : len = 0 := by omega
            subst this; simp at hl0
        subst ho
        exact ⟨vs.toArray, fun w' hw' => by simp only [Builtin.firstCells]; exact loadCells_of h1 (fun j v hj => by rw [← h3 j v hj]; simp [World.cell?, hw']), by simpa using h2, by simp; omega⟩
  · rename_i s
    cases hb : Nat.beq sz 1 with
    | false => rw [hb] at h; simp at h
    | true =>
      rw [hb] at h; simp at h; subst h
      simp [lenL] at hn; subst hn
      simp only [VRel] at hx; subst hx
      refine ⟨s.data.map fun b => .int .u8 b.toNat, fun _ _ => by simp [Builtin.firstCells], ?_, by simp⟩
      simp only [Array.toList_map]
      generalize s.data.toList = l
      induction l with
      | nil => exact VRels.nil
      | cons b l ih => exact VRels.cons (by simp [VRel]) ih
  · cases h

/-- What append leaves. -/
inductive AppOut (E : Env) (inj : Inj) (lo : Nat) (cover : Bool) (st : LSt) (w : World) (v : LV) (st' : LSt) (s : Sem Value) : Prop where
  | same (h : st' = st) (hv : ValOut E inj v w s)
  | fresh (h : FreshOut E inj st w v st' s)
  | store (hc : cover = false) (L : Nat) (q : Nat × Nat) (old o : LObj) (ob : Obj) (u : Value) (w' : World) (h1 : lo ≤ L) (h2 : inj L = some q) (h3 : st.mem.get L = some old) (h4 : old ≠ .dead) (h5 : o ≠ .dead)
      (h6 : st' = { st with mem := st.mem.set L o }) (h7 : s.run E.P w = .ok u w') (h8 : w'.heap = w.heap.setIfInBounds q.1 ob) (h9 : Alike3 w w') (h10 : ORel E inj o (some ob) q.2) (h11 : VRel inj v u)
  | grow (L : Nat) (q : Nat × Nat) (cs cs' : List LV) (u : Value) (w' : World) (h1 : lo ≤ L) (h2 : inj L = some q) (h3 : st.mem.get L = some (.cells cs))
      (h6 : st' = newB { st with mem := st.mem.set L .dead } (.cells cs')) (h7 : s.run E.P w = .ok u w') (h9 : Alike3 w w')
      (h8 : (∃ ob n, w'.heap = w.heap.push ob ∧ ∀ inj', Ext inj inj' → inj' st.nxt = some (w.heap.size, n) → VRel inj' v u ∧ ORel E inj' (.cells cs') (some ob) n) ∨
        (∃ ob, w'.heap = w.heap.setIfInBounds q.1 ob ∧ (cover = true → ORel E inj (.cells cs) (some ob) q.2) ∧
          ∀ inj', Ext inj inj' → inj' st.nxt = some q → VRel inj' v u ∧ ORel E inj' (.cells cs') (some ob) q.2))

theorem roomFor_le {need by_ : Nat} (h : roomFor need by_ = true) : 1 ≤ by_ ∧ (2 * need + 1000) * by_ ≤ 140737488355328 := by
  simp only [roomFor, Bool.and_eq_true] at h
  exact ⟨Nat.le_of_ble_eq_true h.1, Nat.le_of_ble_eq_true h.2⟩

/-- The run of an append that must grow. -/
theorem run_append_grow {P : Program} {ts : Array TypeId} {ty sType t' e : TypeId} {i : TypeInfo} {zv v x : Value} {base : Option Addr} {sLen sCap n : Nat} {old new : Array Value}
    (ht : ts[0]? = some sType) (ht' : ts[1]? = some t') (hu : P.underlying sType = some (.slice e)) (hu' : ∃ d, P.underlying t' = some d ∧ ((∃ e', d = .slice e') ∨ d = .string))
    (hi : P.info? e = some i) (hz : ∀ w', w'.heap = w.heap → (zeroValue e).run P w' = .ok zv w') (hs : v = .slice base sLen sCap)
    (hn : (Builtin.lenOf x).run P w = .ok n w) (hnew : ∀ w', w'.heap = w.heap → (Builtin.firstCells i.size n x).run P w' = .ok new w') (hold : ∀ w', w'.heap = w.heap → (Builtin.firstCells i.size sLen v).run P w' = .ok old w')
    (hlt : sCap < sLen + n) (hroom : roomFor (sLen + n) i.bytes = true) :
    ∃ C, sLen + n ≤ C ∧ (Builtin.append_ ts ty #[v, x]).run P w = .ok (.slice (some ⟨w.heap.size, 0, none⟩) (sLen + n) C)
      { w with drawn := w.drawn + 1, heap := w.heap.push (.cells (old ++ new ++ Builtin.zeroCells zv.cells (C - (sLen + n))) e) } := by
  refine ⟨Question.cut (.appendCap (sLen + n) sCap e) (w.tape w.drawn (.appendCap (sLen + n) sCap e)), by simp only [Question.cut]; omega, ?_⟩
  obtain ⟨d, hd, hdi⟩ := hu'
  have hf : Question.forced (.appendCap (sLen + n) sCap e) = false := rfl
  obtain ⟨hr1, hr⟩ := roomFor_le hroom
  have hsmall : sLen + n ≤ 140737488355328 := by
    have : (2 * (sLen + n) + 1000) * 1 ≤ (2 * (sLen + n) + 1000) * i.bytes := Nat.mul_le_mul_left _ hr1
    omega
  have hcap := nextcap_le hlt
  have hnx : Builtin.nextslicecap (sLen + n) sCap * i.bytes ≤ 2 ^ 48 := by
    have : Builtin.nextslicecap (sLen + n) sCap * i.bytes ≤ (2 * (sLen + n) + 1000) * i.bytes := Nat.mul_le_mul_right _ hcap
    omega
  have hmax : ¬ (((sLen + n : Nat) : Int) > IntKind.i64.max) := by
    have : IntKind.i64.max = 9223372036854775807 := by decide
    rw [this]; omega
  subst hs
  have a0 : (#[Value.slice base sLen sCap, x] : Array Value)[0]? = some (Value.slice base sLen sCap) := rfl
  have a1 : (#[Value.slice base sLen sCap, x] : Array Value)[1]? = some x := rfl
  rcases hdi with ⟨e', rfl⟩ | rfl
  all_goals
    simp only [Builtin.append_, ht, ht', a0, a1, Sem.run_bind, r_und hu, r_und hd, Result.andThen_ok, r_size hi, Sem.run_pure, Bool.false_eq_true, if_false, hn]
    rw [if_neg (by omega)]
    simp only [Sem.run_bind, r_info hi, Result.andThen_ok]
    rw [if_neg (by rintro ⟨h, _⟩; exact hmax h)]
    simp only [Sem.run_bind, r_info hi, Result.andThen_ok]
    rw [if_neg (by omega)]
    simp only [Sem.run_bind, run_choose, hf, Bool.false_eq_true, if_false, Result.andThen_ok, run_askRoom, r_info hi]
    have e1 := hold { w with drawn := w.drawn + 1 } rfl
    have e2 := hnew { w with drawn := w.drawn + 1 } rfl
    have e3 := hz { w with drawn := w.drawn + 1 } rfl
    simp only [e1, Result.andThen_ok, Bool.not_false, if_true, e2, e3, newRow, Sem.run_bind, run_newObj, Sem.run_pure]

theorem Emb.heap (hm : Emb E B inj st w) {w' : World} (h : w'.heap = w.heap) : Emb E B inj st w' where
  dom := fun L q hq => by rw [h]; exact hm.dom L q hq
  obj := fun L q o hq ho => by rw [h]; exact hm.obj L q o hq ho
  new := hm.new
  base := fun r o v hv => by
    have := hm.base r o v hv
    refine ⟨this.1, ?_⟩
    obtain ⟨u, hu, hr⟩ := this.2
    exact ⟨u, by simpa [World.cell?, h] using hu, hr⟩
  low := by rw [h]; exact hm.low

theorem zeroCells_size (zv : Array Value) (n : Nat) : (Builtin.zeroCells zv n).size = n * zv.size := by simp [Builtin.zeroCells]

/-- The run of an append that fits. -/
theorem run_append_fits {P : Program} {ts : Array TypeId} {ty sType t' e : TypeId} {i : TypeInfo} {x : Value} {r o' : Nat} {sLen sCap n : Nat} {new : Array Value} {w' : World}
    (ht : ts[0]? = some sType) (ht' : ts[1]? = some t') (hu : P.underlying sType = some (.slice e)) (hu' : ∃ d, P.underlying t' = some d ∧ ((∃ e', d = .slice e') ∨ d = .string))
    (hi : P.info? e = some i) (hn : (Builtin.lenOf x).run P w = .ok n w) (hnew : (Builtin.firstCells i.size n x).run P w = .ok new w)
    (hle : sLen + n ≤ sCap) (hst : (storeCells ⟨r, o' + sLen * i.size, none⟩ new.toList).run P w = .ok () w') :
    (Builtin.append_ ts ty #[.slice (some ⟨r, o', none⟩) sLen sCap, x]).run P w = .ok (.slice (some ⟨r, o', none⟩) (sLen + n) sCap) w' := by
  obtain ⟨d, hd, hdi⟩ := hu'
  have a0 : (#[Value.slice (some ⟨r, o', none⟩) sLen sCap, x] : Array Value)[0]? = some (Value.slice (some ⟨r, o', none⟩) sLen sCap) := rfl
  have a1 : (#[Value.slice (some ⟨r, o', none⟩) sLen sCap, x] : Array Value)[1]? = some x := rfl
  rcases hdi with ⟨e', rfl⟩ | rfl
  all_goals
    simp only [Builtin.append_, ht, ht', a0, a1, Sem.run_bind, r_und hu, r_und hd, Result.andThen_ok, r_size hi, Sem.run_pure, Bool.false_eq_true, if_false, hn]
    rw [if_pos hle]
    simp only [Sem.run_bind, Bool.not_false, if_true, hnew, Result.andThen_ok, add_none, hst, Sem.run_pure]

theorem run_append_nil {P : Program} {ts : Array TypeId} {ty sType t' e : TypeId} {i : TypeInfo} {x : Value} {new : Array Value}
    (ht : ts[0]? = some sType) (ht' : ts[1]? = some t') (hu : P.underlying sType = some (.slice e)) (hu' : ∃ d, P.underlying t' = some d ∧ ((∃ e', d = .slice e') ∨ d = .string))
    (hi : P.info? e = some i) (hn : (Builtin.lenOf x).run P w = .ok 0 w) (hnew : (Builtin.firstCells i.size 0 x).run P w = .ok new w) :
    (Builtin.append_ ts ty #[.slice none 0 0, x]).run P w = .ok (.slice none 0 0) w := by
  obtain ⟨d, hd, hdi⟩ := hu'
  have a0 : (#[Value.slice none 0 0, x] : Array Value)[0]? = some (Value.slice none 0 0) := rfl
  have a1 : (#[Value.slice none 0 0, x] : Array Value)[1]? = some x := rfl
  rcases hdi with ⟨e', rfl⟩ | rfl
  all_goals
    simp only [Builtin.append_, ht, ht', a0, a1, Sem.run_bind, r_und hu, r_und hd, Result.andThen_ok, r_size hi, Sem.run_pure, Bool.false_eq_true, if_false, hn]
    rw [if_pos (by omega)]
    simp only [Sem.run_bind, Bool.not_false, if_true, hnew, Result.andThen_ok, Sem.run_pure]

theorem grown_rel {inj' : Inj} {old new zv : Array Value} {ol nl : List LV} {e : TypeId} {k : Nat} (h1 : VRels inj' ol old.toList) (h2 : VRels inj' nl new.toList) :
    ORel E inj' (.cells (ol ++ nl)) (some (.cells (old ++ new ++ Builtin.zeroCells zv k) e (0, 0))) (old ++ new ++ Builtin.zeroCells zv k).size := by
  have l1 := h1.length
  have l2 := h2.length
  simp only [Array.length_toList] at l1 l2
  refine ⟨_, e, (0, 0), rfl, rfl, by simp; omega, ?_, fun i _ => by simp⟩
  have : ((old ++ new ++ Builtin.zeroCells zv k).toList.take (ol ++ nl).length) = old.toList ++ new.toList := by
    simp only [Array.toList_append, List.length_append]
    rw [List.take_append_of_le_length (by simp; omega), List.take_of_length_le (by simp; omega)]
  rw [this]
  exact h1.append h2

theorem baseN_length {bm : Nat → Nat → Option LV} {r : Nat} : ∀ {n o : Nat} {cs : List LV}, baseN bm r o n = some cs → cs.length = n
  | 0, o, cs, h => by simp [baseN] at h; subst h; rfl
  | n + 1, o, cs, h => by
    simp only [baseN] at h
    split at h
    · split at h
      · rename_i xs hx; simp at h; subst h; simp [baseN_length hx]
      · cases h
    · cases h

theorem loadN_length {b : Blk} {o n : Nat} {cs : List LV} (h : loadN E st b o n = some cs) : cs.length = n := by
  cases b with
  | base r => exact baseN_length h
  | own L =>
    simp only [loadN] at h
    split at h
    · rcases takeN_eq h with ⟨_, h2, _⟩ | ⟨rfl, rfl⟩
      · exact h2
      · rfl
    · cases h

theorem appendL_sound (hE : E.Ok) (hm : Emb E B inj st w) {cover : Bool} {sType t' : TypeId} {s x v : LV} {sv xv : Value} {ts : Array TypeId} {ty : TypeId} (ht : ts[0]? = some sType) (ht' : ts[1]? = some t')
    (hu' : ∃ d, E.P.underlying t' = some d ∧ ((∃ e', d = .slice e') ∨ d = .string)) (hs : VRel inj s sv) (hx : VRel inj x xv)
    (h : appendL E lo cover st sType s x = some (v, st')) : AppOut E inj lo cover st w v st' (Builtin.append_ ts ty #[sv, xv]) := by
  unfold appendL at h
  split at h
  · rename_i e hu
    split at h
    · rename_i sz hsz
      obtain ⟨i, hi, hsize⟩ := hE.size _ _ hsz
      split at h
      · rename_i by_ hby
        obtain ⟨i', hi', hbytes⟩ := hE.bytes _ _ hby
        rw [hi] at hi'; simp at hi'; subst hi'
        split at h
        · rename_i n hn
          split at h
          · rename_i new hnew
            cases hc0 : (new.all LV.scalar && (Nat.beq new.length (n * sz) && (Nat.ble 1 sz && zeroOk E e sz))) with
            | false => rw [hc0] at h; simp at h
            | true =>
              rw [hc0] at h; simp only [cond_true] at h
              simp only [Bool.and_eq_true] at hc0
              obtain ⟨hscal, hnl, hsz1, hzok⟩ := hc0
              have hnl := Nat.eq_of_beq_eq_true hnl
              have hsz1 := Nat.le_of_ble_eq_true hsz1
              -- the zero
              have hzz : ∃ zv : Value, (∀ w' : World, (zeroValue e).run E.P w' = .ok zv w') ∧ zv.cells.size = sz := by
                unfold zeroOk at hzok
                split at hzok
                · rename_i z hz
                  obtain ⟨j, zv, hj, hzv, hl⟩ := hE.zero _ _ hz
                  have := (lift_rel (inj := inj) hl).cells.length
                  simp only [Array.length_toList] at this
                  exact ⟨zv, fun w' => r_zero hj hzv, by rw [this]; exact Nat.eq_of_beq_eq_true hzok⟩
                · cases hzok
              obtain ⟨zv, hzv, hzs⟩ := hzz
              obtain ⟨nw, hnw, hnr, hns⟩ := srcCells_sound hm hnew hn hx
              rw [← hsize] at hnw
              have hlen : ∀ w' : World, (Builtin.lenOf xv).run E.P w' = .ok n w' := fun w' => lenL_sound hn hx
              have hU := hE.und _ _ hu
              cases hn0 : Nat.beq n 0 with
              | true =>
                rw [hn0] at h; simp only [cond_true] at h
                have hn0 := Nat.eq_of_beq_eq_true hn0
                subst hn0
                unfold sameSl at h
                split at h
                · simp only [Option.some.injEq, Prod.mk.injEq] at h
                  obtain ⟨rfl, rfl⟩ := h
                  simp only [VRel] at hs; subst hs
                  exact .same rfl ⟨_, run_append_nil ht ht' hU hu' hi (hlen w) (hnw w rfl), by simp [VRel]⟩
                · rename_i b o sz' len cap ex
                  cases hs' : Nat.beq sz' sz with
                  | false => rw [hs'] at h; simp at h
                  | true =>
                    rw [hs'] at h; simp only [cond_true, Option.some.injEq, Prod.mk.injEq] at h
                    obtain ⟨rfl, rfl⟩ := h
                    have hs0 := hs
                    simp only [VRel] at hs
                    obtain ⟨r, o', c, rfl, hb, ho, hc, hex, hle, hcap⟩ := hs
                    have e0 : nw.toList = [] := List.eq_nil_of_length_eq_zero (by rw [Nat.zero_mul] at hnl; simp only [Array.length_toList]; omega)
                    exact .same rfl ⟨_, run_append_fits (w' := w) ht ht' hU hu' hi (hlen w) (hnw w rfl) (by omega) (by rw [e0]; simp [storeCells]), hs0⟩
                · cases h
              | false =>
              rw [hn0] at h; simp only [cond_false] at h
              have hn0 : n ≠ 0 := by intro e; subst e; simp at hn0
              have hnpos : 1 ≤ n * sz := Nat.mul_le_mul (Nat.one_le_iff_ne_zero.2 hn0) hsz1
              split at h
              · -- onto nil
                simp only [VRel] at hs; subst hs
                cases hr : roomFor n by_ with
                | false => rw [hr] at h; simp at h
                | true =>
                  rw [hr] at h; simp only [cond_true, newK_eq, Option.some.injEq, Prod.mk.injEq] at h
                  obtain ⟨rfl, rfl⟩ := h
                  obtain ⟨C, hC, hrun⟩ := run_append_grow (w := w) (ty := ty) (old := #[]) (base := none) (sLen := 0) (sCap := 0) ht ht' hU hu' hi (fun w' _ => hzv w') rfl (hlen w) (fun w' hw' => hnw w' hw')
                    (fun w' hw' => by simp [Builtin.firstCells]) (by omega) (by rw [hbytes]; simpa using hr)
                  refine .fresh ⟨_, _, (#[] ++ nw ++ Builtin.zeroCells zv.cells (C - (0 + n))).size, _, _, rfl, hrun, rfl, ⟨rfl, rfl, rfl⟩, fun inj' hx' hin => ⟨?_, ?_⟩⟩
                  · simp only [VRel]
                    refine ⟨_, 0, C, by simp, ⟨_, hin⟩, Or.inl rfl, by omega, by simp, Nat.le_refl _, fun L q hL hq => ?_⟩
                    cases hL; rw [hin] at hq; simp only [Option.some.injEq, Prod.mk.injEq] at hq
                    obtain ⟨_, rfl⟩ := hq
                    simp only [Array.size_append, zeroCells_size, hzs, hns, hnl]
                    have : (C - n) * sz + n * sz = C * sz := by rw [← Nat.add_mul]; congr 1; omega
                    simp only [Nat.zero_add, List.size_toArray, List.length_nil]; omega
                  · have := grown_rel (E := E) (inj' := inj') (e := e) (zv := zv.cells) (k := C - (0 + n)) (old := #[]) (ol := []) VRels.nil (hnr.mono hx')
                    simpa using this
              · -- onto a slice
                rename_i b o sz' len cap ex
                have hs0 := hs
                simp only [VRel] at hs
                obtain ⟨r, o', c, rfl, hb, ho, hc, hex, hle, hcap⟩ := hs
                cases hs' : Nat.beq sz' sz with
                | false => rw [hs'] at h; simp at h
                | true =>
                  rw [hs'] at h; simp only [cond_true] at h
                  have hs' := Nat.eq_of_beq_eq_true hs'
                  subst hs'
                  cases hexb : ex with
                  | true =>
                    subst hexb
                    have hcc : c = cap := hex rfl
                    subst hcc
                    simp only [cond_true] at h
                    cases hfit : Nat.ble (len + n) c with
                    | true =>
                      rw [hfit] at h; simp only [cond_true] at h
                      have hfit := Nat.le_of_ble_eq_true hfit
                      cases hcov : cover with
                      | true => rw [hcov] at h; simp at h
                      | false =>
                        rw [hcov] at h; simp only [cond_false] at h
                        split at h
                        · rename_i st2 hst
                          simp only [Option.some.injEq, Prod.mk.injEq] at h
                          obtain ⟨rfl, rfl⟩ := h
                          have ho : o' = o := by rcases ho with ho | ho <;> omega
                          subst ho
                          obtain ⟨L, q, old, ob, rob, w', h1, h2, h3, h4, h5, h6, h7, h8, h9, h10⟩ := storeN_sound (w := w) hm hb hnr hst
                          refine .store rfl L q old ob rob _ w' h1 h2 h3 h4 h5 h6 (run_append_fits ht ht' hU hu' hi (hlen w) (hnw w rfl) hfit (by rw [hsize]; exact h7)) h8 h9 h10 ?_
                          simp only [VRel]
                          exact ⟨r, o', c, rfl, hb, Or.inl rfl, Nat.le_refl _, fun _ => rfl, hfit, hcap⟩
                        · cases h
                    | false =>
                      rw [hfit] at h; simp only [cond_false] at h
                      have hfit : c < len + n := by
                        rcases Nat.lt_or_ge c (len + n) with h' | h'
                        · exact h'
                        · rw [Nat.ble_eq_true_of_le h'] at hfit; cases hfit
                      cases hr : roomFor (len + n) by_ with
                      | false => rw [hr] at h; simp at h
                      | true =>
                        rw [hr] at h; simp only [cond_true] at h
                        split at h
                        · rename_i oldc hold
                          rw [newK_eq] at h
                          simp only [Option.some.injEq, Prod.mk.injEq] at h
                          obtain ⟨rfl, rfl⟩ := h
                          have hol := loadN_length hold
                          obtain ⟨ow, how, hor, hos⟩ := srcCells_sound (n := len) (sz := sz') (x := .sl b o sz' len c true) (v := .slice (some ⟨r, o', none⟩) len c) hm
                            (by simp only [srcCells]; rw [show Nat.beq sz' sz' = true from Nat.beq_refl sz']; exact hold) rfl hs0
                          rw [← hsize] at how
                          obtain ⟨C, hC, hrun⟩ := run_append_grow (w := w) (ty := ty) ht ht' hU hu' hi (fun w' _ => hzv w') rfl (hlen w) (fun w' hw' => hnw w' hw')
                            (fun w' hw' => how w' hw') hfit (by rw [hbytes]; exact hr)
                          refine .fresh ⟨_, _, (ow ++ nw ++ Builtin.zeroCells zv.cells (C - (len + n))).size, _, _, rfl, hrun, rfl, ⟨rfl, rfl, rfl⟩, fun inj' hx' hin => ⟨?_, ?_⟩⟩
                          · simp only [VRel]
                            refine ⟨_, 0, C, rfl, ⟨_, hin⟩, Or.inl rfl, by omega, by simp, Nat.le_refl _, fun L q hL hq => ?_⟩
                            cases hL; rw [hin] at hq; simp only [Option.some.injEq, Prod.mk.injEq] at hq
                            obtain ⟨_, rfl⟩ := hq
                            simp only [Array.size_append, zeroCells_size, hzs, hns, hnl, hos, hol]
                            have e1 : (C - (len + n)) * sz' + (len + n) * sz' = C * sz' := by rw [← Nat.add_mul]; congr 1; omega
                            have e2 : (len + n) * sz' = len * sz' + n * sz' := Nat.add_mul _ _ _
                            omega
                          · exact grown_rel (hor.mono hx') (hnr.mono hx')
                        · cases h
                  | false =>
                    subst hexb
                    simp only [cond_false] at h
                    split at h
                    · rename_i L
                      obtain ⟨m, hq⟩ := hb
                      cases hc1 : (Nat.ble lo L && (Nat.beq o 0 && roomFor (len + n) by_)) with
                      | false => rw [hc1] at h; simp at h
                      | true =>
                        rw [hc1] at h; simp only [cond_true] at h
                        simp only [Bool.and_eq_true] at hc1
                        have hlo := Nat.le_of_ble_eq_true hc1.1
                        have ho0 := Nat.eq_of_beq_eq_true hc1.2.1
                        subst ho0
                        have hr := hc1.2.2
                        split at h
                        · rename_i cs hcs
                          cases hc2 : (Nat.ble (len * sz') cs.length && (!cover || Nat.beq (len * sz') cs.length)) with
                          | false => rw [hc2] at h; simp at h
                          | true =>
                            rw [hc2] at h; simp only [cond_true, Mem.setFK_eq, newK_eq, Option.some.injEq, Prod.mk.injEq] at h
                            obtain ⟨rfl, rfl⟩ := h
                            simp only [Bool.and_eq_true] at hc2
                            have hcl := Nat.le_of_ble_eq_true hc2.1
                            obtain ⟨c1, e1, f1, g1, g2, g3, g4, g5⟩ := hm.obj _ _ _ hq hcs
                            simp only at g1 g2
                            have hcapm := hcap L m rfl hq
                            rcases Nat.lt_or_ge c (len + n) with hfit | hfit
                            · -- it grows
                              obtain ⟨ow, how, hor, hos⟩ := srcCells_sound (n := len) (sz := sz') (new := cs.take (len * sz')) (x := .sl (.own L) 0 sz' len cap false) (v := .slice (some ⟨r, o', none⟩) len c) hm
                                (by
                                  simp only [srcCells]; rw [show Nat.beq sz' sz' = true from Nat.beq_refl sz']
                                  simp only [cond_true, loadN, hcs, takeN, List.drop_zero, List.length_take]
                                  rw [show min (len * sz') cs.length = len * sz' by omega, show Nat.beq (len * sz') (len * sz') = true from Nat.beq_refl _]; rfl) rfl hs0
                              rw [← hsize] at how
                              obtain ⟨C, hC, hrun⟩ := run_append_grow (w := w) (ty := ty) ht ht' hU hu' hi (fun w' _ => hzv w') rfl (hlen w) (fun w' hw' => hnw w' hw')
                                (fun w' hw' => how w' hw') hfit (by rw [hbytes]; exact hr)
                              refine .grow L (r, m) cs _ _ _ hlo hq hcs rfl hrun ⟨rfl, rfl, rfl⟩ (Or.inl ⟨_, (ow ++ nw ++ Builtin.zeroCells zv.cells (C - (len + n))).size, rfl, fun inj' hx' hin => ⟨?_, ?_⟩⟩)
                              · simp only [VRel]
                                refine ⟨_, 0, C, rfl, ⟨_, hin⟩, Or.inl rfl, by omega, by simp, Nat.le_refl _, fun L q hL hq => ?_⟩
                                cases hL; rw [hin] at hq; simp only [Option.some.injEq, Prod.mk.injEq] at hq
                                obtain ⟨_, rfl⟩ := hq
                                simp only [Array.size_append, zeroCells_size, hzs, hns, hnl, hos, List.length_take]
                                have e1 : (C - (len + n)) * sz' + (len + n) * sz' = C * sz' := by rw [← Nat.add_mul]; congr 1; omega
                                have e2 : (len + n) * sz' = len * sz' + n * sz' := Nat.add_mul _ _ _
                                omega
                              · exact grown_rel (hor.mono hx') (hnr.mono hx')
                            · -- it fits
                              have ho : o' = 0 := by rcases ho with ho | ho <;> omega
                              subst ho
                              have hmul : (len + n) * sz' ≤ c * sz' := Nat.mul_le_mul_right _ hfit
                              have hadd : (len + n) * sz' = len * sz' + n * sz' := Nat.add_mul _ _ _
                              have hnwl : nw.toList.length = n * sz' := by simp; omega
                              have hst := run_storeCells (P := E.P) (o := len * sz') nw.toList 0 c1 w g1 (by rw [g2]; exact g5) (by omega) (scal_one hnr hscal)
                              simp only [Nat.add_zero] at hst
                              refine .grow L (r, m) cs _ _ { w with heap := w.heap.setIfInBounds r (.cells (splA c1 (len * sz') nw.toList) e1 f1) } hlo hq hcs rfl (run_append_fits ht ht' hU hu' hi (hlen w) (hnw w rfl) hfit (by rw [hsize, Nat.zero_add]; exact hst)) ⟨rfl, rfl, rfl⟩
                                (Or.inr ⟨_, rfl, fun hcov => ?_, fun inj' hx' hin => ⟨?_, ?_⟩⟩)
                              · have hcl2 : len * sz' = cs.length := by
                                  have := hc2.2; rw [hcov] at this; simp at this; exact this
                                refine ⟨_, e1, f1, rfl, by rw [splA_size (by omega)]; exact g2, g3, ?_, g5⟩
                                have : (splA c1 (len * sz') nw.toList).toList.take cs.length = c1.toList.take cs.length := by
                                  simp only [splA, ← hcl2]
                                  rw [List.take_append_of_le_length (by simp; omega), List.take_take, Nat.min_self]
                                rw [this]; exact g4
                              · simp only [VRel]
                                refine ⟨r, 0, c, rfl, ⟨_, hin⟩, Or.inl rfl, hfit, by simp, Nat.le_refl _, fun L' q hL' hq' => ?_⟩
                                cases hL'; rw [hin] at hq'; simp only [Option.some.injEq, Prod.mk.injEq, true_and] at hq'
                                subst hq'; exact hcapm
                              · refine ⟨_, e1, f1, rfl, by rw [splA_size (by omega)]; exact g2, by simp; omega, ?_, g5⟩
                                have : (splA c1 (len * sz') nw.toList).toList.take (cs.take (len * sz') ++ new).length = (c1.toList.take cs.length).take (len * sz') ++ nw.toList := by
                                  simp only [splA, List.length_append, List.length_take]
                                  rw [show min (len * sz') cs.length = len * sz' by omega, hnl]
                                  rw [← List.append_assoc, List.take_append_of_le_length (by simp; omega), List.take_of_length_le (by simp; omega), List.take_take, show min (len * sz') cs.length = len * sz' by omega]
                                rw [this]
                                exact ((g4.take _).append hnr).mono hx'
                        · cases h
                    · cases h
              · cases h
          · cases h
        · cases h
      · cases h
    · cases h
  · cases h
end
end Go.Proofs.Ytpkeggejofeeeaa.Lvm
