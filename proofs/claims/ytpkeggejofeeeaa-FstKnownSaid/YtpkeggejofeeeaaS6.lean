/- Laws of the small machine and of how it stands to the model; a helper of the statements: no statement is proved here. -/
import Derived.Test.YtpkeggejofeeeaaS5
namespace Go.Proofs.Ytpkeggejofeeeaa.Lvm

structure Alike3 (w w' : World) : Prop where
  os : w'.os = w.os
  tape : w'.tape = w.tape
  output : w'.output = w.output

def FreshOut (E : Env) (inj : Inj) (st : LSt) (w : World) (v : LV) (st' : LSt) (s : Sem Value) : Prop :=
  ∃ o ob n u w', st' = newB st o ∧ s.run E.P w = .ok u w' ∧ w'.heap = w.heap.push ob ∧ Alike3 w w' ∧
    ∀ inj', Ext inj inj' → inj' st.nxt = some (w.heap.size, n) → VRel inj' v u ∧ ORel E inj' o (some ob) n

theorem cells_full {E : Env} {inj : Inj} {cs : List LV} {c : Array Value} {e : TypeId} (h : VRels inj cs c.toList) : ORel E inj (.cells cs) (some (.cells c e (0, 0))) c.size := by
  have hl := h.length
  simp only [Array.length_toList] at hl
  refine ⟨c, e, (0, 0), rfl, rfl, by omega, ?_, fun i _ => by simp⟩
  rw [← hl]
  have : c.toList.take c.size = c.toList := List.take_of_length_le (by simp)
  rw [this]; exact h

section
variable {E : Env} {inj : Inj} {st st' : LSt} {w : World} {fr : LFr} {a : Act}

theorem newVar_out {v z : LV} {u : Value} (hz : VRel inj z u) (t : TypeId) (h : newK (.ptr (.own st.nxt) 0) st (.cells z.cells) = some (v, st')) :
    FreshOut E inj st w v st' (do pure (.pointer (some (← newVar t u)))) := by
  rw [newK_eq] at h
  simp only [Option.some.injEq, Prod.mk.injEq] at h
  obtain ⟨rfl, rfl⟩ := h
  refine ⟨.cells z.cells, .cells u.cells t, u.cells.size, .pointer (some ⟨w.heap.size, 0, none⟩), { w with heap := w.heap.push (.cells u.cells t) }, rfl, ?_, rfl, ⟨rfl, rfl, rfl⟩, fun inj' hx hn => ⟨?_, cells_full (hz.cells.mono hx)⟩⟩
  · simp [newVar, newRow]
  · simp only [VRel]; exact ⟨_, ⟨_, hn⟩, rfl⟩

theorem opAlloc_sound (hE : E.Ok) {t : TypeId} {v : LV} (h : opAlloc E st t = some (v, st')) : FreshOut E inj st w v st' (Instr.alloc t true (.tuple #[])) := by
  unfold opAlloc at h
  split at h
  · rename_i z hz
    obtain ⟨u, hu, hr⟩ := zero_sound hE (inj := inj) (w := w) hz
    cases hb : z.cells.all LV.scalar with
    | false => rw [hb] at h; simp at h
    | true =>
      rw [hb] at h; simp only [cond_true] at h
      obtain ⟨o, ob, n, u', w', h1, h2, h3, h4, h5⟩ := newVar_out (E := E) (w := w) hr t h
      refine ⟨o, ob, n, u', w', h1, ?_, h3, h4, h5⟩
      simp only [Sem.run_bind] at h2
      simp only [Instr.alloc, Sem.run_bind, hu, Result.andThen_ok]
      exact h2
  · cases h

theorem opBox_sound {t : TypeId} {x : Operand} {v : LV} (hx : XRel inj fr a x) (h : opBox fr st x = some (v, st')) : FreshOut E inj st w v st' (Instr.box t (a.eval x)) := by
  unfold opBox at h
  split at h
  · rename_i z hz
    cases hb : z.cells.all LV.scalar with
    | false => rw [hb] at h; simp at h
    | true => rw [hb] at h; simp only [cond_true] at h; exact newVar_out (hx z hz) t h
  · cases h

theorem repL_length (z : List LV) : ∀ n, (repL z n).length = n * z.length
  | 0 => by simp [repL]
  | n + 1 => by simp [repL, repL_length z n, Nat.succ_mul]; omega

theorem repV {zv : Array Value} (h1 : 1 ≤ zv.size) {z : List LV} (hz : VRels inj z zv.toList) : ∀ n, VRels inj (repL z n) ((List.range (n * zv.size)).map (fun i => zv[i % zv.size]!))
  | 0 => by simp [repL, VRels.nil]
  | n + 1 => by
    rw [Nat.succ_mul, Nat.add_comm (n * zv.size) zv.size, List.range_add, List.map_append]
    refine VRels.append ?_ ?_
    · have : (List.range zv.size).map (fun i => zv[i % zv.size]!) = zv.toList := by
        apply List.ext_getElem
        · simp
        · intro i h2 h3
          simp at h2
          simp [Nat.mod_eq_of_lt h2, h2]
      rw [this]; exact hz
    · have : (List.map (fun x => zv.size + x) (List.range (n * zv.size))).map (fun i => zv[i % zv.size]!) = (List.range (n * zv.size)).map (fun i => zv[i % zv.size]!) := by
        rw [List.map_map]; apply List.map_congr_left; intro i _; simp
      rw [this]; exact repV h1 hz n

theorem zeroCells_sound (hE : E.Ok) {e : TypeId} {n : Nat} {cs : List LV} (h : zeroCellsL E e n = some cs) :
    ∃ i u, E.P.info? e = some i ∧ (zeroValue e).run E.P w = .ok u w ∧ 1 ≤ i.size ∧ u.cells.size = i.size ∧ E.size e = some i.size ∧ cs.length = n * i.size ∧ VRels inj cs ((Array.range (n * i.size)).map (fun j => u.cells[j % u.cells.size]!)).toList := by
  unfold zeroCellsL at h
  split at h
  · rename_i sz hsz
    obtain ⟨i, hi, hs⟩ := hE.size _ _ hsz
    split at h
    · rename_i z hz
      obtain ⟨u, hu, hr⟩ := zero_sound hE (inj := inj) (w := w) hz
      cases hb : (Nat.beq z.cells.length sz && (Nat.ble 1 sz && z.cells.all LV.scalar)) with
      | false => rw [hb] at h; simp at h
      | true =>
        rw [hb] at h; simp at h; subst h
        simp only [Bool.and_eq_true] at hb
        have b1 := Nat.eq_of_beq_eq_true hb.1
        have b2 := Nat.le_of_ble_eq_true hb.2.1
        have hl := hr.cells.length
        simp only [Array.length_toList] at hl
        refine ⟨i, u, hi, hu, by omega, by omega, by rw [hs]; exact hsz, by rw [repL_length]; rw [b1, hs], ?_⟩
        have := repV (inj := inj) (zv := u.cells) (by omega) hr.cells n
        rw [show u.cells.size = i.size by omega] at this
        rw [show u.cells.size = i.size by omega]
        simpa [Array.toList_range] using this
    · cases h
  · cases h

theorem opMakeSlice_sound (hE : E.Ok) {t : TypeId} {l c : Operand} {v : LV} (hl : XRel inj fr a l) (hc : XRel inj fr a c) (h : opMakeSlice E fr st t l c = some (v, st')) :
    FreshOut E inj st w v st' (Instr.makeSlice t (a.eval l) (a.eval c)) := by
  unfold opMakeSlice at h
  split at h
  · rename_i e hu
    split at h
    · rename_i lv hlv
      split at h
      · rename_i cv hcv
        split at h
        · rename_i n hn
          split at h
          · rename_i m hm
            split at h
            · rename_i by_ hby
              split at h
              · rename_i cs hcs
                split at h
                · rename_i sz hsz
                  cases hb : (Nat.ble n m && Nat.ble (m * by_ + m) 140737488355328) with
                  | false => rw [hb] at h; simp at h
                  | true =>
                    rw [hb] at h; simp only [cond_true, newK_eq, Option.some.injEq, Prod.mk.injEq] at h
                    obtain ⟨rfl, rfl⟩ := h
                    simp only [Bool.and_eq_true] at hb
                    have b1 := Nat.le_of_ble_eq_true hb.1
                    have b2 := Nat.le_of_ble_eq_true hb.2
                    obtain ⟨k, hk⟩ := natOf_eq hn (hl lv hlv)
                    obtain ⟨k', hk'⟩ := natOf_eq hm (hc cv hcv)
                    obtain ⟨i, u, hi, hz, h1, h2, h3, h4, h5⟩ := zeroCells_sound hE (inj := inj) (w := w) hcs
                    obtain ⟨i', hi', hb'⟩ := hE.bytes _ _ hby
                    rw [hi] at hi'; simp at hi'; subst hi'
                    rw [h3] at hsz; simp at hsz; subst hsz
                    have wn : IntKind.i64.wrap (n : Int) = n := by
                      have : (n : Int) ≤ 9223372036854775807 := by omega
                      simp [IntKind.wrap, IntKind.signed, IntKind.bits]; omega
                    have wm : IntKind.i64.wrap (m : Int) = m := by
                      have : (m : Int) ≤ 9223372036854775807 := by omega
                      simp [IntKind.wrap, IntKind.signed, IntKind.bits]; omega
                    have hbm : ((by_ : Int) * (m : Int)) ≤ 2 ^ 48 := by
                      have e1 : ((by_ : Int) * (m : Int)) = ((m * by_ : Nat) : Int) := by rw [Nat.mul_comm]; simp
                      rw [e1]; omega
                    refine ⟨.cells cs, .cells ((Array.range (m * i.size)).map (fun j => u.cells[j % u.cells.size]!)) e, m * i.size, .slice (some ⟨w.heap.size, 0, none⟩) n m, { w with heap := w.heap.push (.cells ((Array.range (m * i.size)).map (fun j => u.cells[j % u.cells.size]!)) e) }, rfl, ?_, rfl, ⟨rfl, rfl, rfl⟩, fun inj' hx hnx => ⟨?_, ?_⟩⟩
                    · rw [hk, hk']
                      simp only [Instr.makeSlice, Sem.run_bind, r_und (hE.und _ _ hu), Result.andThen_ok, asInt, asIntOf, Sem.run_pure, r_info hi, hb', wn, wm]
                      have c1 : ((decide ((m : Int) < 0) || decide ((by_ : Int) * (m : Int) > 2 ^ 48)) || decide ((n : Int) < 0) || decide ((n : Int) > (m : Int))) = false := by
                        simp only [Bool.or_eq_false_iff, decide_eq_false_iff_not]
                        refine ⟨⟨⟨by omega, by omega⟩, by omega⟩, by omega⟩
                      simp only [c1, Bool.false_eq_true, if_false, Int.toNat_natCast]
                      simp only [Sem.run_bind, run_askRoom, Result.andThen_ok, r_size hi]
                      by_cases hm0 : m * i.size = 0
                      · rw [if_pos hm0]; simp [newRow, hm0, show Array.range 0 = #[] from rfl]
                      · rw [if_neg hm0]; simp [newRow, hz]
                    · simp only [VRel]
                      exact ⟨_, 0, m, rfl, ⟨_, hnx⟩, Or.inl rfl, Nat.le_refl _, fun _ => rfl, b1, fun L q hL hq => by
                        cases hL; rw [hnx] at hq; simp at hq; omega⟩
                    · have := cells_full (E := E) (e := e) (h5.mono hx)
                      simpa using this
                · cases h
              · cases h
            · cases h
          · cases h
        · cases h
      · cases h
    · cases h
  · cases h

theorem opBuildSlice_sound (hE : E.Ok) {t : TypeId} {n : Nat} {ps : Array (Nat × Operand)} {v : LV} (hx : ∀ x ∈ ps.toList.map (·.2), XRel inj fr a x) (h : opBuildSlice E fr st t n ps = some (v, st')) :
    FreshOut E inj st w v st' (Instr.buildSlice t n (ps.map fun (i, x) => (i, a.eval x))) := by
  unfold opBuildSlice at h
  split at h
  · rename_i e hu
    split at h
    · rename_i zc hzc
      split at h
      · rename_i sz hsz
        split at h
        · rename_i l hl
          split at h
          · rename_i cs hcs
            cases hb : (cs.all LV.scalar && Nat.ble (n * sz) 16777216) with
            | false => rw [hb] at h; simp at h
            | true =>
              rw [hb] at h; simp only [cond_true, newK_eq, Option.some.injEq, Prod.mk.injEq] at h
              obtain ⟨rfl, rfl⟩ := h
              simp only [Bool.and_eq_true] at hb
              have b2 := Nat.le_of_ble_eq_true hb.2
              obtain ⟨i, u, hi, hz, h1, h2, h3, h4, h5⟩ := zeroCells_sound hE (inj := inj) (w := w) hzc
              rw [h3] at hsz; simp at hsz; subst hsz
              obtain ⟨hpi, hpv⟩ := evalParts_rel hx hl
              have hps : (ps.map fun (i, x) => (i, a.eval x)).toList = ps.toList.map fun p => (p.1, a.eval p.2) := by simp
              obtain ⟨rs, hr1, hr2⟩ := run_fill hcs h5 hpi hpv
              have hlen : rs.size = n * i.size := by
                have e1 := hr2.length
                have : ∀ {pl : Nat → Option (Nat × Nat)} {parts : List (Nat × LV)} {c r : List LV}, fillL pl c parts = some r → r.length = c.length := by
                  intro pl parts
                  induction parts with
                  | nil => intro c r h; simp [fillL] at h; subst h; rfl
                  | cons p parts ih =>
                    intro c r h
                    obtain ⟨j, x⟩ := p
                    simp only [fillL] at h
                    split at h
                    · rename_i off size hp
                      cases hb : (Nat.beq x.cells.length size && Nat.ble (off + x.cells.length) c.length) with
                      | false => rw [hb] at h; simp at h
                      | true =>
                        rw [hb] at h; simp only [cond_true] at h
                        simp only [Bool.and_eq_true] at hb
                        have b2 := Nat.le_of_ble_eq_true hb.2
                        rw [ih h]; simp [splice]; omega
                    · cases h
                have e2 := this hcs
                simp only [Array.length_toList] at e1
                omega
              refine ⟨.cells cs, .cells rs e, rs.size, .slice (some ⟨w.heap.size, 0, none⟩) n n, { w with heap := w.heap.push (.cells rs e) }, rfl, ?_, rfl, ⟨rfl, rfl, rfl⟩, fun inj' hx hnx => ⟨?_, cells_full (hr2.mono hx)⟩⟩
              · simp only [Instr.buildSlice, Sem.run_bind, r_und (hE.und _ _ hu), Result.andThen_ok, r_size hi]
                rw [if_neg (by omega)]
                have hz3 : ∀ (c : Array Value), n * i.size = 0 → Array.map (fun x => c[x % c.size]!) (Array.range (n * i.size)) = #[] := by intro c h0; rw [h0, show Array.range 0 = #[] from rfl]; simp
                by_cases hm0 : n * i.size = 0
                · rw [hz3 _ hm0] at hr1
                  rw [if_pos hm0]
                  simp only [Sem.run_bind, Sem.run_pure, Result.andThen_ok, hz3 _ hm0, hps, hr1]
                  simp [newRow]
                · rw [if_neg hm0]
                  simp only [Sem.run_bind, hz, Result.andThen_ok, Sem.run_pure, hps, hr1]
                  simp [newRow]
              · simp only [VRel]
                exact ⟨_, 0, n, rfl, ⟨_, hnx⟩, Or.inl rfl, Nat.le_refl _, fun _ => rfl, Nat.le_refl _, fun L q hL hq => by
                  cases hL; rw [hnx] at hq; simp at hq; omega⟩
          · cases h
        · cases h
      · cases h
    · cases h
  · cases h

theorem opMakeMap_sound {t : TypeId} {r : Option Operand} {v : LV} (h : opMakeMap E st t r = some (v, st')) :
    FreshOut E inj st w v st' (Instr.makeMap t (r.map a.eval)) := by
  unfold opMakeMap at h
  split at h
  · split at h
    · rename_i kt et hu
      rw [newK_eq] at h
      simp only [Option.some.injEq, Prod.mk.injEq] at h
      obtain ⟨rfl, rfl⟩ := h
      refine ⟨.map kt [], .map #[] 0, 0, .map (some w.heap.size), { w with heap := w.heap.push (.map #[] 0) }, rfl, ?_, rfl, ⟨rfl, rfl, rfl⟩, fun inj' hx hn => ⟨?_, ?_⟩⟩
      · simp [Instr.makeMap]
      · simp only [VRel]; exact ⟨_, _, hn, rfl⟩
      · exact ⟨#[], 0, rfl, by simp [ERels], by simp, rfl, by simp⟩
    · cases h
  · cases h
end
end Go.Proofs.Ytpkeggejofeeeaa.Lvm
