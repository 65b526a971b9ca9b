/- Laws of the small machine, of how it stands to the model, and of what functions come to on it; a helper of the statement: no statement is proved here. -/
import Derived.Test.YtpkeggejofeeeaaA
import Derived.Laws.BytesString
set_option linter.unusedVariables false
namespace Go.Proofs.Ytpkeggejofeeeaa.Lvm

/-! ### forcing changes nothing -/
section
variable {α : Type}
theorem frcNat_eq (n : Nat) (k : Nat → α) : frcNat n k = k n := by cases n <;> rfl
theorem frcInt_eq (n : Int) (k : Int → α) : frcInt n k = k n := by cases n <;> simp [frcInt, frcNat_eq]
theorem frcKind_eq (x : IntKind) (k : IntKind → α) : frcKind x k = k x := by cases x <;> rfl
theorem frcBool_eq (x : Bool) (k : Bool → α) : frcBool x k = k x := by cases x <;> rfl
theorem frcBlk_eq (x : Blk) (k : Blk → α) : frcBlk x k = k x := by cases x <;> simp [frcBlk, frcNat_eq]
theorem frcS_eq (x : LV) (k : LV → α) : frcS x k = k x := by
  cases x <;> simp [frcS, frcNat_eq, frcInt_eq, frcKind_eq, frcBool_eq, frcBlk_eq]
theorem frcL_cons (x : LV) (xs : List LV) (k : List LV → α) : frcL (x :: xs) k = frcS x fun x => frcL xs fun xs => k (x :: xs) := rfl
theorem frcL_eq : ∀ (l : List LV) (k : List LV → α), frcL l k = k l
  | [], _ => rfl
  | x :: xs, k => by rw [frcL_cons, frcS_eq, frcL_eq xs]
theorem frcV_eq (x : LV) (k : LV → α) : frcV x k = k x := by
  cases x <;> simp [frcV, frcL_eq, frcNat_eq, frcS_eq]
theorem frcObj_eq (o : LObj) (k : LObj → α) : frcObj o k = k o := by cases o <;> simp [frcObj, frcL_eq]
end

namespace Mem
variable {α β : Type}
theorem setFK_succ (x : α) (f : Nat) (m : Mem α) (n : Nat) (k : Mem α → β) : setFK x (f + 1) m n k =
    cond (Nat.beq n 0) (k (node m.left (some x) m.right))
      (cond (Nat.beq (n % 2) 1) (setFK x f m.left (n / 2) fun l => k (node l m.val m.right)) (setFK x f m.right (n / 2 - 1) fun r => k (node m.left m.val r))) := by
  cases m <;> rfl
theorem setFK_eq (x : α) : ∀ (f : Nat) (m : Mem α) (n : Nat) (k : Mem α → β), setFK x f m n k = k (setF x f m n)
  | 0, _, _, _ => rfl
  | f + 1, m, n, k => by
    rw [setFK_succ, setF]
    cases Nat.beq n 0 with
    | true => rfl
    | false =>
      simp only [cond_false]
      cases Nat.beq (n % 2) 1 with
      | true => simp only [cond_true]; rw [setFK_eq x f]
      | false => simp only [cond_false]; rw [setFK_eq x f]
end Mem

theorem newK_eq (v : LV) (st : LSt) (o : LObj) : newK v st o = some (v, newB st o) := by
  simp only [newK, frcObj_eq, Mem.setFK_eq, frcNat_eq, newB, Mem.set]
theorem setObjK_eq (st : LSt) (L : Nat) (o : LObj) : setObjK st L o = some { st with mem := st.mem.set L o } := by
  simp only [setObjK, frcObj_eq, Mem.setFK_eq, Mem.set]
def LFr.put (fr : LFr) (d : Nat) (v : LV) : LFr := { m := fr.m.set d v, n := fr.n }
theorem lputK_eq {α : Type} (fr : LFr) (o : Option Tmp) (v : LV) (k : LFr → Option α) : lputK fr o v k = match o with
  | none => k fr
  | some d => cond (Nat.blt d fr.n) (k (fr.put d v)) none := by
  cases o with
  | none => rfl
  | some d => simp only [lputK, frcV_eq, Mem.setFK_eq, LFr.put, Mem.set]

/-! ### filling -/
section
variable {inj : Inj}
theorem VRels.splice {cs us : List LV} {vs ws : List Value} (h : VRels inj cs vs) (h' : VRels inj us ws) (o : Nat) :
    VRels inj (splice cs o us) (vs.take o ++ (ws ++ vs.drop (o + ws.length))) := by
  rw [h'.length]
  exact (h.take o).append (h'.append (h.drop _))

theorem fold_set : ∀ (l : List Value) (j off : Nat) (cs : Array Value), off + j + l.length ≤ cs.size →
    ((l.zipIdx j).foldl (fun (cs : Array Value) (p : Value × Nat) => cs.setIfInBounds (off + p.2) p.1) cs).toList = cs.toList.take (off + j) ++ (l ++ cs.toList.drop (off + j + l.length))
  | [], j, off, cs, h => by simp
  | v :: l, j, off, cs, h => by
    simp only [List.zipIdx_cons, List.foldl_cons]
    rw [show (fun (cs : Array Value) (p : Value × Nat) => cs.setIfInBounds (off + p.2) p.1) = (fun (cs : Array Value) (p : Value × Nat) => cs.setIfInBounds (off + p.2) p.1) from rfl]
    rw [fold_set l (j + 1) off _ (by simp at h ⊢; omega)]
    simp only [Array.toList_setIfInBounds, List.length_cons] at h ⊢
    have hlt : off + j < cs.toList.length := by simp; omega
    rw [← Nat.add_assoc, List.take_succ_eq_append_getElem (by simpa using hlt), List.take_set_of_le (Nat.le_refl _), List.drop_set_of_lt (by omega)]
    simp only [List.getElem_set_self, List.append_assoc, List.cons_append, List.nil_append]
    rw [show off + j + (l.length + 1) = off + j + 1 + l.length by omega]

theorem run_fill {place : Nat → Option (Nat × Nat)} : ∀ {parts : List (Nat × LV)} {ps : List (Nat × Value)} {cs r : List LV} {vs : Array Value},
    fillL place cs parts = some r → VRels inj cs vs.toList → ps.map (·.1) = parts.map (·.1) → VRels inj (parts.map (·.2)) (ps.map (·.2)) →
    ∃ rs, Instr.fill place vs ps = some rs ∧ VRels inj r rs.toList
  | [], ps, cs, r, vs, h, hc, hi, _ => by
    have : ps = [] := by simpa using hi
    subst this
    simp [fillL] at h; subst h
    exact ⟨vs, rfl, hc⟩
  | (i, x) :: parts, ps, cs, r, vs, h, hc, hi, hv => by
    cases ps with
    | nil => simp at hi
    | cons p ps =>
      obtain ⟨j, v⟩ := p
      simp only [List.map_cons, List.cons.injEq] at hi
      obtain ⟨rfl, hi⟩ := hi
      simp only [List.map_cons, VRels, List.cons.injEq] at hv
      obtain ⟨_, _, ⟨rfl, rfl⟩, h1, h2⟩ := hv
      simp only [fillL] at h
      split at h
      · rename_i off size hp
        have hl := h1.cells.length
        cases hb : (Nat.beq x.cells.length size && Nat.ble (off + x.cells.length) cs.length) with
        | false => rw [hb] at h; simp at h
        | true =>
          rw [hb] at h; simp only [cond_true] at h
          simp only [Bool.and_eq_true] at hb
          have b1 := Nat.eq_of_beq_eq_true hb.1
          have b2 := Nat.le_of_ble_eq_true hb.2
          have hlen := hc.length
          simp only [Array.length_toList] at hl hlen
          have hspl : ((v.cells.zipIdx.foldl (fun (cs : Array Value) (p : Value × Nat) => cs.setIfInBounds (off + p.2) p.1) vs)).toList = vs.toList.take off ++ (v.cells.toList ++ vs.toList.drop (off + v.cells.toList.length)) := by
            rw [← Array.foldl_toList, Array.toList_zipIdx]
            have := fold_set v.cells.toList 0 off vs (by simp; omega)
            simpa using this
          have hc' := hc.splice h1.cells off
          rw [← hspl] at hc'
          obtain ⟨rs, hrs, hr⟩ := run_fill h hc' hi h2
          refine ⟨rs, ?_, hr⟩
          simp only [Instr.fill, hp]
          rw [if_neg (by simp; omega)]
          exact hrs
      · cases h
end

section
variable {E : Env} {inj : Inj} {w : World} {fr : LFr} {a : Act}

theorem evalParts_rel : ∀ {ps : List (Nat × Operand)} {l : List (Nat × LV)}, (∀ x ∈ ps.map (·.2), XRel inj fr a x) → evalParts fr ps = some l →
    (ps.map fun p => (p.1, a.eval p.2)).map (·.1) = l.map (·.1) ∧ VRels inj (l.map (·.2)) ((ps.map fun p => (p.1, a.eval p.2)).map (·.2))
  | [], l, _, h => by simp [evalParts] at h; subst h; simp [VRels.nil]
  | (i, x) :: ps, l, hx, h => by
    simp only [evalParts] at h
    split at h
    · rename_i v hv
      split at h
      · rename_i us hus
        simp at h; subst h
        obtain ⟨h1, h2⟩ := evalParts_rel (fun y hy => hx y (by simp at hy ⊢; exact Or.inr hy)) hus
        refine ⟨by simpa using h1, ?_⟩
        simp only [List.map_cons]
        exact VRels.cons (hx x (by simp) v hv) h2
      · cases h
    · cases h

theorem run_places (hE : E.Ok) : ∀ {fs : List Field} {pl : List (Nat × Nat)}, placesL E fs = some pl →
    (fs.mapM (fun f => (do pure (f.offset, ← sizeOf f.type) : Sem (Nat × Nat)))).run E.P w = .ok pl w
  | [], pl, h => by simp [placesL] at h; subst h; simp
  | f :: fs, pl, h => by
    simp only [placesL] at h
    split at h
    · rename_i n hn
      obtain ⟨i, hi, hs⟩ := hE.size _ _ hn
      split at h
      · rename_i r hr
        simp at h; subst h
        have := run_places hE hr
        simp only [List.mapM_cons, Sem.run_bind, r_size hi, Result.andThen_ok, Sem.run_pure, this, hs]
      · cases h
    · cases h

theorem zero_sound (hE : E.Ok) {t : TypeId} {z : LV} (h : E.zero t = some z) : ∃ u, (zeroValue t).run E.P w = .ok u w ∧ VRel inj z u := by
  obtain ⟨i, v, hi, hz, hl⟩ := hE.zero _ _ h
  exact ⟨v, r_zero hi hz, lift_rel hl⟩

theorem buildL_sound (hE : E.Ok) {t : TypeId} {z : LV} {ps : Array (Nat × Operand)} {l : List (Nat × LV)} (hx : ∀ x ∈ ps.toList.map (·.2), XRel inj fr a x) (hl : evalParts fr ps.toList = some l)
    (h : buildL E t l = some z) : ValOut E inj z w (Instr.build t (ps.map fun (i, x) => (i, a.eval x))) := by
  obtain ⟨hi, hv⟩ := evalParts_rel hx hl
  have hps : (ps.map fun (i, x) => (i, a.eval x)).toList = ps.toList.map fun p => (p.1, a.eval p.2) := by simp
  unfold buildL at h
  split at h
  · rename_i zz hz
    obtain ⟨u, hu, hr⟩ := zero_sound hE (inj := inj) (w := w) hz
    split at h
    · rename_i fields hun
      split at h
      · rename_i pl hpl
        cases hf : fillL (pl[·]?) zz.cells l with
        | none => simp [hf] at h
        | some cs =>
          simp [hf] at h; subst h
          obtain ⟨rs, h1, h2⟩ := run_fill hf hr.cells hi hv
          refine ⟨.agg rs, ?_, by simp only [VRel]; exact ⟨_, rfl, h2⟩⟩
          have hp := run_places hE (w := w) hpl
          simp only [Instr.build, Sem.run_bind, hu, Result.andThen_ok, r_und (hE.und _ _ hun), Array.mapM_eq_mapM_toList, Sem.run_map]
          rw [hp]
          simp only [Result.andThen_ok, hps]
          have : (fun (x : Nat) => (pl.toArray)[x]?) = (fun (x : Nat) => pl[x]?) := by funext x; simp
          rw [this, h1]
          simp
      · cases h
    · rename_i n e hun
      split at h
      · rename_i sz hsz
        obtain ⟨i, hi', hs⟩ := hE.size _ _ hsz
        cases hf : fillL (fun i => some (i * sz, sz)) zz.cells l with
        | none => simp [hf] at h
        | some cs =>
          simp [hf] at h; subst h
          obtain ⟨rs, h1, h2⟩ := run_fill hf hr.cells hi hv
          refine ⟨.agg rs, ?_, by simp only [VRel]; exact ⟨_, rfl, h2⟩⟩
          simp only [Instr.build, Sem.run_bind, hu, Result.andThen_ok, r_und (hE.und _ _ hun), r_size hi', hs, hps, h1]
          simp
      · cases h
    · cases h
  · cases h
end
end Go.Proofs.Ytpkeggejofeeeaa.Lvm

namespace Go.Proofs.Ytpkeggejofeeeaa.Lvm

structure Alike3 (w w' : World) : Prop where
  os : w'.os = w.os
  tape : w'.tape = w.tape
  output : w'.output = w.output

def FreshOut (E : Env) (inj : Inj) (st : LSt) (w : World) (v : LV) (st' : LSt) (s : Sem Value) : Prop :=
  ∃ o ob n u w', st' = newB st o ∧ s.run E.P w = .ok u w' ∧ w'.heap = w.heap.push ob ∧ Alike3 w w' ∧
    ∀ inj', Ext inj inj' → inj' st.nxt = some (w.heap.size, n) → VRel inj' v u ∧ ORel E inj' o (some ob) n

theorem cells_full {E : Env} {inj : Inj} {cs : List LV} {c : Array Value} {e : TypeId} (h : VRels inj cs c.toList) : ORel E inj (.cells cs) (some (.cells c e (0, 0))) c.size := by
  have hl := h.length
  simp only [Array.length_toList] at hl
  refine ⟨c, e, (0, 0), rfl, rfl, by omega, ?_, fun i _ => by simp⟩
  rw [← hl]
  have : c.toList.take c.size = c.toList := List.take_of_length_le (by simp)
  rw [this]; exact h

section
variable {E : Env} {inj : Inj} {st st' : LSt} {w : World} {fr : LFr} {a : Act}

theorem newVar_out {v z : LV} {u : Value} (hz : VRel inj z u) (t : TypeId) (h : newK (.ptr (.own st.nxt) 0) st (.cells z.cells) = some (v, st')) :
    FreshOut E inj st w v st' (do pure (.pointer (some (← newVar t u)))) := by
  rw [newK_eq] at h
  simp only [Option.some.injEq, Prod.mk.injEq] at h
  obtain ⟨rfl, rfl⟩ := h
  refine ⟨.cells z.cells, .cells u.cells t, u.cells.size, .pointer (some ⟨w.heap.size, 0, none⟩), { w with heap := w.heap.push (.cells u.cells t) }, rfl, ?_, rfl, ⟨rfl, rfl, rfl⟩, fun inj' hx hn => ⟨?_, cells_full (hz.cells.mono hx)⟩⟩
  · simp [newVar, newRow]
  · simp only [VRel]; exact ⟨_, ⟨_, hn⟩, rfl⟩

theorem opAlloc_sound (hE : E.Ok) {t : TypeId} {v : LV} (h : opAlloc E st t = some (v, st')) : FreshOut E inj st w v st' (Instr.alloc t true (.tuple #[])) := by
  unfold opAlloc at h
  split at h
  · rename_i z hz
    obtain ⟨u, hu, hr⟩ := zero_sound hE (inj := inj) (w := w) hz
    cases hb : z.cells.all LV.scalar with
    | false => rw [hb] at h; simp at h
    | true =>
      rw [hb] at h; simp only [cond_true] at h
      obtain ⟨o, ob, n, u', w', h1, h2, h3, h4, h5⟩ := newVar_out (E := E) (w := w) hr t h
      refine ⟨o, ob, n, u', w', h1, ?_, h3, h4, h5⟩
      simp only [Sem.run_bind] at h2
      simp only [Instr.alloc, Sem.run_bind, hu, Result.andThen_ok]
      exact h2
  · cases h

theorem opBox_sound {t : TypeId} {x : Operand} {v : LV} (hx : XRel inj fr a x) (h : opBox fr st x = some (v, st')) : FreshOut E inj st w v st' (Instr.box t (a.eval x)) := by
  unfold opBox at h
  split at h
  · rename_i z hz
    cases hb : z.cells.all LV.scalar with
    | false => rw [hb] at h; simp at h
    | true => rw [hb] at h; simp only [cond_true] at h; exact newVar_out (hx z hz) t h
  · cases h

theorem repL_length (z : List LV) : ∀ n, (repL z n).length = n * z.length
  | 0 => by simp [repL]
  | n + 1 => by simp [repL, repL_length z n, Nat.succ_mul]; omega

theorem repV {zv : Array Value} (h1 : 1 ≤ zv.size) {z : List LV} (hz : VRels inj z zv.toList) : ∀ n, VRels inj (repL z n) ((List.range (n * zv.size)).map (fun i => zv[i % zv.size]!))
  | 0 => by simp [repL, VRels.nil]
  | n + 1 => by
    rw [Nat.succ_mul, Nat.add_comm (n * zv.size) zv.size, List.range_add, List.map_append]
    refine VRels.append ?_ ?_
    · have : (List.range zv.size).map (fun i => zv[i % zv.size]!) = zv.toList := by
        apply List.ext_getElem
        · simp
        · intro i h2 h3
          simp at h2
          simp [Nat.mod_eq_of_lt h2, h2]
      rw [this]; exact hz
    · have : (List.map (fun x => zv.size + x) (List.range (n * zv.size))).map (fun i => zv[i % zv.size]!) = (List.range (n * zv.size)).map (fun i => zv[i % zv.size]!) := by
        rw [List.map_map]; apply List.map_congr_left; intro i _; simp
      rw [this]; exact repV h1 hz n

theorem zeroCells_sound (hE : E.Ok) {e : TypeId} {n : Nat} {cs : List LV} (h : zeroCellsL E e n = some cs) :
    ∃ i u, E.P.info? e = some i ∧ (zeroValue e).run E.P w = .ok u w ∧ 1 ≤ i.size ∧ u.cells.size = i.size ∧ E.size e = some i.size ∧ cs.length = n * i.size ∧ VRels inj cs ((Array.range (n * i.size)).map (fun j => u.cells[j % u.cells.size]!)).toList := by
  unfold zeroCellsL at h
  split at h
  · rename_i sz hsz
    obtain ⟨i, hi, hs⟩ := hE.size _ _ hsz
    split at h
    · rename_i z hz
      obtain ⟨u, hu, hr⟩ := zero_sound hE (inj := inj) (w := w) hz
      cases hb : (Nat.beq z.cells.length sz && (Nat.ble 1 sz && z.cells.all LV.scalar)) with
      | false => rw [hb] at h; simp at h
      | true =>
        rw [hb] at h; simp at h; subst h
        simp only [Bool.and_eq_true] at hb
        have b1 := Nat.eq_of_beq_eq_true hb.1
        have b2 := Nat.le_of_ble_eq_true hb.2.1
        have hl := hr.cells.length
        simp only [Array.length_toList] at hl
        refine ⟨i, u, hi, hu, by omega, by omega, by rw [hs]; exact hsz, by rw [repL_length]; rw [b1, hs], ?_⟩
        have := repV (inj := inj) (zv := u.cells) (by omega) hr.cells n
        rw [show u.cells.size = i.size by omega] at this
        rw [show u.cells.size = i.size by omega]
        simpa [Array.toList_range] using this
    · cases h
  · cases h

theorem opMakeSlice_sound (hE : E.Ok) {t : TypeId} {l c : Operand} {v : LV} (hl : XRel inj fr a l) (hc : XRel inj fr a c) (h : opMakeSlice E fr st t l c = some (v, st')) :
    FreshOut E inj st w v st' (Instr.makeSlice t (a.eval l) (a.eval c)) := by
  unfold opMakeSlice at h
  split at h
  · rename_i e hu
    split at h
    · rename_i lv hlv
      split at h
      · rename_i cv hcv
        split at h
        · rename_i n hn
          split at h
          · rename_i m hm
            split at h
            · rename_i by_ hby
              split at h
              · rename_i cs hcs
                split at h
                · rename_i sz hsz
                  cases hb : (Nat.ble n m && Nat.ble (m * by_ + m) 140737488355328) with
                  | false => rw [hb] at h; simp at h
                  | true =>
                    rw [hb] at h; simp only [cond_true, newK_eq, Option.some.injEq, Prod.mk.injEq] at h
                    obtain ⟨rfl, rfl⟩ := h
                    simp only [Bool.and_eq_true] at hb
                    have b1 := Nat.le_of_ble_eq_true hb.1
                    have b2 := Nat.le_of_ble_eq_true hb.2
                    obtain ⟨k, hk⟩ := natOf_eq hn (hl lv hlv)
                    obtain ⟨k', hk'⟩ := natOf_eq hm (hc cv hcv)
                    obtain ⟨i, u, hi, hz, h1, h2, h3, h4, h5⟩ := zeroCells_sound hE (inj := inj) (w := w) hcs
                    obtain ⟨i', hi', hb'⟩ := hE.bytes _ _ hby
                    rw [hi] at hi'; simp at hi'; subst hi'
                    rw [h3] at hsz; simp at hsz; subst hsz
                    have wn : IntKind.i64.wrap (n : Int) = n := by
                      have : (n : Int) ≤ 9223372036854775807 := by omega
                      simp [IntKind.wrap, IntKind.signed, IntKind.bits]; omega
                    have wm : IntKind.i64.wrap (m : Int) = m := by
                      have : (m : Int) ≤ 9223372036854775807 := by omega
                      simp [IntKind.wrap, IntKind.signed, IntKind.bits]; omega
                    have hbm : ((by_ : Int) * (m : Int)) ≤ 2 ^ 48 := by
                      have e1 : ((by_ : Int) * (m : Int)) = ((m * by_ : Nat) : Int) := by rw [Nat.mul_comm]; simp
                      rw [e1]; omega
                    refine ⟨.cells cs, .cells ((Array.range (m * i.size)).map (fun j => u.cells[j % u.cells.size]!)) e, m * i.size, .slice (some ⟨w.heap.size, 0, none⟩) n m, { w with heap := w.heap.push (.cells ((Array.range (m * i.size)).map (fun j => u.cells[j % u.cells.size]!)) e) }, rfl, ?_, rfl, ⟨rfl, rfl, rfl⟩, fun inj' hx hnx => ⟨?_, ?_⟩⟩
                    · rw [hk, hk']
                      simp only [Instr.makeSlice, Sem.run_bind, r_und (hE.und _ _ hu), Result.andThen_ok, asInt, asIntOf, Sem.run_pure, r_info hi, hb', wn, wm]
                      have c1 : ((decide ((m : Int) < 0) || decide ((by_ : Int) * (m : Int) > 2 ^ 48)) || decide ((n : Int) < 0) || decide ((n : Int) > (m : Int))) = false := by
                        simp only [Bool.or_eq_false_iff, decide_eq_false_iff_not]
                        refine ⟨⟨⟨by omega, by omega⟩, by omega⟩, by omega⟩
                      simp only [c1, Bool.false_eq_true, if_false, Int.toNat_natCast]
                      simp only [Sem.run_bind, run_askRoom, Result.andThen_ok, r_size hi]
                      by_cases hm0 : m * i.size = 0
                      · rw [if_pos hm0]; simp [newRow, hm0, show Array.range 0 = #[] from rfl]
                      · rw [if_neg hm0]; simp [newRow, hz]
                    · simp only [VRel]
                      exact ⟨_, 0, m, none, rfl, ⟨_, hnx⟩, Or.inl ⟨rfl, rfl⟩, Nat.le_refl _, fun _ => rfl, b1, fun L q hL hq => by
                        cases hL; rw [hnx] at hq; simp at hq; omega⟩
                    · have := cells_full (E := E) (e := e) (h5.mono hx)
                      simpa using this
                · cases h
              · cases h
            · cases h
          · cases h
        · cases h
      · cases h
    · cases h
  · cases h

theorem opBuildSlice_sound (hE : E.Ok) {t : TypeId} {n : Nat} {ps : Array (Nat × Operand)} {v : LV} (hx : ∀ x ∈ ps.toList.map (·.2), XRel inj fr a x) (h : opBuildSlice E fr st t n ps = some (v, st')) :
    FreshOut E inj st w v st' (Instr.buildSlice t n (ps.map fun (i, x) => (i, a.eval x))) := by
  unfold opBuildSlice at h
  split at h
  · rename_i e hu
    split at h
    · rename_i zc hzc
      split at h
      · rename_i sz hsz
        split at h
        · rename_i l hl
          split at h
          · rename_i cs hcs
            cases hb : (cs.all LV.scalar && Nat.ble (n * sz) 16777216) with
            | false => rw [hb] at h; simp at h
            | true =>
              rw [hb] at h; simp only [cond_true, newK_eq, Option.some.injEq, Prod.mk.injEq] at h
              obtain ⟨rfl, rfl⟩ := h
              simp only [Bool.and_eq_true] at hb
              have b2 := Nat.le_of_ble_eq_true hb.2
              obtain ⟨i, u, hi, hz, h1, h2, h3, h4, h5⟩ := zeroCells_sound hE (inj := inj) (w := w) hzc
              rw [h3] at hsz; simp at hsz; subst hsz
              obtain ⟨hpi, hpv⟩ := evalParts_rel hx hl
              have hps : (ps.map fun (i, x) => (i, a.eval x)).toList = ps.toList.map fun p => (p.1, a.eval p.2) := by simp
              obtain ⟨rs, hr1, hr2⟩ := run_fill hcs h5 hpi hpv
              have hlen : rs.size = n * i.size := by
                have e1 := hr2.length
                have : ∀ {pl : Nat → Option (Nat × Nat)} {parts : List (Nat × LV)} {c r : List LV}, fillL pl c parts = some r → r.length = c.length := by
                  intro pl parts
                  induction parts with
                  | nil => intro c r h; simp [fillL] at h; subst h; rfl
                  | cons p parts ih =>
                    intro c r h
                    obtain ⟨j, x⟩ := p
                    simp only [fillL] at h
                    split at h
                    · rename_i off size hp
                      cases hb : (Nat.beq x.cells.length size && Nat.ble (off + x.cells.length) c.length) with
                      | false => rw [hb] at h; simp at h
                      | true =>
                        rw [hb] at h; simp only [cond_true] at h
                        simp only [Bool.and_eq_true] at hb
                        have b2 := Nat.le_of_ble_eq_true hb.2
                        rw [ih h]; simp [splice]; omega
                    · cases h
                have e2 := this hcs
                simp only [Array.length_toList] at e1
                omega
              refine ⟨.cells cs, .cells rs e, rs.size, .slice (some ⟨w.heap.size, 0, none⟩) n n, { w with heap := w.heap.push (.cells rs e) }, rfl, ?_, rfl, ⟨rfl, rfl, rfl⟩, fun inj' hx hnx => ⟨?_, cells_full (hr2.mono hx)⟩⟩
              · simp only [Instr.buildSlice, Sem.run_bind, r_und (hE.und _ _ hu), Result.andThen_ok, r_size hi]
                rw [if_neg (by omega)]
                have hz3 : ∀ (c : Array Value), n * i.size = 0 → Array.map (fun x => c[x % c.size]!) (Array.range (n * i.size)) = #[] := by intro c h0; rw [h0, show Array.range 0 = #[] from rfl]; simp
                by_cases hm0 : n * i.size = 0
                · rw [hz3 _ hm0] at hr1
                  rw [if_pos hm0]
                  simp only [Sem.run_bind, Sem.run_pure, Result.andThen_ok, hz3 _ hm0, hps, hr1]
                  simp [newRow]
                · rw [if_neg hm0]
                  simp only [Sem.run_bind, hz, Result.andThen_ok, Sem.run_pure, hps, hr1]
                  simp [newRow]
              · simp only [VRel]
                exact ⟨_, 0, n, none, rfl, ⟨_, hnx⟩, Or.inl ⟨rfl, rfl⟩, Nat.le_refl _, fun _ => rfl, Nat.le_refl _, fun L q hL hq => by
                  cases hL; rw [hnx] at hq; simp at hq; omega⟩
          · cases h
        · cases h
      · cases h
    · cases h
  · cases h

theorem opMakeMap_sound {t : TypeId} {r : Option Operand} {v : LV} (h : opMakeMap E st t r = some (v, st')) :
    FreshOut E inj st w v st' (Instr.makeMap t (r.map a.eval)) := by
  unfold opMakeMap at h
  split at h
  · split at h
    · rename_i kt et hu
      rw [newK_eq] at h
      simp only [Option.some.injEq, Prod.mk.injEq] at h
      obtain ⟨rfl, rfl⟩ := h
      refine ⟨.map kt [], .map #[] 0, 0, .map (some w.heap.size), { w with heap := w.heap.push (.map #[] 0) }, rfl, ?_, rfl, ⟨rfl, rfl, rfl⟩, fun inj' hx hn => ⟨?_, ?_⟩⟩
      · simp [Instr.makeMap]
      · simp only [VRel]; exact ⟨_, _, hn, rfl⟩
      · exact ⟨#[], 0, rfl, by simp [ERels], by simp, rfl, by simp⟩
    · cases h
  · cases h
end
end Go.Proofs.Ytpkeggejofeeeaa.Lvm

namespace Go.Proofs.Ytpkeggejofeeeaa.Lvm

section
variable {E : Env} {B : Nat} {inj : Inj} {st st' : LSt} {w : World} {fr : LFr} {a : Act}

theorem push_modify {α : Type} (xs : Array α) (x : α) (f : α → α) : (xs.push x).modify xs.size f = xs.push (f x) := by
  apply Array.ext_getElem?
  intro i
  rw [Array.getElem?_modify, Array.getElem?_push, Array.getElem?_push]
  by_cases h : xs.size = i
  · subst h; simp
  · rw [if_neg h]; rw [if_neg (Ne.symm h), if_neg (Ne.symm h)]

theorem bytesOf_rel : ∀ {cs : List LV} {l : List UInt8} {vs : List Value}, bytesOf cs = some l → VRels inj cs vs → ∃ ns : List Int, vs = ns.map (Value.int .u8) ∧ l = ns.map (fun n => UInt8.ofNat n.toNat)
  | [], l, vs, h, hc => by simp [bytesOf] at h; subst h; simp only [VRels] at hc; subst hc; exact ⟨[], rfl, rfl⟩
  | c :: cs, l, vs, h, hc => by
    unfold bytesOf at h
    split at h
    · rename_i h0; cases h0
    · rename_i n r h0
      simp only [List.cons.injEq] at h0
      obtain ⟨rfl, rfl⟩ := h0
      split at h
      · rename_i l' hl
        simp at h; subst h
        simp only [VRels, VRel] at hc
        obtain ⟨_, vs, rfl, rfl, h2⟩ := hc
        obtain ⟨ns, rfl, rfl⟩ := bytesOf_rel hl h2
        exact ⟨n :: ns, rfl, rfl⟩
      · cases h
    · cases h

theorem fold_push : ∀ (ns : List Int) (s : ByteArray), ns.foldl (fun r n => r.push (UInt8.ofNat n.toNat)) s = ⟨s.data ++ (ns.map (fun n => UInt8.ofNat n.toNat)).toArray⟩
  | [], s => by simp
  | n :: ns, s => by
    simp only [List.foldl_cons]
    rw [fold_push ns]
    simp [ByteArray.push]

def ConvOut (E : Env) (inj : Inj) (st : LSt) (w : World) (v : LV) (st' : LSt) (s : Sem Value) : Prop :=
  (st' = st ∧ ValOut E inj v w s) ∨ FreshOut E inj st w v st' s

theorem convL_sound (hE : E.Ok) (hm : Emb E B inj st w) {src dst : TypeId} {x v : LV} {u : Value} (hx : VRel inj x u) (h : convL E st src dst x = some (v, st')) :
    ConvOut E inj st w v st' (convert src dst u) := by
  unfold convL at h
  split at h
  · rename_i k k' n hs hd
    simp only [Option.some.injEq, Prod.mk.injEq] at h
    obtain ⟨rfl, rfl⟩ := h
    simp only [VRel] at hx; subst hx
    exact Or.inl ⟨rfl, _, by simp [convert, r_und (hE.und _ _ hs), r_und (hE.und _ _ hd), Conv.intToInt]; rfl, by simp [VRel]⟩
  · rename_i s hs hd
    simp only [Option.some.injEq, Prod.mk.injEq] at h
    obtain ⟨rfl, rfl⟩ := h
    simp only [VRel] at hx; subst hx
    exact Or.inl ⟨rfl, _, by simp [convert, r_und (hE.und _ _ hs), r_und (hE.und _ _ hd)]; rfl, by simp [VRel]⟩
  · rename_i e s hs hd
    split at h
    · rename_i he
      rw [newK_eq] at h
      simp only [Option.some.injEq, Prod.mk.injEq] at h
      obtain ⟨rfl, rfl⟩ := h
      simp only [VRel] at hx; subst hx
      right
      let C := Question.cut (.appendCap s.size 0 e) (w.tape w.drawn (.appendCap s.size 0 e))
      have hC : s.size ≤ C := by simp only [C, Question.cut]; omega
      let row : Array Value := (s.data.map fun b => Value.int .u8 b.toNat) ++ Array.replicate (C - s.size) (.int .u8 0)
      have hrow : row.size = C := by simp [row]; omega
      refine ⟨.cells (s.data.toList.map fun b => .int .u8 b.toNat), .cells row e (C, C + 1), C, .slice (some ⟨w.heap.size, 0, none⟩) s.size C,
        { w with drawn := w.drawn + 1, heap := w.heap.push (.cells row e (C, C + 1)) }, rfl, ?_, rfl, ⟨rfl, rfl, rfl⟩, fun inj' hx hn => ⟨?_, ?_⟩⟩
      · have hf : Question.forced (.appendCap s.size 0 e) = false := rfl
        simp only [convert, Sem.run_bind, r_und (hE.und _ _ hs), r_und (hE.und _ _ hd), Result.andThen_ok, r_und (hE.und _ _ he), Conv.stringToBytes, run_choose, hf, Bool.false_eq_true, if_false, newRow, run_newObj, Sem.run_pure]
        simp only [markStringish, Sem.run_bind, run_shape, Result.andThen_ok, World.shape?, Array.getElem?_push_size, freeze, Sem.run, World.freeze, push_modify]
        simp only [Nat.one_ne_zero, if_false, BEq.rfl, if_true]
        show Result.ok (Value.slice (some ⟨w.heap.size, 0, none⟩) s.size C) { w with drawn := w.drawn + 1, heap := w.heap.push (.cells row e (row.size, row.size + 1)) } = _
        rw [hrow]
      · simp only [VRel]
        exact ⟨_, 0, C, none, rfl, ⟨_, hn⟩, Or.inl ⟨rfl, rfl⟩, hC, by simp, Nat.le_refl _, fun L q hL hq => by cases hL; rw [hn] at hq; simp at hq; omega⟩
      · refine ⟨row, e, (C, C + 1), rfl, hrow, by simp; exact hC, ?_, fun i hi => by simp; omega⟩
        have e1 : row.toList.take ((s.data.toList.map fun b => LV.int .u8 b.toNat).length) = s.data.toList.map fun b => Value.int .u8 b.toNat := by
          simp only [row, Array.toList_append, List.length_map, Array.toList_map]
          rw [List.take_append_of_le_length (by simp)]
          rw [List.take_of_length_le (by simp)]
        rw [e1]
        generalize s.data.toList = l
        induction l with
        | nil => exact VRels.nil
        | cons b l ih => exact VRels.cons (by simp [VRel]) ih
    · cases h
  · rename_i e hs hd
    split at h
    · rename_i he
      simp only [Option.some.injEq, Prod.mk.injEq] at h
      obtain ⟨rfl, rfl⟩ := h
      simp only [VRel] at hx; subst hx
      exact Or.inl ⟨rfl, _, by simp [convert, r_und (hE.und _ _ hs), r_und (hE.und _ _ hd), r_und (hE.und _ _ he), Conv.bytesToString]; rfl, by simp [VRel]⟩
    · cases h
  · rename_i e b o sz len cap ex hs hd
    split at h
    · rename_i he
      cases h1 : Nat.beq sz 1 with
      | false => rw [h1] at h; simp at h
      | true =>
        rw [h1] at h; simp only [cond_true] at h
        split at h
        · rename_i cs hcs
          split at h
          · rename_i l hl
            simp only [Option.some.injEq, Prod.mk.injEq] at h
            obtain ⟨rfl, rfl⟩ := h
            simp only [VRel] at hx
            obtain ⟨r, o', c, sp, rfl, hb, ho, hc, hex, hle, hcap⟩ := hx
            obtain ⟨vs, hv1, hv2, hv3⟩ := loadN_sound hm hcs hb
            obtain ⟨ns, rfl, rfl⟩ := bytesOf_rel hl hv2
            have hload : (loadCells ⟨r, o', sp⟩ len).run E.P w = .ok (ns.map (Value.int .u8)).toArray w := by
              unfold loadCells
              by_cases hl0 : len = 0
              · subst hl0
                have : ns = [] := by simpa using hv1
                subst this; simp [loadCellsFrom]
              · obtain ⟨rfl, rfl⟩ : o' = o ∧ sp = none := by
                  rcases ho with ho | ho
                  · exact ho
                  · omega
                rw [← hv1]
                have := run_loadCells (P := E.P) (ns.map (Value.int .u8)) 0 #[] (fun j v hj => by simpa using hv3 j v hj)
                simpa using this
            refine Or.inl ⟨rfl, .string ⟨(ns.map (fun n => UInt8.ofNat n.toNat)).toArray⟩, ?_, by simp [VRel]⟩
            rw [run_convert_bytes_string w src dst e _ _ _ (hE.und _ _ hs) (hE.und _ _ he) (hE.und _ _ hd), run_bytesToString w _ _ _ ns hload, fold_push]
            show Result.ok (Value.string ⟨(#[] : Array UInt8) ++ _⟩) w = _
            simp
          · cases h
        · cases h
    · cases h
  · cases h

/-! ### len -/
theorem ERels.length : ∀ {es : List (LV × LV)} {l : List MapEntry}, ERels inj es l → l.length = es.length
  | [], _, e => by simp only [ERels] at e; simp [e]
  | (_, _) :: _, _, e => by
    simp only [ERels] at e
    obtain ⟨x, r, rfl, _, _, h⟩ := e
    simp [h.length]

theorem lenB_sound (hE : E.Ok) (hm : Emb E B inj st w) {t : TypeId} {x v : LV} {u : Value} {ts : Array TypeId} (ht : ts[0]? = some t) (hx : VRel inj x u) (h : lenB E st t x = some v) (ty : TypeId) :
    ValOut E inj v w (Builtin.len_ ts ty #[u]) := by
  unfold lenB at h
  split at h
  · rename_i s hu; simp at h; subst h; simp only [VRel] at hx; subst hx
    exact ⟨_, by simp [Builtin.len_, ht, r_und (hE.und _ _ hu)]; rfl, by simp [VRel, goInt]⟩
  · rename_i hu; simp at h; subst h; simp only [VRel] at hx; subst hx
    exact ⟨_, by simp [Builtin.len_, ht, r_und (hE.und _ _ hu)]; rfl, by simp [VRel, goInt]⟩
  · rename_i hu; simp at h; subst h; simp only [VRel] at hx; obtain ⟨r, o', c, sp, rfl, _⟩ := hx
    exact ⟨_, by simp [Builtin.len_, ht, r_und (hE.und _ _ hu)]; rfl, by simp [VRel, goInt]⟩
  · rename_i hu; simp at h; subst h; simp only [VRel] at hx; subst hx
    exact ⟨_, by simp [Builtin.len_, ht, r_und (hE.und _ _ hu)]; rfl, by simp [VRel, goInt]⟩
  · rename_i m hu
    split at h
    · rename_i kt es hes
      simp at h; subst h
      simp only [VRel] at hx
      obtain ⟨r, n, hq, rfl⟩ := hx
      obtain ⟨c, k, h1, h2, h3⟩ := hm.obj _ _ _ hq hes
      have hl := h2.length
      simp only [Array.length_toList] at hl
      refine ⟨goInt c.size, ?_, by simp [VRel, goInt, hl]⟩
      simp [Builtin.len_, ht, r_und (hE.und _ _ hu), getObj, Sem.run, h1]
    · cases h
  · cases h

theorem minL_sound {xs : List LV} {vs : List Value} {z : LV} (h : minL xs = some z) (hx : VRels inj xs vs) (ts : Array TypeId) (t : TypeId) : ValOut E inj z w (Builtin.min_ ts t vs.toArray) := by
  unfold minL at h
  split at h
  · simp only [Option.some.injEq] at h; subst h
    simp only [VRels, VRel] at hx
    obtain ⟨_, _, rfl, rfl, _, _, rfl, rfl, rfl⟩ := hx
    exact ⟨_, by simp [Builtin.min_, Builtin.min2]; rfl, by simp [VRel]⟩
  · cases h
theorem maxL_sound {xs : List LV} {vs : List Value} {z : LV} (h : maxL xs = some z) (hx : VRels inj xs vs) (ts : Array TypeId) (t : TypeId) : ValOut E inj z w (Builtin.max_ ts t vs.toArray) := by
  unfold maxL at h
  split at h
  · simp only [Option.some.injEq] at h; subst h
    simp only [VRels, VRel] at hx
    obtain ⟨_, _, rfl, rfl, _, _, rfl, rfl, rfl⟩ := hx
    exact ⟨_, by simp [Builtin.max_, Builtin.max2]; rfl, by simp [VRel]⟩
  · cases h
end
end Go.Proofs.Ytpkeggejofeeeaa.Lvm

namespace Go.Proofs.Ytpkeggejofeeeaa.Lvm

def splA (c : Array Value) (o : Nat) (vs : List Value) : Array Value := (c.toList.take o ++ (vs ++ c.toList.drop (o + vs.length))).toArray

theorem splA_size {c : Array Value} {o : Nat} {vs : List Value} (h : o + vs.length ≤ c.size) : (splA c o vs).size = c.size := by
  simp [splA]; omega

theorem take_splice (l vs : List Value) {o n : Nat} (h : o + vs.length ≤ n) (hl : o + vs.length ≤ l.length) :
    (l.take o ++ (vs ++ l.drop (o + vs.length))).take n = (l.take n).take o ++ (vs ++ (l.take n).drop (o + vs.length)) := by
  rw [List.take_append, List.take_append, List.take_take, List.drop_take, List.take_take]
  simp only [List.length_take]
  rw [show min n o = o by omega, show min o n = o by omega, List.take_of_length_le (l := vs) (by omega)]
  rw [show n - min o l.length - vs.length = n - (o + vs.length) by omega]

theorem set_heap {w : World} {b o : Nat} {c : Array Value} {e : TypeId} {f : Nat × Nat} {v : Value} (h : w.heap[b]? = some (.cells c e f)) :
    w.setCell ⟨b, o, none⟩ v = { w with heap := w.heap.setIfInBounds b (.cells (c.setIfInBounds o v) e f) } := by
  have hlt : b < w.heap.size := (Array.getElem?_eq_some_iff.1 h).1
  unfold World.setCell
  congr 1
  apply Array.ext_getElem?
  intro i
  rw [Array.getElem?_modify, Array.getElem?_setIfInBounds]
  by_cases hi : b = i
  · subst hi; rw [if_pos rfl, if_pos rfl, if_pos hlt, h]; rfl
  · rw [if_neg hi, if_neg hi]

theorem run_storeCells {P : Program} {b o : Nat} {e : TypeId} {f : Nat × Nat} : ∀ (vs : List Value) (i : Nat) (c : Array Value) (w : World), w.heap[b]? = some (.cells c e f) →
    (∀ j, j < c.size → ¬(f.1 ≤ j ∧ j < f.2)) → o + i + vs.length ≤ c.size → (∀ v ∈ vs, v.oneCell' = true) →
    (storeCells ⟨b, o, none⟩ vs i).run P w = .ok () { w with heap := w.heap.setIfInBounds b (.cells (splA c (o + i) vs) e f) }
  | [], i, c, w, h, _, hl, _ => by
    have hlt : b < w.heap.size := (Array.getElem?_eq_some_iff.1 h).1
    have e1 : splA c (o + i) [] = c := by simp [splA]
    have e2 : w.heap.setIfInBounds b (.cells c e f) = w.heap := by
      apply Array.ext_getElem?
      intro k
      rw [Array.getElem?_setIfInBounds]
      by_cases hk : b = k
      · subst hk; rw [if_pos rfl, if_pos hlt, h]
      · rw [if_neg hk]
    rw [e1, e2]
    simp [storeCells]
  | v :: vs, i, c, w, h, hf, hl, hv => by
    have hlt : b < w.heap.size := (Array.getElem?_eq_some_iff.1 h).1
    simp only [List.length_cons] at hl
    have hcell : w.cell? ⟨b, o + i, none⟩ = some c[o + i] := by rw [cell_of h]; simp
    have hfr : w.frozen? ⟨b, o + i, none⟩ = false := by
      have := hf (o + i) (by omega)
      simp only [World.frozen?, h]
      obtain ⟨lo, hi⟩ := f
      simp only [decide_eq_false_iff_not, Bool.and_eq_false_iff] at this ⊢
      omega
    simp only [storeCells, Sem.run_bind, add_none]
    rw [run_store P w _ v _ (hv v (by simp)), hcell]
    simp only [hfr, Bool.false_eq_true, if_false, Result.andThen_ok]
    rw [set_heap h]
    rw [run_storeCells (e := e) (f := f) vs (i + 1) (c.setIfInBounds (o + i) v) _ (by simp [hlt]) (by simpa using hf) (by simp; omega) (fun u hu => hv u (by simp [hu]))]
    congr 2
    simp only [Array.setIfInBounds_setIfInBounds]
    congr 2
    simp only [splA, Array.toList_setIfInBounds, List.length_cons]
    have hlt' : o + i < c.toList.length := by simp; omega
    rw [← Nat.add_assoc, List.take_succ_eq_append_getElem (by simpa using hlt'), List.take_set_of_le (Nat.le_refl _), List.drop_set_of_lt (by omega)]
    simp only [List.getElem_set_self, List.append_assoc, List.cons_append, List.nil_append]
    rw [show o + i + (vs.length + 1) = o + i + 1 + vs.length by omega]

section
variable {E : Env} {B : Nat} {inj : Inj} {st st' : LSt} {w : World} {fr : LFr} {a : Act} {lo : Nat}

def StoreOut (E : Env) (inj : Inj) (lo : Nat) (st : LSt) (w : World) (st' : LSt) (s : Sem Unit) : Prop :=
  ∃ L q old o ob w', lo ≤ L ∧ inj L = some q ∧ st.mem.get L = some old ∧ old ≠ .dead ∧ o ≠ .dead ∧ st' = { st with mem := st.mem.set L o } ∧ s.run E.P w = .ok () w' ∧
    w'.heap = w.heap.setIfInBounds q.1 ob ∧ Alike3 w w' ∧ ORel E inj o (some ob) q.2

theorem scal_one : ∀ {us : List LV} {vs : List Value}, VRels inj us vs → us.all LV.scalar = true → ∀ v ∈ vs, v.oneCell' = true
  | [], _, h, _ => by simp only [VRels] at h; subst h; simp
  | u :: us, _, h, hs => by
    simp only [VRels] at h
    obtain ⟨v, vs, rfl, h1, h2⟩ := h
    simp only [List.all_cons, Bool.and_eq_true] at hs
    intro x hx
    simp only [List.mem_cons] at hx
    rcases hx with rfl | hx
    · exact h1.oneCell hs.1
    · exact scal_one h2 hs.2 x hx

theorem storeN_sound (hm : Emb E B inj st w) {b : Blk} {o r : Nat} {us : List LV} {vs : List Value} (hb : BRel inj b r) (hv : VRels inj us vs) (h : storeN lo st b o us = some st') :
    StoreOut E inj lo st w st' (storeCells ⟨r, o, none⟩ vs) := by
  cases b with
  | base _ => simp [storeN] at h
  | own L =>
    simp only [storeN] at h
    obtain ⟨n, hq⟩ := hb
    cases hlo : Nat.ble lo L with
    | false => rw [hlo] at h; simp at h
    | true =>
      rw [hlo] at h; simp only [cond_true] at h
      split at h
      · rename_i cs hcs
        cases hc : (Nat.ble (o + us.length) cs.length && us.all LV.scalar) with
        | false => rw [hc] at h; simp at h
        | true =>
          rw [hc] at h; simp only [cond_true, setObjK_eq, Option.some.injEq] at h
          subst h
          simp only [Bool.and_eq_true] at hc
          have hle := Nat.le_of_ble_eq_true hc.1
          obtain ⟨c, e, f, h1, h2, h3, h4, h5⟩ := hm.obj _ _ _ hq hcs
          have hl := hv.length
          have hrun := run_storeCells (P := E.P) (o := o) vs 0 c w h1 (by rw [h2]; exact h5) (by omega) (scal_one hv hc.2)
          refine ⟨L, (r, n), _, _, .cells (splA c o vs) e f, _, Nat.le_of_ble_eq_true hlo, hq, hcs, by simp, by simp, rfl, hrun, by simp, ⟨rfl, rfl, rfl⟩, splA c o vs, e, f, rfl, by rw [splA_size (by omega)]; exact h2, by simp [splice]; omega, ?_, h5⟩
          have hsp := h4.splice hv o
          have e0 : (splice cs o us).length = cs.length := by simp [splice]; omega
          rw [e0]
          have e1 : (splA c o vs).toList.take cs.length = (c.toList.take cs.length).take o ++ (vs ++ (c.toList.take cs.length).drop (o + vs.length)) := by
            simp only [splA]
            exact take_splice _ _ (by omega) (by simp; omega)
          rw [e1]; exact hsp
      · cases h

end
end Go.Proofs.Ytpkeggejofeeeaa.Lvm

namespace Go.Proofs.Ytpkeggejofeeeaa.Lvm

theorem growBy_le : ∀ (k need c : Nat), Builtin.growBy need k c ≤ max c (need + (need + 768) / 4)
  | 0, need, c => by simp [Builtin.growBy]; omega
  | k + 1, need, c => by
    simp only [Builtin.growBy]
    split
    · omega
    · rename_i h
      have := growBy_le k need (c + (c + 768) / 4)
      omega

theorem nextcap_le {need cap : Nat} (h : cap < need) : Builtin.nextslicecap need cap ≤ 2 * need + 1000 := by
  unfold Builtin.nextslicecap
  split
  · omega
  · split
    · omega
    · have := growBy_le 4 need cap
      omega

section
variable {E : Env} {B : Nat} {inj : Inj} {st st' : LSt} {w : World} {fr : LFr} {a : Act} {lo : Nat}

theorem lenL_sound {x : LV} {v : Value} {n : Nat} (h : lenL x = some n) (hx : VRel inj x v) : (Builtin.lenOf v).run E.P w = .ok n w := by
  unfold lenL at h
  split at h
  · simp at h; subst h; simp only [VRel] at hx; subst hx; simp [Builtin.lenOf]
  · simp at h; subst h; simp only [VRel] at hx; obtain ⟨r, o', c, sp, rfl, _⟩ := hx; simp [Builtin.lenOf]
  · simp at h; subst h; simp only [VRel] at hx; subst hx; simp [Builtin.lenOf]
  · cases h

theorem loadCells_of {P : Program} {r o : Nat} {n : Nat} {vs : List Value} (hn : vs.length = n) (h : ∀ j v, vs[j]? = some v → w.cell? ⟨r, o + j, none⟩ = some v) :
    (loadCells ⟨r, o, none⟩ n).run P w = .ok vs.toArray w := by
  subst hn
  unfold loadCells
  have := run_loadCells (P := P) vs 0 #[] (fun j v hj => by simpa using h j v hj)
  simpa using this

theorem srcCells_sound (hm : Emb E B inj st w) {x : LV} {v : Value} {n sz : Nat} {new : List LV} (h : srcCells E st sz x = some new) (hn : lenL x = some n) (hx : VRel inj x v) :
    ∃ vs : Array Value, (∀ w' : World, w'.heap = w.heap → (Builtin.firstCells sz n v).run E.P w' = .ok vs w') ∧ VRels inj new vs.toList ∧ vs.size = new.length := by
  unfold srcCells at h
  split at h
  · simp at h; subst h; simp only [VRel] at hx; subst hx
    exact ⟨#[], fun _ _ => by simp [Builtin.firstCells], VRels.nil, rfl⟩
  · rename_i b o sz' len cap ex
    cases hb : Nat.beq sz' sz with
    | false => rw [hb] at h; simp at h
    | true =>
      rw [hb] at h; simp only [cond_true] at h
      have hz := Nat.eq_of_beq_eq_true hb
      subst hz
      simp [lenL] at hn; subst hn
      simp only [VRel] at hx
      obtain ⟨r, o', c, sp, rfl, hbr, ho, hc, hex, hle, hcap⟩ := hx
      obtain ⟨vs, h1, h2, h3⟩ := loadN_sound hm h hbr
      have hl := h2.length
      by_cases hl0 : len * sz' = 0
      · have : vs = [] := List.eq_nil_of_length_eq_zero (by omega)
        subst this
        refine ⟨#[], fun w' _ => ?_, h2, by simp at hl ⊢; omega⟩
        simp only [Builtin.firstCells]
        rw [hl0]; rfl
      · obtain ⟨rfl, rfl⟩ : o' = o ∧ sp = none := by
          rcases ho with ho | ho
          · exact ho
          · have : len = 0 := by omega
            subst this; simp at hl0
        exact ⟨vs.toArray, fun w' hw' => by simp only [Builtin.firstCells]; exact loadCells_of h1 (fun j v hj => by rw [← h3 j v hj]; simp [World.cell?, hw']), by simpa using h2, by simp; omega⟩
  · rename_i s
    cases hb : Nat.beq sz 1 with
    | false => rw [hb] at h; simp at h
    | true =>
      rw [hb] at h; simp at h; subst h
      simp [lenL] at hn; subst hn
      simp only [VRel] at hx; subst hx
      refine ⟨s.data.map fun b => .int .u8 b.toNat, fun _ _ => by simp [Builtin.firstCells], ?_, by simp⟩
      simp only [Array.toList_map]
      generalize s.data.toList = l
      induction l with
      | nil => exact VRels.nil
      | cons b l ih => exact VRels.cons (by simp [VRel]) ih
  · cases h

/-- What append leaves. -/
inductive AppOut (E : Env) (inj : Inj) (lo : Nat) (cover : Bool) (st : LSt) (w : World) (v : LV) (st' : LSt) (s : Sem Value) : Prop where
  | same (h : st' = st) (hv : ValOut E inj v w s)
  | fresh (h : FreshOut E inj st w v st' s)
  | store (hc : cover = false) (L : Nat) (q : Nat × Nat) (old o : LObj) (ob : Obj) (u : Value) (w' : World) (h1 : lo ≤ L) (h2 : inj L = some q) (h3 : st.mem.get L = some old) (h4 : old ≠ .dead) (h5 : o ≠ .dead)
      (h6 : st' = { st with mem := st.mem.set L o }) (h7 : s.run E.P w = .ok u w') (h8 : w'.heap = w.heap.setIfInBounds q.1 ob) (h9 : Alike3 w w') (h10 : ORel E inj o (some ob) q.2) (h11 : VRel inj v u)
  | grow (L : Nat) (q : Nat × Nat) (cs cs' : List LV) (u : Value) (w' : World) (h1 : lo ≤ L) (h2 : inj L = some q) (h3 : st.mem.get L = some (.cells cs))
      (h6 : st' = newB { st with mem := st.mem.set L .dead } (.cells cs')) (h7 : s.run E.P w = .ok u w') (h9 : Alike3 w w')
      (h8 : (∃ ob n, w'.heap = w.heap.push ob ∧ ∀ inj', Ext inj inj' → inj' st.nxt = some (w.heap.size, n) → VRel inj' v u ∧ ORel E inj' (.cells cs') (some ob) n) ∨
        (∃ ob, w'.heap = w.heap.setIfInBounds q.1 ob ∧ (cover = true → ORel E inj (.cells cs) (some ob) q.2) ∧
          ∀ inj', Ext inj inj' → inj' st.nxt = some q → VRel inj' v u ∧ ORel E inj' (.cells cs') (some ob) q.2))

theorem roomFor_le {need by_ : Nat} (h : roomFor need by_ = true) : 1 ≤ by_ ∧ (2 * need + 1000) * by_ ≤ 140737488355328 := by
  simp only [roomFor, Bool.and_eq_true] at h
  exact ⟨Nat.le_of_ble_eq_true h.1, Nat.le_of_ble_eq_true h.2⟩

/-- The run of an append that must grow. -/
theorem run_append_grow {P : Program} {ts : Array TypeId} {ty sType t' e : TypeId} {i : TypeInfo} {zv v x : Value} {base : Option Addr} {sLen sCap n : Nat} {old new : Array Value}
    (ht : ts[0]? = some sType) (ht' : ts[1]? = some t') (hu : P.underlying sType = some (.slice e)) (hu' : ∃ d, P.underlying t' = some d ∧ ((∃ e', d = .slice e') ∨ d = .string))
    (hi : P.info? e = some i) (hz : ∀ w', w'.heap = w.heap → (zeroValue e).run P w' = .ok zv w') (hs : v = .slice base sLen sCap)
    (hn : (Builtin.lenOf x).run P w = .ok n w) (hnew : ∀ w', w'.heap = w.heap → (Builtin.firstCells i.size n x).run P w' = .ok new w') (hold : ∀ w', w'.heap = w.heap → (Builtin.firstCells i.size sLen v).run P w' = .ok old w')
    (hlt : sCap < sLen + n) (hroom : roomFor (sLen + n) i.bytes = true) :
    ∃ C, sLen + n ≤ C ∧ (Builtin.append_ ts ty #[v, x]).run P w = .ok (.slice (some ⟨w.heap.size, 0, none⟩) (sLen + n) C)
      { w with drawn := w.drawn + 1, heap := w.heap.push (.cells (old ++ new ++ Builtin.zeroCells zv.cells (C - (sLen + n))) e) } := by
  refine ⟨Question.cut (.appendCap (sLen + n) sCap e) (w.tape w.drawn (.appendCap (sLen + n) sCap e)), by simp only [Question.cut]; omega, ?_⟩
  obtain ⟨d, hd, hdi⟩ := hu'
  have hf : Question.forced (.appendCap (sLen + n) sCap e) = false := rfl
  obtain ⟨hr1, hr⟩ := roomFor_le hroom
  have hsmall : sLen + n ≤ 140737488355328 := by
    have : (2 * (sLen + n) + 1000) * 1 ≤ (2 * (sLen + n) + 1000) * i.bytes := Nat.mul_le_mul_left _ hr1
    omega
  have hcap := nextcap_le hlt
  have hnx : Builtin.nextslicecap (sLen + n) sCap * i.bytes ≤ 2 ^ 48 := by
    have : Builtin.nextslicecap (sLen + n) sCap * i.bytes ≤ (2 * (sLen + n) + 1000) * i.bytes := Nat.mul_le_mul_right _ hcap
    omega
  have hmax : ¬ (((sLen + n : Nat) : Int) > IntKind.i64.max) := by
    have : IntKind.i64.max = 9223372036854775807 := by decide
    rw [this]; omega
  subst hs
  have a0 : (#[Value.slice base sLen sCap, x] : Array Value)[0]? = some (Value.slice base sLen sCap) := rfl
  have a1 : (#[Value.slice base sLen sCap, x] : Array Value)[1]? = some x := rfl
  rcases hdi with ⟨e', rfl⟩ | rfl
  all_goals
    simp only [Builtin.append_, ht, ht', a0, a1, Sem.run_bind, r_und hu, r_und hd, Result.andThen_ok, r_size hi, Sem.run_pure, Bool.false_eq_true, if_false, hn]
    rw [if_neg (by omega)]
    simp only [Sem.run_bind, r_info hi, Result.andThen_ok]
    rw [if_neg (by rintro ⟨h, _⟩; exact hmax h)]
    simp only [Sem.run_bind, r_info hi, Result.andThen_ok]
    rw [if_neg (by omega)]
    simp only [Sem.run_bind, run_choose, hf, Bool.false_eq_true, if_false, Result.andThen_ok, run_askRoom, r_info hi]
    have e1 := hold { w with drawn := w.drawn + 1 } rfl
    have e2 := hnew { w with drawn := w.drawn + 1 } rfl
    have e3 := hz { w with drawn := w.drawn + 1 } rfl
    simp only [e1, Result.andThen_ok, Bool.not_false, if_true, e2, e3, newRow, Sem.run_bind, run_newObj, Sem.run_pure]

theorem Emb.heap (hm : Emb E B inj st w) {w' : World} (h : w'.heap = w.heap) : Emb E B inj st w' where
  dom := fun L q hq => by rw [h]; exact hm.dom L q hq
  obj := fun L q o hq ho => by rw [h]; exact hm.obj L q o hq ho
  new := hm.new
  base := fun r o v hv => by
    have := hm.base r o v hv
    refine ⟨this.1, ?_⟩
    obtain ⟨u, hu, hr⟩ := this.2
    exact ⟨u, by simpa [World.cell?, h] using hu, hr⟩
  low := by rw [h]; exact hm.low

theorem zeroCells_size (zv : Array Value) (n : Nat) : (Builtin.zeroCells zv n).size = n * zv.size := by simp [Builtin.zeroCells]

/-- The run of an append that fits. -/
theorem run_append_fits {P : Program} {ts : Array TypeId} {ty sType t' e : TypeId} {i : TypeInfo} {x : Value} {A : Addr} {sLen sCap n : Nat} {new : Array Value} {w' : World}
    (ht : ts[0]? = some sType) (ht' : ts[1]? = some t') (hu : P.underlying sType = some (.slice e)) (hu' : ∃ d, P.underlying t' = some d ∧ ((∃ e', d = .slice e') ∨ d = .string))
    (hi : P.info? e = some i) (hn : (Builtin.lenOf x).run P w = .ok n w) (hnew : (Builtin.firstCells i.size n x).run P w = .ok new w)
    (hle : sLen + n ≤ sCap) (hst : (storeCells (A.add (sLen * i.size)) new.toList).run P w = .ok () w') :
    (Builtin.append_ ts ty #[.slice (some A) sLen sCap, x]).run P w = .ok (.slice (some A) (sLen + n) sCap) w' := by
  obtain ⟨d, hd, hdi⟩ := hu'
  have a0 : (#[Value.slice (some A) sLen sCap, x] : Array Value)[0]? = some (Value.slice (some A) sLen sCap) := rfl
  have a1 : (#[Value.slice (some A) sLen sCap, x] : Array Value)[1]? = some x := rfl
  rcases hdi with ⟨e', rfl⟩ | rfl
  all_goals
    simp only [Builtin.append_, ht, ht', a0, a1, Sem.run_bind, r_und hu, r_und hd, Result.andThen_ok, r_size hi, Sem.run_pure, Bool.false_eq_true, if_false, hn]
    rw [if_pos hle]
    simp only [Sem.run_bind, Bool.not_false, if_true, hnew, Result.andThen_ok, hst, Sem.run_pure]

theorem run_append_nil {P : Program} {ts : Array TypeId} {ty sType t' e : TypeId} {i : TypeInfo} {x : Value} {new : Array Value}
    (ht : ts[0]? = some sType) (ht' : ts[1]? = some t') (hu : P.underlying sType = some (.slice e)) (hu' : ∃ d, P.underlying t' = some d ∧ ((∃ e', d = .slice e') ∨ d = .string))
    (hi : P.info? e = some i) (hn : (Builtin.lenOf x).run P w = .ok 0 w) (hnew : (Builtin.firstCells i.size 0 x).run P w = .ok new w) :
    (Builtin.append_ ts ty #[.slice none 0 0, x]).run P w = .ok (.slice none 0 0) w := by
  obtain ⟨d, hd, hdi⟩ := hu'
  have a0 : (#[Value.slice none 0 0, x] : Array Value)[0]? = some (Value.slice none 0 0) := rfl
  have a1 : (#[Value.slice none 0 0, x] : Array Value)[1]? = some x := rfl
  rcases hdi with ⟨e', rfl⟩ | rfl
  all_goals
    simp only [Builtin.append_, ht, ht', a0, a1, Sem.run_bind, r_und hu, r_und hd, Result.andThen_ok, r_size hi, Sem.run_pure, Bool.false_eq_true, if_false, hn]
    rw [if_pos (by omega)]
    simp only [Sem.run_bind, Bool.not_false, if_true, hnew, Result.andThen_ok, Sem.run_pure]

theorem grown_rel {inj' : Inj} {old new zv : Array Value} {ol nl : List LV} {e : TypeId} {k : Nat} (h1 : VRels inj' ol old.toList) (h2 : VRels inj' nl new.toList) :
    ORel E inj' (.cells (ol ++ nl)) (some (.cells (old ++ new ++ Builtin.zeroCells zv k) e (0, 0))) (old ++ new ++ Builtin.zeroCells zv k).size := by
  have l1 := h1.length
  have l2 := h2.length
  simp only [Array.length_toList] at l1 l2
  refine ⟨_, e, (0, 0), rfl, rfl, by simp; omega, ?_, fun i _ => by simp⟩
  have : ((old ++ new ++ Builtin.zeroCells zv k).toList.take (ol ++ nl).length) = old.toList ++ new.toList := by
    simp only [Array.toList_append, List.length_append]
    rw [List.take_append_of_le_length (by simp; omega), List.take_of_length_le (by simp; omega)]
  rw [this]
  exact h1.append h2

theorem baseN_length {bm : Nat → Nat → Option LV} {r : Nat} : ∀ {n o : Nat} {cs : List LV}, baseN bm r o n = some cs → cs.length = n
  | 0, o, cs, h => by simp [baseN] at h; subst h; rfl
  | n + 1, o, cs, h => by
    simp only [baseN] at h
    split at h
    · split at h
      · rename_i xs hx; simp at h; subst h; simp [baseN_length hx]
      · cases h
    · cases h

theorem loadN_length {b : Blk} {o n : Nat} {cs : List LV} (h : loadN E st b o n = some cs) : cs.length = n := by
  cases b with
  | base r => exact baseN_length h
  | own L =>
    simp only [loadN] at h
    split at h
    · rcases takeN_eq h with ⟨_, h2, _⟩ | ⟨rfl, rfl⟩
      · exact h2
      · rfl
    · cases h

theorem appendL_sound (hE : E.Ok) (hm : Emb E B inj st w) {cover : Bool} {sType t' : TypeId} {s x v : LV} {sv xv : Value} {ts : Array TypeId} {ty : TypeId} (ht : ts[0]? = some sType) (ht' : ts[1]? = some t')
    (hu' : ∃ d, E.P.underlying t' = some d ∧ ((∃ e', d = .slice e') ∨ d = .string)) (hs : VRel inj s sv) (hx : VRel inj x xv)
    (h : appendL E lo cover st sType s x = some (v, st')) : AppOut E inj lo cover st w v st' (Builtin.append_ ts ty #[sv, xv]) := by
  unfold appendL at h
  split at h
  · rename_i e hu
    split at h
    · rename_i sz hsz
      obtain ⟨i, hi, hsize⟩ := hE.size _ _ hsz
      split at h
      · rename_i by_ hby
        obtain ⟨i', hi', hbytes⟩ := hE.bytes _ _ hby
        rw [hi] at hi'; simp at hi'; subst hi'
        split at h
        · rename_i n hn
          split at h
          · rename_i new hnew
            cases hc0 : (new.all LV.scalar && (Nat.beq new.length (n * sz) && (Nat.ble 1 sz && zeroOk E e sz))) with
            | false => rw [hc0] at h; simp at h
            | true =>
              rw [hc0] at h; simp only [cond_true] at h
              simp only [Bool.and_eq_true] at hc0
              obtain ⟨hscal, hnl, hsz1, hzok⟩ := hc0
              have hnl := Nat.eq_of_beq_eq_true hnl
              have hsz1 := Nat.le_of_ble_eq_true hsz1
              -- the zero
              have hzz : ∃ zv : Value, (∀ w' : World, (zeroValue e).run E.P w' = .ok zv w') ∧ zv.cells.size = sz := by
                unfold zeroOk at hzok
                split at hzok
                · rename_i z hz
                  obtain ⟨j, zv, hj, hzv, hl⟩ := hE.zero _ _ hz
                  have := (lift_rel (inj := inj) hl).cells.length
                  simp only [Array.length_toList] at this
                  exact ⟨zv, fun w' => r_zero hj hzv, by rw [this]; exact Nat.eq_of_beq_eq_true hzok⟩
                · cases hzok
              obtain ⟨zv, hzv, hzs⟩ := hzz
              obtain ⟨nw, hnw, hnr, hns⟩ := srcCells_sound hm hnew hn hx
              rw [← hsize] at hnw
              have hlen : ∀ w' : World, (Builtin.lenOf xv).run E.P w' = .ok n w' := fun w' => lenL_sound hn hx
              have hU := hE.und _ _ hu
              cases hn0 : Nat.beq n 0 with
              | true =>
                rw [hn0] at h; simp only [cond_true] at h
                have hn0 := Nat.eq_of_beq_eq_true hn0
                subst hn0
                unfold sameSl at h
                split at h
                · simp only [Option.some.injEq, Prod.mk.injEq] at h
                  obtain ⟨rfl, rfl⟩ := h
                  simp only [VRel] at hs; subst hs
                  exact .same rfl ⟨_, run_append_nil ht ht' hU hu' hi (hlen w) (hnw w rfl), by simp [VRel]⟩
                · rename_i b o sz' len cap ex
                  cases hs' : Nat.beq sz' sz with
                  | false => rw [hs'] at h; simp at h
                  | true =>
                    rw [hs'] at h; simp only [cond_true, Option.some.injEq, Prod.mk.injEq] at h
                    obtain ⟨rfl, rfl⟩ := h
                    have hs0 := hs
                    simp only [VRel] at hs
                    obtain ⟨r, o', c, sp, rfl, hb, ho, hc, hex, hle, hcap⟩ := hs
                    have e0 : nw.toList = [] := List.eq_nil_of_length_eq_zero (by rw [Nat.zero_mul] at hnl; simp only [Array.length_toList]; omega)
                    exact .same rfl ⟨_, run_append_fits (w' := w) ht ht' hU hu' hi (hlen w) (hnw w rfl) (by omega) (by rw [e0]; simp [storeCells]), hs0⟩
                · cases h
              | false =>
              rw [hn0] at h; simp only [cond_false] at h
              have hn0 : n ≠ 0 := by intro e; subst e; simp at hn0
              have hnpos : 1 ≤ n * sz := Nat.mul_le_mul (Nat.one_le_iff_ne_zero.2 hn0) hsz1
              split at h
              · -- onto nil
                simp only [VRel] at hs; subst hs
                cases hr : roomFor n by_ with
                | false => rw [hr] at h; simp at h
                | true =>
                  rw [hr] at h; simp only [cond_true, newK_eq, Option.some.injEq, Prod.mk.injEq] at h
                  obtain ⟨rfl, rfl⟩ := h
                  obtain ⟨C, hC, hrun⟩ := run_append_grow (w := w) (ty := ty) (old := #[]) (base := none) (sLen := 0) (sCap := 0) ht ht' hU hu' hi (fun w' _ => hzv w') rfl (hlen w) (fun w' hw' => hnw w' hw')
                    (fun w' hw' => by simp [Builtin.firstCells]) (by omega) (by rw [hbytes]; simpa using hr)
                  refine .fresh ⟨_, _, (#[] ++ nw ++ Builtin.zeroCells zv.cells (C - (0 + n))).size, _, _, rfl, hrun, rfl, ⟨rfl, rfl, rfl⟩, fun inj' hx' hin => ⟨?_, ?_⟩⟩
                  · simp only [VRel]
                    refine ⟨_, 0, C, none, by simp, ⟨_, hin⟩, Or.inl ⟨rfl, rfl⟩, by omega, by simp, Nat.le_refl _, fun L q hL hq => ?_⟩
                    cases hL; rw [hin] at hq; simp only [Option.some.injEq, Prod.mk.injEq] at hq
                    obtain ⟨_, rfl⟩ := hq
                    simp only [Array.size_append, zeroCells_size, hzs, hns, hnl]
                    have : (C - n) * sz + n * sz = C * sz := by rw [← Nat.add_mul]; congr 1; omega
                    simp only [Nat.zero_add, List.size_toArray, List.length_nil]; omega
                  · have := grown_rel (E := E) (inj' := inj') (e := e) (zv := zv.cells) (k := C - (0 + n)) (old := #[]) (ol := []) VRels.nil (hnr.mono hx')
                    simpa using this
              · -- onto a slice
                rename_i b o sz' len cap ex
                have hs0 := hs
                simp only [VRel] at hs
                obtain ⟨r, o', c, sp, rfl, hb, ho, hc, hex, hle, hcap⟩ := hs
                cases hs' : Nat.beq sz' sz with
                | false => rw [hs'] at h; simp at h
                | true =>
                  rw [hs'] at h; simp only [cond_true] at h
                  have hs' := Nat.eq_of_beq_eq_true hs'
                  subst hs'
                  cases hexb : ex with
                  | true =>
                    subst hexb
                    have hcc : c = cap := hex rfl
                    subst hcc
                    simp only [cond_true] at h
                    cases hfit : Nat.ble (len + n) c with
                    | true =>
                      rw [hfit] at h; simp only [cond_true] at h
                      have hfit := Nat.le_of_ble_eq_true hfit
                      cases hcov : cover with
                      | true => rw [hcov] at h; simp at h
                      | false =>
                        rw [hcov] at h; simp only [cond_false] at h
                        split at h
                        · rename_i st2 hst
                          simp only [Option.some.injEq, Prod.mk.injEq] at h
                          obtain ⟨rfl, rfl⟩ := h
                          obtain ⟨rfl, rfl⟩ : o' = o ∧ sp = none := by
                            rcases ho with ho | ho
                            · exact ho
                            · omega
                          obtain ⟨L, q, old, ob, rob, w', h1, h2, h3, h4, h5, h6, h7, h8, h9, h10⟩ := storeN_sound (w := w) hm hb hnr hst
                          refine .store rfl L q old ob rob _ w' h1 h2 h3 h4 h5 h6 (run_append_fits ht ht' hU hu' hi (hlen w) (hnw w rfl) hfit (by rw [hsize, add_none]; exact h7)) h8 h9 h10 ?_
                          simp only [VRel]
                          exact ⟨r, o', c, none, rfl, hb, Or.inl ⟨rfl, rfl⟩, Nat.le_refl _, fun _ => rfl, hfit, hcap⟩
                        · cases h
                    | false =>
                      rw [hfit] at h; simp only [cond_false] at h
                      have hfit : c < len + n := by
                        rcases Nat.lt_or_ge c (len + n) with h' | h'
                        · exact h'
                        · rw [Nat.ble_eq_true_of_le h'] at hfit; cases hfit
                      cases hr : roomFor (len + n) by_ with
                      | false => rw [hr] at h; simp at h
                      | true =>
                        rw [hr] at h; simp only [cond_true] at h
                        split at h
                        · rename_i oldc hold
                          rw [newK_eq] at h
                          simp only [Option.some.injEq, Prod.mk.injEq] at h
                          obtain ⟨rfl, rfl⟩ := h
                          have hol := loadN_length hold
                          obtain ⟨ow, how, hor, hos⟩ := srcCells_sound (n := len) (sz := sz') (x := .sl b o sz' len c true) (v := .slice (some ⟨r, o', sp⟩) len c) hm
                            (by simp only [srcCells]; rw [show Nat.beq sz' sz' = true from Nat.beq_refl sz']; exact hold) rfl hs0
                          rw [← hsize] at how
                          obtain ⟨C, hC, hrun⟩ := run_append_grow (w := w) (ty := ty) ht ht' hU hu' hi (fun w' _ => hzv w') rfl (hlen w) (fun w' hw' => hnw w' hw')
                            (fun w' hw' => how w' hw') hfit (by rw [hbytes]; exact hr)
                          refine .fresh ⟨_, _, (ow ++ nw ++ Builtin.zeroCells zv.cells (C - (len + n))).size, _, _, rfl, hrun, rfl, ⟨rfl, rfl, rfl⟩, fun inj' hx' hin => ⟨?_, ?_⟩⟩
                          · simp only [VRel]
                            refine ⟨_, 0, C, none, rfl, ⟨_, hin⟩, Or.inl ⟨rfl, rfl⟩, by omega, by simp, Nat.le_refl _, fun L q hL hq => ?_⟩
                            cases hL; rw [hin] at hq; simp only [Option.some.injEq, Prod.mk.injEq] at hq
                            obtain ⟨_, rfl⟩ := hq
                            simp only [Array.size_append, zeroCells_size, hzs, hns, hnl, hos, hol]
                            have e1 : (C - (len + n)) * sz' + (len + n) * sz' = C * sz' := by rw [← Nat.add_mul]; congr 1; omega
                            have e2 : (len + n) * sz' = len * sz' + n * sz' := Nat.add_mul _ _ _
                            omega
                          · exact grown_rel (hor.mono hx') (hnr.mono hx')
                        · cases h
                  | false =>
                    subst hexb
                    simp only [cond_false] at h
                    split at h
                    · rename_i L
                      obtain ⟨m, hq⟩ := hb
                      cases hc1 : (Nat.ble lo L && (Nat.beq o 0 && roomFor (len + n) by_)) with
                      | false => rw [hc1] at h; simp at h
                      | true =>
                        rw [hc1] at h; simp only [cond_true] at h
                        simp only [Bool.and_eq_true] at hc1
                        have hlo := Nat.le_of_ble_eq_true hc1.1
                        have ho0 := Nat.eq_of_beq_eq_true hc1.2.1
                        subst ho0
                        have hr := hc1.2.2
                        split at h
                        · rename_i cs hcs
                          cases hc2 : (Nat.ble (len * sz') cs.length && (!cover || Nat.beq (len * sz') cs.length)) with
                          | false => rw [hc2] at h; simp at h
                          | true =>
                            rw [hc2] at h; simp only [cond_true, Mem.setFK_eq, newK_eq, Option.some.injEq, Prod.mk.injEq] at h
                            obtain ⟨rfl, rfl⟩ := h
                            simp only [Bool.and_eq_true] at hc2
                            have hcl := Nat.le_of_ble_eq_true hc2.1
                            obtain ⟨c1, e1, f1, g1, g2, g3, g4, g5⟩ := hm.obj _ _ _ hq hcs
                            simp only at g1 g2
                            have hcapm := hcap L m rfl hq
                            rcases Nat.lt_or_ge c (len + n) with hfit | hfit
                            · -- it grows
                              obtain ⟨ow, how, hor, hos⟩ := srcCells_sound (n := len) (sz := sz') (new := cs.take (len * sz')) (x := .sl (.own L) 0 sz' len cap false) (v := .slice (some ⟨r, o', sp⟩) len c) hm
                                (by
                                  simp only [srcCells]; rw [show Nat.beq sz' sz' = true from Nat.beq_refl sz']
                                  simp only [cond_true, loadN, hcs, takeN, List.drop_zero, List.length_take]
                                  rw [show min (len * sz') cs.length = len * sz' by omega, show Nat.beq (len * sz') (len * sz') = true from Nat.beq_refl _]; rfl) rfl hs0
                              rw [← hsize] at how
                              obtain ⟨C, hC, hrun⟩ := run_append_grow (w := w) (ty := ty) ht ht' hU hu' hi (fun w' _ => hzv w') rfl (hlen w) (fun w' hw' => hnw w' hw')
                                (fun w' hw' => how w' hw') hfit (by rw [hbytes]; exact hr)
                              refine .grow L (r, m) cs _ _ _ hlo hq hcs rfl hrun ⟨rfl, rfl, rfl⟩ (Or.inl ⟨_, (ow ++ nw ++ Builtin.zeroCells zv.cells (C - (len + n))).size, rfl, fun inj' hx' hin => ⟨?_, ?_⟩⟩)
                              · simp only [VRel]
                                refine ⟨_, 0, C, none, rfl, ⟨_, hin⟩, Or.inl ⟨rfl, rfl⟩, by omega, by simp, Nat.le_refl _, fun L q hL hq => ?_⟩
                                cases hL; rw [hin] at hq; simp only [Option.some.injEq, Prod.mk.injEq] at hq
                                obtain ⟨_, rfl⟩ := hq
                                simp only [Array.size_append, zeroCells_size, hzs, hns, hnl, hos, List.length_take]
                                have e1 : (C - (len + n)) * sz' + (len + n) * sz' = C * sz' := by rw [← Nat.add_mul]; congr 1; omega
                                have e2 : (len + n) * sz' = len * sz' + n * sz' := Nat.add_mul _ _ _
                                omega
                              · exact grown_rel (hor.mono hx') (hnr.mono hx')
                            · -- it fits
                              obtain ⟨rfl, rfl⟩ : o' = 0 ∧ sp = none := by
                                rcases ho with ho | ho
                                · exact ho
                                · omega
                              have hmul : (len + n) * sz' ≤ c * sz' := Nat.mul_le_mul_right _ hfit
                              have hadd : (len + n) * sz' = len * sz' + n * sz' := Nat.add_mul _ _ _
                              have hnwl : nw.toList.length = n * sz' := by simp; omega
                              have hst := run_storeCells (P := E.P) (o := len * sz') nw.toList 0 c1 w g1 (by rw [g2]; exact g5) (by omega) (scal_one hnr hscal)
                              simp only [Nat.add_zero] at hst
                              refine .grow L (r, m) cs _ _ { w with heap := w.heap.setIfInBounds r (.cells (splA c1 (len * sz') nw.toList) e1 f1) } hlo hq hcs rfl (run_append_fits ht ht' hU hu' hi (hlen w) (hnw w rfl) hfit (by rw [hsize, add_none, Nat.zero_add]; exact hst)) ⟨rfl, rfl, rfl⟩
                                (Or.inr ⟨_, rfl, fun hcov => ?_, fun inj' hx' hin => ⟨?_, ?_⟩⟩)
                              · have hcl2 : len * sz' = cs.length := by
                                  have := hc2.2; rw [hcov] at this; simp at this; exact this
                                refine ⟨_, e1, f1, rfl, by rw [splA_size (by omega)]; exact g2, g3, ?_, g5⟩
                                have : (splA c1 (len * sz') nw.toList).toList.take cs.length = c1.toList.take cs.length := by
                                  simp only [splA, ← hcl2]
                                  rw [List.take_append_of_le_length (by simp; omega), List.take_take, Nat.min_self]
                                rw [this]; exact g4
                              · simp only [VRel]
                                refine ⟨r, 0, c, none, rfl, ⟨_, hin⟩, Or.inl ⟨rfl, rfl⟩, hfit, by simp, Nat.le_refl _, fun L' q hL' hq' => ?_⟩
                                cases hL'; rw [hin] at hq'; simp only [Option.some.injEq, Prod.mk.injEq, true_and] at hq'
                                subst hq'; exact hcapm
                              · refine ⟨_, e1, f1, rfl, by rw [splA_size (by omega)]; exact g2, by simp; omega, ?_, g5⟩
                                have : (splA c1 (len * sz') nw.toList).toList.take (cs.take (len * sz') ++ new).length = (c1.toList.take cs.length).take (len * sz') ++ nw.toList := by
                                  simp only [splA, List.length_append, List.length_take]
                                  rw [show min (len * sz') cs.length = len * sz' by omega, hnl]
                                  rw [← List.append_assoc, List.take_append_of_le_length (by simp; omega), List.take_of_length_le (by simp; omega), List.take_take, show min (len * sz') cs.length = len * sz' by omega]
                                rw [this]
                                exact ((g4.take _).append hnr).mono hx'
                        · cases h
                    · cases h
              · cases h
          · cases h
        · cases h
      · cases h
    · cases h
  · cases h
end
end Go.Proofs.Ytpkeggejofeeeaa.Lvm
