/- Laws of the small machine and of how it stands to the model; a helper of the statements: no statement is proved here. -/
import Derived.Test.YtpkeggejofeeeaaS4
namespace Go.Proofs.Ytpkeggejofeeeaa.Lvm

/-! ### forcing changes nothing -/
section
variable {α : Type}
theorem frcNat_eq (n : Nat) (k : Nat → α) : frcNat n k = k n := by cases n <;> rfl
theorem frcInt_eq (n : Int) (k : Int → α) : frcInt n k = k n := by cases n <;> simp [frcInt, frcNat_eq]
theorem frcKind_eq (x : IntKind) (k : IntKind → α) : frcKind x k = k x := by cases x <;> rfl
theorem frcBool_eq (x : Bool) (k : Bool → α) : frcBool x k = k x := by cases x <;> rfl
theorem frcBlk_eq (x : Blk) (k : Blk → α) : frcBlk x k = k x := by cases x <;> simp [frcBlk, frcNat_eq]
theorem frcS_eq (x : LV) (k : LV → α) : frcS x k = k x := by
  cases x <;> simp [frcS, frcNat_eq, frcInt_eq, frcKind_eq, frcBool_eq, frcBlk_eq]
theorem frcL_cons (x : LV) (xs : List LV) (k : List LV → α) : frcL (x :: xs) k = frcS x fun x => frcL xs fun xs => k (x :: xs) := rfl
theorem frcL_eq : ∀ (l : List LV) (k : List LV → α), frcL l k = k l
  | [], _ => rfl
  | x :: xs, k => by rw [frcL_cons, frcS_eq, frcL_eq xs]
theorem frcV_eq (x : LV) (k : LV → α) : frcV x k = k x := by
  cases x <;> simp [frcV, frcL_eq, frcNat_eq, frcS_eq]
theorem frcObj_eq (o : LObj) (k : LObj → α) : frcObj o k = k o := by cases o <;> simp [frcObj, frcL_eq]
end

namespace Mem
variable {α β : Type}
theorem setFK_succ (x : α) (f : Nat) (m : Mem α) (n : Nat) (k : Mem α → β) : setFK x (f + 1) m n k =
    cond (Nat.beq n 0) (k (node m.left (some x) m.right))
      (cond (Nat.beq (n % 2) 1) (setFK x f m.left (n / 2) fun l => k (node l m.val m.right)) (setFK x f m.right (n / 2 - 1) fun r => k (node m.left m.val r))) := by
  cases m <;> rfl
theorem setFK_eq (x : α) : ∀ (f : Nat) (m : Mem α) (n : Nat) (k : Mem α → β), setFK x f m n k = k (setF x f m n)
  | 0, _, _, _ => rfl
  | f + 1, m, n, k => by
    rw [setFK_succ, setF]
    cases Nat.beq n 0 with
    | true => rfl
    | false =>
      simp only [cond_false]
      cases Nat.beq (n % 2) 1 with
      | true => simp only [cond_true]; rw [setFK_eq x f]
      | false => simp only [cond_false]; rw [setFK_eq x f]
end Mem

theorem newK_eq (v : LV) (st : LSt) (o : LObj) : newK v st o = some (v, newB st o) := by
  simp only [newK, frcObj_eq, Mem.setFK_eq, frcNat_eq, newB, Mem.set]
theorem setObjK_eq (st : LSt) (L : Nat) (o : LObj) : setObjK st L o = some { st with mem := st.mem.set L o } := by
  simp only [setObjK, frcObj_eq, Mem.setFK_eq, Mem.set]
def LFr.put (fr : LFr) (d : Nat) (v : LV) : LFr := { m := fr.m.set d v, n := fr.n }
theorem lputK_eq {α : Type} (fr : LFr) (o : Option Tmp) (v : LV) (k : LFr → Option α) : lputK fr o v k = match o with
  | none => k fr
  | some d => cond (Nat.blt d fr.n) (k (fr.put d v)) none := by
  cases o with
  | none => rfl
  | some d => simp only [lputK, frcV_eq, Mem.setFK_eq, LFr.put, Mem.set]

/-! ### filling -/
section
variable {inj : Inj}
theorem VRels.splice {cs us : List LV} {vs ws : List Value} (h : VRels inj cs vs) (h' : VRels inj us ws) (o : Nat) :
    VRels inj (splice cs o us) (vs.take o ++ (ws ++ vs.drop (o + ws.length))) := by
  rw [h'.length]
  exact (h.take o).append (h'.append (h.drop _))

theorem fold_set : ∀ (l : List Value) (j off : Nat) (cs : Array Value), off + j + l.length ≤ cs.size →
    ((l.zipIdx j).foldl (fun (cs : Array Value) (p : Value × Nat) => cs.setIfInBounds (off + p.2) p.1) cs).toList = cs.toList.take (off + j) ++ (l ++ cs.toList.drop (off + j + l.length))
  | [], j, off, cs, h => by simp
  | v :: l, j, off, cs, h => by
    simp only [List.zipIdx_cons, List.foldl_cons]
    rw [show (fun (cs : Array Value) (p : Value × Nat) => cs.setIfInBounds (off + p.2) p.1) = (fun (cs : Array Value) (p : Value × Nat) => cs.setIfInBounds (off + p.2) p.1) from rfl]
    rw [fold_set l (j + 1) off _ (by simp at h ⊢; omega)]
    simp only [Array.toList_setIfInBounds, List.length_cons] at h ⊢
    have hlt : off + j < cs.toList.length := by simp; omega
    rw [← Nat.add_assoc, List.take_succ_eq_append_getElem (by simpa using hlt), List.take_set_of_le (Nat.le_refl _), List.drop_set_of_lt (by omega)]
    simp only [List.getElem_set_self, List.append_assoc, List.cons_append, List.nil_append]
    rw [show off + j + (l.length + 1) = off + j + 1 + l.length by omega]

theorem run_fill {place : Nat → Option (Nat × Nat)} : ∀ {parts : List (Nat × LV)} {ps : List (Nat × Value)} {cs r : List LV} {vs : Array Value},
    fillL place cs parts = some r → VRels inj cs vs.toList → ps.map (·.1) = parts.map (·.1) → VRels inj (parts.map (·.2)) (ps.map (·.2)) →
    ∃ rs, Instr.fill place vs ps = some rs ∧ VRels inj r rs.toList
  | [], ps, cs, r, vs, h, hc, hi, _ => by
    have : ps = [] := by simpa using hi
    subst this
    simp [fillL] at h; subst h
    exact ⟨vs, rfl, hc⟩
  | (i, x) :: parts, ps, cs, r, vs, h, hc, hi, hv => by
    cases ps with
    | nil => simp at hi
    | cons p ps =>
      obtain ⟨j, v⟩ := p
      simp only [List.map_cons, List.cons.injEq] at hi
      obtain ⟨rfl, hi⟩ := hi
      simp only [List.map_cons, VRels, List.cons.injEq] at hv
      obtain ⟨_, _, ⟨rfl, rfl⟩, h1, h2⟩ := hv
      simp only [fillL] at h
      split at h
      · rename_i off size hp
        have hl := h1.cells.length
        cases hb : (Nat.beq x.cells.length size && Nat.ble (off + x.cells.length) cs.length) with
        | false => rw [hb] at h; simp at h
        | true =>
          rw [hb] at h; simp only [cond_true] at h
          simp only [Bool.and_eq_true] at hb
          have b1 := Nat.eq_of_beq_eq_true hb.1
          have b2 := Nat.le_of_ble_eq_true hb.2
          have hlen := hc.length
          simp only [Array.length_toList] at hl hlen
          have hspl : ((v.cells.zipIdx.foldl (fun (cs : Array Value) (p : Value × Nat) => cs.setIfInBounds (off + p.2) p.1) vs)).toList = vs.toList.take off ++ (v.cells.toList ++ vs.toList.drop (off + v.cells.toList.length)) := by
            rw [← Array.foldl_toList, Array.toList_zipIdx]
            have := fold_set v.cells.toList 0 off vs (by simp; omega)
            simpa using this
          have hc' := hc.splice h1.cells off
          rw [← hspl] at hc'
          obtain ⟨rs, hrs, hr⟩ := run_fill h hc' hi h2
          refine ⟨rs, ?_, hr⟩
          simp only [Instr.fill, hp]
          rw [if_neg (by simp; omega)]
          exact hrs
      · cases h
end

section
variable {E : Env} {inj : Inj} {w : World} {fr : LFr} {a : Act}

theorem evalParts_rel : ∀ {ps : List (Nat × Operand)} {l : List (Nat × LV)}, (∀ x ∈ ps.map (·.2), XRel inj fr a x) → evalParts fr ps = some l →
    (ps.map fun p => (p.1, a.eval p.2)).map (·.1) = l.map (·.1) ∧ VRels inj (l.map (·.2)) ((ps.map fun p => (p.1, a.eval p.2)).map (·.2))
  | [], l, _, h => by simp [evalParts] at h; subst h; simp [VRels.nil]
  | (i, x) :: ps, l, hx, h => by
    simp only [evalParts] at h
    split at h
    · rename_i v hv
      split at h
      · rename_i us hus
        simp at h; subst h
        obtain ⟨h1, h2⟩ := evalParts_rel (fun y hy => hx y (by simp at hy ⊢; exact Or.inr hy)) hus
        refine ⟨by simpa using h1, ?_⟩
        simp only [List.map_cons]
        exact VRels.cons (hx x (by simp) v hv) h2
      · cases h
    · cases h

theorem run_places (hE : E.Ok) : ∀ {fs : List Field} {pl : List (Nat × Nat)}, placesL E fs = some pl →
    (fs.mapM (fun f => (do pure (f.offset, ← sizeOf f.type) : Sem (Nat × Nat)))).run E.P w = .ok pl w
  | [], pl, h => by simp [placesL] at h; subst h; simp
  | f :: fs, pl, h => by
    simp only [placesL] at h
    split at h
    · rename_i n hn
      obtain ⟨i, hi, hs⟩ := hE.size _ _ hn
      split at h
      · rename_i r hr
        simp at h; subst h
        have := run_places hE hr
        simp only [List.mapM_cons, Sem.run_bind, r_size hi, Result.andThen_ok, Sem.run_pure, this, hs]
      · cases h
    · cases h

theorem zero_sound (hE : E.Ok) {t : TypeId} {z : LV} (h : E.zero t = some z) : ∃ u, (zeroValue t).run E.P w = .ok u w ∧ VRel inj z u := by
  obtain ⟨i, v, hi, hz, hl⟩ := hE.zero _ _ h
  exact ⟨v, r_zero hi hz, lift_rel hl⟩

theorem buildL_sound (hE : E.Ok) {t : TypeId} {z : LV} {ps : Array (Nat × Operand)} {l : List (Nat × LV)} (hx : ∀ x ∈ ps.toList.map (·.2), XRel inj fr a x) (hl : evalParts fr ps.toList = some l)
    (h : buildL E t l = some z) : ValOut E inj z w (Instr.build t (ps.map fun (i, x) => (i, a.eval x))) := by
  obtain ⟨hi, hv⟩ := evalParts_rel hx hl
  have hps : (ps.map fun (i, x) => (i, a.eval x)).toList = ps.toList.map fun p => (p.1, a.eval p.2) := by simp
  unfold buildL at h
  split at h
  · rename_i zz hz
    obtain ⟨u, hu, hr⟩ := zero_sound hE (inj := inj) (w := w) hz
    split at h
    · rename_i fields hun
      split at h
      · rename_i pl hpl
        cases hf : fillL (pl[·]?) zz.cells l with
        | none => simp [hf] at h
        | some cs =>
          simp [hf] at h; subst h
          obtain ⟨rs, h1, h2⟩ := run_fill hf hr.cells hi hv
          refine ⟨.agg rs, ?_, by simp only [VRel]; exact ⟨_, rfl, h2⟩⟩
          have hp := run_places hE (w := w) hpl
          simp only [Instr.build, Sem.run_bind, hu, Result.andThen_ok, r_und (hE.und _ _ hun), Array.mapM_eq_mapM_toList, Sem.run_map]
          rw [hp]
          simp only [Result.andThen_ok, hps]
          have : (fun (x : Nat) => (pl.toArray)[x]?) = (fun (x : Nat) => pl[x]?) := by funext x; simp
          rw [this, h1]
          simp
      · cases h
    · rename_i n e hun
      split at h
      · rename_i sz hsz
        obtain ⟨i, hi', hs⟩ := hE.size _ _ hsz
        cases hf : fillL (fun i => some (i * sz, sz)) zz.cells l with
        | none => simp [hf] at h
        | some cs =>
          simp [hf] at h; subst h
          obtain ⟨rs, h1, h2⟩ := run_fill hf hr.cells hi hv
          refine ⟨.agg rs, ?_, by simp only [VRel]; exact ⟨_, rfl, h2⟩⟩
          simp only [Instr.build, Sem.run_bind, hu, Result.andThen_ok, r_und (hE.und _ _ hun), r_size hi', hs, hps, h1]
          simp
      · cases h
    · cases h
  · cases h
end
end Go.Proofs.Ytpkeggejofeeeaa.Lvm
