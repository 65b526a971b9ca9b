/- Laws of the small machine and of how it stands to the model; a helper of the statements: no statement is proved here. -/
import Derived.Test.YtpkeggejofeeeaaS10
namespace Go.Proofs.Ytpkeggejofeeeaa.Lvm
section
variable {E : Env} {B : Nat} {inj : Inj} {st st' : LSt} {w : World} {fr : LFr} {a : Act} {lo : Nat}

/-- A store that gives a value, too. -/
def StoreVOut (E : Env) (inj : Inj) (lo : Nat) (st : LSt) (w : World) (v : LV) (st' : LSt) (s : Sem Value) : Prop :=
  ∃ L q old o ob w' u, lo ≤ L ∧ inj L = some q ∧ st.mem.get L = some old ∧ old ≠ .dead ∧ o ≠ .dead ∧ st' = { st with mem := st.mem.set L o } ∧ s.run E.P w = .ok u w' ∧
    w'.heap = w.heap.setIfInBounds q.1 ob ∧ Alike3 w w' ∧ ORel E inj o (some ob) q.2 ∧ VRel inj v u

theorem map_set {kt : TypeId} {es : List (LV × LV)} {c : Array MapEntry} {clk : Nat} {i : Nat} {k y : LV} {f : MapEntry → MapEntry} (h2 : ERels inj es c.toList)
    (h3 : ∀ p ∈ es, keyOk E kt p.1 = some true) (h4 : clk = es.length) (h5 : ∀ (i : Nat) (e : MapEntry), c.toList[i]? = some e → e.born = i) (hk : keyOk E kt k = some true)
    (hf : ∀ e, c.toList[i]? = some e → VRel inj k (f e).key ∧ VRel inj y (f e).val) (hb : ∀ e, (f e).born = e.born) (n : Nat) :
    ORel E inj (.map kt (es.set i (k, y))) (some (.map (c.modify i f) clk)) n := by
  refine ⟨_, _, rfl, ?_, ?_, by simpa using h4, ?_⟩
  · rw [Array.toList_modify]; exact h2.set i f hf
  · intro p' hp'
    rcases List.mem_or_eq_of_mem_set hp' with hp' | rfl
    · exact h3 p' hp'
    · exact hk
  · intro j e he
    rw [Array.toList_modify, List.getElem?_modify] at he
    cases hc : c.toList[j]? with
    | none => rw [hc] at he; simp at he
    | some e0 =>
      rw [hc] at he
      have := h5 j e0 hc
      simp at he
      subst he
      split
      · rw [hb]; exact this
      · exact this

theorem map_push {kt : TypeId} {es : List (LV × LV)} {c : Array MapEntry} {clk : Nat} {k y : LV} {kv u : Value} (h2 : ERels inj es c.toList)
    (h3 : ∀ p ∈ es, keyOk E kt p.1 = some true) (h4 : clk = es.length) (h5 : ∀ (i : Nat) (e : MapEntry), c.toList[i]? = some e → e.born = i) (hkey : keyOk E kt k = some true)
    (hk : VRel inj k kv) (hy : VRel inj y u) (n : Nat) :
    ORel E inj (.map kt (es ++ [(k, y)])) (some (.map (c.push { key := kv, val := u, born := clk }) (clk + 1))) n := by
  have hl := h2.length
  simp only [Array.length_toList] at hl
  refine ⟨_, _, rfl, ?_, ?_, by simp [h4], ?_⟩
  · rw [Array.toList_push]
    exact h2.push hk hy
  · intro p' hp'
    rcases List.mem_append.1 hp' with hp' | hp'
    · exact h3 p' hp'
    · simp at hp'; subst hp'; exact hkey
  · intro j e he
    rw [Array.toList_push, List.getElem?_append] at he
    split at he
    · exact h5 j e he
    · rename_i hj
      simp at hj
      have hj' : j = c.size := by
        by_cases e0 : j - c.toList.length = 0
        · simp at e0; omega
        · rw [List.getElem?_eq_none (by simp; simp at e0; omega)] at he; cases he
      subst hj'
      simp at he
      subst he
      simp [h4, hl]

theorem mapEntryL_sound (hE : E.Ok) (hm : Emb E B inj st w) {t : TypeId} {x k z : LV} {v kv : Value} (h : mapEntryL E lo st t x k = some (z, st')) (hx : VRel inj x v) (hk : VRel inj k kv) :
    StoreVOut E inj lo st w z st' (Instr.mapEntry t v kv) := by
  unfold mapEntryL at h
  split at h
  · rename_i kt et hu
    have hu := hE.und _ _ hu
    split at h
    · rename_i hkey
      split at h
      · rename_i m
        simp only [VRel] at hx
        obtain ⟨r, n, hq, rfl⟩ := hx
        cases hlo : Nat.ble lo m with
        | false => rw [hlo] at h; simp at h
        | true =>
          rw [hlo] at h; simp only [cond_true] at h
          split at h
          · rename_i kt' es hes
            obtain ⟨c, clk, h1, h2, h3, h4, h5⟩ := hm.obj _ _ _ hq hes
            simp only at h1
            cases hb : Nat.beq kt' kt with
            | false => rw [hb] at h; simp at h
            | true =>
              have hb := Nat.eq_of_beq_eq_true hb
              subst hb
              rw [Nat.beq_refl] at h
              simp only [cond_true] at h
              obtain ⟨res, g1, g2⟩ := find_sound (w := w) hE hkey hk h2 h3
              have hl := h2.length
              simp only [Array.length_toList] at hl
              split at h
              · rename_i i x0 hf
                obtain ⟨_, p, e1, e2, e3⟩ := findL_some hf
                simp only [FindRes, hf] at g2
                obtain ⟨v0, rfl, hv0⟩ := g2
                simp only [Nat.sub_zero] at e1
                obtain ⟨en, k1, k2, k3⟩ := h2.get? e1
                have hst := stays_flat (w := w) hE hkey hk (h3 p (List.mem_of_getElem? e1)) k2 e2
                simp only [setObjK_eq, Option.some.injEq, Prod.mk.injEq] at h
                obtain ⟨rfl, rfl⟩ := h
                have k1' : c[i]? = some en := by simpa using k1
                have hborn := h5 i en k1
                refine ⟨m, (r, n), _, _, .map (c.modify i fun e => { e with key := kv }) clk, { w with heap := w.heap.setIfInBounds r (.map (c.modify i fun e => { e with key := kv }) clk) }, .tuple #[v0, goInt i], Nat.le_of_ble_eq_true hlo, hq, hes, by simp, by simp, rfl, ?_, rfl, ⟨rfl, rfl, rfl⟩, ?_, ?_⟩
                · simp only [Instr.mapEntry, Sem.run_bind, r_und hu, Result.andThen_ok, run_map h1, chk_ok hE hkey hk, g1, k1', Option.map_some, Option.getD_some, hst, hborn]
                  simp [setObj, Sem.run, h1]
                · refine map_set (f := fun e => { e with key := kv }) h2 h3 h4 h5 hkey (fun e he => ⟨hk, ?_⟩) (fun _ => rfl) n
                  rw [k1] at he; simp only [Option.some.injEq] at he; subst he
                  rw [← e3]; exact k3
                · simp only [VRel]; exact ⟨_, rfl, by simpa using VRels.cons hv0 (VRels.cons (by simp [VRel, goInt]) VRels.nil)⟩
              · rename_i hf
                simp only [FindRes, hf] at g2
                subst g2
                split at h
                · rename_i z0 hz0
                  obtain ⟨iz, vz, hi, hiz, hlz⟩ := hE.zero _ _ hz0
                  have hz := r_zero (w := w) hi hiz
                  have hvz : VRel inj z0 vz := lift_rel hlz
                  simp only [setObjK_eq, Option.some.injEq, Prod.mk.injEq] at h
                  obtain ⟨rfl, rfl⟩ := h
                  refine ⟨m, (r, n), _, _, .map (c.push { key := kv, val := vz, born := clk }) (clk + 1), { w with heap := w.heap.setIfInBounds r (.map (c.push { key := kv, val := vz, born := clk }) (clk + 1)) }, .tuple #[vz, goInt clk], Nat.le_of_ble_eq_true hlo, hq, hes, by simp, by simp, rfl, ?_, rfl, ⟨rfl, rfl, rfl⟩, map_push h2 h3 h4 h5 hkey hk hvz n, ?_⟩
                  · simp only [Instr.mapEntry, Sem.run_bind, r_und hu, Result.andThen_ok, run_map h1, chk_ok hE hkey hk, g1, hz]
                    simp [setObj, Sem.run, h1]
                  · simp only [VRel]; exact ⟨_, rfl, by simpa using VRels.cons hvz (VRels.cons (by simp [VRel, goInt, h4]) VRels.nil)⟩
                · cases h
          · cases h
      · cases h
    · cases h
  · cases h

theorem natOf_rel {x : LV} {n : Nat} {v : Value} (h : natOf x = some n) (hx : VRel inj x v) : ∃ k, v = .int k n := by
  unfold natOf at h
  split at h
  · simp only [Option.some.injEq] at h; subst h; simp only [VRel] at hx; exact ⟨_, hx⟩
  · cases h

theorem entryStoreL_sound (hm : Emb E B inj st w) {t : TypeId} {x p y : LV} {v pv u : Value} (h : entryStoreL lo st x p y = some st') (hx : VRel inj x v) (hp : VRel inj p pv) (hy : VRel inj y u) :
    StoreOut E inj lo st w st' (Instr.entryStore t v pv u) := by
  unfold entryStoreL at h
  split at h
  · rename_i m
    simp only [VRel] at hx
    obtain ⟨r, n, hq, rfl⟩ := hx
    split at h
    · rename_i i hi
      obtain ⟨kk, rfl⟩ := natOf_rel hi hp
      cases hlo : Nat.ble lo m with
      | false => rw [hlo] at h; simp at h
      | true =>
        rw [hlo] at h; simp only [cond_true] at h
        split at h
        · rename_i kt es hes
          obtain ⟨c, clk, h1, h2, h3, h4, h5⟩ := hm.obj _ _ _ hq hes
          simp only at h1
          split at h
          · rename_i k0 v0 he
            simp only [setObjK_eq, Option.some.injEq] at h
            obtain ⟨en, k1, k2, k3⟩ := h2.get? he
            have k1' : c[i]? = some en := by simpa using k1
            have hlt : i < c.size := (Array.getElem?_eq_some_iff.1 k1').1
            have hfind : c.findIdx? (fun e => (e.born : Int) == (i : Int)) = some i := by
              rw [Array.findIdx?_eq_some_iff_getElem]
              refine ⟨hlt, ?_, fun j hj => ?_⟩
              · have := h5 i c[i] (by simp [hlt])
                simp [this]
              · have := h5 j (c[j]'(by omega)) (by simp)
                simp [this]; omega
            refine ⟨m, (r, n), _, _, .map (c.modify i fun e => { e with val := u }) clk, { w with heap := w.heap.setIfInBounds r (.map (c.modify i fun e => { e with val := u }) clk) }, Nat.le_of_ble_eq_true hlo, hq, hes, by simp, by simp, h.symm, ?_, rfl, ⟨rfl, rfl, rfl⟩, ?_⟩
            · simp only [Instr.entryStore, Sem.run_bind, Result.andThen_ok, run_map h1, asInt, Sem.run_pure]
              simp [asIntOf, hfind, setObj, Sem.run, h1]
            · refine map_set (f := fun e => { e with val := u }) h2 h3 h4 h5 (h3 _ (List.mem_of_getElem? he)) (fun e hee => ⟨?_, hy⟩) (fun _ => rfl) n
              rw [k1] at hee; simp only [Option.some.injEq] at hee; subst hee
              exact k2
          · cases h
        · cases h
    · cases h
  · cases h

theorem rangeL_sound (hE : E.Ok) (hm : Emb E B inj st w) {t : TypeId} {x z : LV} {v : Value} (h : rangeL E st t x = some (z, st')) (hx : VRel inj x v) : FreshOut E inj st w z st' (Instr.range t v) := by
  unfold rangeL at h
  split at h
  · rename_i kt et hu
    have hu := hE.und _ _ hu
    split at h
    · rename_i m
      simp only [VRel] at hx
      obtain ⟨r, n, hq, rfl⟩ := hx
      split at h
      · rename_i kt' es hes
        obtain ⟨c, clk, h1, h2, h3, h4, h5⟩ := hm.obj _ _ _ hq hes
        simp only at h1
        rw [newK_eq] at h
        simp only [Option.some.injEq, Prod.mk.injEq] at h
        obtain ⟨rfl, rfl⟩ := h
        refine ⟨.iter m es.length none, .mapIter (some r) clk #[] clk, 0, .pointer (some ⟨w.heap.size, 0, none⟩), w.alloc (.mapIter (some r) clk #[] clk), rfl, ?_, rfl, ⟨rfl, rfl, rfl⟩, fun inj' hx hn => ⟨?_, ?_⟩⟩
        · simp only [Instr.range, Sem.run_bind, r_und hu, Result.andThen_ok, run_map h1, Sem.run_pure]
          simp [newObj, Sem.run]
        · simp only [VRel]; exact ⟨_, ⟨0, hn⟩, rfl⟩
        · exact ⟨r, n, #[], hx _ _ hq, by rw [h4], rfl⟩
      · cases h
    · cases h
  · cases h

theorem entryL_sound (hm : Emb E B inj st w) {x z : LV} {v : Value} (h : entryL st x = some z) (hx : VRel inj x v) : ValOut E inj z w (Instr.entry v) := by
  unfold entryL at h
  split at h
  · rename_i L
    simp only [VRel] at hx
    obtain ⟨b, ⟨nn, hq⟩, rfl⟩ := hx
    split at h
    · rename_i m len i hit
      obtain ⟨r, c, seen, h1, h2, h3⟩ := hm.obj _ _ _ hq hit
      simp only at h2
      split at h
      · rename_i kt es hes
        obtain ⟨c', clk, g1, g2, g3, g4, g5⟩ := hm.obj _ _ _ h1 hes
        simp only at g1
        cases hb : Nat.beq es.length len with
        | false => rw [hb] at h; simp at h
        | true =>
          have hb := Nat.eq_of_beq_eq_true hb
          subst hb
          rw [Nat.beq_refl] at h; simp only [cond_true] at h
          split at h
          · rename_i k y he
            simp only [Option.some.injEq] at h; subst h
            obtain ⟨en, k1, k2, k3⟩ := g2.get? he
            have hfind : c'.find? (fun e => e.born == i) = some en := by
              rw [← Array.find?_toList, List.find?_eq_some_iff_getElem]
              obtain ⟨hlt, he'⟩ := List.getElem?_eq_some_iff.1 k1
              refine ⟨by simp [g5 i en k1], i, hlt, he', fun j hj => ?_⟩
              have := g5 j (c'.toList[j]'(by omega)) (List.getElem?_eq_getElem _)
              simp only [this]; simp; omega
            refine ⟨.tuple #[en.key, en.val], ?_, by simp only [VRel]; exact ⟨_, rfl, by simpa using VRels.cons k2 (VRels.cons k3 VRels.nil)⟩⟩
            have hit2 : (getObj b).run E.P w = .ok (.mapIter (some r) es.length seen es.length) w := by simp [getObj, Sem.run, h2]
            simp only at h3
            simp only [Instr.entry, Sem.run_bind, hit2, Result.andThen_ok, h3, run_map g1, g4, hfind]
            simp
          · cases h
      · cases h
    · cases h
  · cases h
end
end Go.Proofs.Ytpkeggejofeeeaa.Lvm
