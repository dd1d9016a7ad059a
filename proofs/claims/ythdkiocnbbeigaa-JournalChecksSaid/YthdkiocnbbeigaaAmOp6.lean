/- The abstract machine is sound: the operations, sixth part: composite literals, conversions, make. -/
import Derived.Test.YthdkiocnbbeigaaAmOp5
namespace Go.AM
set_option linter.unusedVariables false
set_option linter.unusedSimpArgs false

variable {P : Program} {ι : IM} {s s' : AS} {w : World} {ρ : Opd → AV} {σ : Operand → Value} {o : Oper} {v : AV}

theorem putAt_cons {α : Type} (l : List α) (o : Nat) (v : α) (vs : List α) : putAt (l.set o v) (o + 1) vs = putAt l o (v :: vs) := by
  apply List.ext_getElem?
  intro i
  rw [putAt_get, putAt_get]
  simp only [List.length_set, List.length_cons]
  by_cases h : o + 1 ≤ i ∧ i < o + 1 + vs.length ∧ i < l.length
  · rw [if_pos h, if_pos (by omega), show i - o = (i - (o + 1)) + 1 by omega]; simp
  · rw [if_neg h, List.getElem?_set]
    by_cases e : o = i
    · subst e
      by_cases hl : o < l.length
      · rw [if_pos rfl, if_pos hl, if_pos (by omega)]; simp
      · rw [if_pos rfl, if_neg hl, if_neg (by omega), List.getElem?_eq_none (by omega)]
    · rw [if_neg e, if_neg (by omega)]

theorem putAt_nil {α : Type} (l : List α) (o : Nat) : putAt l o [] = l := by cases l <;> simp [putAt]

theorem VRs.size {l : List AV} {c : Array Value} (h : VRs ι l c.toList) : l.length = c.size := by have := h.length; simpa using this

theorem foldPut (off : Nat) : ∀ (l : List Value) (k : Nat) (c : Array Value), ((l.zipIdx k).foldl (fun cs (x : Value × Nat) => cs.setIfInBounds (off + x.2) x.1) c).toList = putAt c.toList (off + k) l
  | [], k, c => by simp [putAt_nil]
  | v :: l, k, c => by
    simp only [List.zipIdx_cons, List.foldl_cons]
    rw [foldPut off l (k + 1), Array.toList_setIfInBounds, ← Nat.add_assoc, putAt_cons]

theorem VRs.putAt {cs xs : List AV} {us vs : List Value} (h : VRs ι cs us) (k : VRs ι xs vs) (o : Nat) : VRs ι (AM.putAt cs o xs) (AM.putAt us o vs) := by
  have h1 := h.length
  have k1 := k.length
  refine VRs.ofGet (by rw [putAt_length, putAt_length, h1]) (fun i a v ha hv => ?_)
  rw [putAt_get] at ha hv
  rw [← h1, ← k1] at hv
  by_cases e : o ≤ i ∧ i < o + xs.length ∧ i < cs.length
  · rw [if_pos e] at ha hv
    obtain ⟨u, hu, hr⟩ := k.get ha
    obtain rfl := Option.some.inj (hu.symm.trans hv)
    exact hr
  · rw [if_neg e] at ha hv
    obtain ⟨u, hu, hr⟩ := h.get ha
    obtain rfl := Option.some.inj (hu.symm.trans hv)
    exact hr

theorem fill_ok {place : Nat → Option (Nat × Nat)} : ∀ (ps : List (Nat × Operand)) (ps' : List (Nat × Nat × Opd)) (cs cs' : List AV) (c : Array Value),
    (∀ (i : Nat), (ps[i]?).isSome = (ps'[i]?).isSome) → (∀ (i j : Nat) (x : Operand) (off z : Nat) (x' : Opd), ps[i]? = some (j, x) → ps'[i]? = some (off, z, x') → place j = some (off, z) ∧ cOpd x = some x') → OR ι ρ σ →
    VRs ι cs c.toList → fillL cs (partsOf ρ ps') = some cs' → ∃ c', Instr.fill place c (ps.map fun p => (p.1, σ p.2)) = some c' ∧ VRs ι cs' c'.toList
  | [], [], cs, cs', c, _, _, _, hR, h => by
    simp [partsOf, fillL] at h; subst h
    exact ⟨c, rfl, hR⟩
  | [], p :: ps', _, _, _, h, _, _, _, _ => by have := h 0; simp at this
  | p :: ps, [], _, _, _, h, _, _, _, _ => by have := h 0; simp at this
  | (j, x) :: ps, (off, z, x') :: ps', cs, cs', c, hl, hp, hO, hR, h => by
    obtain ⟨g1, g2⟩ := hp 0 j x off z x' rfl rfl
    have hv := hO _ _ g2
    simp only [partsOf, fillL] at h
    cases hc : ((ρ x').cells.length == z && Nat.ble (off + z) cs.length) && (ρ x').cells.all AV.one with
    | false => simp [hc] at h
    | true =>
      simp only [hc, cond_true] at h
      simp only [Bool.and_eq_true, beq_iff_eq] at hc
      obtain ⟨⟨c1, c2⟩, c3⟩ := hc
      have hcs := hv.cells c3
      have hlen := hcs.length
      have hlen2 := hR.length
      have hsz : (σ x).cells.size = z := by rw [← Array.length_toList, ← hlen]; exact c1
      have hle := Nat.le_of_ble_eq_true c2
      have hcsz : cs.length = c.size := by rw [hlen2, Array.length_toList]
      obtain ⟨c', k1, k2⟩ := fill_ok ps ps' _ _ ((σ x).cells.zipIdx.foldl (fun cs (x : Value × Nat) => cs.setIfInBounds (off + x.2) x.1) c)
        (fun i => by simpa using hl (i + 1)) (fun i j x o z x' a b => hp (i + 1) j x o z x' (by simpa using a) (by simpa using b)) hO
        (by
          have : ((σ x).cells.zipIdx.foldl (fun cs (x : Value × Nat) => cs.setIfInBounds (off + x.2) x.1) c).toList = putAt c.toList off (σ x).cells.toList := by
            rw [← Array.foldl_toList, Array.toList_zipIdx]
            exact foldPut off _ 0 c
          rw [this]; exact hR.putAt hcs off) h
      refine ⟨c', ?_, k2⟩
      simp only [List.map_cons, Instr.fill, g1]
      rw [if_neg]
      · exact k1
      · simp only [Bool.or_eq_true, decide_eq_true_eq, not_or, ne_eq, Decidable.not_not]
        omega

theorem elemParts_ok {z : Nat} : ∀ (ps : List (Nat × Operand)) (ps' : List (Nat × Nat × Opd)), elemParts z ps = some ps' →
    (∀ (i : Nat), (ps[i]?).isSome = (ps'[i]?).isSome) ∧ (∀ (i j : Nat) (x : Operand) (off z' : Nat) (x' : Opd), ps[i]? = some (j, x) → ps'[i]? = some (off, z', x') → some (j * z, z) = some (off, z') ∧ cOpd x = some x')
  | [], ps', h => by simp [elemParts] at h; subst h; simp
  | (j, x) :: ps, ps', h => by
    simp only [elemParts] at h
    split at h <;> try (simp at h; done)
    rename_i a l h1 h2
    simp at h; subst h
    obtain ⟨g1, g2⟩ := elemParts_ok ps l h2
    refine ⟨fun i => ?_, fun i => ?_⟩
    · cases i with
      | zero => simp
      | succ i => simpa using g1 i
    · cases i with
      | zero => intro j x off z' x' a b; simp at a b; obtain ⟨rfl, rfl⟩ := a; obtain ⟨rfl, rfl, rfl⟩ := b; exact ⟨rfl, h1⟩
      | succ i => intro j x off z' x' a b; exact g2 i j x off z' x' (by simpa using a) (by simpa using b)

theorem fieldParts_ok {pl : List (Nat × Nat)} : ∀ (ps : List (Nat × Operand)) (ps' : List (Nat × Nat × Opd)), fieldParts pl ps = some ps' →
    (∀ (i : Nat), (ps[i]?).isSome = (ps'[i]?).isSome) ∧ (∀ (i j : Nat) (x : Operand) (off z' : Nat) (x' : Opd), ps[i]? = some (j, x) → ps'[i]? = some (off, z', x') → pl[j]? = some (off, z') ∧ cOpd x = some x')
  | [], ps', h => by simp [fieldParts] at h; subst h; simp
  | (j, x) :: ps, ps', h => by
    simp only [fieldParts] at h
    split at h <;> try (simp at h; done)
    rename_i o z a l h0 h1 h2
    simp at h; subst h
    obtain ⟨g1, g2⟩ := fieldParts_ok ps l h2
    refine ⟨fun i => ?_, fun i => ?_⟩
    · cases i with
      | zero => simp
      | succ i => simpa using g1 i
    · cases i with
      | zero => intro j x off z' x' a b; simp at a b; obtain ⟨rfl, rfl⟩ := a; obtain ⟨rfl, rfl, rfl⟩ := b; exact ⟨h0, h1⟩
      | succ i => intro j x off z' x' a b; exact g2 i j x off z' x' (by simpa using a) (by simpa using b)

theorem places_run : ∀ (fs : List Field) (pl : List (Nat × Nat)), placesOf P fs = some pl → (fs.mapM (m := Sem) fun f => do pure (f.offset, ← sizeOf f.type)).run P w = .ok pl w
  | [], pl, h => by simp [placesOf] at h; subst h; simp
  | f :: fs, pl, h => by
    simp only [placesOf] at h
    split at h <;> try (simp at h; done)
    rename_i z l h1 h2
    simp at h; subst h
    have := places_run fs l h2
    simp only [List.mapM_cons, Sem.run_bind, szOf_run h1, Result.andThen_ok, Sem.run_pure, this]

theorem ok_build {t : TypeId} {ps : Array (Nat × Operand)} {ao : AOp} (ho : o.op = .build t ps) (hc : cOp P o.op = some ao) (hO : OR ι ρ σ) (hR : R P ι s w) (ha : aop ρ ao s = some (v, s')) :
    OpOk P (execOp σ o) ι s w v s' ao.quiet := by
  rw [ho] at hc
  simp only [cOp] at hc
  have hx : execOp σ o = (do pure (.value (← Instr.build t (ps.map fun p => (p.1, σ p.2))))) := by simp [execOp, ho]
  rw [hx]
  have hpm : (ps.map fun p => (p.1, σ p.2)).toList = ps.toList.map fun p => (p.1, σ p.2) := by simp
  split at hc <;> try (simp at hc; done)
  · rename_i fs zero hu hz
    split at hc <;> try (simp at hc; done)
    rename_i pl hpl
    simp only [Option.map_eq_some_iff] at hc
    obtain ⟨ps', hps, rfl⟩ := hc
    obtain ⟨z, a, h1, rfl, h2⟩ := zsOf_run hz
    simp only [aop] at ha
    cases hf : fillL a.cells (partsOf ρ ps') with
    | none => simp [hf] at ha
    | some cs =>
      simp only [hf] at ha
      obtain ⟨rfl, rfl⟩ := some2 ha
      obtain ⟨g1, g2⟩ := fieldParts_ok _ _ hps
      obtain ⟨c', k1, k2⟩ := fill_ok (place := fun i => pl.toArray[i]?) ps.toList ps' a.cells cs z.cells g1 (fun i j x off z x' a b => by simpa using g2 i j x off z x' a b) hO (cVal_ok h1 ι).2.1 hf
      have hag := VR.ag k2
      rw [Array.toArray_toList] at hag
      refine OpOk.value (vv := .agg c') ?_ hag (.refl hR) fun _ => ⟨rfl, rfl, rfl⟩
      simp only [Instr.build, Sem.run_bind, h2, Result.andThen_ok, run_underlying hu, Array.mapM_eq_mapM_toList, Sem.run_map, places_run fs.toList pl hpl, hpm]
      rw [k1]
      rfl
  · rename_i n e zero hu hz
    split at hc <;> try (simp at hc; done)
    rename_i z hz2
    simp only [Option.map_eq_some_iff] at hc
    obtain ⟨ps', hps, rfl⟩ := hc
    obtain ⟨zv, a, h1, rfl, h2⟩ := zsOf_run hz
    simp only [aop] at ha
    cases hf : fillL a.cells (partsOf ρ ps') with
    | none => simp [hf] at ha
    | some cs =>
      simp only [hf] at ha
      obtain ⟨rfl, rfl⟩ := some2 ha
      obtain ⟨g1, g2⟩ := elemParts_ok _ _ hps
      obtain ⟨c', k1, k2⟩ := fill_ok (place := fun i => some (i * z, z)) ps.toList ps' a.cells cs zv.cells g1 g2 hO (cVal_ok h1 ι).2.1 hf
      have hag := VR.ag k2
      rw [Array.toArray_toList] at hag
      refine OpOk.value (vv := .agg c') ?_ hag (.refl hR) fun _ => ⟨rfl, rfl, rfl⟩
      simp only [Instr.build, Sem.run_bind, h2, Result.andThen_ok, run_underlying hu, szOf_run hz2, hpm]
      rw [k1]
      rfl

theorem repCells_length {α : Type} : ∀ (n : Nat) (z : List α), (repCells n z).length = n * z.length
  | 0, z => by simp [repCells]
  | n + 1, z => by simp only [repCells, List.length_append, repCells_length n z, Nat.add_mul, Nat.one_mul]; omega

theorem repCells_get {α : Type} : ∀ (n : Nat) (z : List α) (i : Nat), i < n * z.length → (repCells n z)[i]? = z[i % z.length]?
  | 0, z, i, h => by simp at h
  | n + 1, z, i, h => by
    simp only [repCells]
    by_cases hi : i < z.length
    · rw [List.getElem?_append_left hi, Nat.mod_eq_of_lt hi]
    · rw [List.getElem?_append_right (by omega), repCells_get n z (i - z.length) (by simp only [Nat.add_mul, Nat.one_mul] at h; omega)]
      rw [Nat.mod_eq_sub_mod (by omega : i ≥ z.length)]

theorem rep_ok {zs : List AV} {z : Array Value} (h : VRs ι zs z.toList) (n : Nat) : VRs ι (repCells n zs) ((Array.range (n * z.size)).map (fun i => z[i % z.size]!)).toList := by
  have hl : zs.length = z.size := h.size
  refine VRs.ofGet (by simp [repCells_length, hl]) (fun i a v ha hv => ?_)
  have hi : i < n * zs.length := by
    rcases Nat.lt_or_ge i (n * zs.length) with g | g
    · exact g
    · rw [List.getElem?_eq_none (by rw [repCells_length]; exact g)] at ha; cases ha
  rw [repCells_get n zs i hi] at ha
  obtain ⟨u, hu, hr⟩ := h.get ha
  have : v = u := by
    have hv' : ((Array.range (n * z.size)).map (fun i => z[i % z.size]!))[i]? = some v := by rw [← Array.getElem?_toList]; exact hv
    rw [hl] at hi
    simp [hi] at hv'
    rw [hl] at hu
    have : z[i % z.size]? = some u := by simpa using hu
    rw [← hv', Array.getElem!_eq_getD, Array.getD_eq_getD_getElem?, this]; rfl
  rw [this]; exact hr

theorem ok_bsl {t : TypeId} {len : Nat} {ps : Array (Nat × Operand)} {ao : AOp} (ho : o.op = .buildSlice t len ps) (hc : cOp P o.op = some ao) (hO : OR ι ρ σ) (hR : R P ι s w) (ha : aop ρ ao s = some (v, s')) :
    OpOk P (execOp σ o) ι s w v s' ao.quiet := by
  rw [ho] at hc
  simp only [cOp] at hc
  have hx : execOp σ o = (do pure (.value (← Instr.buildSlice t len (ps.map fun p => (p.1, σ p.2))))) := by simp [execOp, ho]
  rw [hx]
  have hpm : (ps.map fun p => (p.1, σ p.2)).toList = ps.toList.map fun p => (p.1, σ p.2) := by simp
  split at hc <;> try (simp at hc; done)
  rename_i e hu
  split at hc <;> try (simp at hc; done)
  rename_i z zero hz hzs
  cases hcond : Nat.ble (len * z) 16777216 && !(z == 0) && zero.length == z with
  | false => simp [hcond] at hc
  | true =>
    simp only [hcond, cond_true, Option.map_eq_some_iff] at hc
    obtain ⟨ps', hps, rfl⟩ := hc
    simp only [Bool.and_eq_true, beq_iff_eq, Bool.not_eq_true', beq_eq_false_iff_ne] at hcond
    obtain ⟨⟨c1, c2⟩, c3⟩ := hcond
    have c1' := Nat.le_of_ble_eq_true c1
    obtain ⟨zv, a, h1, rfl, h2⟩ := zsOf_run hzs
    simp only [aop] at ha
    cases hf : fillL (repCells len a.cells) (partsOf ρ ps') with
    | none => simp [hf] at ha
    | some cs =>
      simp only [hf] at ha
      obtain ⟨rfl, rfl⟩ := some2 ha
      obtain ⟨g1, g2⟩ := elemParts_ok _ _ hps
      have hzz := (cVal_ok h1 ι).2.1
      have hzl : zv.cells.size = z := by have := hzz.size; omega
      obtain ⟨c', k1, k2⟩ := fill_ok (place := fun i => some (i * z, z)) ps.toList ps' _ cs ((Array.range (len * zv.cells.size)).map (fun i => zv.cells[i % zv.cells.size]!)) g1 g2 hO (rep_ok hzz len) hf
      have he := newRow_ok hR e (cs := cs) (c := c') (us := c'.toList) (rest := []) (by simp) k2 (w' := w.alloc (.cells c' e)) rfl rfl rfl rfl
      have hcsz : c'.size = len * z := by
        have hfl : ∀ (cs : List AV) (l : List (Nat × Nat × AV)) (r : List AV), fillL cs l = some r → r.length = cs.length := by
          intro cs l
          induction l generalizing cs with
          | nil => intro r h; simp [fillL] at h; rw [h]
          | cons p l ih =>
            obtain ⟨p1, p2, p3⟩ := p
            intro r h
            simp only [fillL] at h
            cases hb : (p3.cells.length == p2 && Nat.ble (p1 + p2) cs.length) && p3.cells.all AV.one
            · simp [hb] at h
            · simp only [hb, cond_true] at h
              rw [ih _ _ h, putAt_length]
        have := hfl _ _ _ hf
        rw [repCells_length, c3] at this
        have h4 := k2.size
        omega
      refine OpOk.value (vv := .slice (some ⟨w.heap.size, 0, none⟩) len len) ?_ ?_ he (by simp [AOp.quiet])
      · simp only [Instr.buildSlice, Sem.run_bind, run_underlying hu, Result.andThen_ok, szOf_run hz]
        rw [if_neg (by omega)]
        by_cases hl0 : len * z = 0
        · have hlen0 : len = 0 := by
            rcases Nat.mul_eq_zero.1 hl0 with h | h
            · exact h
            · exact absurd h c2
          subst hlen0
          have hnil : ((Array.range (0 * zv.cells.size)).map (fun i => zv.cells[i % zv.cells.size]!)) = ((Array.range (0 * z)).map (fun i => (#[] : Array Value)[i % (#[] : Array Value).size]!)) := by simp
          rw [hnil] at k1
          simp only [hpm, if_pos hl0, Sem.run_pure, Result.andThen_ok, k1, Sem.run_bind, newRow_run]
        · rw [hzl] at k1
          simp only [hpm, if_neg hl0, Sem.run_bind, h2, Sem.run_pure, Result.andThen_ok, hzl, k1, newRow_run]
      · refine VR.sl (L := ⟨w.heap.size, 0, c'.size⟩) (IM.set_same _ _ _) (Nat.le_refl _) (Nat.le_refl _) (fun _ => rfl) (.inr ⟨rfl, ?_⟩)
        simp only; omega

end Go.AM
