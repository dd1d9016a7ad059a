/- The abstract machine is sound: the operations, fourth part: addresses, slices' bounds, loads, stores, new blocks. -/
import Derived.Test.YthdkiocnbbeigaaAmOp3
namespace Go.AM
set_option linter.unusedVariables false
set_option linter.unusedSimpArgs false

variable {P : Program} {ι : IM} {s s' : AS} {w : World} {ρ : Opd → AV} {σ : Operand → Value} {o : Oper} {v : AV}

theorem ok_load {t : TypeId} {x : Operand} {ao : AOp} (ho : o.op = .load t x) (hc : cOp P o.op = some ao) (hO : OR ι ρ σ) (hR : R P ι s w) (ha : aop ρ ao s = some (v, s')) :
    OpOk P (execOp σ o) ι s w v s' ao.quiet := by
  rw [ho] at hc
  simp only [cOp] at hc
  split at hc <;> try (simp at hc; done)
  rename_i g z x' hg hz hx'
  simp at hc; subst hc
  have hv := hO _ _ hx'
  have hx : execOp σ o = (do pure (.value (← Instr.loadAt t (σ x)))) := by simp [execOp, ho]
  rw [hx]
  simp only [aop] at ha
  split at ha <;> (try (simp only [reduceCtorEq] at ha; done))
  rename_i q off e
  rw [e] at hv
  generalize hq : σ x = u at hv
  cases hv with
  | p hL =>
    rename_i L
    split at ha <;> (try (simp only [reduceCtorEq] at ha; done))
    rename_i wr cs hb
    cases g with
    | true =>
      cases hcut : cut cs off z with
      | none => simp [hcut] at ha
      | some r =>
        simp only [hcut, cond_true] at ha
        obtain ⟨rfl, rfl⟩ := some2 ha
        obtain ⟨us, g1, g2, _⟩ := readRow hR hb hcut hL
        refine OpOk.value (vv := .agg us.toArray) ?_ (.ag g2) (.refl hR) fun _ => ⟨rfl, rfl, rfl⟩
        simp [Instr.loadAt, Instr.sureAddr, loadVar, aggOf_run hg, szOf_run hz, g1]
    | false =>
      cases hcut : cs[off]? with
      | none => simp [hcut] at ha
      | some r =>
        simp only [hcut, cond_false] at ha
        obtain ⟨rfl, rfl⟩ := some2 ha
        obtain ⟨u, g1, g2⟩ := readCell hR hb hcut hL
        refine OpOk.value (vv := u) ?_ g2 (.refl hR) fun _ => ⟨rfl, rfl, rfl⟩
        simp only [Instr.loadAt, Instr.sureAddr, loadVar, Sem.run_bind, Sem.run_pure, Result.andThen_ok, aggOf_run hg, Bool.false_eq_true, if_false, g1]

theorem ok_store {t : TypeId} {x y : Operand} {ao : AOp} (ho : o.op = .store t x y) (hc : cOp P o.op = some ao) (hO : OR ι ρ σ) (hR : R P ι s w) (ha : aop ρ ao s = some (v, s')) :
    OpOk P (execOp σ o) ι s w v s' ao.quiet := by
  rw [ho] at hc
  simp only [cOp] at hc
  split at hc <;> try (simp at hc; done)
  rename_i z x' y' hz hx' hy'
  simp at hc; subst hc
  have hv := hO _ _ hx'
  have hvy := hO _ _ hy'
  have hx : execOp σ o = (do Instr.storeAt t (σ x) (σ y); pure .skip) := by simp [execOp, ho]
  rw [hx]
  simp only [aop] at ha
  split at ha <;> (try (simp only [reduceCtorEq] at ha; done))
  rename_i q off e
  rw [e] at hv
  generalize hq : σ x = u at hv
  cases hv with
  | p hL =>
    rename_i L
    split at ha <;> (try (simp only [reduceCtorEq] at ha; done))
    rename_i cs hb
    cases hcond : ((ρ y').cells.length == z && Nat.ble (off + z) cs.length) && (ρ y').cells.all AV.one with
    | false => simp [hcond] at ha
    | true =>
      simp only [hcond, cond_true] at ha
      obtain ⟨rfl, rfl⟩ := some2 ha
      simp only [Bool.and_eq_true, beq_iff_eq] at hcond
      obtain ⟨⟨h1, h2⟩, h3⟩ := hcond
      have hcs := hvy.cells h3
      have hlen := hcs.length
      obtain ⟨w', g1, g2⟩ := writeRow hR hb hcs h3 (by rw [h1]; exact Nat.le_of_ble_eq_true h2) hL
      refine OpOk.unit (w' := w') ?_ g2
      have hz' : (σ y).cells.size = z := by rw [← Array.length_toList, ← hlen]; exact h1
      simp only [Instr.storeAt, Instr.sureAddr, storeVar, Sem.run_bind, Sem.run_pure, Result.andThen_ok, szOf_run hz, hz', ne_eq, not_true, if_false]
      exact g1

theorem newRow_run (el : TypeId) (c : Array Value) : (newRow el c).run P w = .ok ⟨w.heap.size, 0, none⟩ (w.alloc (.cells c el)) := by
  simp [newRow]

theorem ok_alloc {t : TypeId} {ao : AOp} (ho : o.op = .alloc t) (hc : cOp P o.op = some ao) (hO : OR ι ρ σ) (hR : R P ι s w) (ha : aop ρ ao s = some (v, s')) :
    OpOk P (execOp σ o) ι s w v s' ao.quiet := by
  rw [ho] at hc
  simp only [cOp, Option.map_eq_some_iff] at hc
  obtain ⟨zs, hz, rfl⟩ := hc
  obtain ⟨z, a, h1, rfl, h2⟩ := zsOf_run hz
  simp only [aop] at ha
  obtain ⟨rfl, rfl⟩ := some2 ha
  have hx : execOp σ o = (do pure (.value (← Instr.alloc t true (.tuple #[])))) := by simp [execOp, ho]
  rw [hx]
  have he := newRow_ok hR t (cs := a.cells) (c := z.cells) (us := z.cells.toList) (rest := []) (by simp) (cVal_ok h1 ι).2.1 (w' := w.alloc (.cells z.cells t)) rfl rfl rfl rfl
  refine OpOk.value (vv := .pointer (some ⟨w.heap.size, 0, none⟩)) ?_ ?_ he (by simp [AOp.quiet])
  · simp [Instr.alloc, h2, newVar, newRow_run]
  · have := VR.p (o := 0) (IM.set_same ι s.nx ⟨w.heap.size, 0, z.cells.size⟩)
    simpa using this

theorem ok_box {t : TypeId} {x : Operand} {ao : AOp} (ho : o.op = .box t x) (hc : cOp P o.op = some ao) (hO : OR ι ρ σ) (hR : R P ι s w) (ha : aop ρ ao s = some (v, s')) :
    OpOk P (execOp σ o) ι s w v s' ao.quiet := by
  rw [ho] at hc
  simp only [cOp] at hc
  split at hc <;> try (simp at hc; done)
  rename_i z x' hz hx'
  simp at hc; subst hc
  have hv := hO _ _ hx'
  simp only [aop] at ha
  cases hcond : (ρ x').cells.length == z && (ρ x').cells.all AV.one with
  | false => simp [hcond] at ha
  | true =>
    simp only [hcond, cond_true] at ha
    obtain ⟨rfl, rfl⟩ := some2 ha
    simp only [Bool.and_eq_true, beq_iff_eq] at hcond
    have hx : execOp σ o = (do pure (.value (← Instr.box t (σ x)))) := by simp [execOp, ho]
    rw [hx]
    have he := newRow_ok hR t (cs := (ρ x').cells) (c := (σ x).cells) (us := (σ x).cells.toList) (rest := []) (by simp) (hv.cells hcond.2) (w' := w.alloc (.cells (σ x).cells t)) rfl rfl rfl rfl
    refine OpOk.value (vv := .pointer (some ⟨w.heap.size, 0, none⟩)) ?_ ?_ he (by simp [AOp.quiet])
    · simp [Instr.box, newVar, newRow_run]
    · have := VR.p (o := 0) (IM.set_same ι s.nx ⟨w.heap.size, 0, (σ x).cells.size⟩)
      simpa using this

theorem ok_mkm {t : TypeId} {ao : AOp} (ho : o.op = .makeMap t none) (hc : cOp P o.op = some ao) (hO : OR ι ρ σ) (hR : R P ι s w) (ha : aop ρ ao s = some (v, s')) :
    OpOk P (execOp σ o) ι s w v s' ao.quiet := by
  rw [ho] at hc
  simp only [cOp, Option.some.injEq] at hc
  subst hc
  simp only [aop] at ha
  obtain ⟨rfl, rfl⟩ := some2 ha
  have hx : execOp σ o = (do pure (.value (← Instr.makeMap t none))) := by simp [execOp, ho]
  rw [hx]
  have he : Ext P ι s w (ι.set s.nx ⟨w.heap.size, 0, 0⟩) (s.new (.mp [])) (w.alloc (.map #[] 0)) := Ext.new hR ⟨#[], 0, rfl, .nil, .nil 0⟩ rfl rfl rfl rfl
  refine OpOk.value (vv := .map (some w.heap.size)) ?_ ?_ he (by simp [AOp.quiet])
  · simp [Instr.makeMap]
  · exact VR.m (IM.set_same ι s.nx ⟨w.heap.size, 0, 0⟩)

theorem ok_fad {t : TypeId} {x : Operand} {f : Nat} {ao : AOp} (ho : o.op = .fieldAddr t x f) (hc : cOp P o.op = some ao) (hO : OR ι ρ σ) (hR : R P ι s w) (ha : aop ρ ao s = some (v, s')) :
    OpOk P (execOp σ o) ι s w v s' ao.quiet := by
  rw [ho] at hc
  simp only [cOp] at hc
  split at hc <;> try (simp at hc; done)
  rename_i fs x' hu hx'
  split at hc <;> try (simp at hc; done)
  rename_i fd hfd
  split at hc <;> try (simp at hc; done)
  rename_i z hz
  cases hz0 : z == 0 <;> simp [hz0] at hc
  subst hc
  have hv := hO _ _ hx'
  have hx : execOp σ o = (do pure (.value (← Instr.fieldAt t (σ x) f))) := by simp [execOp, ho]
  rw [hx]
  simp only [aop] at ha
  split at ha <;> (try (simp only [reduceCtorEq] at ha; done))
  rename_i q off e
  rw [e] at hv
  obtain ⟨rfl, rfl⟩ := some2 ha
  generalize hq : σ x = u at hv
  cases hv with
  | p hL =>
    rename_i L
    refine OpOk.value (vv := .pointer (some ⟨L.r, L.d + (off + fd.offset), none⟩)) ?_ (.p hL) (.refl hR) fun _ => ⟨rfl, rfl, rfl⟩
    have hz0' : ¬ z = 0 := by simpa using hz0
    simp [Instr.fieldAt, run_underlying hu, hfd, Instr.sureAddr, fieldPlace, szOf_run hz, hz0', add_of, Nat.add_assoc]

theorem ok_iad {t : TypeId} {x i : Operand} {ao : AOp} (ho : o.op = .indexAddr t x i) (hc : cOp P o.op = some ao) (hO : OR ι ρ σ) (hR : R P ι s w) (ha : aop ρ ao s = some (v, s')) :
    OpOk P (execOp σ o) ι s w v s' ao.quiet := by
  rw [ho] at hc
  simp only [cOp] at hc
  have hx : execOp σ o = (do pure (.value (← Instr.indexAt t (σ x) (σ i)))) := by simp [execOp, ho]
  rw [hx]
  split at hc <;> try (simp at hc; done)
  · rename_i el x' i' hu h1 h2
    simp only [Option.map_eq_some_iff] at hc
    obtain ⟨z, hz, rfl⟩ := hc
    have hv1 := hO _ _ h1
    have hv2 := hO _ _ h2
    simp only [aop] at ha
    split at ha <;> (try (simp only [reduceCtorEq] at ha; done))
    · rename_i q off z' len cap ex k n _ e1 e2
      rw [e1] at hv1; rw [e2] at hv2
      cases hcond : z' == z && Nat.blt n len with
      | false => simp [hcond] at ha
      | true =>
        simp only [hcond, cond_true] at ha
        obtain ⟨rfl, rfl⟩ := some2 ha
        simp only [Bool.and_eq_true, beq_iff_eq, Nat.blt_eq] at hcond
        obtain ⟨rfl, hn⟩ := hcond
        generalize hq1 : σ x = u1 at hv1
        generalize hq2 : σ i = u2 at hv2
        cases hv1 with
        | sl hL hl hcc he hb =>
          rename_i L off' cap'
          cases hv2
          obtain ⟨rfl, hb2⟩ := hb.resolve_left (by omega)
          refine OpOk.value (vv := .pointer (some ⟨L.r, L.d + (off + n * z'), none⟩)) ?_ (.p hL) (.refl hR) fun _ => ⟨rfl, rfl, rfl⟩
          have hlt : (0 : Int) ≤ Int.ofNat n ∧ (Int.ofNat n) < (len : Int) := by constructor <;> simp <;> omega
          simp [Instr.indexAt, asIntOf, run_underlying hu, hn, szOf_run hz, add_of, Nat.add_assoc]
    · rename_i h _ _ ; simp at h
  · rename_i len el x' i' hu h1 h2
    simp only [Option.map_eq_some_iff] at hc
    obtain ⟨z, hz, rfl⟩ := hc
    have hv1 := hO _ _ h1
    have hv2 := hO _ _ h2
    simp only [aop] at ha
    split at ha <;> (try (simp only [reduceCtorEq] at ha; done))
    · rename_i h _ _ ; simp at h
    · rename_i m q off k n hm e1 e2
      simp at hm; subst hm
      rw [e1] at hv1; rw [e2] at hv2
      cases hcond : Nat.blt n len with
      | false => simp [hcond] at ha
      | true =>
        simp only [hcond, cond_true] at ha
        obtain ⟨rfl, rfl⟩ := some2 ha
        simp only [Nat.blt_eq] at hcond
        generalize hq1 : σ x = u1 at hv1
        generalize hq2 : σ i = u2 at hv2
        cases hv1 with
        | p hL =>
          rename_i L
          cases hv2
          refine OpOk.value (vv := .pointer (some ⟨L.r, L.d + (off + n * z), none⟩)) ?_ (.p hL) (.refl hR) fun _ => ⟨rfl, rfl, rfl⟩
          simp [Instr.indexAt, asIntOf, run_underlying hu, Instr.sureAddr, hcond, szOf_run hz, add_of, Nat.add_assoc]

end Go.AM
