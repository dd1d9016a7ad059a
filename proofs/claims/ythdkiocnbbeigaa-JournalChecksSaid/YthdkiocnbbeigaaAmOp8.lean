/- The abstract machine is sound: the operations, eighth part: conversions, make, copy, min, max, clear. -/
import Derived.Test.YthdkiocnbbeigaaAmOp7
namespace Go.AM
set_option linter.unusedVariables false
set_option linter.unusedSimpArgs false

variable {P : Program} {ι : IM} {s s' : AS} {w : World} {ρ : Opd → AV} {σ : Operand → Value} {o : Oper} {v : AV}

theorem src_pre {z n k : Nat} {a : AV} {new : List AV} (h : srcCells s z a = some (n, new)) {x : Value} (hv : VR ι a x) (hR : R P ι s w) (hk : k ≤ n) :
    ∃ us, (Builtin.firstCells z k x).run P w = .ok (us : List Value).toArray w ∧ VRs ι (new.take (k * z)) us := by
  unfold srcCells at h
  split at h
  · cases hv
    obtain ⟨rfl, rfl⟩ := some2 h
    exact ⟨[], by simp [Builtin.firstCells], by simpa using VRs.nil⟩
  · rename_i q off z' len cap ex
    cases hzz : z' == z <;> simp only [hzz, cond_true, cond_false, reduceCtorEq] at h
    have hzz' : z' = z := by simpa using hzz
    subst hzz'
    split at h <;> (try (simp only [reduceCtorEq] at h; done))
    rename_i wr cs hb
    split at h <;> (try (simp only [reduceCtorEq] at h; done))
    rename_i l hcut
    obtain ⟨rfl, rfl⟩ := some2 h
    cases hv with
    | sl hL hl hcc he hb0 =>
      rename_i L off' cap'
      by_cases h0 : cap' = 0
      · have hk0 : k = 0 := by omega
        subst hk0
        exact ⟨[], by simp [Builtin.firstCells, loadCells, loadCellsFrom], by simpa using VRs.nil⟩
      · obtain ⟨rfl, ho2⟩ := hb0.resolve_left (by omega)
        obtain ⟨c1, c2⟩ := cut_some hcut
        have hm : k * z' ≤ len * z' := Nat.mul_le_mul_right _ hk
        have hcut2 : cut cs off (k * z') = some (l.take (k * z')) := by
          unfold cut
          rw [Nat.ble_eq_true_of_le (by omega), cond_true, c2, List.take_take, Nat.min_eq_left hm]
        obtain ⟨us, g1, g2, g3⟩ := readRow hR hb hcut2 hL
        exact ⟨us, by simpa [Builtin.firstCells] using g1, g2⟩
  · rename_i l
    cases hz1 : z == 1 <;> simp only [hz1, cond_true, cond_false, reduceCtorEq] at h
    have hz1' : z = 1 := by simpa using hz1
    subst hz1'
    obtain ⟨rfl, rfl⟩ := some2 h
    cases hv
    refine ⟨(l.take k).map fun c => .int .u8 c.toNat, ?_, ?_⟩
    · simp only [Builtin.firstCells, Sem.run_pure]
      congr 1
      rw [ByteArray.extract_mk]
      simp
    · rw [Nat.mul_one, ← List.map_take]
      generalize l.take k = r
      induction r with
      | nil => exact .nil
      | cons c l ih => exact .cons (.i _ _) ih
  · simp at h

theorem ok_cpy {c : Call} {ao : AOp} (ho : o.op = .call c) (hb : c.callee = .builtin .copy) (hc : cOp P o.op = some ao) (hO : OR ι ρ σ) (hR : R P ι s w) (ha : aop ρ ao s = some (v, s')) :
    OpOk P (execOp σ o) ι s w v s' ao.quiet := by
  rw [ho] at hc
  simp only [cOp, hb] at hc
  split at hc <;> try (simp at hc; done)
  rename_i x y t u hargs htys
  obtain ⟨cs0, hx⟩ := call_builtin (σ := σ) ho hb hargs htys
  rw [hx]
  show OpOk P (do pure (.value (← Builtin.copy_ #[t, u] o.type #[σ x, σ y]))) ι s w v s' ao.quiet
  split at hc <;> try (simp at hc; done)
  rename_i e x' y' hu h1 h2
  split at hc <;> try (simp at hc; done)
  rename_i z hz
  cases hz0 : z == 0 <;> simp only [hz0, cond_true, cond_false, Option.some.injEq, reduceCtorEq] at hc
  subst hc
  have hvx := hO _ _ h1
  have hvy := hO _ _ h2
  generalize hqx : σ x = vx at hvx
  generalize hqy : σ y = vy at hvy
  simp only [aop] at ha
  split at ha <;> (try (simp only [reduceCtorEq] at ha; done))
  · rename_i p e1 e2
    obtain ⟨n, new⟩ := p
    rw [e1] at hvx
    obtain ⟨rfl, rfl⟩ := some2 ha
    cases hvx
    obtain ⟨k1, k2, us, k3, k4⟩ := src_ok e2 hvy hR
    obtain ⟨us, g1, g2⟩ := src_pre e2 hvy hR (Nat.zero_le n)
    refine OpOk.value (vv := .int .i64 0) ?_ (.i _ _) (.refl hR) (by simp [AOp.quiet])
    simp [Builtin.copy_, run_underlying hu, k1, szOf_run hz, g1, goInt]
  · rename_i q off z' len cap ex n new e1 e2
    rw [e1] at hvx
    cases hcond : (z' == z) && new.all AV.one <;> simp only [hcond, cond_true, cond_false, reduceCtorEq] at ha
    simp only [Bool.and_eq_true, beq_iff_eq] at hcond
    obtain ⟨rfl, hone⟩ := hcond
    split at ha <;> (try (simp only [reduceCtorEq] at ha; done))
    rename_i cs hbk
    have hmin : (bif Nat.ble n len then n else len) = Nat.min n len := by
      cases hb : Nat.ble n len
      · have : ¬ n ≤ len := fun g => by rw [Nat.ble_eq_true_of_le g] at hb; cases hb
        simp only [cond_false]; exact (Nat.min_eq_right (by omega)).symm
      · simp only [cond_true]; exact (Nat.min_eq_left (Nat.le_of_ble_eq_true hb)).symm
    rw [hmin] at ha
    cases hle : Nat.ble (off + Nat.min n len * z') cs.length <;> simp only [hle, cond_true, cond_false, reduceCtorEq] at ha
    obtain ⟨rfl, rfl⟩ := some2 ha
    have hle' := Nat.le_of_ble_eq_true hle
    cases hvx with
    | sl hL hl hcc he hb0 =>
      rename_i L off' cap'
      obtain ⟨k1, k2, _, _, _⟩ := src_ok e2 hvy hR
      have hmn : Nat.min n len ≤ n := Nat.min_le_left _ _
      have hml : Nat.min n len ≤ len := Nat.min_le_right _ _
      obtain ⟨us, g1, g2⟩ := src_pre e2 hvy hR hmn
      have hmul : Nat.min n len * z' ≤ n * z' := Nat.mul_le_mul_right _ hmn
      have hxl : (new.take (Nat.min n len * z')).length = Nat.min n len * z' := by rw [List.length_take, k2]; omega
      have hone2 : (new.take (Nat.min n len * z')).all AV.one = true := by
        rw [List.all_eq_true] at hone ⊢
        exact fun a h => hone a (List.mem_of_mem_take h)
      obtain ⟨w', m1, m2⟩ := writeRow hR hbk (o := off) g2 hone2 (by omega) hL
      have hst : (storeCells off' us).run P w = .ok () w' := by
        by_cases h0 : cap' = 0
        · have hm0 : Nat.min n len = 0 := by omega
          have hus : us = [] := by
            have := g2.length
            rw [hxl, hm0] at this
            simpa using this.symm
          subst hus
          rw [storeNil] at m1 ⊢
          exact m1
        · obtain ⟨rfl, ho2⟩ := hb0.resolve_left (by omega)
          exact m1
      refine OpOk.value (vv := .int .i64 (Nat.min n len : Nat)) ?_ (.i _ _) m2 (by simp [AOp.quiet])
      simp only [Builtin.copy_, List.getElem?_toArray, List.getElem?_cons_zero, List.getElem?_cons_succ, Sem.run_bind, run_underlying hu, Result.andThen_ok, k1, szOf_run hz, g1, hst, Sem.run_pure, goInt]

theorem rep_one {l : List AV} (h : l.all AV.one = true) : ∀ n, (repCells n l).all AV.one = true
  | 0 => rfl
  | n + 1 => by simp only [repCells, List.all_append, h, Bool.true_and]; exact rep_one h n

theorem ok_clr {c : Call} {ao : AOp} (ho : o.op = .call c) (hb : c.callee = .builtin .clear) (hc : cOp P o.op = some ao) (hO : OR ι ρ σ) (hR : R P ι s w) (ha : aop ρ ao s = some (v, s')) :
    OpOk P (execOp σ o) ι s w v s' ao.quiet := by
  rw [ho] at hc
  simp only [cOp, hb] at hc
  split at hc <;> try (simp at hc; done)
  rename_i x t hargs htys
  obtain ⟨cs0, hx⟩ := call_builtin (σ := σ) ho hb hargs htys
  rw [hx]
  show OpOk P (do pure (.value (← Builtin.clear_ #[t] o.type #[σ x]))) ι s w v s' ao.quiet
  split at hc <;> try (simp at hc; done)
  rename_i e x' hu h1
  split at hc <;> try (simp at hc; done)
  rename_i z zero hz hzs
  cases hz0 : z == 0 || !(zero.length == z) <;> simp only [hz0, cond_true, cond_false, Option.some.injEq, reduceCtorEq] at hc
  subst hc
  simp only [Bool.or_eq_false_iff, beq_eq_false_iff_ne, Bool.not_eq_false', beq_iff_eq] at hz0
  obtain ⟨hz1, hzl⟩ := hz0
  obtain ⟨zv, a, g1, rfl, g2⟩ := zsOf_run hzs
  have hvx := hO _ _ h1
  generalize hqx : σ x = vx at hvx
  simp only [aop] at ha
  split at ha <;> (try (simp only [reduceCtorEq] at ha; done))
  · rename_i e1; rw [e1] at hvx
    obtain ⟨rfl, rfl⟩ := some2 ha
    cases hvx
    refine OpOk.value (vv := .tuple #[]) ?_ (VR.tu .nil) (.refl hR) (by simp [AOp.quiet])
    simp [Builtin.clear_, run_underlying hu]
  · rename_i q off z' len cap ex e1; rw [e1] at hvx
    cases hvx with
    | sl hL hl hcc he hb0 =>
      rename_i L off' cap'
      cases hl0 : len == 0 <;> simp only [hl0, cond_true, cond_false] at ha
      · have hl0' : len ≠ 0 := by simpa using hl0
        cases hzz : z' == z <;> simp only [hzz, cond_true, cond_false, reduceCtorEq] at ha
        have hzz' : z' = z := by simpa using hzz
        subst hzz'
        split at ha <;> (try (simp only [reduceCtorEq] at ha; done))
        rename_i cs hbk
        cases hle : Nat.ble (off + len * z') cs.length <;> simp only [hle, cond_true, cond_false, reduceCtorEq] at ha
        obtain ⟨rfl, rfl⟩ := some2 ha
        have hle' := Nat.le_of_ble_eq_true hle
        obtain ⟨rfl, ho2⟩ := hb0.resolve_left (by omega)
        obtain ⟨_, r2, r3⟩ := cVal_ok g1 ι
        have hrep := rep_ok r2 len
        have hone : (repCells len a.cells).all AV.one = true := rep_one r3 len
        obtain ⟨w', m1, m2⟩ := writeRow hR hbk (o := off) hrep hone (by rw [repCells_length, hzl]; exact hle') hL
        refine OpOk.value (vv := .tuple #[]) ?_ (VR.tu .nil) m2 (by simp [AOp.quiet])
        obtain ⟨n, rfl⟩ : ∃ n, len = n + 1 := ⟨len - 1, by omega⟩
        have hst : (storeCells ⟨L.r, L.d + off, none⟩ (Builtin.zeroCells zv.cells (n + 1)).toList).run P w = .ok () w' := by
          simpa [Builtin.zeroCells] using m1
        simp only [Builtin.clear_, List.getElem?_toArray, List.getElem?_cons_zero, Sem.run_bind, run_underlying hu, Result.andThen_ok, g2, hst, Sem.run_pure]
      · obtain ⟨rfl, rfl⟩ := some2 ha
        have hl0' : len = 0 := by simpa using hl0
        subst hl0'
        refine OpOk.value (vv := .tuple #[]) ?_ (VR.tu .nil) (.refl hR) (by simp [AOp.quiet])
        simp [Builtin.clear_, run_underlying hu]

theorem mnxV_ok (mx : Bool) : ∀ (l : List AV) (a r : AV) (x : Value) (us : List Value), VR ι a x → VRs ι l us → mnxV mx a l = some r →
    ∃ vv, (us.foldlM (if mx then Builtin.max2 else Builtin.min2) x).run P w = .ok vv w ∧ VR ι r vv
  | [], a, r, x, us, ha, hl, h => by
    cases hl
    have : a = r := by cases a <;> simpa [mnxV] using h
    subst this
    exact ⟨x, by simp, ha⟩
  | b :: l, a, r, x, us, ha, hl, h => by
    cases hl with
    | cons hb hl =>
      rename_i y us
      unfold mnxV at h
      split at h
      · rename_i heq; simp at heq
      · rename_i k n k' n' l2 heq
        simp only [List.cons.injEq] at heq
        obtain ⟨rfl, rfl⟩ := heq
        cases ha; cases hb
        cases hk : kEq k k' <;> simp only [hk, cond_true, cond_false, reduceCtorEq] at h
        obtain rfl := kEq_eq hk
        cases mx with
        | true =>
          simp only [cond_true] at h
          obtain ⟨vv, g1, g2⟩ := mnxV_ok true _ _ _ (.int k (if n < n' then n' else n)) us (by
            have : (bif decide (n < n') then n' else n) = if n < n' then n' else n := by by_cases g : n < n' <;> simp [g]
            rw [← this]; exact .i _ _) hl h
          refine ⟨vv, ?_, g2⟩
          simp only [List.foldlM_cons, Sem.run_bind, if_true, Builtin.max2, Sem.run_pure, Result.andThen_ok]
          simpa using g1
        | false =>
          simp only [cond_false] at h
          obtain ⟨vv, g1, g2⟩ := mnxV_ok false _ _ _ (.int k (if n' < n then n' else n)) us (by
            have : (bif decide (n' < n) then n' else n) = if n' < n then n' else n := by by_cases g : n' < n <;> simp [g]
            rw [← this]; exact .i _ _) hl h
          refine ⟨vv, ?_, g2⟩
          simp only [List.foldlM_cons, Sem.run_bind, Bool.false_eq_true, if_false, Builtin.min2, Sem.run_pure, Result.andThen_ok]
          simpa using g1
      · simp at h

theorem ok_mnx {c : Call} {ao : AOp} {mx : Bool} (ho : o.op = .call c) (hb : c.callee = .builtin (if mx then .max else .min)) (hc : cOp P o.op = some ao) (hO : OR ι ρ σ) (hR : R P ι s w) (ha : aop ρ ao s = some (v, s')) :
    OpOk P (execOp σ o) ι s w v s' ao.quiet := by
  rw [ho] at hc
  have hc' : (cOpds c.args.toList).map (.mnx mx) = some ao := by
    cases mx <;> simpa [cOp, hb] using hc
  simp only [Option.map_eq_some_iff] at hc'
  obtain ⟨l, hl, rfl⟩ := hc'
  obtain ⟨cs0, hx⟩ := call_builtin (σ := σ) ho hb rfl rfl
  rw [hx]
  have hvs := cOpds_ok hO hl
  simp only [aop] at ha
  split at ha <;> (try (simp only [reduceCtorEq] at ha; done))
  rename_i a r e1
  rw [e1] at hvs
  cases hm : mnxV mx a r with
  | none => simp [hm] at ha
  | some q =>
    simp only [hm] at ha
    obtain ⟨rfl, rfl⟩ := some2 ha
    generalize hus : c.args.toList.map σ = us at hvs
    cases hvs with
    | cons h1 h2 =>
      rename_i x us
      obtain ⟨vv, g1, g2⟩ := mnxV_ok (P := P) (w := w) mx _ _ _ _ _ h1 h2 hm
      cases mx with
      | true =>
        show OpOk P (do pure (.value (← Builtin.max_ _ o.type _))) ι s w _ s _
        exact OpOk.value (by simpa [Builtin.max_, hus] using g1) g2 (.refl hR) fun _ => ⟨rfl, rfl, rfl⟩
      | false =>
        show OpOk P (do pure (.value (← Builtin.min_ _ o.type _))) ι s w _ s _
        exact OpOk.value (by simpa [Builtin.min_, hus] using g1) g2 (.refl hR) fun _ => ⟨rfl, rfl, rfl⟩

end Go.AM
