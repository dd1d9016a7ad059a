/- The abstract machine is sound: the operations, fifth part: lengths, conversions, slicing, composite literals. -/
import Derived.Test.YthdkiocnbbeigaaAmOp4
namespace Go.AM
set_option linter.unusedVariables false
set_option linter.unusedSimpArgs false

variable {P : Program} {ι : IM} {s s' : AS} {w : World} {ρ : Opd → AV} {σ : Operand → Value} {o : Oper} {v : AV}

theorem ERs.length {l : List (AV × AV)} {es : List MapEntry} (h : ERs ι l es) : l.length = es.length := by
  induction h with
  | nil => rfl
  | cons _ _ _ ih => simp [ih]

theorem R.mapOf (hR : R P ι s w) {q : Nat} {es : List (AV × AV)} (h : s.h.get q = some (.mp es)) {L : Loc} (hL : ι q = some L) :
    ∃ ents clk, w.heap[L.r]? = some (.map ents clk) ∧ ERs ι es ents.toList ∧ Born ents.toList clk := by
  obtain ⟨L', hL', hb⟩ := hR.blk _ _ h
  obtain rfl := Option.some.inj (hL.symm.trans hL')
  exact hb

theorem getObj_map {r : Nat} {ents : Array MapEntry} {clk : Nat} (h : w.heap[r]? = some (.map ents clk)) : (getObj r).run P w = .ok (.map ents clk) w := by
  simp [getObj, Sem.run, h]

theorem bsize (l : List UInt8) : (⟨l.toArray⟩ : ByteArray).size = l.length := by
  show l.toArray.size = _
  simp

theorem call_builtin {c : Call} {b : Builtin} (ho : o.op = .call c) (hb : c.callee = .builtin b) {xs : List Operand} {ts : List TypeId} (hx : c.args.toList = xs) (ht : c.argTypes.toList = ts) :
    ∃ cs, execOp σ o = builtin b ts.toArray o.type cs (xs.map σ).toArray := by
  have h1 : c.args = xs.toArray := by rw [← Array.toList_inj]; simpa using hx
  have h2 : c.argTypes = ts.toArray := by rw [← Array.toList_inj]; simpa using ht
  exact ⟨_, by simp [execOp, ho, resolve, hb, invoke, h1, h2]; rfl⟩

theorem ok_len {c : Call} {ao : AOp} (ho : o.op = .call c) (hb : c.callee = .builtin .len) (hc : cOp P o.op = some ao) (hO : OR ι ρ σ) (hR : R P ι s w) (ha : aop ρ ao s = some (v, s')) :
    OpOk P (execOp σ o) ι s w v s' ao.quiet := by
  rw [ho] at hc
  simp only [cOp, hb] at hc
  split at hc <;> try (simp at hc; done)
  rename_i x t hargs htys
  obtain ⟨cs, hx⟩ := call_builtin (σ := σ) ho hb hargs htys
  rw [hx]
  show OpOk P (do pure (.value (← Builtin.len_ #[t] o.type #[σ x]))) ι s w v s' ao.quiet
  split at hc <;> (try (simp at hc; done)) <;> rename_i x' hu h1 <;> simp at hc <;> subst hc <;> have hv := hO _ _ h1 <;> simp only [aop] at ha <;> generalize hq : σ x = u at hv
  · split at ha <;> (try (simp_all; done))
    rename_i l _ e; rw [e] at hv
    obtain ⟨rfl, rfl⟩ := some2 ha
    cases hv
    refine OpOk.value (vv := .int .i64 l.length) ?_ (.i _ _) (.refl hR) fun _ => ⟨rfl, rfl, rfl⟩
    simp only [Builtin.len_, Sem.run_bind, List.getElem?_toArray, List.getElem?_cons_zero, run_underlying hu, Result.andThen_ok, Sem.run_pure, goInt, bsize]
  · split at ha <;> (try (simp_all; done))
    · rename_i _ e; rw [e] at hv
      obtain ⟨rfl, rfl⟩ := some2 ha
      cases hv
      refine OpOk.value (vv := .int .i64 0) ?_ (.i _ _) (.refl hR) fun _ => ⟨rfl, rfl, rfl⟩
      simp [Builtin.len_, run_underlying hu, goInt]
    · rename_i _ e; rw [e] at hv
      obtain ⟨rfl, rfl⟩ := some2 ha
      cases hv
      refine OpOk.value (vv := .int .i64 _) ?_ (.i _ _) (.refl hR) fun _ => ⟨rfl, rfl, rfl⟩
      simp [Builtin.len_, run_underlying hu, goInt]
  · split at ha <;> (try (simp_all; done))
    · rename_i _ e; rw [e] at hv
      obtain ⟨rfl, rfl⟩ := some2 ha
      cases hv
      refine OpOk.value (vv := .int .i64 0) ?_ (.i _ _) (.refl hR) fun _ => ⟨rfl, rfl, rfl⟩
      simp [Builtin.len_, run_underlying hu, goInt]
    · rename_i q _ e; rw [e] at hv
      split at ha <;> (try (simp only [reduceCtorEq] at ha; done))
      rename_i es hb
      obtain ⟨rfl, rfl⟩ := some2 ha
      cases hv with
      | m hL =>
        obtain ⟨ents, clk, g1, g2, _⟩ := hR.mapOf hb hL
        refine OpOk.value (vv := .int .i64 es.length) ?_ (.i _ _) (.refl hR) fun _ => ⟨rfl, rfl, rfl⟩
        have := g2.length
        simp [Builtin.len_, run_underlying hu, goInt, getObj_map g1, this]

/-! ### Slicing -/

theorem bound_run {x : Value} {n : Nat} {k : IntKind} (h : x = .int k (n : Int)) {y : Nat} (hy : n ≤ y) (code : BoundsCode) : (Instr.sliceBound x y code).run P w = .ok n w := by
  subst h
  have : (0 : Int) ≤ (n : Int) ∧ (n : Int) ≤ (y : Int) := by omega
  simp [Instr.sliceBound, asIntOf, this]

theorem optNat_ok {x : Option Operand} {x' : Option Opd} (hx : cOptOpd x = some x') (hO : OR ι ρ σ) {most dflt n : Nat} (h : optNat ρ x' most dflt = some n) :
    (x = none ∧ x' = none ∧ n = dflt) ∨ ∃ y y' k, x = some y ∧ x' = some y' ∧ σ y = .int k (n : Int) ∧ n ≤ most := by
  cases x with
  | none => simp [cOptOpd] at hx; subst hx; simp [optNat] at h; exact .inl ⟨rfl, rfl, h.symm⟩
  | some y =>
    simp only [cOptOpd, Option.map_eq_some_iff] at hx
    obtain ⟨y', hy, rfl⟩ := hx
    obtain ⟨k, h1, h2⟩ := natOf_ok h (hO _ _ hy)
    exact .inr ⟨y, y', k, rfl, rfl, h1, h2⟩

/-- The bounds of a slice expression without a third index. -/
theorem bounds_run {isSlice : Bool} {lo hi : Option Operand} {lo' hi' : Option Opd} (h1 : cOptOpd lo = some lo') (h2 : cOptOpd hi = some hi') (hO : OR ι ρ σ) {len cap acap h l : Nat}
    (hcap : acap ≤ cap) (e1 : optNat ρ hi' acap len = some h) (e2 : optNat ρ lo' h 0 = some l) : (Instr.sliceBounds isSlice len cap (lo.map σ) (hi.map σ) none).run P w = .ok (l, h, cap) w := by
  rcases optNat_ok h2 hO e1 with ⟨rfl, rfl, rfl⟩ | ⟨y, y', k, rfl, rfl, g1, g2⟩
  · rcases optNat_ok h1 hO e2 with ⟨rfl, rfl, rfl⟩ | ⟨z, z', k2, rfl, rfl, g3, g4⟩
    · simp [Instr.sliceBounds]
    · simp [Instr.sliceBounds, bound_run (P := P) (w := w) g3 g4]
  · rcases optNat_ok h1 hO e2 with ⟨rfl, rfl, rfl⟩ | ⟨z, z', k2, rfl, rfl, g3, g4⟩
    · simp [Instr.sliceBounds, bound_run (P := P) (w := w) g1 (Nat.le_trans g2 hcap)]
    · simp [Instr.sliceBounds, bound_run (P := P) (w := w) g1 (Nat.le_trans g2 hcap), bound_run (P := P) (w := w) g3 g4]

/-- The bounds of a slice expression with a third index. -/
theorem bounds3_run {lo hi : Option Operand} {mx : Operand} {lo' hi' : Option Opd} {mx' : Opd} (h1 : cOptOpd lo = some lo') (h2 : cOptOpd hi = some hi') (h3 : cOpd mx = some mx') (hhi : hi.isSome = true) (hO : OR ι ρ σ)
    {len cap acap dflt dflt2 m h l : Nat} (hcap : acap ≤ cap) (e0 : optNat ρ (some mx') acap dflt = some m) (e1 : optNat ρ hi' m dflt2 = some h) (e2 : optNat ρ lo' h 0 = some l) :
    (Instr.sliceBounds true len cap (lo.map σ) (hi.map σ) (some (σ mx))).run P w = .ok (l, h, m) w := by
  obtain ⟨k0, g1, g2⟩ := natOf_ok e0 (hO _ _ h3)
  rcases optNat_ok h2 hO e1 with ⟨rfl, rfl, rfl⟩ | ⟨y, y', k, rfl, rfl, g3, g4⟩
  · simp at hhi
  · rcases optNat_ok h1 hO e2 with ⟨rfl, rfl, rfl⟩ | ⟨z, z', k2, rfl, rfl, g5, g6⟩
    · simp [Instr.sliceBounds, bound_run (P := P) (w := w) g1 (Nat.le_trans g2 hcap), bound_run (P := P) (w := w) g3 g4]
    · simp [Instr.sliceBounds, bound_run (P := P) (w := w) g1 (Nat.le_trans g2 hcap), bound_run (P := P) (w := w) g3 g4, bound_run (P := P) (w := w) g5 g6]

theorem optNat_le {x : Option Opd} {most dflt n : Nat} (h : optNat ρ x most dflt = some n) (hd : dflt ≤ most) : n ≤ most := by
  cases x with
  | none => simp [optNat] at h; omega
  | some y =>
    simp only [optNat, natOf] at h
    split at h <;> (try (simp at h; done))
    rename_i m _
    cases hb : Nat.ble m most <;> simp [hb] at h
    subst h; exact Nat.le_of_ble_eq_true hb

theorem ok_slice {t : TypeId} {x : Operand} {lo hi mx : Option Operand} {ao : AOp} (ho : o.op = .slice t x lo hi mx) (hc : cOp P o.op = some ao) (hO : OR ι ρ σ) (hR : R P ι s w) (ha : aop ρ ao s = some (v, s')) :
    OpOk P (execOp σ o) ι s w v s' ao.quiet := by
  rw [ho] at hc
  simp only [cOp] at hc
  have hx : execOp σ o = (do pure (.value (← Instr.sliceAt t (σ x) (lo.map σ) (hi.map σ) (mx.map σ)))) := by simp [execOp, ho]
  rw [hx]
  split at hc <;> try (simp at hc; done)
  · -- a text
    rename_i x' lo' hi' hu h1 h2 h3 h4
    simp at hc; subst hc
    have hmx : mx = none := by cases mx <;> simp_all [cOptOpd]
    subst hmx
    have hv := hO _ _ h1
    simp only [aop] at ha
    generalize hq : σ x = u at hv
    split at ha <;> (try (simp only [reduceCtorEq] at ha; done))
    rename_i l e; rw [e] at hv
    split at ha <;> (try (simp only [reduceCtorEq] at ha; done))
    rename_i h e1
    split at ha <;> (try (simp only [reduceCtorEq] at ha; done))
    rename_i k e2
    obtain ⟨rfl, rfl⟩ := some2 ha
    cases hv
    refine OpOk.value (vv := .string ⟨((l.drop k).take (h - k)).toArray⟩) ?_ (.s _) (.refl hR) fun _ => ⟨rfl, rfl, rfl⟩
    have hb := bounds_run (P := P) (w := w) (isSlice := false) (len := l.length) (cap := l.length) h2 h3 hO (Nat.le_refl _) e1 e2
    simp only [Instr.sliceAt, Sem.run_bind, run_underlying hu, Result.andThen_ok, Instr.slice, Option.map_none, Option.isSome_none, Bool.false_eq_true, if_false, Sem.run_pure, bsize]
    rw [hb]
    simp only [Result.andThen_ok, Sem.run_pure, ByteArray.extract_mk]
  · -- a slice
    rename_i el x' lo' hi' mx' hu h1 h2 h3 h4
    split at hc <;> try (simp at hc; done)
    rename_i z hz
    cases hmh : mx'.isSome && !hi'.isSome <;> simp only [hmh, cond_false, cond_true, Option.some.injEq, reduceCtorEq] at hc
    subst hc
    have hv := hO _ _ h1
    simp only [aop] at ha
    generalize hq : σ x = u at hv
    have hat : ∀ y lo hi mx, (Instr.sliceAt t y lo hi mx).run P w = (Instr.slice t y lo hi mx).run P w := by
      intro y lo hi mx; simp [Instr.sliceAt, run_underlying hu]
    have hhi : mx'.isSome = true → hi.isSome = true := by
      intro g
      cases hi with
      | none => simp [cOptOpd] at h3; subst h3; simp [g] at hmh
      | some _ => rfl
    split at ha <;> (try (simp only [reduceCtorEq] at ha; done))
    · rename_i e; rw [e] at hv
      split at ha <;> (try (simp only [reduceCtorEq] at ha; done))
      rename_i m e0
      split at ha <;> (try (simp only [reduceCtorEq] at ha; done))
      rename_i h e1
      split at ha <;> (try (simp only [reduceCtorEq] at ha; done))
      rename_i k e2
      obtain ⟨rfl, rfl⟩ := some2 ha
      cases hv
      have hm0 : m = 0 := by have := optNat_le e0 (Nat.le_refl _); omega
      subst hm0
      have hh0 : h = 0 := by have := optNat_le e1 (Nat.le_refl _); omega
      subst hh0
      have hk0 : k = 0 := by have := optNat_le e2 (Nat.le_refl _); omega
      subst hk0
      refine OpOk.value (vv := .slice none 0 0) ?_ .sn (.refl hR) fun _ => ⟨rfl, rfl, rfl⟩
      rw [hat]
      cases mx with
      | none =>
        simp [cOptOpd] at h4; subst h4
        have hb := bounds_run (P := P) (w := w) (isSlice := true) (len := 0) (cap := 0) h2 h3 hO (Nat.le_refl _) e1 e2
        simp [Instr.slice, run_underlying hu, hb, szOf_run hz]
      | some mx =>
        simp only [cOptOpd, Option.map_eq_some_iff] at h4
        obtain ⟨my, hmy, rfl⟩ := h4
        have hb := bounds3_run (P := P) (w := w) (len := 0) (cap := 0) h2 h3 hmy (hhi rfl) hO (Nat.le_refl _) e0 e1 e2
        simp [Instr.slice, run_underlying hu, hb, szOf_run hz]
    · rename_i q off z' len cap ex e; rw [e] at hv
      cases hzz : z' == z <;> simp only [hzz, cond_true, cond_false, reduceCtorEq] at ha
      have hzz' : z' = z := by simpa using hzz
      subst hzz'
      split at ha <;> (try (simp only [reduceCtorEq] at ha; done))
      rename_i m e0
      split at ha <;> (try (simp only [reduceCtorEq] at ha; done))
      rename_i h e1
      split at ha <;> (try (simp only [reduceCtorEq] at ha; done))
      rename_i k e2
      obtain ⟨rfl, rfl⟩ := some2 ha
      cases hv with
      | sl hL hl hcc he hb0 =>
        rename_i L off' cap'
        cases mx with
        | none =>
          simp [cOptOpd] at h4; subst h4
          have hm : m = cap := by simpa [optNat] using e0.symm
          subst hm
          have hb := bounds_run (P := P) (w := w) (isSlice := true) (len := len) (cap := cap') h2 h3 hO hcc e1 e2
          have hhl : h ≤ cap' := by
            rcases optNat_ok h3 hO e1 with ⟨_, _, rfl⟩ | ⟨_, _, _, _, _, _, g⟩ <;> omega
          have hkh : k ≤ h := optNat_le e2 (Nat.zero_le _)
          have hr : (Instr.slice t (.slice (some off') len cap') (lo.map σ) (hi.map σ) (Option.map σ none)).run P w =
              .ok (.slice (some (if cap' = k then off' else off'.add (k * z'))) (h - k) (cap' - k)) w := by
            simp only [Instr.slice, Sem.run_bind, run_underlying hu, Result.andThen_ok, Option.map_none, hb, szOf_run hz, Sem.run_pure]
            by_cases hck : cap' = k
            · simp [hck]
            · simp [hck]
          refine OpOk.value ((hat _ _ _ _).trans hr) (.sl hL (by omega) (by omega) (fun g => by rw [he g]) ?_) (.refl hR) fun _ => ⟨rfl, rfl, rfl⟩
          by_cases hck : cap' = k
          · left; omega
          · right
            rw [if_neg hck]
            have h0 : cap' ≠ 0 := by omega
            rcases hb0 with g | ⟨g1, g2⟩
            · omega
            · refine ⟨by rw [g1, add_of, Nat.add_assoc], ?_⟩
              have : k * z' + (cap' - k) * z' = cap' * z' := by rw [← Nat.add_mul]; congr 1; omega
              omega
        | some mx =>
          simp only [cOptOpd, Option.map_eq_some_iff] at h4
          obtain ⟨my, hmy, rfl⟩ := h4
          have hb := bounds3_run (P := P) (w := w) (len := len) (cap := cap') h2 h3 hmy (hhi rfl) hO hcc e0 e1 e2
          obtain ⟨_, _, hmc⟩ := natOf_ok e0 (hO _ _ hmy)
          have hhm : h ≤ m := by
            rcases optNat_ok h3 hO e1 with ⟨g, _, _⟩ | ⟨_, _, _, _, _, _, g⟩
            · subst g; simp at hhi
            · exact g
          have hkh : k ≤ h := optNat_le e2 (Nat.zero_le _)
          have hr : (Instr.slice t (.slice (some off') len cap') (lo.map σ) (hi.map σ) (Option.map σ (some mx))).run P w =
              .ok (.slice (some (if m = k then off' else off'.add (k * z'))) (h - k) (m - k)) w := by
            simp only [Instr.slice, Sem.run_bind, run_underlying hu, Result.andThen_ok, Option.map_some, hb, szOf_run hz, Sem.run_pure]
            by_cases hck : m = k
            · simp [hck]
            · simp [hck]
          refine OpOk.value ((hat _ _ _ _).trans hr) (.sl hL (by omega) (Nat.le_refl _) (fun g => rfl) ?_) (.refl hR) fun _ => ⟨rfl, rfl, rfl⟩
          by_cases hck : m = k
          · left; omega
          · right
            rw [if_neg hck]
            rcases hb0 with g | ⟨g1, g2⟩
            · omega
            · refine ⟨by rw [g1, add_of, Nat.add_assoc], ?_⟩
              have h5 : k * z' + (m - k) * z' = m * z' := by rw [← Nat.add_mul]; congr 1; omega
              have h6 : m * z' ≤ cap' * z' := Nat.mul_le_mul_right _ (by omega)
              omega
  · -- an array
    rename_i n el x' lo' hi' hu h1 h2 h3 h4
    split at hc <;> try (simp at hc; done)
    rename_i z hz
    simp at hc; subst hc
    have hmx : mx = none := by cases mx <;> simp_all [cOptOpd]
    subst hmx
    have hv := hO _ _ h1
    simp only [aop] at ha
    generalize hq : σ x = u at hv
    split at ha <;> (try (simp only [reduceCtorEq] at ha; done))
    rename_i q off e; rw [e] at hv
    split at ha <;> (try (simp only [reduceCtorEq] at ha; done))
    rename_i h e1
    split at ha <;> (try (simp only [reduceCtorEq] at ha; done))
    rename_i k e2
    split at ha <;> (try (simp only [reduceCtorEq] at ha; done))
    rename_i wr cs hb
    cases hle : Nat.ble (off + n * z) cs.length <;> simp only [hle, cond_true, cond_false, reduceCtorEq] at ha
    obtain ⟨rfl, rfl⟩ := some2 ha
    have hle' := Nat.le_of_ble_eq_true hle
    cases hv with
    | p hL =>
      rename_i L
      obtain ⟨L', c, el', fr, hL', g1, g2, g3, g4, g5⟩ := hR.row hb
      obtain rfl := Option.some.inj (hL.symm.trans hL')
      have hbb := bounds_run (P := P) (w := w) (isSlice := false) (len := n) (cap := n) h2 h3 hO (Nat.le_refl _) e1 e2
      have hhl : h ≤ n := optNat_le e1 (Nat.le_refl _)
      have hkh : k ≤ h := optNat_le e2 (Nat.zero_le _)
      refine OpOk.value (vv := .slice (some ⟨L.r, if n = k then L.d + off else L.d + off + k * z, none⟩) (h - k) (n - k)) ?_ (.sl hL (by omega) (Nat.le_refl _) (fun _ => rfl) ?_) (.refl hR) fun _ => ⟨rfl, rfl, rfl⟩
      · simp only [Instr.sliceAt, Sem.run_bind, run_underlying hu, Result.andThen_ok, Option.map_none, Instr.sureAddr, Sem.run_pure, hbb, szOf_run hz]
        by_cases hck : n = k
        · simp [hck]
        · simp [hck, add_of]
      · by_cases hck : n = k
        · left; omega
        · right
          rw [if_neg hck]
          have h5 : k * z + (n - k) * z = n * z := by rw [← Nat.add_mul]; congr 1; omega
          exact ⟨by rw [Nat.add_assoc], by omega⟩

end Go.AM
