/- Regions that draw their order: the plain part. -/
import Derived.Test.YthdkiocnbbeigaaAmCode2
namespace Go.AM
set_option linter.unusedVariables false
set_option linter.unusedSimpArgs false

theorem AV.beq_i (k : IntKind) (x : Int) (y : AV) (h : (AV.i k x).beq y = true) : AV.i k x = y := by
  cases y with
  | i k' x' => cases k <;> cases k' <;> simp [AV.beq] at h ⊢ <;> exact h
  | _ => cases k <;> simp [AV.beq] at h

mutual
theorem AV.beq_eq : ∀ (a b : AV), a.beq b = true → a = b
  | .un, y, h => by cases y <;> simp [AV.beq] at h ⊢
  | .b x, y, h => by cases y <;> simp [AV.beq] at h ⊢; exact h
  | .i k x, y, h => AV.beq_i k x y h
  | .s x, y, h => by cases y <;> simp [AV.beq] at h ⊢; exact h
  | .pn, y, h => by cases y <;> simp [AV.beq] at h ⊢
  | .p q o, y, h => by cases y <;> simp [AV.beq] at h ⊢; exact h
  | .sn, y, h => by cases y <;> simp [AV.beq] at h ⊢
  | .sl q o z l c e, y, h => by cases y <;> simp [AV.beq] at h ⊢; obtain ⟨⟨⟨⟨⟨h1, h2⟩, h3⟩, h4⟩, h5⟩, h6⟩ := h; exact ⟨h1, h2, h3, h4, h5, h6⟩
  | .mn, y, h => by cases y <;> simp [AV.beq] at h ⊢
  | .m q, y, h => by cases y <;> simp [AV.beq] at h ⊢; exact h
  | .fn f c, y, h => by cases y <;> simp [AV.beq] at h ⊢; exact ⟨h.1, AV.beqs_eq _ _ h.2⟩
  | .yl q, y, h => by cases y <;> simp [AV.beq] at h ⊢; exact h
  | .nf, y, h => by cases y <;> simp [AV.beq] at h ⊢
  | .nif, y, h => by cases y <;> simp [AV.beq] at h ⊢
  | .ag l, y, h => by cases y <;> simp [AV.beq] at h ⊢; exact AV.beqs_eq _ _ h
  | .tu l, y, h => by cases y <;> simp [AV.beq] at h ⊢; exact AV.beqs_eq _ _ h
theorem AV.beqs_eq : ∀ (a b : List AV), AV.beqs a b = true → a = b
  | [], y, h => by cases y <;> simp [AV.beqs] at h ⊢
  | x :: l, y, h => by
    cases y with
    | nil => simp [AV.beqs] at h
    | cons y' r => simp [AV.beqs] at h; rw [AV.beq_eq _ _ h.1, AV.beqs_eq _ _ h.2]
end

theorem optNat_congr {ρ ρ' : Opd → AV} {x : Option Opd} (h : ∀ y ∈ x.toList, ρ y = ρ' y) (m d : Nat) : optNat ρ x m d = optNat ρ' x m d := by
  cases x with
  | none => rfl
  | some y => simp only [optNat, h y (by simp)]

theorem partsOf_congr {ρ ρ' : Opd → AV} : ∀ {ps : List (Nat × Nat × Opd)}, (∀ y ∈ ps.map (fun p => p.2.2), ρ y = ρ' y) → partsOf ρ ps = partsOf ρ' ps
  | [], _ => rfl
  | (o, z, x) :: r, h => by
    simp only [partsOf, h x (by simp), partsOf_congr (ps := r) (fun y hy => h y (by simp only [List.map_cons, List.mem_cons]; exact .inr hy))]

theorem aop_congr {ρ ρ' : Opd → AV} {o : AOp} {s : AS} (h : ∀ x ∈ o.opds, ρ x = ρ' x) : aop ρ o s = aop ρ' o s := by
  cases o with
  | alloc zs => rfl
  | mkm => rfl
  | bld zero ps => simp only [aop, partsOf_congr h]
  | bsl z len zero ps => simp only [aop, partsOf_congr h]
  | mkf f c => simp only [AOp.opds] at h; simp only [aop, List.map_congr_left h]
  | mnx mx xs => simp only [AOp.opds] at h; simp only [aop, List.map_congr_left h]
  | sls x lo hi =>
    simp only [AOp.opds, List.mem_cons, List.mem_append] at h
    simp only [aop, h x (.inl rfl), optNat_congr (x := lo) (fun y hy => h y (.inr (.inl hy))), optNat_congr (x := hi) (fun y hy => h y (.inr (.inr hy)))]
  | sla n z x lo hi =>
    simp only [AOp.opds, List.mem_cons, List.mem_append] at h
    simp only [aop, h x (.inl rfl), optNat_congr (x := lo) (fun y hy => h y (.inr (.inl hy))), optNat_congr (x := hi) (fun y hy => h y (.inr (.inr hy)))]
  | slc z x lo hi mx =>
    simp only [AOp.opds, List.mem_cons, List.mem_append] at h
    simp only [aop, h x (.inl rfl), optNat_congr (x := lo) (fun y hy => h y (.inr (.inl (.inl hy)))), optNat_congr (x := hi) (fun y hy => h y (.inr (.inl (.inr hy)))), optNat_congr (x := mx) (fun y hy => h y (.inr (.inr hy)))]
  | call f as => rfl
  | _ => simp only [AOp.opds, List.mem_cons, List.not_mem_nil, or_false, forall_eq_or_imp, forall_eq] at h; simp only [aop, h]

def agree (t t' : T AV) (o : AOper) : Prop := ∀ k ∈ tmpsOf o, t.get k = t'.get k

theorem agree.opds {t t' : T AV} {o : AOper} (h : agree t t' o) : ∀ x ∈ o.op.opds, ev t x = ev t' x := fun x hx => by
  cases x with
  | t k => simp only [ev, h k (List.mem_append_right _ (List.mem_filterMap.2 ⟨.t k, hx, rfl⟩))]
  | c v => rfl

theorem aoper_congr {call : Caller} {t t' : T AV} {o : AOper} {s : AS} (h : agree t t' o) : aoper call (ev t) o.op s = aoper call (ev t') o.op s := by
  have hh := h.opds
  generalize o.op = op at hh
  cases op with
  | call f as =>
    simp only [AOp.opds, List.mem_cons, forall_eq_or_imp] at hh
    simp only [aoper, hh.1, List.map_congr_left hh.2]
  | _ => simp only [aoper]; rw [aop_congr hh]

theorem wanted_congr {t t' : T AV} {o : AOper} (h : agree t t' o) : wanted t o.g = wanted t' o.g := by
  unfold agree tmpsOf at h
  cases hg : o.g with
  | none => rfl
  | some p =>
    obtain ⟨k, w⟩ := p
    simp only [hg] at h
    simp only [wanted, ev, h k (by simp)]

/-! ### The run in the text's order -/

def mAt : List (AV × Bool) → Nat → Nat
  | [], _ => 0
  | _ :: _, 0 => 0
  | (_, q) :: r, j + 1 => (bif q then 0 else 1) + mAt r j

def putD (t : T AV) (d : Option Nat) (v : AV) : T AV :=
  match d with
  | some d => t.put d (some v)
  | none => t

def tAt : List AOper → List (AV × Bool) → T AV → Nat → T AV
  | o :: l, (v, _) :: vs, t, j + 1 => tAt l vs (putD t o.dst v) j
  | _, _, t, _ => t

theorem mAt_zero (vs : List (AV × Bool)) : mAt vs 0 = 0 := by cases vs <;> rfl
theorem tAt_zero (l : List AOper) (vs : List (AV × Bool)) (t : T AV) : tAt l vs t 0 = t := by cases l <;> cases vs <;> rfl

theorem mAt_le (vs : List (AV × Bool)) : ∀ j, mAt vs j ≤ mAt vs vs.length := by
  induction vs with
  | nil => intro j; simp [mAt]
  | cons p r ih =>
    obtain ⟨v, q⟩ := p
    intro j
    cases j with
    | zero => simp [mAt]
    | succ j => have := ih j; simp only [mAt, List.length_cons]; omega

/-- What the run in the text's order found at a place. -/
def AtJ (call : Caller) (l : List AOper) (vs : List (AV × Bool)) (ss : List AS) (n : Nat) (t : T AV) (j : Nat) : Prop :=
  ∃ o v q s, l[j]? = some o ∧ vs[j]? = some (v, q) ∧ ss[mAt vs j]? = some s ∧ (∀ d, o.dst = some d → d < n) ∧
    ((wanted (tAt l vs t j) o.g = some true ∧ ∃ s', aoper call (ev (tAt l vs t j)) o.op s = some (v, s', q) ∧ (q = false → ss[mAt vs j + 1]? = some s')) ∨
     (wanted (tAt l vs t j) o.g = some false ∧ v = .tu [] ∧ q = true))

theorem putT_parts {st st' : St} {d : Option Nat} {v : AV} {s : AS} (h : putT st d v s = some st') : st'.t = putD st.t d v ∧ st'.n = st.n ∧ st'.s = s ∧ ∀ k, d = some k → k < st.n := by
  unfold putT at h
  cases d with
  | none => simp at h; subst h; exact ⟨rfl, rfl, rfl, by simp⟩
  | some k =>
    simp only at h
    cases hb : Nat.blt k st.n <;> simp [hb] at h
    subst h
    refine ⟨rfl, rfl, rfl, fun k' e => ?_⟩
    cases e
    simpa [Nat.blt_eq] using hb

theorem dscan_spec {call : Caller} : ∀ (l : List AOper) (st : St) (vs : List (AV × Bool)) (ss : List AS) (fin : St), dscan call l st = some (vs, ss, fin) →
    vs.length = l.length ∧ ss[0]? = some st.s ∧ fin.t = tAt l vs st.t l.length ∧ fin.n = st.n ∧ ss[mAt vs l.length]? = some fin.s ∧ ss.length = mAt vs l.length + 1 ∧ ∀ j, j < l.length → AtJ call l vs ss st.n st.t j
  | [], st, vs, ss, fin, h => by
    simp only [dscan, Option.some.injEq, Prod.mk.injEq] at h
    obtain ⟨rfl, rfl, rfl⟩ := h
    exact ⟨rfl, rfl, rfl, rfl, rfl, rfl, fun j hj => absurd hj (by simp)⟩
  | o :: r, st, vs, ss, fin, h => by
    simp only [dscan] at h
    split at h <;> (try (simp only [reduceCtorEq] at h; done))
    · rename_i hw
      split at h <;> (try (simp only [reduceCtorEq] at h; done))
      rename_i v s' q ho
      split at h <;> (try (simp only [reduceCtorEq] at h; done))
      rename_i st1 hp
      split at h <;> (try (simp only [reduceCtorEq] at h; done))
      rename_i vs1 ss1 fin1 hr
      simp only [Option.some.injEq, Prod.mk.injEq] at h
      obtain ⟨rfl, rfl, rfl⟩ := h
      obtain ⟨g1, g2, g3, g4, g5, g6, g7⟩ := dscan_spec r st1 vs1 ss1 fin1 hr
      obtain ⟨p1, p2, p3, p4⟩ := putT_parts hp
      rw [p1] at g3 g7; rw [p2] at g4 g7; rw [p3] at g2
      cases q with
      | true =>
        simp only [cond_true] at *
        refine ⟨by simp [g1], g2, by simpa [tAt] using g3, g4, by simpa [mAt] using g5, by simpa [mAt] using g6, fun j hj => ?_⟩
        cases j with
        | zero => exact ⟨o, v, true, st.s, rfl, rfl, by simpa [mAt] using g2, p4, .inl ⟨by rw [tAt_zero]; exact hw, s', by rw [tAt_zero]; exact ho, by simp⟩⟩
        | succ j =>
          obtain ⟨o', v', q', sj, a1, a2, a3, a4, a5⟩ := g7 j (by simpa using hj)
          exact ⟨o', v', q', sj, by simpa using a1, by simpa using a2, by simpa [mAt] using a3, a4, by simpa [mAt, tAt] using a5⟩
      | false =>
        simp only [cond_false] at *
        refine ⟨by simp [g1], rfl, by simpa [tAt] using g3, g4, by simpa [mAt, Nat.add_comm 1] using g5, by simp only [mAt, List.length_cons, cond_false, g6]; omega, fun j hj => ?_⟩
        cases j with
        | zero => exact ⟨o, v, false, st.s, rfl, rfl, rfl, p4, .inl ⟨by rw [tAt_zero]; exact hw, s', by rw [tAt_zero]; exact ho, fun _ => by rw [mAt_zero]; simpa using g2⟩⟩
        | succ j =>
          obtain ⟨o', v', q', sj, a1, a2, a3, a4, a5⟩ := g7 j (by simpa using hj)
          refine ⟨o', v', q', sj, by simpa using a1, by simpa using a2, by simpa [mAt, Nat.add_comm 1] using a3, a4, ?_⟩
          simpa [mAt, tAt, Nat.add_comm 1] using a5
    · rename_i hw
      split at h <;> (try (simp only [reduceCtorEq] at h; done))
      rename_i st1 hp
      split at h <;> (try (simp only [reduceCtorEq] at h; done))
      rename_i vs1 ss1 fin1 hr
      simp only [Option.some.injEq, Prod.mk.injEq] at h
      obtain ⟨rfl, rfl, rfl⟩ := h
      obtain ⟨g1, g2, g3, g4, g5, g6, g7⟩ := dscan_spec r st1 vs1 ss1 fin1 hr
      obtain ⟨p1, p2, p3, p4⟩ := putT_parts hp
      rw [p1] at g3 g7; rw [p2] at g4 g7; rw [p3] at g2
      refine ⟨by simp [g1], g2, by simpa [tAt] using g3, g4, by simpa [mAt] using g5, by simpa [mAt] using g6, fun j hj => ?_⟩
      cases j with
      | zero => exact ⟨o, .tu [], true, st.s, rfl, rfl, by simpa [mAt] using g2, p4, .inr ⟨by rw [tAt_zero]; exact hw, rfl, rfl⟩⟩
      | succ j =>
        obtain ⟨o', v', q', sj, a1, a2, a3, a4, a5⟩ := g7 j (by simpa using hj)
        exact ⟨o', v', q', sj, by simpa using a1, by simpa using a2, by simpa [mAt] using a3, a4, by simpa [mAt, tAt] using a5⟩

/-! ### The loud ones -/

theorem loud_spec : ∀ (vs : List (AV × Bool)) (k0 m i : Nat), (loud vs k0)[m]? = some i ↔ ∃ j v, i = k0 + j ∧ vs[j]? = some (v, false) ∧ mAt vs j = m
  | [], k0, m, i => by simp [loud]
  | (v, q) :: r, k0, m, i => by
    cases q with
    | true =>
      simp only [loud, cond_true, loud_spec r (k0 + 1) m i]
      constructor
      · rintro ⟨j, u, rfl, h1, h2⟩
        exact ⟨j + 1, u, by omega, by simpa using h1, by simpa [mAt] using h2⟩
      · rintro ⟨j, u, rfl, h1, h2⟩
        cases j with
        | zero => simp at h1
        | succ j => exact ⟨j, u, by omega, by simpa using h1, by simpa [mAt] using h2⟩
    | false =>
      simp only [loud, cond_false]
      cases m with
      | zero =>
        simp only [List.getElem?_cons_zero, Option.some.injEq]
        constructor
        · rintro rfl; exact ⟨0, v, rfl, rfl, rfl⟩
        · rintro ⟨j, u, rfl, h1, h2⟩
          cases j with
          | zero => rfl
          | succ j => simp [mAt] at h2
      | succ m =>
        simp only [List.getElem?_cons_succ, loud_spec r (k0 + 1) m i]
        constructor
        · rintro ⟨j, u, rfl, h1, h2⟩
          exact ⟨j + 1, u, by omega, by simpa using h1, by simp only [mAt, cond_false]; omega⟩
        · rintro ⟨j, u, rfl, h1, h2⟩
          cases j with
          | zero => simp [mAt] at h2
          | succ j => exact ⟨j, u, by omega, by simpa using h1, by simp only [mAt, cond_false] at h2; omega⟩

theorem loud_len : ∀ (vs : List (AV × Bool)) (k0 : Nat), (loud vs k0).length = mAt vs vs.length
  | [], k0 => rfl
  | (v, q) :: r, k0 => by
    cases q <;> simp [loud, mAt, loud_len r] <;> omega

theorem inOrder_spec {befs : List Nat} : ∀ {N : List Nat}, inOrder befs N = true → ∀ (a b i j : Nat), a < b → N[a]? = some i → N[b]? = some j → (befs.getD j 0).testBit i = true
  | [], _, a, b, i, j, _, h, _ => by simp at h
  | x :: r, h, a, b, i, j, hab, ha, hb => by
    simp only [inOrder, Bool.and_eq_true, List.all_eq_true] at h
    cases b with
    | zero => omega
    | succ b =>
      simp only [List.getElem?_cons_succ] at hb
      cases a with
      | zero =>
        simp only [List.getElem?_cons_zero, Option.some.injEq] at ha
        subst ha
        exact h.1 j (List.mem_of_getElem? hb)
      | succ a => exact inOrder_spec h.2 a b i j (by omega) (by simpa using ha) hb

theorem statesOk_spec {call : Caller} {befs N : List Nat} {t : T AV} {o : AOper} {v : AV} {j here : Nat} : ∀ {ss : List AS} {k0 : Nat}, statesOk call befs N t o v j here ss k0 = true →
    ∀ (m : Nat) (s : AS), ss[m]? = some s → k0 + m = here ∨ meets befs N j (k0 + m) = false ∨ sameThere call t o v s = true
  | [], k0, _, m, s, h => by simp at h
  | x :: r, k0, h, m, s, hm => by
    simp only [statesOk, Bool.and_eq_true, Bool.or_eq_true, beq_iff_eq, Bool.not_eq_true'] at h
    cases m with
    | zero =>
      simp only [List.getElem?_cons_zero, Option.some.injEq] at hm
      subst hm
      rcases h.1 with (g | g) | g
      · exact .inl g
      · exact .inr (.inl g)
      · exact .inr (.inr g)
    | succ m =>
      have := statesOk_spec h.2 m s (by simpa using hm)
      rw [show k0 + 1 + m = k0 + (m + 1) by omega] at this
      exact this

theorem dall_spec {call : Caller} {befs N : List Nat} {ss : List AS} : ∀ {l : List AOper} {vs : List (AV × Bool)} {j0 m0 : Nat} {t : T AV}, dall call befs N ss j0 m0 l vs t = true →
    ∀ (j : Nat) (o : AOper) (v : AV), l[j]? = some o → vs[j]? = some (v, true) → statesOk call befs N (tAt l vs t j) o v (j0 + j) (m0 + mAt vs j) ss 0 = true
  | [], vs, j0, m0, t, _, j, o, v, h, _ => by simp at h
  | o1 :: l, [], j0, m0, t, _, j, o, v, _, h => by simp at h
  | o1 :: l, (v1, q1) :: vs, j0, m0, t, h, j, o, v, h1, h2 => by
    simp only [dall, Bool.and_eq_true] at h
    cases j with
    | zero =>
      simp only [List.getElem?_cons_zero, Option.some.injEq, Prod.mk.injEq] at h1 h2
      obtain ⟨rfl, rfl⟩ := h2
      subst h1
      simpa [tAt, mAt] using h.1
    | succ j =>
      have := dall_spec h.2 j o v (by simpa using h1) (by simpa using h2)
      rw [show j0 + 1 + j = j0 + (j + 1) by omega] at this
      cases q1
      · simp only [cond_false] at this
        simp only [tAt, mAt, cond_false]
        rw [show m0 + (1 + mAt vs j) = m0 + 1 + mAt vs j by omega]
        exact this
      · simp only [cond_true] at this
        simp only [tAt, mAt, cond_true]
        rw [show m0 + (0 + mAt vs j) = m0 + mAt vs j by omega]
        exact this

/-! ### Which temporaries hold what -/

/-- The trie of the operations listed so far. -/
def Cur (l : List AOper) (vs : List (AV × Bool)) (t0 : T AV) (L : Nat → Prop) (t : T AV) : Prop :=
  ∀ d, (t.get d = t0.get d ∧ ∀ i o, L i → l[i]? = some o → o.dst ≠ some d) ∨
    ∃ i o v q, L i ∧ l[i]? = some o ∧ o.dst = some d ∧ vs[i]? = some (v, q) ∧ t.get d = some v ∧ ∀ i' o', L i' → l[i']? = some o' → o'.dst = some d → i' ≤ i

theorem putD_get (t : T AV) (d : Option Nat) (v : AV) (k : Nat) : (putD t d v).get k = if d = some k then some v else t.get k := by
  cases d with
  | none => simp [putD]
  | some d =>
    simp only [putD, T.get_put, Option.some.injEq]
    by_cases e : k = d
    · subst e; simp
    · rw [if_neg e, if_neg (Ne.symm e)]

theorem Cur.put {l : List AOper} {vs : List (AV × Bool)} {t0 t : T AV} {L L' : Nat → Prop} (h : Cur l vs t0 L t) {j : Nat} {o : AOper} {v : AV} {q : Bool} (ho : l[j]? = some o) (hv : vs[j]? = some (v, q))
    (hL : ∀ i, L' i ↔ L i ∨ i = j) (hlast : ∀ i o', L i → l[i]? = some o' → ∀ d, o.dst = some d → o'.dst = some d → i ≤ j) : Cur l vs t0 L' (putD t o.dst v) := fun d => by
  rw [putD_get]
  by_cases hd : o.dst = some d
  · rw [if_pos hd]
    refine .inr ⟨j, o, v, q, (hL j).2 (.inr rfl), ho, hd, hv, rfl, fun i' o' hi ho' hd' => ?_⟩
    rcases (hL i').1 hi with g | g
    · exact hlast i' o' g ho' d hd hd'
    · omega
  · rw [if_neg hd]
    rcases h d with ⟨h1, h2⟩ | ⟨i, oi, vi, qi, h1, h2, h3, h4, h5, h6⟩
    · refine .inl ⟨h1, fun i o' hi ho' => ?_⟩
      rcases (hL i).1 hi with g | g
      · exact h2 i o' g ho'
      · subst g
        rw [ho] at ho'
        obtain rfl := Option.some.inj ho'
        exact hd
    · refine .inr ⟨i, oi, vi, qi, (hL i).2 (.inl h1), h2, h3, h4, h5, fun i' o' hi ho' hd' => ?_⟩
      rcases (hL i').1 hi with g | g
      · exact h6 i' o' g ho' hd'
      · subst g
        rw [ho] at ho'
        obtain rfl := Option.some.inj ho'
        exact absurd hd' hd

theorem Cur.start (l : List AOper) (vs : List (AV × Bool)) (t0 : T AV) {L : Nat → Prop} (hL : ∀ i, ¬ L i) : Cur l vs t0 L t0 := fun d => .inl ⟨rfl, fun i _ h => absurd h (hL i)⟩

theorem Cur.agree {l : List AOper} {vs : List (AV × Bool)} {t0 t t' : T AV} {L L' : Nat → Prop} (h : Cur l vs t0 L t) (h' : Cur l vs t0 L' t') {d : Nat} (hs : ∀ i o, l[i]? = some o → o.dst = some d → (L i ↔ L' i)) : t.get d = t'.get d := by
  rcases h d with ⟨h1, h2⟩ | ⟨i, oi, vi, qi, h1, h2, h3, h4, h5, h6⟩ <;> rcases h' d with ⟨g1, g2⟩ | ⟨k, ok, vk, qk, g1, g2, g3, g4, g5, g6⟩
  · rw [h1, g1]
  · exact absurd g3 (h2 k ok ((hs k ok g2 g3).2 g1) g2)
  · exact absurd h3 (g2 i oi ((hs i oi h2 h3).1 h1) h2)
  · have a := h6 k ok ((hs k ok g2 g3).2 g1) g2 g3
    have b := g6 i oi ((hs i oi h2 h3).1 h1) h2 h3
    have : i = k := by omega
    subst this
    rw [h4] at g4
    obtain ⟨rfl, rfl⟩ := Prod.mk.inj (Option.some.inj g4)
    rw [h5, g5]

theorem tAt_succ : ∀ (l : List AOper) (vs : List (AV × Bool)) (t : T AV) (j : Nat) (o : AOper) (v : AV) (q : Bool), l[j]? = some o → vs[j]? = some (v, q) → tAt l vs t (j + 1) = putD (tAt l vs t j) o.dst v
  | [], _, _, j, o, v, q, h, _ => by simp at h
  | _ :: _, [], _, j, o, v, q, _, h => by simp at h
  | o1 :: l, (v1, q1) :: vs, t, j, o, v, q, h1, h2 => by
    cases j with
    | zero =>
      simp only [List.getElem?_cons_zero, Option.some.injEq, Prod.mk.injEq] at h1 h2
      obtain ⟨rfl, rfl⟩ := h2
      subst h1
      simp only [tAt, tAt_zero]
    | succ j =>
      simp only [tAt]
      exact tAt_succ l vs _ j o v q (by simpa using h1) (by simpa using h2)

theorem Cur.tAt (l : List AOper) (vs : List (AV × Bool)) (t0 : T AV) (hlen : vs.length = l.length) : ∀ j, j ≤ l.length → Cur l vs t0 (· < j) (tAt l vs t0 j)
  | 0, _ => by rw [tAt_zero]; exact .start _ _ _ (by simp)
  | j + 1, h => by
    have hj : j < l.length := h
    have e1 : l[j]? = some l[j] := List.getElem?_eq_getElem hj
    have e2 : vs[j]? = some ((vs[j]'(by omega)).1, (vs[j]'(by omega)).2) := List.getElem?_eq_getElem (by omega)
    rw [tAt_succ l vs t0 j _ _ _ e1 e2]
    exact (Cur.tAt l vs t0 hlen j (by omega)).put e1 e2 (fun i => by omega) (fun i o' hi _ d _ _ => by omega)

end Go.AM
