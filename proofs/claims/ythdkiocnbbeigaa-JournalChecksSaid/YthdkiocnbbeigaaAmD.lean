/- Stepping through regions that draw their order. -/
import Derived.Test.YthdkiocnbbeigaaAmY
namespace Go.AM
set_option linter.unusedVariables false
set_option linter.unusedSimpArgs false

mutual
theorem AV.beq_refl : ∀ v : AV, v.beq v = true
  | .un | .pn | .sn | .mn | .nf | .nif => rfl
  | .b v => by simp [AV.beq]
  | .i k n => by cases k <;> simp [AV.beq]
  | .s l => by simp [AV.beq]
  | .p q o => by simp [AV.beq]
  | .sl q o z l c e => by simp [AV.beq]
  | .m q => by simp [AV.beq]
  | .yl q => by simp [AV.beq]
  | .fn f c => by simp [AV.beq, AV.beqs_refl c]
  | .ag l => by simp [AV.beq, AV.beqs_refl l]
  | .tu l => by simp [AV.beq, AV.beqs_refl l]
theorem AV.beqs_refl : ∀ l : List AV, AV.beqs l l = true
  | [] => rfl
  | v :: l => by simp [AV.beqs, AV.beq_refl v, AV.beqs_refl l]
end

variable (ft : Nat → Option AFunc) (sm : Nat → Option Summ)

/-- What is asked at a region's end. -/
def DC (befs : List Nat) (l0 : List AOper) (t0 : T AV) (vs : List (AV × Bool)) (ss : List AS) : Prop :=
  inOrder befs (loud vs 0) = true ∧ ((∃ s, ss = [s]) ∨ ∃ k, dall (callWith ft sm (aexec ft sm k)) befs (loud vs 0) ss 0 0 l0 vs t0 = true)

/-- The rest of a region. -/
def XD (befs : List Nat) (l0 : List AOper) (t0 : T AV) (l : List AOper) (vs : List (AV × Bool)) (ss : List AS) (K : List Fr) (st : St) (Q : Out → St → Prop) : Prop :=
  ∃ k vs' ss' fin, dscan (callWith ft sm (aexec ft sm k)) l st = some (vs', ss', fin) ∧ DC ft sm befs l0 t0 (vs ++ vs') (ss ++ ss') ∧ X ft sm K .nrm fin Q

variable {ft : Nat → Option AFunc} {sm : Nat → Option Summ} {K : List Fr} {st : St} {Q : Out → St → Prop} {befs : List Nat} {l0 : List AOper} {t0 : T AV} {vs : List (AV × Bool)} {ss : List AS}

theorem X_draw {l : List AOper} {t : T AV} {n : Nat} {s : AS} (h : XD ft sm befs l t l [] [] K ⟨t, n, s⟩ Q) : X ft sm (.c (.draw befs l) :: K) .nrm ⟨t, n, s⟩ Q := by
  obtain ⟨k, vs', ss', fin, h1, ⟨h2, h3⟩, hx⟩ := h
  simp only [List.nil_append] at h2 h3
  rcases h3 with ⟨s1, rfl⟩ | ⟨m, h3⟩
  · refine X_step.2 ⟨k + 1, .nrm, fin, ?_, hx⟩
    simp only [aexec, adraw, h1, h2, Bool.true_and, cond_true]
  · refine X_step.2 ⟨max k m + 1, .nrm, fin, ?_, hx⟩
    simp only [aexec, adraw]
    rw [dscan_mono (call_mono (Nat.le_max_left k m)) _ _ _ h1]
    have h3 := dall_mono (call_mono (Nat.le_max_right k m)) h3
    simp only [h2, h3, Bool.true_and]
    cases ss' with
    | nil => rfl
    | cons a r => cases r <;> rfl

theorem XD_nil (hd : DC ft sm befs l0 t0 vs (ss ++ [st.s])) (hx : X ft sm K .nrm st Q) : XD ft sm befs l0 t0 [] vs ss K st Q :=
  ⟨0, [], [st.s], st, rfl, by simpa using hd, hx⟩

variable (ft sm) in
/-- Behind an operation of a region. -/
def DS (befs : List Nat) (l0 : List AOper) (t0 : T AV) (res : Option (AV × AS)) (q : Bool) (d : Option Nat) (r : List AOper) (vs : List (AV × Bool)) (ss : List AS) (K : List Fr) (t : T AV) (n : Nat) (s : AS) (Q : Out → St → Prop) : Prop :=
  match res with
  | none => False
  | some (v, s') => match putT ⟨t, n, s⟩ d v (bif q then s else s') with
    | some st' => XD ft sm befs l0 t0 r (vs ++ [(v, q)]) (bif q then ss else ss ++ [s]) K st' Q
    | none => False

theorem XD_op {d : Option Nat} {op : AOp} {r : List AOper} {t : T AV} {n : Nat} {s : AS} (hc : op.isCall = false) :
    XD ft sm befs l0 t0 (⟨d, none, op⟩ :: r) vs ss K ⟨t, n, s⟩ Q ↔ DS ft sm befs l0 t0 (aop (ev t) op s) op.quiet d r vs ss K t n s Q := by
  have e : ∀ call, aoper call (ev t) op s = match aop (ev t) op s with
    | some (v, s') => some (v, s', op.quiet)
    | none => none := fun call => by cases op <;> first | rfl | (simp [AOp.isCall] at hc)
  constructor
  · rintro ⟨k, vs', ss', fin, h1, h2, hx⟩
    simp only [dscan, wanted_none, e] at h1
    unfold DS
    cases ha : aop (ev t) op s with
    | none => simp [ha] at h1
    | some p =>
      simp only [ha] at h1 ⊢
      cases hp : putT ⟨t, n, s⟩ d p.1 (bif op.quiet then s else p.2) with
      | none => simp [hp] at h1
      | some st' =>
        simp only [hp] at h1 ⊢
        cases hd : dscan (callWith ft sm (aexec ft sm k)) r st' with
        | none => simp [hd] at h1
        | some x =>
          obtain ⟨x1, x2, x3⟩ := x
          simp only [hd, Option.some.injEq, Prod.mk.injEq] at h1
          obtain ⟨rfl, rfl, rfl⟩ := h1
          refine ⟨k, x1, x2, x3, hd, ?_, hx⟩
          cases hq : op.quiet <;> simpa [hq] using h2
  · intro h
    unfold DS at h
    cases ha : aop (ev t) op s with
    | none => simp [ha] at h
    | some p =>
      simp only [ha] at h
      cases hp : putT ⟨t, n, s⟩ d p.1 (bif op.quiet then s else p.2) with
      | none => simp [hp] at h
      | some st' =>
        simp only [hp] at h
        obtain ⟨k, vs', ss', fin, h1, h2, hx⟩ := h
        refine ⟨k, (p.1, op.quiet) :: vs', (bif op.quiet then ss' else s :: ss'), fin, ?_, ?_, hx⟩
        · simp only [dscan, wanted_none, e, ha, hp, h1]
        · cases hq : op.quiet <;> simpa [hq] using h2

variable (ft sm) in
/-- An operation that may be passed by. -/
def DG (befs : List Nat) (l0 : List AOper) (t0 : T AV) (w : Option Bool) (d : Option Nat) (op : AOp) (r : List AOper) (vs : List (AV × Bool)) (ss : List AS) (K : List Fr) (t : T AV) (n : Nat) (s : AS) (Q : Out → St → Prop) : Prop :=
  match w with
  | none => False
  | some true => XD ft sm befs l0 t0 (⟨d, none, op⟩ :: r) vs ss K ⟨t, n, s⟩ Q
  | some false => match putT ⟨t, n, s⟩ d (.tu []) s with
    | some st' => XD ft sm befs l0 t0 r (vs ++ [(.tu [], true)]) ss K st' Q
    | none => False

theorem DG_true {d : Option Nat} {op : AOp} {r : List AOper} {t : T AV} {n : Nat} {s : AS} : DG ft sm befs l0 t0 (some true) d op r vs ss K t n s Q ↔ XD ft sm befs l0 t0 (⟨d, none, op⟩ :: r) vs ss K ⟨t, n, s⟩ Q := Iff.rfl
theorem DG_false {d : Nat} {op : AOp} {r : List AOper} {t : T AV} {n : Nat} {s : AS} (hd : Nat.blt d n = true) : DG ft sm befs l0 t0 (some false) (some d) op r vs ss K t n s Q ↔ XD ft sm befs l0 t0 r (vs ++ [(.tu [], true)]) ss K ⟨t.put d (some (.tu [])), n, s⟩ Q := by
  simp only [DG, putT, hd, cond_true]
theorem DG_cases {v : Bool} {d : Option Nat} {op : AOp} {r : List AOper} {t : T AV} {n : Nat} {s : AS} (h1 : v = true → DG ft sm befs l0 t0 (some true) d op r vs ss K t n s Q) (h2 : v = false → DG ft sm befs l0 t0 (some false) d op r vs ss K t n s Q) : DG ft sm befs l0 t0 (some v) d op r vs ss K t n s Q := by
  cases v
  · exact h2 rfl
  · exact h1 rfl
theorem DG_casesN {v : Bool} {d : Option Nat} {op : AOp} {r : List AOper} {t : T AV} {n : Nat} {s : AS} (h1 : v = false → DG ft sm befs l0 t0 (some true) d op r vs ss K t n s Q) (h2 : v = true → DG ft sm befs l0 t0 (some false) d op r vs ss K t n s Q) : DG ft sm befs l0 t0 (some (!v)) d op r vs ss K t n s Q := by
  cases v
  · exact h1 rfl
  · exact h2 rfl

theorem XD_may {d : Option Nat} {k : Nat} {w : Bool} {op : AOp} {r : List AOper} {t : T AV} {n : Nat} {s : AS} :
    XD ft sm befs l0 t0 (⟨d, some (k, w), op⟩ :: r) vs ss K ⟨t, n, s⟩ Q ↔ DG ft sm befs l0 t0 (wb (ev t (.t k)) w) d op r vs ss K t n s Q := by
  unfold DG
  cases hw : wb (ev t (.t k)) w with
  | none =>
    refine ⟨fun ⟨m, vs', ss', fin, h1, _⟩ => ?_, fun h => h.elim⟩
    simp [dscan, wanted_some, hw] at h1
  | some v =>
    cases v with
    | true =>
      constructor
      · rintro ⟨m, vs', ss', fin, h1, h2, hx⟩
        refine ⟨m, vs', ss', fin, ?_, h2, hx⟩
        simp only [dscan, wanted_some, hw] at h1
        simp only [dscan, wanted_none]
        exact h1
      · rintro ⟨m, vs', ss', fin, h1, h2, hx⟩
        refine ⟨m, vs', ss', fin, ?_, h2, hx⟩
        simp only [dscan, wanted_none] at h1
        simp only [dscan, wanted_some, hw]
        exact h1
    | false =>
      simp only
      constructor
      · rintro ⟨m, vs', ss', fin, h1, h2, hx⟩
        simp only [dscan, wanted_some, hw] at h1
        cases hp : putT ⟨t, n, s⟩ d (.tu []) s with
        | none => simp [hp] at h1
        | some st' =>
          simp only [hp] at h1 ⊢
          cases hd : dscan (callWith ft sm (aexec ft sm m)) r st' with
          | none => simp [hd] at h1
          | some x =>
            obtain ⟨x1, x2, x3⟩ := x
            simp only [hd, Option.some.injEq, Prod.mk.injEq] at h1
            obtain ⟨rfl, rfl, rfl⟩ := h1
            exact ⟨m, x1, x2, x3, hd, by simpa using h2, hx⟩
      · intro h
        cases hp : putT ⟨t, n, s⟩ d (.tu []) s with
        | none => simp [hp] at h
        | some st' =>
          simp only [hp] at h
          obtain ⟨m, vs', ss', fin, h1, h2, hx⟩ := h
          refine ⟨m, (.tu [], true) :: vs', ss', fin, ?_, by simpa using h2, hx⟩
          simp only [dscan, wanted_some, hw, hp, h1]

variable (ft sm) in
/-- Behind a call of a region. -/
def DK (befs : List Nat) (l0 : List AOper) (t0 : T AV) (f : AV) (args : List AV) (d : Option Nat) (r : List AOper) (vs : List (AV × Bool)) (ss : List AS) (K : List Fr) (t : T AV) (n : Nat) (s : AS) (Q : Out → St → Prop) : Prop :=
  Ca ft sm f args s fun v s' q => DS ft sm befs l0 t0 (some (v, s')) q d r vs ss K t n s Q

theorem XD_call {d : Option Nat} {f : Opd} {as : List Opd} {r : List AOper} {t : T AV} {n : Nat} {s : AS} :
    XD ft sm befs l0 t0 (⟨d, none, .call f as⟩ :: r) vs ss K ⟨t, n, s⟩ Q ↔ DK ft sm befs l0 t0 (ev t f) (as.map (ev t)) d r vs ss K t n s Q := by
  constructor
  · rintro ⟨k, vs', ss', fin, h1, h2, hx⟩
    simp only [dscan, wanted_none, aoper] at h1
    cases hc : callWith ft sm (aexec ft sm k) (ev t f) (as.map (ev t)) s with
    | none => simp [hc] at h1
    | some p =>
      obtain ⟨v, s', q⟩ := p
      simp only [hc] at h1
      refine ⟨k, v, s', q, hc, ?_⟩
      unfold DS
      simp only
      cases hp : putT ⟨t, n, s⟩ d v (bif q then s else s') with
      | none => simp [hp] at h1
      | some st' =>
        simp only [hp] at h1 ⊢
        cases hd : dscan (callWith ft sm (aexec ft sm k)) r st' with
        | none => simp [hd] at h1
        | some x =>
          obtain ⟨x1, x2, x3⟩ := x
          simp only [hd, Option.some.injEq, Prod.mk.injEq] at h1
          obtain ⟨rfl, rfl, rfl⟩ := h1
          refine ⟨k, x1, x2, x3, hd, ?_, hx⟩
          cases q <;> simpa using h2
  intro h
  obtain ⟨k, v, s', q, h, hx⟩ := h
  unfold DS at hx
  simp only at hx
  cases hp : putT ⟨t, n, s⟩ d v (bif q then s else s') with
  | none => simp [hp] at hx
  | some st' =>
    simp only [hp] at hx
    obtain ⟨m, vs', ss', fin, h1, h2, hx⟩ := hx
    refine ⟨max k m, (v, q) :: vs', (bif q then ss' else s :: ss'), fin, ?_, ?_, hx⟩
    · simp only [dscan, wanted_none, aoper]
      rw [call_mono (Nat.le_max_left k m) _ _ _ _ h]
      simp only [hp]
      rw [dscan_mono (call_mono (Nat.le_max_right k m)) _ _ _ h1]
    · cases q <;> simpa using h2

theorem DK_re {f : AV} {args : List AV} {d : Option Nat} {r : List AOper} {t : T AV} {n : Nat} {s : AS} {v : AV} (h : Re ft sm f args s v) (hx : DS ft sm befs l0 t0 (some (v, s)) true d r vs ss K t n s Q) : DK ft sm befs l0 t0 f args d r vs ss K t n s Q := h.ca.2 hx
theorem DK_ca {f : AV} {args : List AV} {d : Option Nat} {r : List AOper} {t : T AV} {n : Nat} {s : AS} {P : AV → AS → Bool → Prop} (h : Ca ft sm f args s P) (hx : ∀ v s' q, P v s' q → DS ft sm befs l0 t0 (some (v, s')) q d r vs ss K t n s Q) : DK ft sm befs l0 t0 f args d r vs ss K t n s Q := h.mono hx

theorem DS_quiet {v : AV} {s s' : AS} {d : Nat} {r : List AOper} {t : T AV} {n : Nat} (hd : Nat.blt d n = true) :
    DS ft sm befs l0 t0 (some (v, s')) true (some d) r vs ss K t n s Q ↔ XD ft sm befs l0 t0 r (vs ++ [(v, true)]) ss K ⟨t.put d (some v), n, s⟩ Q := by
  simp only [DS, putT, hd, cond_true]
theorem DS_loud {v : AV} {s s' : AS} {d : Nat} {r : List AOper} {t : T AV} {n : Nat} (hd : Nat.blt d n = true) :
    DS ft sm befs l0 t0 (some (v, s')) false (some d) r vs ss K t n s Q ↔ XD ft sm befs l0 t0 r (vs ++ [(v, false)]) (ss ++ [s]) K ⟨t.put d (some v), n, s'⟩ Q := by
  simp only [DS, putT, hd, cond_true, cond_false]
theorem DS_loud0 {v : AV} {s s' : AS} {r : List AOper} {t : T AV} {n : Nat} :
    DS ft sm befs l0 t0 (some (v, s')) false none r vs ss K t n s Q ↔ XD ft sm befs l0 t0 r (vs ++ [(v, false)]) (ss ++ [s]) K ⟨t, n, s'⟩ Q := by
  simp only [DS, putT, cond_false]

/-- Nothing but one state. -/
theorem DC_one {s : AS} (h : inOrder befs (loud vs 0) = true) : DC ft sm befs l0 t0 vs [s] := ⟨h, .inl ⟨s, rfl⟩⟩

/-- By what the order alone says: no quiet operation is met in another state. -/
def metNo (befs N : List Nat) : List Bool → Nat → Nat → Nat → Bool
  | [], _, _, _ => true
  | q :: r, j, here, len => (!q || (List.range len).all fun m => m == here || !meets befs N j m) && metNo befs N r (j + 1) (bif q then here else here + 1) len

theorem statesOk_no {call : Caller} {N : List Nat} {t : T AV} {o : AOper} {v : AV} {j here : Nat} : ∀ {ss : List AS} {m : Nat}, (∀ i, m ≤ i → i < m + ss.length → (i == here || !meets befs N j i) = true) → statesOk call befs N t o v j here ss m = true
  | [], m, _ => rfl
  | s :: ss, m, h => by
    simp only [statesOk, Bool.and_eq_true]
    refine ⟨?_, statesOk_no (fun i h1 h2 => h i (by omega) (by simp only [List.length_cons]; omega))⟩
    have := h m (Nat.le_refl _) (by simp)
    rw [this]; rfl

theorem dall_no {call : Caller} {N : List Nat} : ∀ {l : List AOper} {vs : List (AV × Bool)} {j m : Nat} {t : T AV}, metNo befs N (vs.map (·.2)) j m ss.length = true → dall call befs N ss j m l vs t = true
  | [], _, _, _, _, _ => rfl
  | _ :: _, [], _, _, _, _ => rfl
  | o :: l, (v, q) :: vs, j, m, t, h => by
    simp only [List.map_cons, metNo, Bool.and_eq_true, Bool.or_eq_true, List.all_eq_true, List.mem_range] at h
    simp only [dall, Bool.and_eq_true, Bool.or_eq_true]
    refine ⟨h.1.imp id (fun g => statesOk_no (fun i _ h2 => ?_)), dall_no h.2⟩
    simpa using g i (by omega)

theorem DC_no (qs : List Bool) (k : Nat) (hq : vs.map (·.2) = qs) (hk : ss.length = k) (h1 : inOrder befs (loud vs 0) = true) (h2 : metNo befs (loud vs 0) qs 0 0 k = true) : DC ft sm befs l0 t0 vs ss := by
  subst hq; subst hk; exact ⟨h1, .inr ⟨0, dall_no h2⟩⟩

theorem XD_mv {d : Option Nat} {r : List AOper} {t : T AV} {n : Nat} {s : AS} (x : Opd) : XD ft sm befs l0 t0 (⟨d, none, .mv x⟩ :: r) vs ss K ⟨t, n, s⟩ Q ↔ DS ft sm befs l0 t0 (some (ev t x, s)) true d r vs ss K t n s Q := by
  rw [XD_op rfl]; rfl
theorem aop_mv {t : T AV} {s : AS} (x : Opd) : aop (ev t) (.mv x) s = some (ev t x, s) := by
  rfl
theorem XD_pick {d : Option Nat} {r : List AOper} {t : T AV} {n : Nat} {s : AS} (c a b : Opd) : XD ft sm befs l0 t0 (⟨d, none, .pick c a b⟩ :: r) vs ss K ⟨t, n, s⟩ Q ↔ DS ft sm befs l0 t0 (pickA (ev t c) (ev t a) (ev t b) s) true d r vs ss K t n s Q := by
  rw [XD_op rfl]; rfl
theorem aop_pick {t : T AV} {s : AS} (c a b : Opd) : aop (ev t) (.pick c a b) s = pickA (ev t c) (ev t a) (ev t b) s := by
  rfl
theorem XD_alloc {d : Option Nat} {r : List AOper} {t : T AV} {n : Nat} {s : AS} (zs : List AV) : XD ft sm befs l0 t0 (⟨d, none, .alloc zs⟩ :: r) vs ss K ⟨t, n, s⟩ Q ↔ DS ft sm befs l0 t0 (some (.p s.nx 0, s.new (.row true zs))) false d r vs ss K t n s Q := by
  rw [XD_op rfl]; rfl
theorem aop_alloc {t : T AV} {s : AS} (zs : List AV) : aop (ev t) (.alloc zs) s = some (.p s.nx 0, s.new (.row true zs)) := by
  rfl
theorem XD_box {d : Option Nat} {r : List AOper} {t : T AV} {n : Nat} {s : AS} (z : Nat) (x : Opd) : XD ft sm befs l0 t0 (⟨d, none, .box z x⟩ :: r) vs ss K ⟨t, n, s⟩ Q ↔ DS ft sm befs l0 t0 (boxA z (ev t x) s) false d r vs ss K t n s Q := by
  rw [XD_op rfl]; rfl
theorem aop_box {t : T AV} {s : AS} (z : Nat) (x : Opd) : aop (ev t) (.box z x) s = boxA z (ev t x) s := by
  rfl
theorem XD_bld {d : Option Nat} {r : List AOper} {t : T AV} {n : Nat} {s : AS} (zero : List AV) (ps : List (Nat × Nat × Opd)) : XD ft sm befs l0 t0 (⟨d, none, .bld zero ps⟩ :: r) vs ss K ⟨t, n, s⟩ Q ↔ DS ft sm befs l0 t0 (bldA (fillL zero (partsOf (ev t) ps)) s) true d r vs ss K t n s Q := by
  rw [XD_op rfl]; rfl
theorem aop_bld {t : T AV} {s : AS} (zero : List AV) (ps : List (Nat × Nat × Opd)) : aop (ev t) (.bld zero ps) s = bldA (fillL zero (partsOf (ev t) ps)) s := by
  rfl
theorem XD_bsl {d : Option Nat} {r : List AOper} {t : T AV} {n : Nat} {s : AS} (z len : Nat) (zero : List AV) (ps : List (Nat × Nat × Opd)) : XD ft sm befs l0 t0 (⟨d, none, .bsl z len zero ps⟩ :: r) vs ss K ⟨t, n, s⟩ Q ↔ DS ft sm befs l0 t0 (bslA z len (fillL (repCells len zero) (partsOf (ev t) ps)) s) false d r vs ss K t n s Q := by
  rw [XD_op rfl]; rfl
theorem aop_bsl {t : T AV} {s : AS} (z len : Nat) (zero : List AV) (ps : List (Nat × Nat × Opd)) : aop (ev t) (.bsl z len zero ps) s = bslA z len (fillL (repCells len zero) (partsOf (ev t) ps)) s := by
  rfl
theorem XD_ld {d : Option Nat} {r : List AOper} {t : T AV} {n : Nat} {s : AS} (g : Bool) (z : Nat) (a : Opd) : XD ft sm befs l0 t0 (⟨d, none, .ld g z a⟩ :: r) vs ss K ⟨t, n, s⟩ Q ↔ DS ft sm befs l0 t0 (ldA g z (ev t a) s) true d r vs ss K t n s Q := by
  rw [XD_op rfl]; rfl
theorem aop_ld {t : T AV} {s : AS} (g : Bool) (z : Nat) (a : Opd) : aop (ev t) (.ld g z a) s = ldA g z (ev t a) s := by
  rfl
theorem XD_st {d : Option Nat} {r : List AOper} {t : T AV} {n : Nat} {s : AS} (z : Nat) (a x : Opd) : XD ft sm befs l0 t0 (⟨d, none, .st z a x⟩ :: r) vs ss K ⟨t, n, s⟩ Q ↔ DS ft sm befs l0 t0 (stA z (ev t a) (ev t x) s) false d r vs ss K t n s Q := by
  rw [XD_op rfl]; rfl
theorem aop_st {t : T AV} {s : AS} (z : Nat) (a x : Opd) : aop (ev t) (.st z a x) s = stA z (ev t a) (ev t x) s := by
  rfl
theorem XD_nilck {d : Option Nat} {r : List AOper} {t : T AV} {n : Nat} {s : AS} (x : Opd) : XD ft sm befs l0 t0 (⟨d, none, .nilck x⟩ :: r) vs ss K ⟨t, n, s⟩ Q ↔ DS ft sm befs l0 t0 (nilA (ev t x) s) true d r vs ss K t n s Q := by
  rw [XD_op rfl]; rfl
theorem aop_nilck {t : T AV} {s : AS} (x : Opd) : aop (ev t) (.nilck x) s = nilA (ev t x) s := by
  rfl
theorem XD_bin {d : Option Nat} {r : List AOper} {t : T AV} {n : Nat} {s : AS} (op : BinOp) (e : EqK) (x y : Opd) : XD ft sm befs l0 t0 (⟨d, none, .bin op e x y⟩ :: r) vs ss K ⟨t, n, s⟩ Q ↔ DS ft sm befs l0 t0 (valA (binV op e (ev t x) (ev t y)) s) true d r vs ss K t n s Q := by
  rw [XD_op rfl]; rfl
theorem aop_bin {t : T AV} {s : AS} (op : BinOp) (e : EqK) (x y : Opd) : aop (ev t) (.bin op e x y) s = valA (binV op e (ev t x) (ev t y)) s := by
  rfl
theorem XD_un {d : Option Nat} {r : List AOper} {t : T AV} {n : Nat} {s : AS} (op : UnOp) (x : Opd) : XD ft sm befs l0 t0 (⟨d, none, .un op x⟩ :: r) vs ss K ⟨t, n, s⟩ Q ↔ DS ft sm befs l0 t0 (valA (unV op (ev t x)) s) true d r vs ss K t n s Q := by
  rw [XD_op rfl]; rfl
theorem aop_un {t : T AV} {s : AS} (op : UnOp) (x : Opd) : aop (ev t) (.un op x) s = valA (unV op (ev t x)) s := by
  rfl
theorem XD_cv {d : Option Nat} {r : List AOper} {t : T AV} {n : Nat} {s : AS} (c : Cv) (x : Opd) : XD ft sm befs l0 t0 (⟨d, none, .cv c x⟩ :: r) vs ss K ⟨t, n, s⟩ Q ↔ DS ft sm befs l0 t0 (cvA c (ev t x) s) (AOp.quiet (.cv c x)) d r vs ss K t n s Q := by
  rw [XD_op rfl]; rfl
theorem aop_cv {t : T AV} {s : AS} (c : Cv) (x : Opd) : aop (ev t) (.cv c x) s = cvA c (ev t x) s := by
  rfl
theorem XD_mkf {d : Option Nat} {r : List AOper} {t : T AV} {n : Nat} {s : AS} (f : Nat) (c : List Opd) : XD ft sm befs l0 t0 (⟨d, none, .mkf f c⟩ :: r) vs ss K ⟨t, n, s⟩ Q ↔ DS ft sm befs l0 t0 (some (.fn f (c.map (ev t)), s)) true d r vs ss K t n s Q := by
  rw [XD_op rfl]; rfl
theorem aop_mkf {t : T AV} {s : AS} (f : Nat) (c : List Opd) : aop (ev t) (.mkf f c) s = some (.fn f (c.map (ev t)), s) := by
  rfl
theorem XD_mkm {d : Option Nat} {r : List AOper} {t : T AV} {n : Nat} {s : AS}  : XD ft sm befs l0 t0 (⟨d, none, .mkm ⟩ :: r) vs ss K ⟨t, n, s⟩ Q ↔ DS ft sm befs l0 t0 (some (.m s.nx, s.new (.mp []))) false d r vs ss K t n s Q := by
  rw [XD_op rfl]; rfl
theorem aop_mkm {t : T AV} {s : AS}  : aop (ev t) (.mkm ) s = some (.m s.nx, s.new (.mp [])) := by
  rfl
theorem XD_mks {d : Option Nat} {r : List AOper} {t : T AV} {n : Nat} {s : AS} (z bytes : Nat) (zero : List AV) (l c : Opd) : XD ft sm befs l0 t0 (⟨d, none, .mks z bytes zero l c⟩ :: r) vs ss K ⟨t, n, s⟩ Q ↔ DS ft sm befs l0 t0 (mksA z bytes zero (ev t l) (ev t c) s) false d r vs ss K t n s Q := by
  rw [XD_op rfl]; rfl
theorem aop_mks {t : T AV} {s : AS} (z bytes : Nat) (zero : List AV) (l c : Opd) : aop (ev t) (.mks z bytes zero l c) s = mksA z bytes zero (ev t l) (ev t c) s := by
  rfl
theorem XD_sls {d : Option Nat} {r : List AOper} {t : T AV} {n : Nat} {s : AS} (x : Opd) (lo hi : Option Opd) : XD ft sm befs l0 t0 (⟨d, none, .sls x lo hi⟩ :: r) vs ss K ⟨t, n, s⟩ Q ↔ DS ft sm befs l0 t0 (slsA (ev t x) (lo.map (ev t)) (hi.map (ev t)) s) true d r vs ss K t n s Q := by
  rw [XD_op rfl]; cases lo <;> cases hi <;> rfl
theorem aop_sls {t : T AV} {s : AS} (x : Opd) (lo hi : Option Opd) : aop (ev t) (.sls x lo hi) s = slsA (ev t x) (lo.map (ev t)) (hi.map (ev t)) s := by
  cases lo <;> cases hi <;> rfl
theorem XD_slc {d : Option Nat} {r : List AOper} {t : T AV} {n : Nat} {s : AS} (z : Nat) (x : Opd) (lo hi mx : Option Opd) : XD ft sm befs l0 t0 (⟨d, none, .slc z x lo hi mx⟩ :: r) vs ss K ⟨t, n, s⟩ Q ↔ DS ft sm befs l0 t0 (slcA z (ev t x) (lo.map (ev t)) (hi.map (ev t)) (mx.map (ev t)) s) true d r vs ss K t n s Q := by
  rw [XD_op rfl]; cases lo <;> cases hi <;> cases mx <;> rfl
theorem aop_slc {t : T AV} {s : AS} (z : Nat) (x : Opd) (lo hi mx : Option Opd) : aop (ev t) (.slc z x lo hi mx) s = slcA z (ev t x) (lo.map (ev t)) (hi.map (ev t)) (mx.map (ev t)) s := by
  cases lo <;> cases hi <;> cases mx <;> rfl
theorem XD_sla {d : Option Nat} {r : List AOper} {t : T AV} {n : Nat} {s : AS} (n z : Nat) (x : Opd) (lo hi : Option Opd) : XD ft sm befs l0 t0 (⟨d, none, .sla n z x lo hi⟩ :: r) vs ss K ⟨t, n, s⟩ Q ↔ DS ft sm befs l0 t0 (slaA n z (ev t x) (lo.map (ev t)) (hi.map (ev t)) s) true d r vs ss K t n s Q := by
  rw [XD_op rfl]; cases lo <;> cases hi <;> rfl
theorem aop_sla {t : T AV} {s : AS} (n z : Nat) (x : Opd) (lo hi : Option Opd) : aop (ev t) (.sla n z x lo hi) s = slaA n z (ev t x) (lo.map (ev t)) (hi.map (ev t)) s := by
  cases lo <;> cases hi <;> rfl
theorem XD_fad {d : Option Nat} {r : List AOper} {t : T AV} {n : Nat} {s : AS} (off : Nat) (x : Opd) : XD ft sm befs l0 t0 (⟨d, none, .fad off x⟩ :: r) vs ss K ⟨t, n, s⟩ Q ↔ DS ft sm befs l0 t0 (fadA off (ev t x) s) true d r vs ss K t n s Q := by
  rw [XD_op rfl]; rfl
theorem aop_fad {t : T AV} {s : AS} (off : Nat) (x : Opd) : aop (ev t) (.fad off x) s = fadA off (ev t x) s := by
  rfl
theorem XD_fld {d : Option Nat} {r : List AOper} {t : T AV} {n : Nat} {s : AS} (g : Bool) (off z : Nat) (x : Opd) : XD ft sm befs l0 t0 (⟨d, none, .fld g off z x⟩ :: r) vs ss K ⟨t, n, s⟩ Q ↔ DS ft sm befs l0 t0 (fldA g off z (ev t x) s) true d r vs ss K t n s Q := by
  rw [XD_op rfl]; rfl
theorem aop_fld {t : T AV} {s : AS} (g : Bool) (off z : Nat) (x : Opd) : aop (ev t) (.fld g off z x) s = fldA g off z (ev t x) s := by
  rfl
theorem XD_iad {d : Option Nat} {r : List AOper} {t : T AV} {n : Nat} {s : AS} (arr : Option Nat) (z : Nat) (x i : Opd) : XD ft sm befs l0 t0 (⟨d, none, .iad arr z x i⟩ :: r) vs ss K ⟨t, n, s⟩ Q ↔ DS ft sm befs l0 t0 (iadA arr z (ev t x) (ev t i) s) true d r vs ss K t n s Q := by
  rw [XD_op rfl]; rfl
theorem aop_iad {t : T AV} {s : AS} (arr : Option Nat) (z : Nat) (x i : Opd) : aop (ev t) (.iad arr z x i) s = iadA arr z (ev t x) (ev t i) s := by
  rfl
theorem XD_idx {d : Option Nat} {r : List AOper} {t : T AV} {n : Nat} {s : AS} (x i : Opd) : XD ft sm befs l0 t0 (⟨d, none, .idx x i⟩ :: r) vs ss K ⟨t, n, s⟩ Q ↔ DS ft sm befs l0 t0 (idxA (ev t x) (ev t i) s) true d r vs ss K t n s Q := by
  rw [XD_op rfl]; rfl
theorem aop_idx {t : T AV} {s : AS} (x i : Opd) : aop (ev t) (.idx x i) s = idxA (ev t x) (ev t i) s := by
  rfl
theorem XD_lk {d : Option Nat} {r : List AOper} {t : T AV} {n : Nat} {s : AS} (e : EqK) (zero : AV) (ok : Bool) (m k : Opd) : XD ft sm befs l0 t0 (⟨d, none, .lk e zero ok m k⟩ :: r) vs ss K ⟨t, n, s⟩ Q ↔ DS ft sm befs l0 t0 (lkA e zero ok (ev t m) (ev t k) s) true d r vs ss K t n s Q := by
  rw [XD_op rfl]; rfl
theorem aop_lk {t : T AV} {s : AS} (e : EqK) (zero : AV) (ok : Bool) (m k : Opd) : aop (ev t) (.lk e zero ok m k) s = lkA e zero ok (ev t m) (ev t k) s := by
  rfl
theorem XD_mup {d : Option Nat} {r : List AOper} {t : T AV} {n : Nat} {s : AS} (e : EqK) (m k v : Opd) : XD ft sm befs l0 t0 (⟨d, none, .mup e m k v⟩ :: r) vs ss K ⟨t, n, s⟩ Q ↔ DS ft sm befs l0 t0 (mupA e (ev t m) (ev t k) (ev t v) s) false d r vs ss K t n s Q := by
  rw [XD_op rfl]; rfl
theorem aop_mup {t : T AV} {s : AS} (e : EqK) (m k v : Opd) : aop (ev t) (.mup e m k v) s = mupA e (ev t m) (ev t k) (ev t v) s := by
  rfl
theorem XD_ext {d : Option Nat} {r : List AOper} {t : T AV} {n : Nat} {s : AS} (x : Opd) (i : Nat) : XD ft sm befs l0 t0 (⟨d, none, .ext x i⟩ :: r) vs ss K ⟨t, n, s⟩ Q ↔ DS ft sm befs l0 t0 (extA (ev t x) i s) true d r vs ss K t n s Q := by
  rw [XD_op rfl]; rfl
theorem aop_ext {t : T AV} {s : AS} (x : Opd) (i : Nat) : aop (ev t) (.ext x i) s = extA (ev t x) i s := by
  rfl
theorem XD_len {d : Option Nat} {r : List AOper} {t : T AV} {n : Nat} {s : AS} (k : LK) (x : Opd) : XD ft sm befs l0 t0 (⟨d, none, .len k x⟩ :: r) vs ss K ⟨t, n, s⟩ Q ↔ DS ft sm befs l0 t0 (lenA k (ev t x) s) true d r vs ss K t n s Q := by
  rw [XD_op rfl]; rfl
theorem aop_len {t : T AV} {s : AS} (k : LK) (x : Opd) : aop (ev t) (.len k x) s = lenA k (ev t x) s := by
  rfl
theorem XD_app {d : Option Nat} {r : List AOper} {t : T AV} {n : Nat} {s : AS} (z bytes : Nat) (x y : Opd) : XD ft sm befs l0 t0 (⟨d, none, .app z bytes x y⟩ :: r) vs ss K ⟨t, n, s⟩ Q ↔ DS ft sm befs l0 t0 (appV s z bytes (ev t x) (ev t y)) false d r vs ss K t n s Q := by
  rw [XD_op rfl]; rfl
theorem aop_app {t : T AV} {s : AS} (z bytes : Nat) (x y : Opd) : aop (ev t) (.app z bytes x y) s = appV s z bytes (ev t x) (ev t y) := by
  rfl
theorem XD_cpy {d : Option Nat} {r : List AOper} {t : T AV} {n : Nat} {s : AS} (z : Nat) (y x : Opd) : XD ft sm befs l0 t0 (⟨d, none, .cpy z y x⟩ :: r) vs ss K ⟨t, n, s⟩ Q ↔ DS ft sm befs l0 t0 (cpyA z (ev t y) (ev t x) s) false d r vs ss K t n s Q := by
  rw [XD_op rfl]; rfl
theorem aop_cpy {t : T AV} {s : AS} (z : Nat) (y x : Opd) : aop (ev t) (.cpy z y x) s = cpyA z (ev t y) (ev t x) s := by
  rfl
theorem XD_mnx {d : Option Nat} {r : List AOper} {t : T AV} {n : Nat} {s : AS} (mx : Bool) (xs : List Opd) : XD ft sm befs l0 t0 (⟨d, none, .mnx mx xs⟩ :: r) vs ss K ⟨t, n, s⟩ Q ↔ DS ft sm befs l0 t0 (mnxA mx (xs.map (ev t)) s) true d r vs ss K t n s Q := by
  rw [XD_op rfl]; rfl
theorem aop_mnx {t : T AV} {s : AS} (mx : Bool) (xs : List Opd) : aop (ev t) (.mnx mx xs) s = mnxA mx (xs.map (ev t)) s := by
  rfl
theorem XD_clr {d : Option Nat} {r : List AOper} {t : T AV} {n : Nat} {s : AS} (z : Nat) (zero : List AV) (x : Opd) : XD ft sm befs l0 t0 (⟨d, none, .clr z zero x⟩ :: r) vs ss K ⟨t, n, s⟩ Q ↔ DS ft sm befs l0 t0 (clrA z zero (ev t x) s) false d r vs ss K t n s Q := by
  rw [XD_op rfl]; rfl
theorem aop_clr {t : T AV} {s : AS} (z : Nat) (zero : List AV) (x : Opd) : aop (ev t) (.clr z zero x) s = clrA z zero (ev t x) s := by
  rfl
attribute [push_cast] XD_may DG_true DG_false XD_call DS_quiet DS_loud DS_loud0 XD_mv XD_pick XD_alloc XD_box XD_bld XD_bsl XD_ld XD_st XD_nilck XD_bin XD_un XD_cv XD_mkf XD_mkm XD_mks XD_sls XD_slc XD_sla XD_fad XD_fld XD_iad XD_idx XD_lk XD_mup XD_ext XD_len XD_app XD_cpy XD_mnx XD_clr
theorem quiet_int (k : IntKind) (x : Opd) : (AOp.cv (.int k) x).quiet = true := rfl
attribute [push_cast] quiet_int

/-! In general: what is to be the same in other states. -/

def sameR (r : Option (AV × AS)) (v : AV) : Bool := match r with
  | some (v', _) => v'.beq v
  | none => false
theorem sameR_some (v : AV) (s : AS) : sameR (some (v, s)) v = true := AV.beq_refl v
theorem sameThere_op {call : Caller} {t : T AV} {d : Option Nat} {op : AOp} {v : AV} {s : AS} (hc : op.isCall = false) (hq : op.quiet = true) : sameThere call t ⟨d, none, op⟩ v s = sameR (aop (ev t) op s) v := by
  have e : aoper call (ev t) op s = match aop (ev t) op s with
    | some (v, s') => some (v, s', op.quiet)
    | none => none := by cases op <;> first | rfl | (simp [AOp.isCall] at hc)
  simp only [sameThere, wanted_none, e]
  cases aop (ev t) op s with
  | none => rfl
  | some p => simp only [hq]; rfl

def needs (befs N : List Nat) : List Bool → Nat → Nat → Nat → List (List Nat)
  | [], _, _, _ => []
  | q :: r, j, here, len => (bif q then (List.range len).filter (fun m => !(m == here) && meets befs N j m) else []) :: needs befs N r (j + 1) (bif q then here else here + 1) len

def SameAt (call : Caller) (t : T AV) (o : AOper) (v : AV) (ss : List AS) (m : Nat) : Prop := ∀ s, ss[m]? = some s → sameThere call t o v s = true

def dallN (call : Caller) (ss : List AS) : List (List Nat) → List AOper → List (AV × Bool) → T AV → Prop
  | ms :: nl, o :: l, (v, _) :: vs, t => (∀ m ∈ ms, SameAt call t o v ss m) ∧ dallN call ss nl l vs (match o.dst with | some d => t.put d (some v) | none => t)
  | _, _, _, _ => True

theorem statesOk_of {call : Caller} {N : List Nat} {t : T AV} {o : AOper} {v : AV} {j here : Nat} : ∀ {ss : List AS} {m : Nat}, (∀ i s, ss[i]? = some s → ((m + i == here) = false) → meets befs N j (m + i) = true → sameThere call t o v s = true) → statesOk call befs N t o v j here ss m = true
  | [], m, _ => rfl
  | s :: ss, m, h => by
    simp only [statesOk, Bool.and_eq_true]
    refine ⟨?_, statesOk_of (fun i s' h1 h2 h3 => h (i + 1) s' (by simpa using h1) (by rw [← h2]; congr 1; omega) (by rw [← h3]; congr 1; omega))⟩
    cases hh : (m == here)
    · cases hm : meets befs N j m
      · rfl
      · have := h 0 s rfl (by simpa using hh) (by simpa using hm)
        rw [this]; rfl
    · rfl

theorem dall_of {call : Caller} {N : List Nat} : ∀ {l : List AOper} {vs : List (AV × Bool)} {j m : Nat} {t : T AV}, dallN call ss (needs befs N (vs.map (·.2)) j m ss.length) l vs t → dall call befs N ss j m l vs t = true
  | [], _, _, _, _, _ => rfl
  | _ :: _, [], _, _, _, _ => rfl
  | o :: l, (v, q) :: vs, j, m, t, h => by
    simp only [List.map_cons, needs, dallN] at h
    simp only [dall, Bool.and_eq_true, Bool.or_eq_true]
    refine ⟨?_, dall_of h.2⟩
    cases q
    · exact .inl rfl
    · refine .inr (statesOk_of (fun i s h1 h2 h3 => h.1 i ?_ s h1))
      simp only [cond_true, List.mem_filter, List.mem_range, Bool.and_eq_true, Bool.not_eq_true']
      rw [Nat.zero_add] at h2 h3
      exact ⟨(List.getElem?_eq_some_iff.1 h1).1, h2, h3⟩

theorem DC_of (qs : List Bool) (k : Nat) (nl : List (List Nat)) (hq : vs.map (·.2) = qs) (hk : ss.length = k) (h1 : inOrder befs (loud vs 0) = true) (h2 : needs befs (loud vs 0) qs 0 0 k = nl) (h3 : ∀ call, dallN call ss nl l0 vs t0) : DC ft sm befs l0 t0 vs ss := by
  subst hq; subst hk; subst h2
  exact ⟨h1, .inr ⟨0, dall_of (h3 _)⟩⟩

theorem dallN_nil (call : Caller) (ss : List AS) (vs : List (AV × Bool)) (t : T AV) (nl : List (List Nat)) : dallN call ss nl [] vs t ↔ True := by
  cases nl <;> simp [dallN]
theorem dallN_cons (call : Caller) (ss : List AS) (ms : List Nat) (nl : List (List Nat)) (d : Nat) (g : Option (Nat × Bool)) (op : AOp) (l : List AOper) (v : AV) (q : Bool) (vs : List (AV × Bool)) (t : T AV) :
    dallN call ss (ms :: nl) (⟨some d, g, op⟩ :: l) ((v, q) :: vs) t ↔ (∀ m ∈ ms, SameAt call t ⟨some d, g, op⟩ v ss m) ∧ dallN call ss nl l vs (t.put d (some v)) := Iff.rfl
theorem dallN_cons0 (call : Caller) (ss : List AS) (ms : List Nat) (nl : List (List Nat)) (g : Option (Nat × Bool)) (op : AOp) (l : List AOper) (v : AV) (q : Bool) (vs : List (AV × Bool)) (t : T AV) :
    dallN call ss (ms :: nl) (⟨none, g, op⟩ :: l) ((v, q) :: vs) t ↔ (∀ m ∈ ms, SameAt call t ⟨none, g, op⟩ v ss m) ∧ dallN call ss nl l vs t := Iff.rfl
theorem SameAt_zero (call : Caller) (t : T AV) (o : AOper) (v : AV) (s : AS) (ss : List AS) : SameAt call t o v (s :: ss) 0 ↔ sameThere call t o v s = true := by
  simp [SameAt]
theorem SameAt_succ (call : Caller) (t : T AV) (o : AOper) (v : AV) (s : AS) (ss : List AS) (m : Nat) : SameAt call t o v (s :: ss) (m + 1) ↔ SameAt call t o v ss m := by
  simp [SameAt]
theorem each_nil {α : Type} (p : α → Prop) : (∀ m ∈ ([] : List α), p m) ↔ True := by simp
theorem each_cons {α : Type} (a : α) (l : List α) (p : α → Prop) : (∀ m ∈ a :: l, p m) ↔ p a ∧ ∀ m ∈ l, p m := by simp
theorem sameThere_g {call : Caller} {t : T AV} {d : Option Nat} {k : Nat} {w : Bool} {op : AOp} {v : AV} {s : AS} (hw : wb (ev t (.t k)) w = some true) : sameThere call t ⟨d, some (k, w), op⟩ v s = sameThere call t ⟨d, none, op⟩ v s := by
  simp only [sameThere, wanted_some, hw, wanted_none]
theorem isCall_mv (x : Opd) : (AOp.mv x).isCall = false := rfl
theorem same_mv {call : Caller} {t : T AV} {d : Option Nat} {v : AV} {s : AS} (x : Opd) : sameThere call t ⟨d, none, .mv x⟩ v s = sameR (aop (ev t) (.mv x)  s) v := sameThere_op rfl rfl
theorem same_ld {call : Caller} {t : T AV} {d : Option Nat} {v : AV} {s : AS} (g : Bool) (z : Nat) (a : Opd) : sameThere call t ⟨d, none, .ld g z a⟩ v s = sameR (aop (ev t) (.ld g z a)  s) v := sameThere_op rfl rfl
theorem same_fad {call : Caller} {t : T AV} {d : Option Nat} {v : AV} {s : AS} (off : Nat) (x : Opd) : sameThere call t ⟨d, none, .fad off x⟩ v s = sameR (aop (ev t) (.fad off x)  s) v := sameThere_op rfl rfl
theorem same_nilck {call : Caller} {t : T AV} {d : Option Nat} {v : AV} {s : AS} (x : Opd) : sameThere call t ⟨d, none, .nilck x⟩ v s = sameR (aop (ev t) (.nilck x)  s) v := sameThere_op rfl rfl
theorem same_lk {call : Caller} {t : T AV} {d : Option Nat} {v : AV} {s : AS} (e : EqK) (zero : AV) (ok : Bool) (m k : Opd) : sameThere call t ⟨d, none, .lk e zero ok m k⟩ v s = sameR (aop (ev t) (.lk e zero ok m k)  s) v := sameThere_op rfl rfl
theorem same_ext {call : Caller} {t : T AV} {d : Option Nat} {v : AV} {s : AS} (x : Opd) (i : Nat) : sameThere call t ⟨d, none, .ext x i⟩ v s = sameR (aop (ev t) (.ext x i)  s) v := sameThere_op rfl rfl
theorem same_fld {call : Caller} {t : T AV} {d : Option Nat} {v : AV} {s : AS} (g : Bool) (off z : Nat) (x : Opd) : sameThere call t ⟨d, none, .fld g off z x⟩ v s = sameR (aop (ev t) (.fld g off z x)  s) v := sameThere_op rfl rfl
theorem same_bin {call : Caller} {t : T AV} {d : Option Nat} {v : AV} {s : AS} (op : BinOp) (e : EqK) (x y : Opd) : sameThere call t ⟨d, none, .bin op e x y⟩ v s = sameR (aop (ev t) (.bin op e x y)  s) v := sameThere_op rfl rfl
theorem same_un {call : Caller} {t : T AV} {d : Option Nat} {v : AV} {s : AS} (op : UnOp) (x : Opd) : sameThere call t ⟨d, none, .un op x⟩ v s = sameR (aop (ev t) (.un op x)  s) v := sameThere_op rfl rfl
theorem same_len {call : Caller} {t : T AV} {d : Option Nat} {v : AV} {s : AS} (k : LK) (x : Opd) : sameThere call t ⟨d, none, .len k x⟩ v s = sameR (aop (ev t) (.len k x)  s) v := sameThere_op rfl rfl
theorem same_iad {call : Caller} {t : T AV} {d : Option Nat} {v : AV} {s : AS} (arr : Option Nat) (z : Nat) (x i : Opd) : sameThere call t ⟨d, none, .iad arr z x i⟩ v s = sameR (aop (ev t) (.iad arr z x i)  s) v := sameThere_op rfl rfl
theorem same_pick {call : Caller} {t : T AV} {d : Option Nat} {v : AV} {s : AS} (c a b : Opd) : sameThere call t ⟨d, none, .pick c a b⟩ v s = sameR (aop (ev t) (.pick c a b)  s) v := sameThere_op rfl rfl
theorem same_idx {call : Caller} {t : T AV} {d : Option Nat} {v : AV} {s : AS} (x i : Opd) : sameThere call t ⟨d, none, .idx x i⟩ v s = sameR (aop (ev t) (.idx x i)  s) v := sameThere_op rfl rfl
theorem same_mkf {call : Caller} {t : T AV} {d : Option Nat} {v : AV} {s : AS} (f : Nat) (c : List Opd) : sameThere call t ⟨d, none, .mkf f c⟩ v s = sameR (aop (ev t) (.mkf f c)  s) v := sameThere_op rfl rfl
theorem same_bld {call : Caller} {t : T AV} {d : Option Nat} {v : AV} {s : AS} (zero : List AV) (ps : List (Nat × Nat × Opd)) : sameThere call t ⟨d, none, .bld zero ps⟩ v s = sameR (aop (ev t) (.bld zero ps)  s) v := sameThere_op rfl rfl
attribute [push_cast] dallN_nil dallN_cons dallN_cons0 SameAt_zero SameAt_succ each_nil each_cons same_mv same_ld same_fad same_nilck same_lk same_ext same_fld same_bin same_un same_len same_iad same_pick same_idx same_mkf same_bld sameR_some aop_mv aop_ld aop_fad aop_nilck aop_lk aop_ext aop_fld aop_bin aop_un aop_len aop_iad aop_pick aop_idx aop_mkf aop_bld

section
variable {ft : Nat → Option AFunc} {sm : Nat → Option Summ} {K : List Fr} {Q : Out → St → Prop} {befs : List Nat} {l0 : List AOper} {t0 : T AV} {vs : List (AV × Bool)} {ss : List AS}

theorem DK_sm {f : Nat} {c args : List AV} {s s' : AS} {v : AV} {g : Summ} (hs : sm f = some g) (hg : g (args ++ c) s = some (v, s')) {d : Option Nat} {r : List AOper} {t : T AV} {n : Nat}
    (h : DS ft sm befs l0 t0 (some (v, s')) false d r vs ss K t n s Q) : DK ft sm befs l0 t0 (.fn f c) args d r vs ss K t n s Q :=
  ⟨0, v, s', false, by simp only [callWith, hs, hg], h⟩

theorem Ca.quiet {f : Nat} {c args : List AV} {s : AS} {P : AV → AS → Bool → Prop} (h : Ca ft sm (.fn f c) args s P) : Ca ft sm (.fn f c) args s (fun v s' q => P v s' q ∧ (q = true → s' = s)) := by
  obtain ⟨k, v, s', q, h, hp⟩ := h
  refine ⟨k, v, s', q, h, hp, fun hq => ?_⟩
  subst hq
  have done : ∀ (st : St) (w : AV), fin s st.s w = (v, s', true) → s' = s := fun st w h => by
    unfold fin at h
    cases hc : (Nat.ble s.nx st.s.lo && w.old s.nx)
    · simp only [hc, cond_false, Prod.mk.injEq, Bool.false_eq_true, and_false] at h
    · simp only [hc, cond_true, Prod.mk.injEq] at h; exact h.2.1.symm
  simp only [callWith] at h
  cases hs : sm f with
  | some g =>
    simp only [hs] at h
    cases hg : g (args ++ c) s with
    | none => simp [hg] at h
    | some p => simp [hg] at h
  | none =>
    simp only [hs] at h
    cases hf : ft f with
    | none => simp [hf] at h
    | some fn =>
      simp only [hf] at h
      cases hb : Nat.ble (args ++ c).length fn.nt
      · simp only [hb, cond_false, reduceCtorEq] at h
      · simp only [hb, cond_true] at h
        cases hx : aexec ft sm k fn.body ⟨argsT (args ++ c) 0 .e, fn.nt, ⟨s.h, s.nx, s.nx⟩⟩ with
        | none => simp only [hx, reduceCtorEq] at h
        | some p =>
          obtain ⟨o, st⟩ := p
          simp only [hx] at h
          cases o with
          | exit id => simp only [reduceCtorEq] at h
          | nrm =>
            simp only at h
            cases ha : aress st fn.res with
            | none => simp only [ha, reduceCtorEq] at h
            | some w => simp only [ha, Option.some.injEq] at h; exact done st _ h
          | ret =>
            simp only at h
            cases ha : aress st fn.res with
            | none => simp only [ha, reduceCtorEq] at h
            | some w => simp only [ha, Option.some.injEq] at h; exact done st _ h
end

/-- Two branches that meet. -/
theorem X_append {ft : Nat → Option AFunc} {sm : Nat → Option Summ} {Q : Out → St → Prop} {K : List Fr} : ∀ {K1 : List Fr} {o : Out} {st : St}, X ft sm K1 o st (fun o st' => o = .nrm ∧ X ft sm K .nrm st' Q) → X ft sm (K1 ++ K) o st Q
  | [], o, st, h => by
    obtain ⟨e, h2⟩ := X_nil.1 h
    subst e
    exact h2
  | .c a :: K1, .nrm, st, h => by
    obtain ⟨k, o1, st1, h1, h2⟩ := X_step.1 h
    exact X_step.2 ⟨k, o1, st1, h1, X_append h2⟩
  | .c a :: K1, .ret, st, h => X_c_ret.2 (X_append (X_c_ret.1 h))
  | .c a :: K1, .exit j, st, h => X_c_exit.2 (X_append (X_c_exit.1 h))
  | .blk id :: K1, .nrm, st, h => X_blk_nrm.2 (X_append (X_blk_nrm.1 h))
  | .blk id :: K1, .ret, st, h => X_blk_ret.2 (X_append (X_blk_ret.1 h))
  | .blk id :: K1, .exit j, st, h => by
    cases hj : j == id
    · exact (X_blk_exit_ne hj).2 (X_append ((X_blk_exit_ne hj).1 h))
    · obtain rfl : j = id := by simpa using hj
      exact X_blk_exit.2 (X_append (X_blk_exit.1 h))

theorem SC_join {ft : Nat → Option AFunc} {sm : Nat → Option Summ} {Q : Out → St → Prop} {K : List Fr} {v : Bool} {a b : ACode} {t : T AV} {n : Nat} {s : AS} (I : T AV → AS → Prop)
    (h : SC ft sm (.b v) a b [] ⟨t, n, s⟩ (fun o st' => o = .nrm ∧ st'.n = n ∧ I st'.t st'.s)) (k : ∀ t' s', I t' s' → X ft sm K .nrm ⟨t', n, s'⟩ Q) : SC ft sm (.b v) a b K ⟨t, n, s⟩ Q := by
  have key : ∀ c : ACode, X ft sm [.c c] .nrm ⟨t, n, s⟩ (fun o st' => o = .nrm ∧ st'.n = n ∧ I st'.t st'.s) → X ft sm (.c c :: K) .nrm ⟨t, n, s⟩ Q := fun c hc =>
    X_append (K1 := [.c c]) (hc.mono (fun o st' ⟨e1, e2, e3⟩ => ⟨e1, by subst e2; exact k _ _ e3⟩))
  cases v
  · exact key b h
  · exact key a h

end Go.AM
