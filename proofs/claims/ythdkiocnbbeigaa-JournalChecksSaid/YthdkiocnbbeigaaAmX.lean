/- Stepping through compact code: what a piece of code with what stands behind it leads to. -/
import Derived.Test.YthdkiocnbbeigaaAmMono
import Derived.Test.YthdkiocnbbeigaaAmMem
namespace Go.AM
set_option linter.unusedVariables false
set_option linter.unusedSimpArgs false

variable (ft : Nat → Option AFunc) (sm : Nat → Option Summ)

/-- A call that returns, with what holds of its answer. -/
def Ca (f : AV) (args : List AV) (s : AS) (Q : AV → AS → Bool → Prop) : Prop :=
  ∃ k v s' q, callWith ft sm (aexec ft sm k) f args s = some (v, s', q) ∧ Q v s' q

inductive Fr where
  | c (a : ACode)
  | blk (id : Nat)

def runK (k : Nat) : List Fr → Out → St → Option (Out × St)
  | [], o, st => some (o, st)
  | .c a :: K, .nrm, st => match aexec ft sm k a st with
    | some (o, st') => runK k K o st'
    | none => none
  | .c _ :: K, o, st => runK k K o st
  | .blk id :: K, .exit j, st => bif j == id then runK k K .nrm st else runK k K (.exit j) st
  | .blk _ :: K, o, st => runK k K o st

def X (K : List Fr) (o : Out) (st : St) (Q : Out → St → Prop) : Prop := ∃ k o' st', runK ft sm k K o st = some (o', st') ∧ Q o' st'

variable {ft : Nat → Option AFunc} {sm : Nat → Option Summ}

theorem runK_mono {k m : Nat} (h : k ≤ m) : ∀ {K : List Fr} {o : Out} {st : St} {r}, runK ft sm k K o st = some r → runK ft sm m K o st = some r
  | [], o, st, r, hr => hr
  | .c a :: K, .nrm, st, r, hr => by
    simp only [runK] at hr ⊢
    cases ha : aexec ft sm k a st with
    | none => simp [ha] at hr
    | some p => rw [aexec_mono h _ _ _ ha]; simp only [ha] at hr ⊢; exact runK_mono h hr
  | .c a :: K, .ret, st, r, hr => by simp only [runK] at hr ⊢; exact runK_mono h hr
  | .c a :: K, .exit j, st, r, hr => by simp only [runK] at hr ⊢; exact runK_mono h hr
  | .blk id :: K, .exit j, st, r, hr => by
    simp only [runK] at hr ⊢
    cases hj : j == id <;> simp only [hj, cond_true, cond_false] at hr ⊢ <;> exact runK_mono h hr
  | .blk id :: K, .nrm, st, r, hr => by simp only [runK] at hr ⊢; exact runK_mono h hr
  | .blk id :: K, .ret, st, r, hr => by simp only [runK] at hr ⊢; exact runK_mono h hr

variable {K : List Fr} {o : Out} {st : St} {Q : Out → St → Prop}

theorem X_nil : X ft sm [] o st Q ↔ Q o st := ⟨fun ⟨_, _, _, h, q⟩ => by simp only [runK, Option.some.injEq, Prod.mk.injEq] at h; obtain ⟨rfl, rfl⟩ := h; exact q, fun q => ⟨0, _, _, rfl, q⟩⟩

/-- A first step. -/
theorem X_step {a : ACode} : X ft sm (.c a :: K) .nrm st Q ↔ ∃ k o1 st1, aexec ft sm k a st = some (o1, st1) ∧ X ft sm K o1 st1 Q := by
  constructor
  · rintro ⟨k, o, st', h, q⟩
    simp only [runK] at h
    cases ha : aexec ft sm k a st with
    | none => simp [ha] at h
    | some p => simp only [ha] at h; exact ⟨k, p.1, p.2, ha, k, o, st', h, q⟩
  · rintro ⟨k, o1, st1, ha, m, o, st', h, q⟩
    refine ⟨max k m, o, st', ?_, q⟩
    simp only [runK]
    rw [aexec_mono (Nat.le_max_left k m) _ _ _ ha]
    exact runK_mono (Nat.le_max_right k m) h

theorem X_c_ret {a : ACode} : X ft sm (.c a :: K) .ret st Q ↔ X ft sm K .ret st Q := Iff.rfl
theorem X_c_exit {a : ACode} {j : Nat} : X ft sm (.c a :: K) (.exit j) st Q ↔ X ft sm K (.exit j) st Q := Iff.rfl
theorem X_blk_nrm {id : Nat} : X ft sm (.blk id :: K) .nrm st Q ↔ X ft sm K .nrm st Q := Iff.rfl
theorem X_blk_ret {id : Nat} : X ft sm (.blk id :: K) .ret st Q ↔ X ft sm K .ret st Q := Iff.rfl
theorem X_blk_exit {id : Nat} : X ft sm (.blk id :: K) (.exit id) st Q ↔ X ft sm K .nrm st Q := by simp only [X, runK, BEq.rfl, cond_true]
theorem X_blk_exit_ne {id j : Nat} (h : (j == id) = false) : X ft sm (.blk id :: K) (.exit j) st Q ↔ X ft sm K (.exit j) st Q := by simp only [X, runK, h, cond_false]

theorem X_ret_all : ∀ {K : List Fr}, X ft sm K .ret st Q ↔ Q .ret st
  | [] => X_nil
  | .c _ :: K => X_c_ret.trans X_ret_all
  | .blk _ :: K => X_blk_ret.trans X_ret_all

theorem X_skip : X ft sm (.c .skip :: K) .nrm st Q ↔ X ft sm K .nrm st Q := by
  rw [X_step]
  constructor
  · rintro ⟨k, o1, st1, h, q⟩
    cases k with
    | zero => simp [aexec] at h
    | succ k => simp only [aexec, Option.some.injEq, Prod.mk.injEq] at h; obtain ⟨rfl, rfl⟩ := h; exact q
  · exact fun q => ⟨1, _, _, rfl, q⟩

theorem X_ret : X ft sm (.c .ret :: K) .nrm st Q ↔ Q .ret st := by
  rw [X_step]
  constructor
  · rintro ⟨k, o1, st1, h, q⟩
    cases k with
    | zero => simp [aexec] at h
    | succ k => simp only [aexec, Option.some.injEq, Prod.mk.injEq] at h; obtain ⟨rfl, rfl⟩ := h; exact X_ret_all.1 q
  · exact fun q => ⟨1, _, _, rfl, X_ret_all.2 q⟩

theorem X_exit {id : Nat} : X ft sm (.c (.exit id) :: K) .nrm st Q ↔ X ft sm K (.exit id) st Q := by
  rw [X_step]
  constructor
  · rintro ⟨k, o1, st1, h, q⟩
    cases k with
    | zero => simp [aexec] at h
    | succ k => simp only [aexec, Option.some.injEq, Prod.mk.injEq] at h; obtain ⟨rfl, rfl⟩ := h; exact q
  · exact fun q => ⟨1, _, _, rfl, q⟩

theorem X_seq {a b : ACode} : X ft sm (.c (.seq a b) :: K) .nrm st Q ↔ X ft sm (.c a :: .c b :: K) .nrm st Q := by
  rw [X_step, X_step]
  constructor
  · rintro ⟨k, o1, st1, h, q⟩
    cases k with
    | zero => simp [aexec] at h
    | succ k =>
      simp only [aexec] at h
      cases ha : aexec ft sm k a st with
      | none => simp [ha] at h
      | some p =>
        obtain ⟨o, st'⟩ := p
        refine ⟨k, o, st', ha, ?_⟩
        simp only [ha] at h
        cases o with
        | nrm => exact X_step.2 ⟨k, o1, st1, h, q⟩
        | ret => simp only [Option.some.injEq, Prod.mk.injEq] at h; obtain ⟨rfl, rfl⟩ := h; exact q
        | exit j => simp only [Option.some.injEq, Prod.mk.injEq] at h; obtain ⟨rfl, rfl⟩ := h; exact q
  · rintro ⟨k, o1, st1, h, q⟩
    cases o1 with
    | nrm =>
      obtain ⟨m, o2, st2, h2, q2⟩ := X_step.1 q
      refine ⟨max k m + 1, o2, st2, ?_, q2⟩
      simp only [aexec]
      rw [aexec_mono (Nat.le_max_left k m) _ _ _ h]
      exact aexec_mono (Nat.le_max_right k m) _ _ _ h2
    | ret => exact ⟨k + 1, .ret, st1, by simp only [aexec, h], q⟩
    | exit j => exact ⟨k + 1, .exit j, st1, by simp only [aexec, h], q⟩

theorem X_block {id : Nat} {a : ACode} : X ft sm (.c (.block id a) :: K) .nrm st Q ↔ X ft sm (.c a :: .blk id :: K) .nrm st Q := by
  rw [X_step, X_step]
  constructor
  · rintro ⟨k, o1, st1, h, q⟩
    cases k with
    | zero => simp [aexec] at h
    | succ k =>
      simp only [aexec] at h
      cases ha : aexec ft sm k a st with
      | none => simp [ha] at h
      | some p =>
        obtain ⟨o, st'⟩ := p
        refine ⟨k, o, st', ha, ?_⟩
        simp only [ha] at h
        cases o with
        | nrm => simp only [Option.some.injEq, Prod.mk.injEq] at h; obtain ⟨rfl, rfl⟩ := h; exact X_blk_nrm.2 q
        | ret => simp only [Option.some.injEq, Prod.mk.injEq] at h; obtain ⟨rfl, rfl⟩ := h; exact X_blk_ret.2 q
        | exit j =>
          simp only at h
          cases hj : j == id <;> simp only [hj, cond_true, cond_false, Option.some.injEq, Prod.mk.injEq] at h <;> obtain ⟨rfl, rfl⟩ := h
          · exact (X_blk_exit_ne hj).2 q
          · obtain rfl : j = id := by simpa using hj
            exact X_blk_exit.2 q
  · rintro ⟨k, o1, st1, h, q⟩
    cases o1 with
    | nrm => exact ⟨k + 1, .nrm, st1, by simp only [aexec, h], X_blk_nrm.1 q⟩
    | ret => exact ⟨k + 1, .ret, st1, by simp only [aexec, h], X_blk_ret.1 q⟩
    | exit j =>
      cases hj : j == id
      · exact ⟨k + 1, .exit j, st1, by simp only [aexec, h, hj, cond_false], (X_blk_exit_ne hj).1 q⟩
      · obtain rfl : j = id := by simpa using hj
        exact ⟨k + 1, .nrm, st1, by simp only [aexec, h, hj, cond_true], X_blk_exit.1 q⟩

theorem X_loop {a : ACode} : X ft sm (.c (.loop a) :: K) .nrm st Q ↔ X ft sm (.c a :: .c (.loop a) :: K) .nrm st Q := by
  rw [X_step, X_step]
  constructor
  · rintro ⟨k, o1, st1, h, q⟩
    cases k with
    | zero => simp [aexec] at h
    | succ k =>
      simp only [aexec] at h
      cases ha : aexec ft sm k a st with
      | none => simp [ha] at h
      | some p =>
        obtain ⟨o, st'⟩ := p
        refine ⟨k, o, st', ha, ?_⟩
        simp only [ha] at h
        cases o with
        | nrm => exact X_step.2 ⟨k, o1, st1, h, q⟩
        | ret => simp only [Option.some.injEq, Prod.mk.injEq] at h; obtain ⟨rfl, rfl⟩ := h; exact q
        | exit j => simp only [Option.some.injEq, Prod.mk.injEq] at h; obtain ⟨rfl, rfl⟩ := h; exact q
  · rintro ⟨k, o1, st1, h, q⟩
    cases o1 with
    | nrm =>
      obtain ⟨m, o2, st2, h2, q2⟩ := X_step.1 q
      refine ⟨max k m + 1, o2, st2, ?_, q2⟩
      simp only [aexec]
      rw [aexec_mono (Nat.le_max_left k m) _ _ _ h]
      exact aexec_mono (Nat.le_max_right k m) _ _ _ h2
    | ret => exact ⟨k + 1, .ret, st1, by simp only [aexec, h], q⟩
    | exit j => exact ⟨k + 1, .exit j, st1, by simp only [aexec, h], q⟩

/-! ### Branches -/

variable (ft sm) in
def SC (v : AV) (a b : ACode) (K : List Fr) (st : St) (Q : Out → St → Prop) : Prop :=
  match v with
  | .b true => X ft sm (.c a :: K) .nrm st Q
  | .b false => X ft sm (.c b :: K) .nrm st Q
  | _ => False

theorem X_cond {c : Opd} {a b : ACode} {t : T AV} {n : Nat} {s : AS} : X ft sm (.c (.cond c a b) :: K) .nrm ⟨t, n, s⟩ Q ↔ SC ft sm (ev t c) a b K ⟨t, n, s⟩ Q := by
  rw [X_step]
  constructor
  · rintro ⟨k, o1, st1, h, q⟩
    cases k with
    | zero => simp [aexec] at h
    | succ k =>
      simp only [aexec] at h
      unfold SC
      split at h
      · rename_i e; simp only [e]; exact X_step.2 ⟨k, _, _, h, q⟩
      · rename_i e; simp only [e]; exact X_step.2 ⟨k, _, _, h, q⟩
      · simp at h
  · intro h
    unfold SC at h
    split at h
    · rename_i e; obtain ⟨k, o1, st1, h, q⟩ := X_step.1 h; exact ⟨k + 1, o1, st1, by simp only [aexec, e, h], q⟩
    · rename_i e; obtain ⟨k, o1, st1, h, q⟩ := X_step.1 h; exact ⟨k + 1, o1, st1, by simp only [aexec, e, h], q⟩
    · exact h.elim

theorem SC_true {a b : ACode} : SC ft sm (.b true) a b K st Q ↔ X ft sm (.c a :: K) .nrm st Q := Iff.rfl
theorem SC_false {a b : ACode} : SC ft sm (.b false) a b K st Q ↔ X ft sm (.c b :: K) .nrm st Q := Iff.rfl
theorem SC_cases {v : Bool} {a b : ACode} (h1 : v = true → SC ft sm (.b true) a b K st Q) (h2 : v = false → SC ft sm (.b false) a b K st Q) : SC ft sm (.b v) a b K st Q := by
  cases v
  · exact h2 rfl
  · exact h1 rfl

/-! ### Operations -/

variable (ft sm) in
/-- The rest of a row of operations, in some state. -/
def Op (l : List AOper) (K : List Fr) (st : St) (Q : Out → St → Prop) : Prop := X ft sm (.c (.ops l) :: K) .nrm st Q

theorem X_ops_step {l : List AOper} : X ft sm (.c (.ops l) :: K) .nrm st Q ↔ ∃ k st1, aops (callWith ft sm (aexec ft sm k)) l st = some st1 ∧ X ft sm K .nrm st1 Q := by
  rw [X_step]
  constructor
  · rintro ⟨k, o1, st1, h, q⟩
    cases k with
    | zero => simp [aexec] at h
    | succ k =>
      simp only [aexec] at h
      cases ha : aops (callWith ft sm (aexec ft sm k)) l st with
      | none => simp [ha] at h
      | some p => simp only [ha, Option.some.injEq, Prod.mk.injEq] at h; obtain ⟨rfl, rfl⟩ := h; exact ⟨k, _, ha, q⟩
  · rintro ⟨k, st1, h, q⟩
    exact ⟨k + 1, .nrm, st1, by simp only [aexec, h], q⟩

theorem X_ops_nil : X ft sm (.c (.ops []) :: K) .nrm st Q ↔ X ft sm K .nrm st Q := by
  rw [X_ops_step]
  exact ⟨fun ⟨_, _, h, q⟩ => by simp only [aops, Option.some.injEq] at h; subst h; exact q, fun q => ⟨0, _, rfl, q⟩⟩

variable (ft sm) in
/-- An operation's place, when what is wanted of it is known. -/
def SG (w : Option Bool) (d : Option Nat) (op : AOp) (r : List AOper) (K : List Fr) (st : St) (Q : Out → St → Prop) : Prop :=
  match w with
  | none => False
  | some false => match putT st d (.tu []) st.s with
    | some st' => X ft sm (.c (.ops r) :: K) .nrm st' Q
    | none => False
  | some true => ∃ k v s' q, aoper (callWith ft sm (aexec ft sm k)) (ev st.t) op st.s = some (v, s', q) ∧ ∃ st', putT st d v s' = some st' ∧ X ft sm (.c (.ops r) :: K) .nrm st' Q

theorem X_ops_cons {d : Option Nat} {g : Option (Nat × Bool)} {op : AOp} {r : List AOper} {t : T AV} {n : Nat} {s : AS} :
    X ft sm (.c (.ops (⟨d, g, op⟩ :: r)) :: K) .nrm ⟨t, n, s⟩ Q ↔ SG ft sm (wanted t g) d op r K ⟨t, n, s⟩ Q := by
  rw [X_ops_step]
  constructor
  · rintro ⟨k, st1, h, q⟩
    simp only [aops] at h
    unfold SG
    cases hw : wanted t g with
    | none => simp [hw] at h
    | some b =>
      simp only [hw] at h
      cases b with
      | true =>
        simp only at h ⊢
        cases ho : aoper (callWith ft sm (aexec ft sm k)) (ev t) op s with
        | none => simp [ho] at h
        | some p =>
          obtain ⟨v, s', b⟩ := p
          simp only [ho] at h
          cases hp : putT ⟨t, n, s⟩ d v s' with
          | none => simp [hp] at h
          | some st' => simp only [hp] at h; exact ⟨k, v, s', b, ho, st', hp, X_ops_step.2 ⟨k, st1, h, q⟩⟩
      | false =>
        simp only at h ⊢
        cases hp : putT ⟨t, n, s⟩ d (.tu []) s with
        | none => simp [hp] at h
        | some st' => simp only [hp] at h ⊢; exact X_ops_step.2 ⟨k, st1, h, q⟩
  · intro h
    unfold SG at h
    cases hw : wanted t g with
    | none => simp [hw] at h
    | some b =>
      simp only [hw] at h
      cases b with
      | true =>
        obtain ⟨k, v, s', b, ho, st', hp, hx⟩ := h
        obtain ⟨m, st1, h, q⟩ := X_ops_step.1 hx
        refine ⟨max k m, st1, ?_, q⟩
        simp only [aops, hw]
        rw [aoper_mono (call_mono (Nat.le_max_left k m)) ho]
        simp only [hp]
        exact aops_mono (call_mono (Nat.le_max_right k m)) _ _ _ h
      | false =>
        simp only at h
        cases hp : putT ⟨t, n, s⟩ d (.tu []) s with
        | none => simp [hp] at h
        | some st' =>
          simp only [hp] at h
          obtain ⟨m, st1, h, q⟩ := X_ops_step.1 h
          exact ⟨m, st1, by simp only [aops, hw, hp]; exact h, q⟩

variable (ft sm) in
/-- Behind an operation's answer. -/
def SS (res : Option (AV × AS)) (d : Option Nat) (r : List AOper) (K : List Fr) (t : T AV) (n : Nat) (Q : Out → St → Prop) : Prop :=
  match res with
  | none => False
  | some (v, s') => match putT ⟨t, n, s'⟩ d v s' with
    | some st' => X ft sm (.c (.ops r) :: K) .nrm st' Q
    | none => False

variable (ft sm) in
/-- Behind a call. -/
def SK (f : AV) (args : List AV) (s : AS) (d : Option Nat) (r : List AOper) (K : List Fr) (t : T AV) (n : Nat) (Q : Out → St → Prop) : Prop :=
  Ca ft sm f args s fun v s' _ => SS ft sm (some (v, s')) d r K t n Q

theorem SG_false {d : Nat} {op : AOp} {r : List AOper} {t : T AV} {n : Nat} {s : AS} (hd : Nat.blt d n = true) :
    SG ft sm (some false) (some d) op r K ⟨t, n, s⟩ Q ↔ X ft sm (.c (.ops r) :: K) .nrm ⟨t.put d (some (.tu [])), n, s⟩ Q := by
  simp only [SG, putT, hd, cond_true]

def AOp.isCall : AOp → Bool
  | .call _ _ => true
  | _ => false

theorem SG_op {d : Option Nat} {op : AOp} {r : List AOper} {t : T AV} {n : Nat} {s : AS} (hc : op.isCall = false) :
    SG ft sm (some true) d op r K ⟨t, n, s⟩ Q ↔ SS ft sm (aop (ev t) op s) d r K t n Q := by
  have e : ∀ call, aoper call (ev t) op s = match aop (ev t) op s with
    | some (v, s') => some (v, s', op.quiet)
    | none => none := fun call => by cases op <;> first | rfl | (simp [AOp.isCall] at hc)
  simp only [SG, e, SS]
  constructor
  · rintro ⟨k, v, s', q, h, st', hp, hx⟩
    cases ha : aop (ev t) op s with
    | none => simp [ha] at h
    | some p =>
      simp only [ha, Option.some.injEq, Prod.mk.injEq] at h
      obtain ⟨rfl, rfl, rfl⟩ := h
      have : putT ⟨t, n, p.2⟩ d p.1 p.2 = putT ⟨t, n, s⟩ d p.1 p.2 := by cases d <;> rfl
      simp only [this, hp]; exact hx
  · intro h
    cases ha : aop (ev t) op s with
    | none => simp [ha] at h
    | some p =>
      simp only [ha] at h
      have : putT ⟨t, n, p.2⟩ d p.1 p.2 = putT ⟨t, n, s⟩ d p.1 p.2 := by cases d <;> rfl
      rw [this] at h
      cases hp : putT ⟨t, n, s⟩ d p.1 p.2 with
      | none => simp [hp] at h
      | some st' => simp only [hp] at h; exact ⟨0, p.1, p.2, _, rfl, st', hp, h⟩

theorem SG_call {d : Option Nat} {f : Opd} {as : List Opd} {r : List AOper} {t : T AV} {n : Nat} {s : AS} :
    SG ft sm (some true) d (.call f as) r K ⟨t, n, s⟩ Q ↔ SK ft sm (ev t f) (as.map (ev t)) s d r K t n Q := by
  simp only [SG, SK, Ca, aoper, SS]
  constructor
  · rintro ⟨k, v, s', q, h, st', hp, hx⟩
    have : putT ⟨t, n, s'⟩ d v s' = putT ⟨t, n, s⟩ d v s' := by cases d <;> rfl
    exact ⟨k, v, s', q, h, by rw [this, hp]; exact hx⟩
  · rintro ⟨k, v, s', q, h, hx⟩
    have : putT ⟨t, n, s'⟩ d v s' = putT ⟨t, n, s⟩ d v s' := by cases d <;> rfl
    rw [this] at hx
    cases hp : putT ⟨t, n, s⟩ d v s' with
    | none => simp [hp] at hx
    | some st' => simp only [hp] at hx; exact ⟨k, v, s', q, h, st', hp, hx⟩

theorem SG_cases {v : Bool} {d : Option Nat} {op : AOp} {r : List AOper} (h1 : v = true → SG ft sm (some true) d op r K st Q) (h2 : v = false → SG ft sm (some false) d op r K st Q) : SG ft sm (some v) d op r K st Q := by
  cases v
  · exact h2 rfl
  · exact h1 rfl

theorem SG_casesN {v : Bool} {d : Option Nat} {op : AOp} {r : List AOper} (h1 : v = false → SG ft sm (some true) d op r K st Q) (h2 : v = true → SG ft sm (some false) d op r K st Q) : SG ft sm (some (!v)) d op r K st Q := by
  cases v
  · exact h1 rfl
  · exact h2 rfl
theorem SC_casesN {v : Bool} {a b : ACode} (h1 : v = false → SC ft sm (.b true) a b K st Q) (h2 : v = true → SC ft sm (.b false) a b K st Q) : SC ft sm (.b (!v)) a b K st Q := by
  cases v
  · exact h1 rfl
  · exact h2 rfl

theorem SS_some {v : AV} {s : AS} {d : Nat} {r : List AOper} {t : T AV} {n : Nat} (hd : Nat.blt d n = true) :
    SS ft sm (some (v, s)) (some d) r K t n Q ↔ X ft sm (.c (.ops r) :: K) .nrm ⟨t.put d (some v), n, s⟩ Q := by
  simp only [SS, putT, hd, cond_true]

theorem SS_none {v : AV} {s : AS} {r : List AOper} {t : T AV} {n : Nat} :
    SS ft sm (some (v, s)) none r K t n Q ↔ X ft sm (.c (.ops r) :: K) .nrm ⟨t, n, s⟩ Q := Iff.rfl

/-! ### Calls -/

theorem callWith_det {k m : Nat} {f : AV} {args : List AV} {s : AS} {a b} (h1 : callWith ft sm (aexec ft sm k) f args s = some a) (h2 : callWith ft sm (aexec ft sm m) f args s = some b) : a = b := by
  have g1 := call_mono (Nat.le_max_left k m) _ _ _ _ h1
  have g2 := call_mono (Nat.le_max_right k m) _ _ _ _ h2
  exact Option.some.inj (g1.symm.trans g2)

theorem Ca.mono {f : AV} {args : List AV} {s : AS} {P P' : AV → AS → Bool → Prop} (h : Ca ft sm f args s P) (hp : ∀ v s' q, P v s' q → P' v s' q) : Ca ft sm f args s P' :=
  let ⟨k, v, s', q, a, b⟩ := h; ⟨k, v, s', q, a, hp _ _ _ b⟩

variable (ft sm) in
/-- A call that answers so, and leaves the state. -/
def Re (f : AV) (args : List AV) (s : AS) (v : AV) : Prop := ∃ k, callWith ft sm (aexec ft sm k) f args s = some (v, s, true)

theorem Re.ca {f : AV} {args : List AV} {s : AS} {v : AV} (h : Re ft sm f args s v) {P : AV → AS → Bool → Prop} : Ca ft sm f args s P ↔ P v s true := by
  obtain ⟨k, h⟩ := h
  constructor
  · rintro ⟨m, v', s', q, h', p⟩
    have := callWith_det h h'
    simp only [Prod.mk.injEq] at this
    obtain ⟨rfl, rfl, rfl⟩ := this
    exact p
  · exact fun p => ⟨k, v, s, true, h, p⟩

theorem SK_re {f : AV} {args : List AV} {s : AS} {v : AV} (h : Re ft sm f args s v) {d : Option Nat} {r : List AOper} {t : T AV} {n : Nat} :
    SK ft sm f args s d r K t n Q ↔ SS ft sm (some (v, s)) d r K t n Q := h.ca

theorem SK_sm {f : Nat} {c args : List AV} {s s' : AS} {v : AV} {g : Summ} (hs : sm f = some g) (hg : g (args ++ c) s = some (v, s')) {d : Option Nat} {r : List AOper} {t : T AV} {n : Nat} :
    SK ft sm (.fn f c) args s d r K t n Q ↔ SS ft sm (some (v, s')) d r K t n Q := by
  have e : ∀ k, callWith ft sm (aexec ft sm k) (.fn f c) args s = some (v, s', false) := fun k => by simp only [callWith, hs, hg]
  constructor
  · rintro ⟨k, v', s'', q, h, x⟩
    rw [e] at h
    simp only [Option.some.injEq, Prod.mk.injEq] at h
    obtain ⟨rfl, rfl, rfl⟩ := h
    exact x
  · exact fun x => ⟨0, v, s', false, e 0, x⟩

theorem SK_ca {f : AV} {args : List AV} {s : AS} {P : AV → AS → Bool → Prop} (h : Ca ft sm f args s P) {d : Option Nat} {r : List AOper} {t : T AV} {n : Nat}
    (hk : ∀ v s' q, P v s' q → SS ft sm (some (v, s')) d r K t n Q) : SK ft sm f args s d r K t n Q := h.mono hk

/-- What a function's end says of its call. -/
def Fin (s0 : AS) (res : List ARes) (P : AV → AS → Bool → Prop) (o : Out) (st : St) : Prop :=
  (∀ id, o ≠ .exit id) ∧ ∃ vs, aress st res = some vs ∧ P (fin s0 st.s (pack vs)).1 (fin s0 st.s (pack vs)).2.1 (fin s0 st.s (pack vs)).2.2

theorem Ca_fn {f : Nat} {c args : List AV} {s : AS} {P : AV → AS → Bool → Prop} {fn : AFunc} (hs : sm f = none) (hf : ft f = some fn) (hl : Nat.ble (args ++ c).length fn.nt = true)
    (hx : X ft sm [.c fn.body] .nrm ⟨argsT (args ++ c) 0 .e, fn.nt, ⟨s.h, s.nx, s.nx⟩⟩ (Fin s fn.res P)) : Ca ft sm (.fn f c) args s P := by
  obtain ⟨k, o1, st1, h, q⟩ := X_step.1 hx
  obtain ⟨hne, vs, hv, hp⟩ := X_nil.1 q
  refine ⟨k, _, _, _, ?_, hp⟩
  simp only [callWith, hs, hf, hl, cond_true, h]
  cases o1 with
  | exit id => exact absurd rfl (hne id)
  | nrm => simp only [hv]
  | ret => simp only [hv]

/-- What a function's end says of a call that leaves all as it was. -/
def ReFin (s0 : AS) (res : List ARes) (v : AV) (o : Out) (st : St) : Prop :=
  (∀ id, o ≠ .exit id) ∧ ∃ vs, aress st res = some vs ∧ pack vs = v ∧ s0.nx ≤ st.s.lo

theorem ReFin_ret {s0 : AS} {res : List ARes} {v : AV} {st : St} : ReFin s0 res v .ret st ↔ ∃ vs, aress st res = some vs ∧ pack vs = v ∧ s0.nx ≤ st.s.lo :=
  ⟨fun h => h.2, fun h => ⟨(fun _ e => nomatch e), h⟩⟩
theorem ReFin_nrm {s0 : AS} {res : List ARes} {v : AV} {st : St} : ReFin s0 res v .nrm st ↔ ∃ vs, aress st res = some vs ∧ pack vs = v ∧ s0.nx ≤ st.s.lo :=
  ⟨fun h => h.2, fun h => ⟨(fun _ e => nomatch e), h⟩⟩
theorem aress_nil (st : St) : aress st [] = some [] := rfl
theorem aress_t (st : St) (k : Nat) (l : List ARes) : aress st (.t k :: l) = (aress st l).map (ev st.t (.t k) :: ·) := by
  simp only [aress, ares]
  cases aress st l <;> rfl

/-- A function that leaves all as it was. -/
theorem Re_fn {f : Nat} {c args : List AV} {s : AS} {v : AV} {fn : AFunc} (hs : sm f = none) (hf : ft f = some fn) (hl : Nat.ble (args ++ c).length fn.nt = true) (ho : v.old s.nx = true)
    (hx : X ft sm [.c fn.body] .nrm ⟨argsT (args ++ c) 0 .e, fn.nt, ⟨s.h, s.nx, s.nx⟩⟩ (ReFin s fn.res v)) : Re ft sm (.fn f c) args s v := by
  have : Ca ft sm (.fn f c) args s (fun v' s' q => v' = v ∧ s' = s ∧ q = true) := by
    refine Ca_fn hs hf hl ?_
    obtain ⟨k, o, st, h, q1, vs, q2, q3, q4⟩ := hx
    refine ⟨k, o, st, h, q1, vs, q2, ?_⟩
    subst q3
    have : fin s st.s (pack vs) = (pack vs, s, true) := by
      unfold fin
      rw [Nat.ble_eq_true_of_le q4, ho]; rfl
    rw [this]
    exact ⟨rfl, rfl, rfl⟩
  obtain ⟨k, v', s', q, h, rfl, rfl, rfl⟩ := this
  exact ⟨k, h⟩

/-! ### Loops -/

theorem X_while {α : Type} {a : ACode} {n : Nat} (m : α → Nat) (I : α → T AV → AS → Prop)
    (h : ∀ x t s, I x t s → (∀ x' t' s', m x' < m x → I x' t' s' → X ft sm (.c (.loop a) :: K) .nrm ⟨t', n, s'⟩ Q) → X ft sm (.c a :: .c (.loop a) :: K) .nrm ⟨t, n, s⟩ Q) :
    ∀ (x : α) (t : T AV) (s : AS), I x t s → X ft sm (.c (.loop a) :: K) .nrm ⟨t, n, s⟩ Q := by
  have : ∀ (k : Nat) (x : α) (t : T AV) (s : AS), m x ≤ k → I x t s → X ft sm (.c (.loop a) :: K) .nrm ⟨t, n, s⟩ Q := by
    intro k
    induction k with
    | zero => exact fun x t s hm hi => X_loop.2 (h x t s hi (fun x' t' s' hlt _ => by omega))
    | succ k ih => exact fun x t s hm hi => X_loop.2 (h x t s hi (fun x' t' s' hlt hi' => ih x' t' s' (by omega) hi'))
  exact fun x t s hi => this (m x) x t s (Nat.le_refl _) hi

theorem X.mono {Q' : Out → St → Prop} (h : X ft sm K o st Q) (hq : ∀ o st, Q o st → Q' o st) : X ft sm K o st Q' :=
  let ⟨k, o', st', a, b⟩ := h; ⟨k, o', st', a, hq _ _ b⟩

/-! ### What stands in temporaries -/

theorem ev_c (t : T AV) (v : AV) : ev t (.c v) = v := rfl
theorem ev_put (t : T AV) (j k : Nat) (v : AV) : ev (t.put j (some v)) (.t k) = bif Nat.beq k j then v else ev t (.t k) := by
  simp only [ev, T.get_put]
  by_cases h : k = j
  · subst h; simp
  · have : Nat.beq k j = false := by
      cases hb : Nat.beq k j
      · rfl
      · exact absurd (Nat.eq_of_beq_eq_true hb) h
    simp [h, this]

theorem ev_args0 {v : AV} {l : List AV} : ev (argsT (v :: l) 0 .e) (.t 0) = v := by
  have : ∀ (l : List AV) (k : Nat) (t : T AV) (j : Nat), j < k → (argsT l k t).get j = t.get j := by
    intro l
    induction l with
    | nil => intro k t j _; rfl
    | cons x l ih => intro k t j h; simp only [argsT]; rw [ih _ _ _ (by omega), T.get_put_ne _ _ _ _ (by omega)]
  simp only [ev, argsT]
  rw [this _ _ _ _ (by omega), T.get_put_same]

theorem argsT_cons (v : AV) (l : List AV) (k : Nat) (t : T AV) : argsT (v :: l) k t = argsT l (k + 1) (t.put k (some v)) := rfl
theorem argsT_nil (k : Nat) (t : T AV) : argsT [] k t = t := rfl

theorem wanted_none (t : T AV) : wanted t none = some true := rfl
def wb (v : AV) (w : Bool) : Option Bool := match v with
  | .b v => some (v == w)
  | .tu _ => some false
  | _ => none
theorem wanted_some (t : T AV) (k : Nat) (w : Bool) : wanted t (some (k, w)) = wb (ev t (.t k)) w := by
  unfold wanted wb; rfl
theorem wb_true (v : Bool) : wb (.b v) true = some v := by cases v <;> rfl
theorem wb_false (v : Bool) : wb (.b v) false = some (!v) := by cases v <;> rfl
theorem wb_tu (l : List AV) (w : Bool) : wb (.tu l) w = some false := rfl

/-! ### What stands in memory -/

theorem nx_new (s : AS) (B : Blk) : (s.new B).nx = s.nx + 1 := rfl
theorem lo_new (s : AS) (B : Blk) : (s.new B).lo = s.lo := rfl
theorem nx_write (s : AS) (k : Nat) (B : Blk) : (s.write k B).nx = s.nx := rfl
theorem nx_kill (s : AS) (k : Nat) : (s.kill k).nx = s.nx := rfl
theorem lo_write (s : AS) (k : Nat) (B : Blk) (h : s.lo ≤ k) : (s.write k B).lo = s.lo := by
  simp only [AS.write, Nat.ble_eq_true_of_le h, cond_true]
theorem lo_kill (s : AS) (k : Nat) (h : s.lo ≤ k) : (s.kill k).lo = s.lo := by
  simp only [AS.kill, Nat.ble_eq_true_of_le h, cond_true]


/-! ### Operations, each for itself -/

def valA (v : Option AV) (s : AS) : Option (AV × AS) := match v with
  | some v => some (v, s)
  | none => none
def pickA (c a b : AV) (s : AS) : Option (AV × AS) := match c with
  | .b true => some (a, s)
  | .b false => some (b, s)
  | _ => none
def boxA (z : Nat) (x : AV) (s : AS) : Option (AV × AS) := bif x.cells.length == z && x.cells.all AV.one then some (.p s.nx 0, s.new (.row true x.cells)) else none
def bldA (v : Option (List AV)) (s : AS) : Option (AV × AS) := match v with
  | some cs => some (.ag cs, s)
  | none => none
def bslA (z len : Nat) (v : Option (List AV)) (s : AS) : Option (AV × AS) := match v with
  | some cs => some (.sl s.nx 0 z len len true, s.new (.row true cs))
  | none => none
def ldA (agg : Bool) (z : Nat) (a : AV) (s : AS) : Option (AV × AS) := match a with
  | .p b o => match s.h.get b with
    | some (.row _ cs) => bif agg then (match cut cs o z with | some l => some (.ag l, s) | none => none)
      else (match cs[o]? with | some v => some (v, s) | none => none)
    | _ => none
  | _ => none
def stA (z : Nat) (a x : AV) (s : AS) : Option (AV × AS) := match a with
  | .p b o => match s.h.get b with
    | some (.row true cs) => let vs := x.cells
      bif (vs.length == z && Nat.ble (o + z) cs.length) && vs.all AV.one then some (.tu [], s.write b (.row true (putAt cs o vs))) else none
    | _ => none
  | _ => none
def nilA (x : AV) (s : AS) : Option (AV × AS) := match x with
  | .p b o => some (.p b o, s)
  | .fn f c => some (.fn f c, s)
  | .yl l => some (.yl l, s)
  | _ => none
def cvA (c : Cv) (x : AV) (s : AS) : Option (AV × AS) := match c, x with
  | .int k, .i _ n => some (.i k (k.wrap n), s)
  | .same, .s l => some (.s l, s)
  | .s2b, .s l => some (.sl s.nx 0 1 l.length l.length false, s.new (.row true (l.map fun c => .i .u8 c.toNat)))
  | .b2s, .sn => some (.s [], s)
  | .b2s, .sl b o 1 len _ _ => match s.h.get b with
    | some (.row _ cs) => match cut cs o len with
      | some l => bif l.all isU8 then some (.s (l.map byteAt), s) else none
      | none => none
    | _ => none
  | _, _ => none
def mksA (z bytes : Nat) (zero : List AV) (l c : AV) (s : AS) : Option (AV × AS) := match l, c with
  | .i _ (.ofNat l), .i _ (.ofNat c) => bif Nat.ble l c && Nat.ble (c * bytes) most46 && Nat.ble c most46 then
      some (.sl s.nx 0 z l c true, s.new (.row true (repCells c zero))) else none
  | _, _ => none
def optA (x : Option AV) (most dflt : Nat) : Option Nat := match x with
  | none => some dflt
  | some v => natOf v most
def slsA (x : AV) (lo hi : Option AV) (s : AS) : Option (AV × AS) := match x with
  | .s l => match optA hi l.length l.length with
    | none => none
    | some h => match optA lo h 0 with
      | none => none
      | some lo => some (.s ((l.drop lo).take (h - lo)), s)
  | _ => none
def slcA (z : Nat) (x : AV) (lo hi mx : Option AV) (s : AS) : Option (AV × AS) := match x with
  | .sn => match optA mx 0 0 with
    | none => none
    | some m => match optA hi m 0 with
      | none => none
      | some h => match optA lo h 0 with
        | none => none
        | some _ => some (.sn, s)
  | .sl b o z' len cap ex => bif z' == z then
    match optA mx cap cap with
    | none => none
    | some m => match optA hi m len with
      | none => none
      | some h => match optA lo h 0 with
        | none => none
        | some l => some (.sl b (o + l * z) z (h - l) (m - l) (match mx with | some _ => true | none => ex), s)
    else none
  | _ => none
def slaA (n z : Nat) (x : AV) (lo hi : Option AV) (s : AS) : Option (AV × AS) := match x with
  | .p b o => match optA hi n n with
    | none => none
    | some h => match optA lo h 0 with
      | none => none
      | some l => match s.h.get b with
        | some (.row _ cs) => bif Nat.ble (o + n * z) cs.length then some (.sl b (o + l * z) z (h - l) (n - l) true, s) else none
        | _ => none
  | _ => none
def fadA (off : Nat) (x : AV) (s : AS) : Option (AV × AS) := match x with
  | .p b o => some (.p b (o + off), s)
  | _ => none
def fldA (agg : Bool) (off z : Nat) (x : AV) (s : AS) : Option (AV × AS) := match x with
  | .ag l => bif agg then (match cut l off z with | some r => some (.ag r, s) | none => none)
    else (match l[off]? with | some v => some (v, s) | none => none)
  | _ => none
def iadA (arr : Option Nat) (z : Nat) (x i : AV) (s : AS) : Option (AV × AS) := match arr, x, i with
  | none, .sl b o z' len _ _, .i _ (.ofNat i) => bif z' == z && Nat.blt i len then some (.p b (o + i * z), s) else none
  | some n, .p b o, .i _ (.ofNat i) => bif Nat.blt i n then some (.p b (o + i * z), s) else none
  | _, _, _ => none
def idxA (x i : AV) (s : AS) : Option (AV × AS) := match x, i with
  | .s l, .i _ (.ofNat i) => match l[i]? with
    | some c => some (.i .u8 c.toNat, s)
    | none => none
  | _, _ => none
def lkA (e : EqK) (zero : AV) (ok : Bool) (m k : AV) (s : AS) : Option (AV × AS) :=
  bif keyOk e k then (match (match m with
      | .mn => some none
      | .m b => match s.h.get b with
        | some (.mp es) => lookL e k es
        | _ => none
      | _ => none) with
    | none => none
    | some none => some (bif ok then .tu [zero, .b false] else zero, s)
    | some (some v) => some (bif ok then .tu [v, .b true] else v, s)) else none
def mupA (e : EqK) (m k v : AV) (s : AS) : Option (AV × AS) := bif keyOk e k then (match m with
    | .m b => match s.h.get b with
      | some (.mp es) => match lookL e k es with
        | some _ => some (.tu [], s.write b (.mp (upL e k v es)))
        | none => none
      | _ => none
    | _ => none) else none
def extA (x : AV) (i : Nat) (s : AS) : Option (AV × AS) := match x with
  | .tu l => match l[i]? with | some v => some (v, s) | none => none
  | _ => none
def lenA (k : LK) (x : AV) (s : AS) : Option (AV × AS) := match k, x with
  | .s, .s l => some (.i .i64 l.length, s)
  | .l, .sn => some (.i .i64 0, s)
  | .l, .sl _ _ _ len _ _ => some (.i .i64 len, s)
  | .m, .mn => some (.i .i64 0, s)
  | .m, .m b => match s.h.get b with
    | some (.mp es) => some (.i .i64 es.length, s)
    | _ => none
  | _, _ => none
def cpyA (z : Nat) (d x : AV) (s : AS) : Option (AV × AS) := match d, srcCells s z x with
  | .sn, some _ => some (.i .i64 0, s)
  | .sl b o z' len _ _, some (n, new) => bif (z' == z) && new.all AV.one then (match s.h.get b with
    | some (.row true cs) => let k := bif Nat.ble n len then n else len
      bif Nat.ble (o + k * z) cs.length then some (.i .i64 k, s.write b (.row true (putAt cs o (new.take (k * z))))) else none
    | _ => none) else none
  | _, _ => none
def mnxA (mx : Bool) (xs : List AV) (s : AS) : Option (AV × AS) := match xs with
  | [] => none
  | x :: r => match mnxV mx x r with | some v => some (v, s) | none => none
def clrA (z : Nat) (zero : List AV) (x : AV) (s : AS) : Option (AV × AS) := match x with
  | .sn => some (.tu [], s)
  | .sl b o z' len _ _ => bif len == 0 then some (.tu [], s) else bif z' == z then (match s.h.get b with
    | some (.row true cs) => bif Nat.ble (o + len * z) cs.length then some (.tu [], s.write b (.row true (putAt cs o (repCells len zero)))) else none
    | _ => none) else none
  | _ => none

theorem SG_mv {d : Option Nat} {r : List AOper} {t : T AV} {n : Nat} {s : AS} (x : Opd) : SG ft sm (some true) d (.mv x) r K ⟨t, n, s⟩ Q ↔ SS ft sm (some (ev t x, s)) d r K t n Q := by
  rw [SG_op rfl]; rfl
theorem SG_pick {d : Option Nat} {r : List AOper} {t : T AV} {n : Nat} {s : AS} (c a b : Opd) : SG ft sm (some true) d (.pick c a b) r K ⟨t, n, s⟩ Q ↔ SS ft sm (pickA (ev t c) (ev t a) (ev t b) s) d r K t n Q := by
  rw [SG_op rfl]; rfl
theorem SG_alloc {d : Option Nat} {r : List AOper} {t : T AV} {n : Nat} {s : AS} (zs : List AV) : SG ft sm (some true) d (.alloc zs) r K ⟨t, n, s⟩ Q ↔ SS ft sm (some (.p s.nx 0, s.new (.row true zs))) d r K t n Q := by
  rw [SG_op rfl]; rfl
theorem SG_box {d : Option Nat} {r : List AOper} {t : T AV} {n : Nat} {s : AS} (z : Nat) (x : Opd) : SG ft sm (some true) d (.box z x) r K ⟨t, n, s⟩ Q ↔ SS ft sm (boxA z (ev t x) s) d r K t n Q := by
  rw [SG_op rfl]; rfl
theorem SG_bld {d : Option Nat} {r : List AOper} {t : T AV} {n : Nat} {s : AS} (zero : List AV) (ps : List (Nat × Nat × Opd)) : SG ft sm (some true) d (.bld zero ps) r K ⟨t, n, s⟩ Q ↔ SS ft sm (bldA (fillL zero (partsOf (ev t) ps)) s) d r K t n Q := by
  rw [SG_op rfl]; rfl
theorem SG_bsl {d : Option Nat} {r : List AOper} {t : T AV} {n : Nat} {s : AS} (z len : Nat) (zero : List AV) (ps : List (Nat × Nat × Opd)) : SG ft sm (some true) d (.bsl z len zero ps) r K ⟨t, n, s⟩ Q ↔ SS ft sm (bslA z len (fillL (repCells len zero) (partsOf (ev t) ps)) s) d r K t n Q := by
  rw [SG_op rfl]; rfl
theorem SG_ld {d : Option Nat} {r : List AOper} {t : T AV} {n : Nat} {s : AS} (g : Bool) (z : Nat) (a : Opd) : SG ft sm (some true) d (.ld g z a) r K ⟨t, n, s⟩ Q ↔ SS ft sm (ldA g z (ev t a) s) d r K t n Q := by
  rw [SG_op rfl]; rfl
theorem SG_st {d : Option Nat} {r : List AOper} {t : T AV} {n : Nat} {s : AS} (z : Nat) (a x : Opd) : SG ft sm (some true) d (.st z a x) r K ⟨t, n, s⟩ Q ↔ SS ft sm (stA z (ev t a) (ev t x) s) d r K t n Q := by
  rw [SG_op rfl]; rfl
theorem SG_nilck {d : Option Nat} {r : List AOper} {t : T AV} {n : Nat} {s : AS} (x : Opd) : SG ft sm (some true) d (.nilck x) r K ⟨t, n, s⟩ Q ↔ SS ft sm (nilA (ev t x) s) d r K t n Q := by
  rw [SG_op rfl]; rfl
theorem SG_bin {d : Option Nat} {r : List AOper} {t : T AV} {n : Nat} {s : AS} (op : BinOp) (e : EqK) (x y : Opd) : SG ft sm (some true) d (.bin op e x y) r K ⟨t, n, s⟩ Q ↔ SS ft sm (valA (binV op e (ev t x) (ev t y)) s) d r K t n Q := by
  rw [SG_op rfl]; rfl
theorem SG_un {d : Option Nat} {r : List AOper} {t : T AV} {n : Nat} {s : AS} (op : UnOp) (x : Opd) : SG ft sm (some true) d (.un op x) r K ⟨t, n, s⟩ Q ↔ SS ft sm (valA (unV op (ev t x)) s) d r K t n Q := by
  rw [SG_op rfl]; rfl
theorem SG_cv {d : Option Nat} {r : List AOper} {t : T AV} {n : Nat} {s : AS} (c : Cv) (x : Opd) : SG ft sm (some true) d (.cv c x) r K ⟨t, n, s⟩ Q ↔ SS ft sm (cvA c (ev t x) s) d r K t n Q := by
  rw [SG_op rfl]; rfl
theorem SG_mkf {d : Option Nat} {r : List AOper} {t : T AV} {n : Nat} {s : AS} (f : Nat) (c : List Opd) : SG ft sm (some true) d (.mkf f c) r K ⟨t, n, s⟩ Q ↔ SS ft sm (some (.fn f (c.map (ev t)), s)) d r K t n Q := by
  rw [SG_op rfl]; rfl
theorem SG_mkm {d : Option Nat} {r : List AOper} {t : T AV} {n : Nat} {s : AS}  : SG ft sm (some true) d (.mkm ) r K ⟨t, n, s⟩ Q ↔ SS ft sm (some (.m s.nx, s.new (.mp []))) d r K t n Q := by
  rw [SG_op rfl]; rfl
theorem SG_mks {d : Option Nat} {r : List AOper} {t : T AV} {n : Nat} {s : AS} (z bytes : Nat) (zero : List AV) (l c : Opd) : SG ft sm (some true) d (.mks z bytes zero l c) r K ⟨t, n, s⟩ Q ↔ SS ft sm (mksA z bytes zero (ev t l) (ev t c) s) d r K t n Q := by
  rw [SG_op rfl]; rfl
theorem SG_sls {d : Option Nat} {r : List AOper} {t : T AV} {n : Nat} {s : AS} (x : Opd) (lo hi : Option Opd) : SG ft sm (some true) d (.sls x lo hi) r K ⟨t, n, s⟩ Q ↔ SS ft sm (slsA (ev t x) (lo.map (ev t)) (hi.map (ev t)) s) d r K t n Q := by
  rw [SG_op rfl]; cases lo <;> cases hi <;> rfl
theorem SG_slc {d : Option Nat} {r : List AOper} {t : T AV} {n : Nat} {s : AS} (z : Nat) (x : Opd) (lo hi mx : Option Opd) : SG ft sm (some true) d (.slc z x lo hi mx) r K ⟨t, n, s⟩ Q ↔ SS ft sm (slcA z (ev t x) (lo.map (ev t)) (hi.map (ev t)) (mx.map (ev t)) s) d r K t n Q := by
  rw [SG_op rfl]; cases lo <;> cases hi <;> cases mx <;> rfl
theorem SG_sla {d : Option Nat} {r : List AOper} {t : T AV} {n : Nat} {s : AS} (n z : Nat) (x : Opd) (lo hi : Option Opd) : SG ft sm (some true) d (.sla n z x lo hi) r K ⟨t, n, s⟩ Q ↔ SS ft sm (slaA n z (ev t x) (lo.map (ev t)) (hi.map (ev t)) s) d r K t n Q := by
  rw [SG_op rfl]; cases lo <;> cases hi <;> rfl
theorem SG_fad {d : Option Nat} {r : List AOper} {t : T AV} {n : Nat} {s : AS} (off : Nat) (x : Opd) : SG ft sm (some true) d (.fad off x) r K ⟨t, n, s⟩ Q ↔ SS ft sm (fadA off (ev t x) s) d r K t n Q := by
  rw [SG_op rfl]; rfl
theorem SG_fld {d : Option Nat} {r : List AOper} {t : T AV} {n : Nat} {s : AS} (g : Bool) (off z : Nat) (x : Opd) : SG ft sm (some true) d (.fld g off z x) r K ⟨t, n, s⟩ Q ↔ SS ft sm (fldA g off z (ev t x) s) d r K t n Q := by
  rw [SG_op rfl]; rfl
theorem SG_iad {d : Option Nat} {r : List AOper} {t : T AV} {n : Nat} {s : AS} (arr : Option Nat) (z : Nat) (x i : Opd) : SG ft sm (some true) d (.iad arr z x i) r K ⟨t, n, s⟩ Q ↔ SS ft sm (iadA arr z (ev t x) (ev t i) s) d r K t n Q := by
  rw [SG_op rfl]; rfl
theorem SG_idx {d : Option Nat} {r : List AOper} {t : T AV} {n : Nat} {s : AS} (x i : Opd) : SG ft sm (some true) d (.idx x i) r K ⟨t, n, s⟩ Q ↔ SS ft sm (idxA (ev t x) (ev t i) s) d r K t n Q := by
  rw [SG_op rfl]; rfl
theorem SG_lk {d : Option Nat} {r : List AOper} {t : T AV} {n : Nat} {s : AS} (e : EqK) (zero : AV) (ok : Bool) (m k : Opd) : SG ft sm (some true) d (.lk e zero ok m k) r K ⟨t, n, s⟩ Q ↔ SS ft sm (lkA e zero ok (ev t m) (ev t k) s) d r K t n Q := by
  rw [SG_op rfl]; rfl
theorem SG_mup {d : Option Nat} {r : List AOper} {t : T AV} {n : Nat} {s : AS} (e : EqK) (m k v : Opd) : SG ft sm (some true) d (.mup e m k v) r K ⟨t, n, s⟩ Q ↔ SS ft sm (mupA e (ev t m) (ev t k) (ev t v) s) d r K t n Q := by
  rw [SG_op rfl]; rfl
theorem SG_ext {d : Option Nat} {r : List AOper} {t : T AV} {n : Nat} {s : AS} (x : Opd) (i : Nat) : SG ft sm (some true) d (.ext x i) r K ⟨t, n, s⟩ Q ↔ SS ft sm (extA (ev t x) i s) d r K t n Q := by
  rw [SG_op rfl]; rfl
theorem SG_len {d : Option Nat} {r : List AOper} {t : T AV} {n : Nat} {s : AS} (k : LK) (x : Opd) : SG ft sm (some true) d (.len k x) r K ⟨t, n, s⟩ Q ↔ SS ft sm (lenA k (ev t x) s) d r K t n Q := by
  rw [SG_op rfl]; rfl
theorem SG_app {d : Option Nat} {r : List AOper} {t : T AV} {n : Nat} {s : AS} (z bytes : Nat) (x y : Opd) : SG ft sm (some true) d (.app z bytes x y) r K ⟨t, n, s⟩ Q ↔ SS ft sm (appV s z bytes (ev t x) (ev t y)) d r K t n Q := by
  rw [SG_op rfl]; rfl
theorem SG_cpy {d : Option Nat} {r : List AOper} {t : T AV} {n : Nat} {s : AS} (z : Nat) (y x : Opd) : SG ft sm (some true) d (.cpy z y x) r K ⟨t, n, s⟩ Q ↔ SS ft sm (cpyA z (ev t y) (ev t x) s) d r K t n Q := by
  rw [SG_op rfl]; rfl
theorem SG_mnx {d : Option Nat} {r : List AOper} {t : T AV} {n : Nat} {s : AS} (mx : Bool) (xs : List Opd) : SG ft sm (some true) d (.mnx mx xs) r K ⟨t, n, s⟩ Q ↔ SS ft sm (mnxA mx (xs.map (ev t)) s) d r K t n Q := by
  rw [SG_op rfl]; rfl
theorem SG_clr {d : Option Nat} {r : List AOper} {t : T AV} {n : Nat} {s : AS} (z : Nat) (zero : List AV) (x : Opd) : SG ft sm (some true) d (.clr z zero x) r K ⟨t, n, s⟩ Q ↔ SS ft sm (clrA z zero (ev t x) s) d r K t n Q := by
  rw [SG_op rfl]; rfl


/-! ### Rules for them -/

theorem pickA_true (a b : AV) (s : AS) : pickA (.b true) a b s = some (a, s) := rfl
theorem pickA_false (a b : AV) (s : AS) : pickA (.b false) a b s = some (b, s) := rfl
theorem valA_some (v : AV) (s : AS) : valA (some v) s = some (v, s) := rfl
def ldR (agg : Bool) (z o : Nat) (B : Option Blk) (s : AS) : Option (AV × AS) := match B with
  | some (.row _ cs) => bif agg then (match cut cs o z with | some l => some (.ag l, s) | none => none)
      else (match cs[o]? with | some v => some (v, s) | none => none)
  | _ => none
theorem ldA_p (g : Bool) (z b o : Nat) (s : AS) : ldA g z (.p b o) s = ldR g z o (s.h.get b) s := rfl
theorem ldR_row (g : Bool) (z o : Nat) (w : Bool) (cs : List AV) (s : AS) : ldR g z o (some (.row w cs)) s = bif g then valA ((cut cs o z).map .ag) s else valA cs[o]? s := by
  cases g
  · rfl
  · simp only [ldR, cond_true]
    cases cut cs o z <;> rfl
def stR (z b o : Nat) (x : AV) (B : Option Blk) (s : AS) : Option (AV × AS) := match B with
  | some (.row true cs) => bif (x.cells.length == z && Nat.ble (o + z) cs.length) && x.cells.all AV.one then some (.tu [], s.write b (.row true (putAt cs o x.cells))) else none
  | _ => none
theorem stA_p (z b o : Nat) (x : AV) (s : AS) : stA z (.p b o) x s = stR z b o x (s.h.get b) s := rfl
theorem stR_row (z b o : Nat) (x : AV) (cs : List AV) (s : AS) : stR z b o x (some (.row true cs)) s = bif (x.cells.length == z && Nat.ble (o + z) cs.length) && x.cells.all AV.one then some (.tu [], s.write b (.row true (putAt cs o x.cells))) else none := rfl
theorem fadA_p (off b o : Nat) (s : AS) : fadA off (.p b o) s = some (.p b (o + off), s) := rfl
theorem fldA_ag (g : Bool) (off z : Nat) (l : List AV) (s : AS) : fldA g off z (.ag l) s = bif g then valA ((cut l off z).map .ag) s else valA l[off]? s := by
  cases g
  · rfl
  · simp only [fldA, cond_true]
    cases cut l off z <;> rfl
theorem cut_eq {α : Type} (l : List α) (o z : Nat) : cut l o z = bif Nat.ble (o + z) l.length then some ((l.drop o).take z) else none := rfl
theorem extA_tu (l : List AV) (i : Nat) (s : AS) : extA (.tu l) i s = valA l[i]? s := by
  rfl
theorem lenA_s (l : List UInt8) (s : AS) : lenA .s (.s l) s = some (.i .i64 l.length, s) := rfl
theorem lenA_sn (s : AS) : lenA .l .sn s = some (.i .i64 0, s) := rfl
theorem lenA_sl (b o z len cap : Nat) (ex : Bool) (s : AS) : lenA .l (.sl b o z len cap ex) s = some (.i .i64 len, s) := rfl
theorem cvA_int (k k' : IntKind) (n : Int) (s : AS) : cvA (.int k) (.i k' n) s = some (.i k (k.wrap n), s) := rfl
theorem bldA_some (cs : List AV) (s : AS) : bldA (some cs) s = some (.ag cs, s) := rfl
theorem bslA_some (z len : Nat) (cs : List AV) (s : AS) : bslA z len (some cs) s = some (.sl s.nx 0 z len len true, s.new (.row true cs)) := rfl
theorem nilA_p (b o : Nat) (s : AS) : nilA (.p b o) s = some (.p b o, s) := rfl

theorem bin_eqi (x y : Int) (k : IntKind) (e : EqK) : binV .eql e (.i k x) (.i k y) = some (.b (x == y)) := by cases k <;> rfl
theorem bin_nei (x y : Int) (k : IntKind) (e : EqK) : binV .neq e (.i k x) (.i k y) = some (.b (!(x == y))) := by cases k <;> rfl
theorem bin_lt (x y : Int) (k : IntKind) (e : EqK) : binV .lss e (.i k x) (.i k y) = some (.b (decide (x < y))) := by cases k <;> rfl
theorem bin_le (x y : Int) (k : IntKind) (e : EqK) : binV .leq e (.i k x) (.i k y) = some (.b (decide (x ≤ y))) := by cases k <;> rfl
theorem bin_gt (x y : Int) (k : IntKind) (e : EqK) : binV .gtr e (.i k x) (.i k y) = some (.b (decide (y < x))) := by cases k <;> rfl
theorem bin_ge (x y : Int) (k : IntKind) (e : EqK) : binV .geq e (.i k x) (.i k y) = some (.b (decide (y ≤ x))) := by cases k <;> rfl
theorem bin_add (x y : Int) (k : IntKind) (e : EqK) : binV .add e (.i k x) (.i k y) = some (.i k (k.wrap (x + y))) := by cases k <;> rfl
theorem bin_sub (x y : Int) (k : IntKind) (e : EqK) : binV .sub e (.i k x) (.i k y) = some (.i k (k.wrap (x - y))) := by cases k <;> rfl
theorem bin_mul (x y : Int) (k : IntKind) (e : EqK) : binV .mul e (.i k x) (.i k y) = some (.i k (k.wrap (x * y))) := by cases k <;> rfl
theorem un_not (v : Bool) : unV .not (.b v) = some (.b (!v)) := rfl
theorem un_neg (k : IntKind) (n : Int) : unV .neg (.i k n) = some (.i k (k.wrap (0 - n))) := rfl

theorem boxA_eq (z : Nat) (x : AV) (s : AS) : boxA z x s = bif x.cells.length == z && x.cells.all AV.one then some (.p s.nx 0, s.new (.row true x.cells)) else none := rfl
theorem cells_i (k : IntKind) (n : Int) : (AV.i k n).cells = [.i k n] := rfl
theorem cells_b (v : Bool) : (AV.b v).cells = [.b v] := rfl
theorem cells_s (l : List UInt8) : (AV.s l).cells = [.s l] := rfl
theorem cells_p (b o : Nat) : (AV.p b o).cells = [.p b o] := rfl
theorem cells_pn : AV.pn.cells = [.pn] := rfl
theorem cells_sn : AV.sn.cells = [.sn] := rfl
theorem cells_sl (b o z len cap : Nat) (ex : Bool) : (AV.sl b o z len cap ex).cells = [.sl b o z len cap ex] := rfl
theorem cells_m (b : Nat) : (AV.m b).cells = [.m b] := rfl
theorem cells_mn : AV.mn.cells = [.mn] := rfl
theorem cells_fn (f : Nat) (c : List AV) : (AV.fn f c).cells = [.fn f c] := rfl
theorem cells_nf : AV.nf.cells = [.nf] := rfl
theorem cells_nif : AV.nif.cells = [.nif] := rfl
theorem cells_one {v : AV} (h : v.one = true) : v.cells = [v] := by cases v <;> first | rfl | simp [AV.one] at h
theorem one_i (k : IntKind) (n : Int) : (AV.i k n).one = true := rfl
theorem one_b (v : Bool) : (AV.b v).one = true := rfl
theorem one_s (l : List UInt8) : (AV.s l).one = true := rfl
theorem one_p (b o : Nat) : (AV.p b o).one = true := rfl
theorem one_pn : AV.pn.one = true := rfl
theorem one_sn : AV.sn.one = true := rfl
theorem one_sl (b o z len cap : Nat) (ex : Bool) : (AV.sl b o z len cap ex).one = true := rfl
theorem one_m (b : Nat) : (AV.m b).one = true := rfl
theorem one_mn : AV.mn.one = true := rfl
theorem one_fn (f : Nat) (c : List AV) : (AV.fn f c).one = true := rfl
theorem one_nf : AV.nf.one = true := rfl
theorem one_nif : AV.nif.one = true := rfl
theorem cells_ag (l : List AV) : (AV.ag l).cells = l := rfl

theorem get_new' (s : AS) (B : Blk) (q : Nat) : (s.new B).h.get q = if q = s.nx then some B else s.h.get q := get_new s B q
theorem ne_off {b n : Nat} (h : b < n) (k : Nat) : (b = n + k) = False := by simp only [eq_iff_iff, iff_false]; omega
theorem ne_at {b n : Nat} (h : b < n) : (b = n) = False := by simp only [eq_iff_iff, iff_false]; omega

end Go.AM
