/- A chart of accounts: small functions. -/
import Derived.Test.YthdkiocnbbeigaaSpE
namespace Go.AMJ
open Go Go.AM
set_option linter.unusedSimpArgs false
set_option linter.unusedVariables false

structure Acc where
  code : Int
  up : Int
  cls : Int
  name : List UInt8
  shut : Bool

def encA (a : Acc) : List AV := [.i .i64 a.code, .i .i64 a.up, .i .u8 a.cls, .s a.name, .b a.shut]
theorem encA_ag (a : Acc) : AV.ag [.i .i64 a.code, .i .i64 a.up, .i .u8 a.cls, .s a.name, .b a.shut] = .ag (encA a) := rfl
def zeroA : AV := .ag [.i .i64 0, .i .i64 0, .i .u8 0, .s [], .b false]
def entA (a : Acc) : AV × AV := (.i .i64 a.code, .ag (encA a))
def findA (c : Int) (L : List Acc) : Option Acc := L.find? fun a => c == a.code

theorem look_spec (c : Int) (L : List Acc) : lookL (.plain .i) (.i .i64 c) (L.map entA) = some ((findA c L).map fun a => .ag (encA a)) := by
  induction L with
  | nil => rfl
  | cons a L ih =>
    simp only [List.map_cons, entA, lookL, eqV, eqP, kEq, cond_true, findA, List.find?_cons]
    cases h : (c == a.code)
    · exact ih
    · rfl

/-- An account put under its code. -/
def putL (a : Acc) : List Acc → List Acc
  | [] => [a]
  | b :: L => if a.code == b.code then a :: L else b :: putL a L
theorem up_spec (a : Acc) (L : List Acc) : upL (.plain .i) (.i .i64 a.code) (.ag (encA a)) (L.map entA) = (putL a L).map entA := by
  induction L with
  | nil => rfl
  | cons b L ih =>
    simp only [List.map_cons, entA, upL, eqV, eqP, kEq, cond_true, putL]
    cases h : (a.code == b.code)
    · simp only [Bool.false_eq_true, if_false, List.map_cons, entA]; rw [← ih]
    · simp only [if_true, List.map_cons, entA]

def lkC (zero : AV) (ok : Bool) (r : Option (Option AV)) (s : AS) : Option (AV × AS) := match r with
  | none => none
  | some none => some (bif ok then .tu [zero, .b false] else zero, s)
  | some (some v) => some (bif ok then .tu [v, .b true] else v, s)
def lkB (e : EqK) (zero : AV) (ok : Bool) (k : AV) (B : Option Blk) (s : AS) : Option (AV × AS) := match B with
  | some (.mp es) => lkC zero ok (lookL e k es) s
  | _ => none
theorem lkA_i (zero : AV) (ok : Bool) (b : Nat) (k : IntKind) (n : Int) (s : AS) : lkA (.plain .i) zero ok (.m b) (.i k n) s = lkB (.plain .i) zero ok (.i k n) (s.h.get b) s := by
  show (bif true then _ else _) = _
  simp only [cond_true, lkB, lkC]
  cases s.h.get b with
  | none => rfl
  | some B => cases B <;> rfl
theorem lkB_mp (e : EqK) (zero : AV) (ok : Bool) (k : AV) (es : List (AV × AV)) (s : AS) : lkB e zero ok k (some (.mp es)) s = lkC zero ok (lookL e k es) s := rfl
theorem lkC_none (zero : AV) (ok : Bool) (s : AS) : lkC zero ok (some none) s = some (bif ok then .tu [zero, .b false] else zero, s) := rfl
theorem lkC_some (zero : AV) (ok : Bool) (v : AV) (s : AS) : lkC zero ok (some (some v)) s = some (bif ok then .tu [v, .b true] else v, s) := rfl
def mupB (e : EqK) (k v : AV) (b : Nat) (B : Option Blk) (s : AS) : Option (AV × AS) := match B with
  | some (.mp es) => match lookL e k es with
    | some _ => some (.tu [], s.write b (.mp (upL e k v es)))
    | none => none
  | _ => none
theorem mupA_i (b : Nat) (k : IntKind) (n : Int) (v : AV) (s : AS) : mupA (.plain .i) (.m b) (.i k n) v s = mupB (.plain .i) (.i k n) v b (s.h.get b) s := by
  show (bif true then _ else _) = _
  simp only [cond_true, mupB]
  cases s.h.get b with
  | none => rfl
  | some B => cases B <;> rfl
theorem mupB_spec (a : Acc) (b : Nat) (L : List Acc) (s : AS) : mupB (.plain .i) (.i .i64 a.code) (.ag (encA a)) b (some (.mp (L.map entA))) s = some (.tu [], s.write b (.mp ((putL a L).map entA))) := by
  simp only [mupB, look_spec, up_spec]
attribute [push_cast] lkA_i lkB_mp lkC_none lkC_some mupA_i look_spec Option.map_none

/-- A chart's memory. -/
structure Ch (s : AS) (p mb : Nat) (L : List Acc) : Prop where
  hp : s.h.get p = some (.row true [.m mb])
  hm : s.h.get mb = some (.mp (L.map entA))
  lp : p < s.nx
  lm : mb < s.nx
  ne : p ≠ mb

theorem Ch.of {s s' : AS} {p mb : Nat} {L : List Acc} (h : Ch s p mb L) (hn : s.nx ≤ s'.nx) (ho : ∀ q, q < s.nx → s'.h.get q = s.h.get q) : Ch s' p mb L :=
  ⟨by rw [ho p h.lp]; exact h.hp, by rw [ho mb h.lm]; exact h.hm, Nat.lt_of_lt_of_le h.lp hn, Nat.lt_of_lt_of_le h.lm hn, h.ne⟩
theorem Ch.gr {s s' : AS} {p mb : Nat} {L : List Acc} (h : Ch s p mb L) (g : Gr s s') : Ch s' p mb L := h.of g.nx g.old
theorem Ch.grc {s s' : AS} {p mb : Nat} {L : List Acc} (h : Ch s p mb L) (g : Grc s s') : Ch s' p mb L := h.of g.nx g.old
theorem Ch.start {s : AS} {p mb : Nat} {L : List Acc} (h : Ch s p mb L) : Ch ⟨s.h, s.nx, s.nx⟩ p mb L := ⟨h.hp, h.hm, h.lp, h.lm, h.ne⟩

/-- A chart's accounts. -/
structure WA (L : List Acc) : Prop where
  nd : (L.map (·.code)).Nodup
  rg : ∀ a ∈ L, 1 ≤ a.code ∧ a.code ≤ 9999
  up : ∀ a ∈ L, a.up = 0 ∨ ∃ b ∈ L, b.code = a.up
  rk : ∃ r : Int → Nat, (∀ a ∈ L, r a.code < L.length) ∧ (∀ a ∈ L, ∀ b ∈ L, r a.code = r b.code → a.code = b.code) ∧ ∀ a ∈ L, ∀ b ∈ L, a.up = b.code → r b.code < r a.code

theorem findA_some {c : Int} {L : List Acc} {a : Acc} (h : findA c L = some a) : a ∈ L ∧ a.code = c := by
  unfold findA at h
  have h1 := List.mem_of_find?_eq_some h
  have h2 := List.find?_some h
  exact ⟨h1, (by simpa using h2 : c = a.code).symm⟩
theorem findA_none {c : Int} {L : List Acc} (h : findA c L = none) : ∀ a ∈ L, a.code ≠ c := by
  unfold findA at h
  intro a ha e
  have := List.find?_eq_none.1 h a ha
  simp [e] at this
theorem findA_mem {L : List Acc} (h : WA L) {a : Acc} (ha : a ∈ L) : findA a.code L = some a := by
  cases hf : findA a.code L with
  | none => exact absurd rfl (findA_none hf a ha)
  | some b =>
    obtain ⟨h1, h2⟩ := findA_some hf
    have hn := h.nd
    have key : ∀ (L : List Acc), (L.map (·.code)).Nodup → ∀ a ∈ L, ∀ b ∈ L, a.code = b.code → a = b := by
      intro L
      induction L with
      | nil => intro _ a ha; cases ha
      | cons x L ih =>
        intro hn a ha b hb e
        rw [List.map_cons, List.nodup_cons] at hn
        rcases List.mem_cons.1 ha with ha1 | ha1 <;> rcases List.mem_cons.1 hb with hb1 | hb1
        · rw [ha1, hb1]
        · subst ha1; exact absurd (List.mem_map.2 ⟨b, hb1, e.symm⟩) hn.1
        · subst hb1; exact absurd (List.mem_map.2 ⟨a, ha1, e⟩) hn.1
        · exact ih hn.2 a ha1 b hb1 e
    rw [key L hn b h1 a ha h2]

theorem putL_new {a : Acc} {L : List Acc} (h : findA a.code L = none) : putL a L = L ++ [a] := by
  have h' := findA_none h
  clear h
  induction L with
  | nil => rfl
  | cons b L ih =>
    have hb : (a.code == b.code) = false := by
      have := h' b (by simp)
      simp only [beq_eq_false_iff_ne]; exact fun e => this e.symm
    simp only [putL, hb, Bool.false_eq_true, if_false, List.cons_append]
    rw [ih (fun x hx => h' x (by simp [hx]))]

theorem WA.add {L : List Acc} (h : WA L) {a : Acc} (hc : 1 ≤ a.code ∧ a.code ≤ 9999) (hn : findA a.code L = none) (hu : a.up = 0 ∨ ∃ b, findA a.up L = some b) : WA (L ++ [a]) := by
  obtain ⟨r, r1, r2, r3⟩ := h.rk
  have hne := findA_none hn
  have hmem : ∀ x ∈ L ++ [a], x ∈ L ∨ x = a := fun x hx => by simpa using hx
  refine ⟨?_, fun x hx => ?_, fun x hx => ?_, fun c => if c = a.code then L.length else r c, fun x hx => ?_, fun x hx y hy e => ?_, fun x hx y hy e => ?_⟩
  · rw [List.map_append, List.nodup_append]
    refine ⟨h.nd, by simp, fun x hx y hy => ?_⟩
    obtain ⟨b, hb, rfl⟩ := List.mem_map.1 hx
    simp only [List.map_cons, List.map_nil, List.mem_singleton] at hy
    subst hy; exact hne b hb
  · rcases hmem x hx with h1 | rfl
    · exact h.rg x h1
    · exact hc
  · rcases hmem x hx with h1 | rfl
    · rcases h.up x h1 with h2 | ⟨b, hb, h2⟩
      · exact .inl h2
      · exact .inr ⟨b, by simp [hb], h2⟩
    · rcases hu with h2 | ⟨b, hb⟩
      · exact .inl h2
      · exact .inr ⟨b, by simp [(findA_some hb).1], (findA_some hb).2⟩
  · rw [List.length_append]
    rcases hmem x hx with h1 | rfl
    · have := r1 x h1; simp only [hne x h1, if_false, List.length_cons, List.length_nil]; omega
    · simp
  · rcases hmem x hx with h1 | h1 <;> rcases hmem y hy with h2 | h2
    · simp only [hne x h1, hne y h2, if_false] at e; exact r2 x h1 y h2 e
    · subst h2
      simp only [hne x h1, if_false, if_true] at e
      have := r1 x h1; omega
    · subst h1
      simp only [hne y h2, if_false, if_true] at e
      have := r1 y h2; omega
    · rw [h1, h2]
  · rcases hmem x hx with h1 | h1 <;> rcases hmem y hy with h2 | h2
    · simp only [hne x h1, hne y h2, if_false]; exact r3 x h1 y h2 e
    · subst h2
      rcases h.up x h1 with h3 | ⟨b, hb, h3⟩
      · omega
      · exact absurd (h3.trans e) (hne b hb)
    · subst h1
      simp only [hne y h2, if_false, if_true]; exact r1 y h2
    · subst h2
      rw [h1] at e
      rcases hu with h3 | ⟨b, hb⟩
      · omega
      · exact absurd ((findA_some hb).2.trans e) (hne b (findA_some hb).1)

/-- The same accounts, but for what is shut. -/
theorem WA.shut {L : List Acc} (h : WA L) {a : Acc} (hf : findA a.code L = some { a with shut := false } ∨ findA a.code L = some { a with shut := true }) : WA (putL a L) ∧ (putL a L).length = L.length := by
  have hb : ∃ b, findA a.code L = some b ∧ b.code = a.code ∧ b.up = a.up := by
    rcases hf with hf | hf <;> exact ⟨_, hf, rfl, rfl⟩
  obtain ⟨b, hb, e1, e2⟩ := hb
  have key : ∀ L : List Acc, findA a.code L = some b → (putL a L).map (·.code) = L.map (·.code) ∧ (putL a L).map (·.up) = L.map (·.up) := by
    intro L
    induction L with
    | nil => intro h; cases h
    | cons x L ih =>
      intro h
      unfold findA at h
      rw [List.find?_cons] at h
      simp only [putL]
      cases hx : (a.code == x.code)
      · rw [hx] at h
        obtain ⟨i1, i2⟩ := ih h
        simp only [Bool.false_eq_true, if_false, List.map_cons]
        exact ⟨by rw [i1], by rw [i2]⟩
      · rw [hx] at h
        simp only [Option.some.injEq] at h
        subst h
        simp only [if_true, List.map_cons]
        exact ⟨by rw [e1], by rw [e2]⟩
  obtain ⟨k1, k2⟩ := key L hb
  have hl : (putL a L).length = L.length := by have := congrArg List.length k1; simpa using this
  have pair : ∀ x ∈ putL a L, ∃ y ∈ L, y.code = x.code ∧ y.up = x.up := fun x hx => by
    obtain ⟨i, hi, rfl⟩ := List.getElem_of_mem hx
    have hi' : i < L.length := by omega
    refine ⟨L[i], List.getElem_mem hi', ?_, ?_⟩
    · have := congrArg (fun l => l[i]?) k1
      simp only [List.getElem?_map, List.getElem?_eq_getElem hi, List.getElem?_eq_getElem hi', Option.map_some, Option.some.injEq] at this
      exact this.symm
    · have := congrArg (fun l => l[i]?) k2
      simp only [List.getElem?_map, List.getElem?_eq_getElem hi, List.getElem?_eq_getElem hi', Option.map_some, Option.some.injEq] at this
      exact this.symm
  obtain ⟨r, r1, r2, r3⟩ := h.rk
  refine ⟨⟨by rw [k1]; exact h.nd, fun x hx => ?_, fun x hx => ?_, r, fun x hx => ?_, fun x hx y hy e => ?_, fun x hx y hy e => ?_⟩, hl⟩
  · obtain ⟨y, hy, e, _⟩ := pair x hx; rw [← e]; exact h.rg y hy
  · obtain ⟨y, hy, e, e'⟩ := pair x hx
    rw [← e']
    rcases h.up y hy with h3 | ⟨z, hz, h3⟩
    · exact .inl h3
    · refine .inr ?_
      have : z.code ∈ (putL a L).map (·.code) := by rw [k1]; exact List.mem_map.2 ⟨z, hz, rfl⟩
      obtain ⟨z', hz', e3⟩ := List.mem_map.1 this
      exact ⟨z', hz', e3.trans h3⟩
  · obtain ⟨y, hy, e, _⟩ := pair x hx; rw [← e, hl]; exact r1 y hy
  · obtain ⟨x', hx', e1, _⟩ := pair x hx
    obtain ⟨y', hy', e2, _⟩ := pair y hy
    rw [← e1, ← e2] at e ⊢; exact r2 x' hx' y' hy' e
  · obtain ⟨x', hx', e1, e3⟩ := pair x hx
    obtain ⟨y', hy', e2, _⟩ := pair y hy
    rw [← e3, ← e2] at e; rw [← e1, ← e2]; exact r3 x' hx' y' hy' e

/-! ### The functions -/

theorem none36_spec (s : AS) (p mb : Nat) (L : List Acc) (h : Ch s p mb L) : Re tab.get smJ (.fn 36 []) [.p p 0] s (.b false) := by
  refine Re_fn rfl (show tab.get 36 = some af36 from rfl) rfl rfl ?_
  simp only [push_cast, Bool.not_true, Bool.not_false, Nat.reduceAdd, Nat.reduceLT, Nat.reduceLeDiff, Nat.reduceBEq, Nat.reduceMul, Nat.reduceEqDiff, af36, h.hp]
  exact ⟨by trivial, Nat.le_refl _⟩

theorem side58_spec (s : AS) (n : Int) : ∃ v, (∃ m, v = .i .i64 m) ∧ Re tab.get smJ (.fn 58 []) [.i .u8 n] s v := by
  refine Re_some rfl (show tab.get 58 = some af58 from rfl) rfl ?_
  (try simp only [push_cast, Bool.not_true, Bool.not_false, Nat.reduceAdd, Nat.reduceLT, Nat.reduceLeDiff, Nat.reduceBEq, Nat.reduceMul, Nat.reduceEqDiff, af58]) <;> (repeat' (first | (refine SC_casesN (fun h => ?_) (fun h => ?_) <;> simp only [push_cast, Bool.not_true, Bool.not_false, Nat.reduceAdd, Nat.reduceLT, Nat.reduceLeDiff, Nat.reduceBEq, Nat.reduceMul, Nat.reduceEqDiff, h, af58]) | (refine SC_cases (fun h => ?_) (fun h => ?_) <;> simp only [push_cast, Bool.not_true, Bool.not_false, Nat.reduceAdd, Nat.reduceLT, Nat.reduceLeDiff, Nat.reduceBEq, Nat.reduceMul, Nat.reduceEqDiff, h, af58]) | (refine SG_casesN (fun h => ?_) (fun h => ?_) <;> simp only [push_cast, Bool.not_true, Bool.not_false, Nat.reduceAdd, Nat.reduceLT, Nat.reduceLeDiff, Nat.reduceBEq, Nat.reduceMul, Nat.reduceEqDiff, h, af58]) | (refine SG_cases (fun h => ?_) (fun h => ?_) <;> simp only [push_cast, Bool.not_true, Bool.not_false, Nat.reduceAdd, Nat.reduceLT, Nat.reduceLeDiff, Nat.reduceBEq, Nat.reduceMul, Nat.reduceEqDiff, h, af58]) | (refine DG_casesN (fun h => ?_) (fun h => ?_) <;> simp only [push_cast, Bool.not_true, Bool.not_false, Nat.reduceAdd, Nat.reduceLT, Nat.reduceLeDiff, Nat.reduceBEq, Nat.reduceMul, Nat.reduceEqDiff, h, af58]) | (refine DG_cases (fun h => ?_) (fun h => ?_) <;> simp only [push_cast, Bool.not_true, Bool.not_false, Nat.reduceAdd, Nat.reduceLT, Nat.reduceLeDiff, Nat.reduceBEq, Nat.reduceMul, Nat.reduceEqDiff, h, af58])))
  all_goals exact ⟨⟨_, rfl⟩, rfl, Nat.le_refl _⟩

theorem may44_spec (s : AS) (a : Acc) : ∃ v, (∃ b, v = .b b ∧ (b = true → 1 ≤ a.code ∧ a.code ≤ 9999)) ∧ Re tab.get smJ (.fn 44 []) [.ag (encA a)] s v := by
  refine Re_some rfl (show tab.get 44 = some af44 from rfl) rfl ?_
  (try simp only [push_cast, Bool.not_true, Bool.not_false, Nat.reduceAdd, Nat.reduceLT, Nat.reduceLeDiff, Nat.reduceBEq, Nat.reduceMul, Nat.reduceEqDiff, af44, encA]) <;> (repeat' (first | (refine SC_casesN (fun h => ?_) (fun h => ?_) <;> simp only [push_cast, Bool.not_true, Bool.not_false, Nat.reduceAdd, Nat.reduceLT, Nat.reduceLeDiff, Nat.reduceBEq, Nat.reduceMul, Nat.reduceEqDiff, h, af44, encA]) | (refine SC_cases (fun h => ?_) (fun h => ?_) <;> simp only [push_cast, Bool.not_true, Bool.not_false, Nat.reduceAdd, Nat.reduceLT, Nat.reduceLeDiff, Nat.reduceBEq, Nat.reduceMul, Nat.reduceEqDiff, h, af44, encA]) | (refine SG_casesN (fun h => ?_) (fun h => ?_) <;> simp only [push_cast, Bool.not_true, Bool.not_false, Nat.reduceAdd, Nat.reduceLT, Nat.reduceLeDiff, Nat.reduceBEq, Nat.reduceMul, Nat.reduceEqDiff, h, af44, encA]) | (refine SG_cases (fun h => ?_) (fun h => ?_) <;> simp only [push_cast, Bool.not_true, Bool.not_false, Nat.reduceAdd, Nat.reduceLT, Nat.reduceLeDiff, Nat.reduceBEq, Nat.reduceMul, Nat.reduceEqDiff, h, af44, encA]) | (refine DG_casesN (fun h => ?_) (fun h => ?_) <;> simp only [push_cast, Bool.not_true, Bool.not_false, Nat.reduceAdd, Nat.reduceLT, Nat.reduceLeDiff, Nat.reduceBEq, Nat.reduceMul, Nat.reduceEqDiff, h, af44, encA]) | (refine DG_cases (fun h => ?_) (fun h => ?_) <;> simp only [push_cast, Bool.not_true, Bool.not_false, Nat.reduceAdd, Nat.reduceLT, Nat.reduceLeDiff, Nat.reduceBEq, Nat.reduceMul, Nat.reduceEqDiff, h, af44, encA])))
  all_goals try (exact ⟨⟨_, rfl, fun e => nomatch e⟩, rfl, Nat.le_refl _⟩; done)
  rename_i h1
  simp only [decide_eq_true_eq] at h1 h
  refine SK_some (side58_spec _ _) (fun v ⟨m, hv⟩ => ?_)
  subst hv
  (try simp only [push_cast, Bool.not_true, Bool.not_false, Nat.reduceAdd, Nat.reduceLT, Nat.reduceLeDiff, Nat.reduceBEq, Nat.reduceMul, Nat.reduceEqDiff]) <;> (repeat' (first | (refine SC_casesN (fun h => ?_) (fun h => ?_) <;> simp only [push_cast, Bool.not_true, Bool.not_false, Nat.reduceAdd, Nat.reduceLT, Nat.reduceLeDiff, Nat.reduceBEq, Nat.reduceMul, Nat.reduceEqDiff, h]) | (refine SC_cases (fun h => ?_) (fun h => ?_) <;> simp only [push_cast, Bool.not_true, Bool.not_false, Nat.reduceAdd, Nat.reduceLT, Nat.reduceLeDiff, Nat.reduceBEq, Nat.reduceMul, Nat.reduceEqDiff, h]) | (refine SG_casesN (fun h => ?_) (fun h => ?_) <;> simp only [push_cast, Bool.not_true, Bool.not_false, Nat.reduceAdd, Nat.reduceLT, Nat.reduceLeDiff, Nat.reduceBEq, Nat.reduceMul, Nat.reduceEqDiff, h]) | (refine SG_cases (fun h => ?_) (fun h => ?_) <;> simp only [push_cast, Bool.not_true, Bool.not_false, Nat.reduceAdd, Nat.reduceLT, Nat.reduceLeDiff, Nat.reduceBEq, Nat.reduceMul, Nat.reduceEqDiff, h]) | (refine DG_casesN (fun h => ?_) (fun h => ?_) <;> simp only [push_cast, Bool.not_true, Bool.not_false, Nat.reduceAdd, Nat.reduceLT, Nat.reduceLeDiff, Nat.reduceBEq, Nat.reduceMul, Nat.reduceEqDiff, h]) | (refine DG_cases (fun h => ?_) (fun h => ?_) <;> simp only [push_cast, Bool.not_true, Bool.not_false, Nat.reduceAdd, Nat.reduceLT, Nat.reduceLeDiff, Nat.reduceBEq, Nat.reduceMul, Nat.reduceEqDiff, h])))
  all_goals exact ⟨⟨_, rfl, fun _ => ⟨by assumption, by assumption⟩⟩, rfl, Nat.le_refl _⟩

theorem depth45_spec (s : AS) (p mb : Nat) (L : List Acc) (hC : Ch s p mb L) (hw : WA L) (c : Int) : ∃ v, (∃ n, v = .i .i64 n) ∧ Re tab.get smJ (.fn 45 []) [.p p 0, .i .i64 c] s v := by
  obtain ⟨r, r1, r2, r3⟩ := hw.rk
  refine Re_some rfl (show tab.get 45 = some af45 from rfl) rfl ?_
  simp only [push_cast, Bool.not_true, Bool.not_false, Nat.reduceAdd, Nat.reduceLT, Nat.reduceLeDiff, Nat.reduceBEq, Nat.reduceMul, Nat.reduceEqDiff, af45]
  refine X_while (fun x : Int => if x = 0 then 0 else match findA x L with | some _ => r x + 2 | none => 1) (fun x t s' => s' = ⟨s.h, s.nx, s.nx⟩ ∧ ev t (.t 0) = .p p 0 ∧ ev t (.t 1) = .i .i64 x ∧ ∃ n, ev t (.t 5) = .i .i64 n) ?_ c _ _ ?_
  · rintro x t s' ⟨rfl, h0, h1, n, h5⟩ ih
    simp only [push_cast, Bool.not_true, Bool.not_false, Nat.reduceAdd, Nat.reduceLT, Nat.reduceLeDiff, Nat.reduceBEq, Nat.reduceMul, Nat.reduceEqDiff, h0, h1, h5, hC.hp, hC.hm]
    (first | (refine SC_casesN (fun h => ?_) (fun h => ?_) <;> simp only [push_cast, Bool.not_true, Bool.not_false, Nat.reduceAdd, Nat.reduceLT, Nat.reduceLeDiff, Nat.reduceBEq, Nat.reduceMul, Nat.reduceEqDiff, h, h0, h1, h5, hC.hp, hC.hm]) | (refine SC_cases (fun h => ?_) (fun h => ?_) <;> simp only [push_cast, Bool.not_true, Bool.not_false, Nat.reduceAdd, Nat.reduceLT, Nat.reduceLeDiff, Nat.reduceBEq, Nat.reduceMul, Nat.reduceEqDiff, h, h0, h1, h5, hC.hp, hC.hm]) | (refine SG_casesN (fun h => ?_) (fun h => ?_) <;> simp only [push_cast, Bool.not_true, Bool.not_false, Nat.reduceAdd, Nat.reduceLT, Nat.reduceLeDiff, Nat.reduceBEq, Nat.reduceMul, Nat.reduceEqDiff, h, h0, h1, h5, hC.hp, hC.hm]) | (refine SG_cases (fun h => ?_) (fun h => ?_) <;> simp only [push_cast, Bool.not_true, Bool.not_false, Nat.reduceAdd, Nat.reduceLT, Nat.reduceLeDiff, Nat.reduceBEq, Nat.reduceMul, Nat.reduceEqDiff, h, h0, h1, h5, hC.hp, hC.hm]) | (refine DG_casesN (fun h => ?_) (fun h => ?_) <;> simp only [push_cast, Bool.not_true, Bool.not_false, Nat.reduceAdd, Nat.reduceLT, Nat.reduceLeDiff, Nat.reduceBEq, Nat.reduceMul, Nat.reduceEqDiff, h, h0, h1, h5, hC.hp, hC.hm]) | (refine DG_cases (fun h => ?_) (fun h => ?_) <;> simp only [push_cast, Bool.not_true, Bool.not_false, Nat.reduceAdd, Nat.reduceLT, Nat.reduceLeDiff, Nat.reduceBEq, Nat.reduceMul, Nat.reduceEqDiff, h, h0, h1, h5, hC.hp, hC.hm]))
    · have hx : ¬ x = 0 := by simpa using h
      cases hf : findA x L with
      | none =>
        simp only [push_cast, Bool.not_true, Bool.not_false, Nat.reduceAdd, Nat.reduceLT, Nat.reduceLeDiff, Nat.reduceBEq, Nat.reduceMul, Nat.reduceEqDiff, hf]
        simp only [push_cast, Bool.not_true, Bool.not_false, Nat.reduceAdd, Nat.reduceLT, Nat.reduceLeDiff, Nat.reduceBEq, Nat.reduceMul, Nat.reduceEqDiff, h5]
        refine ih 0 _ _ ?_ ⟨rfl, by simp only [push_cast, Bool.not_true, Bool.not_false, Nat.reduceAdd, Nat.reduceLT, Nat.reduceLeDiff, Nat.reduceBEq, Nat.reduceMul, Nat.reduceEqDiff, h0], by simp only [push_cast, Bool.not_true, Bool.not_false, Nat.reduceAdd, Nat.reduceLT, Nat.reduceLeDiff, Nat.reduceBEq, Nat.reduceMul, Nat.reduceEqDiff], IntKind.i64.wrap (n + 1), by simp only [push_cast, Bool.not_true, Bool.not_false, Nat.reduceAdd, Nat.reduceLT, Nat.reduceLeDiff, Nat.reduceBEq, Nat.reduceMul, Nat.reduceEqDiff]⟩
        simp [hx, hf]
      | some a =>
        obtain ⟨ha, hc⟩ := findA_some hf
        simp only [push_cast, Bool.not_true, Bool.not_false, Nat.reduceAdd, Nat.reduceLT, Nat.reduceLeDiff, Nat.reduceBEq, Nat.reduceMul, Nat.reduceEqDiff, hf, encA]
        simp only [push_cast, Bool.not_true, Bool.not_false, Nat.reduceAdd, Nat.reduceLT, Nat.reduceLeDiff, Nat.reduceBEq, Nat.reduceMul, Nat.reduceEqDiff, h5]
        refine ih a.up _ _ ?_ ⟨rfl, by simp only [push_cast, Bool.not_true, Bool.not_false, Nat.reduceAdd, Nat.reduceLT, Nat.reduceLeDiff, Nat.reduceBEq, Nat.reduceMul, Nat.reduceEqDiff, h0], by simp only [push_cast, Bool.not_true, Bool.not_false, Nat.reduceAdd, Nat.reduceLT, Nat.reduceLeDiff, Nat.reduceBEq, Nat.reduceMul, Nat.reduceEqDiff], IntKind.i64.wrap (n + 1), by simp only [push_cast, Bool.not_true, Bool.not_false, Nat.reduceAdd, Nat.reduceLT, Nat.reduceLeDiff, Nat.reduceBEq, Nat.reduceMul, Nat.reduceEqDiff]⟩
        have hm : (if x = 0 then 0 else match findA x L with | some _ => r x + 2 | none => 1) = r x + 2 := by rw [if_neg hx, hf]
        rw [hm]
        split
        · omega
        · split
          · rename_i b hb
            obtain ⟨hb1, hb2⟩ := findA_some hb
            have := r3 a ha b hb1 hb2.symm
            rw [hb2, hc] at this; omega
          · omega
    · exact ⟨⟨_, rfl⟩, rfl, Nat.le_refl _⟩
  · exact ⟨rfl, by simp only [push_cast, Bool.not_true, Bool.not_false, Nat.reduceAdd, Nat.reduceLT, Nat.reduceLeDiff, Nat.reduceBEq, Nat.reduceMul, Nat.reduceEqDiff], by simp only [push_cast, Bool.not_true, Bool.not_false, Nat.reduceAdd, Nat.reduceLT, Nat.reduceLeDiff, Nat.reduceBEq, Nat.reduceMul, Nat.reduceEqDiff], 0, by simp only [push_cast, Bool.not_true, Bool.not_false, Nat.reduceAdd, Nat.reduceLT, Nat.reduceLeDiff, Nat.reduceBEq, Nat.reduceMul, Nat.reduceEqDiff]⟩

/-- What Get answers. -/
def getR (c : Int) (L : List Acc) : AV := match findA c L with
  | some a => .tu [.ag (encA a), .i .i64 0]
  | none => .tu [zeroA, .i .i64 7]
theorem getR_old (c : Int) (L : List Acc) (n : Nat) : (getR c L).old n = true := by unfold getR; split <;> rfl

theorem get23_spec (s : AS) (p mb : Nat) (L : List Acc) (hC : Ch s p mb L) (c : Int) : Re tab.get smJ (.fn 23 []) [.p p 0, .i .i64 c] s (getR c L) := by
  refine Re_fn rfl (show tab.get 23 = some af23 from rfl) rfl (getR_old _ _ _) ?_
  simp only [push_cast, Bool.not_true, Bool.not_false, Nat.reduceAdd, Nat.reduceLT, Nat.reduceLeDiff, Nat.reduceBEq, Nat.reduceMul, Nat.reduceEqDiff, af23]
  have h1 : Ch ((⟨s.h, s.nx, s.nx⟩ : AS).new (.row true [.i .i64 0, .i .i64 0, .i .u8 0, .s [], .b false])) p mb L := hC.start.grc (.new _ _)
  rw [SK_re (none36_spec _ p mb L h1)]
  simp only [push_cast, Bool.not_true, Bool.not_false, Nat.reduceAdd, Nat.reduceLT, Nat.reduceLeDiff, Nat.reduceBEq, Nat.reduceMul, Nat.reduceEqDiff, ne_at hC.lp, ne_at hC.lm, hC.hp, hC.hm]
  unfold getR
  cases findA c L with
  | none => simp only [push_cast, Bool.not_true, Bool.not_false, Nat.reduceAdd, Nat.reduceLT, Nat.reduceLeDiff, Nat.reduceBEq, Nat.reduceMul, Nat.reduceEqDiff]; exact ⟨rfl, (by simp only [le_lo_write, lo_new, Nat.le_refl, Nat.le_add_right, and_self])⟩
  | some a =>
    simp only [push_cast, Bool.not_true, Bool.not_false, Nat.reduceAdd, Nat.reduceLT, Nat.reduceLeDiff, Nat.reduceBEq, Nat.reduceMul, Nat.reduceEqDiff, encA]
    exact ⟨by trivial, (by simp only [le_lo_write, lo_new, Nat.le_refl, Nat.le_add_right, and_self])⟩

/-! ### Add -/

/-- What Add leaves: a chart, of the accounts, or of one more. -/
def AddP (p mb : Nat) (L : List Acc) (v : AV) (s' : AS) : Prop := (∃ n, v = .i .i64 n) ∧ ∃ L', Ch s' p mb L' ∧ WA L' ∧ L'.length ≤ L.length + 1

set_option maxHeartbeats 4000000 in
theorem add22_spec (s : AS) (p mb : Nat) (L : List Acc) (hC : Ch s p mb L) (hw : WA L) (a : Acc) :
    Ca tab.get smJ (.fn 22 []) [.p p 0, .ag (encA a)] s (fun v s' _ => Grw mb s s' ∧ AddP p mb L v s') := by
  refine Ca_wr mb rfl (show tab.get 22 = some af22 from rfl) rfl ?_
  have keep : ∀ (s' : AS) (n : Int), Gr s s' → (∀ lo, AddP p mb L (.i .i64 n) ⟨s'.h, s'.nx, lo⟩) ∧ ((Gr s s' ∧ ((AV.i .i64 n).old s.nx = true → AddP p mb L (.i .i64 n) s)) ∨ Grx mb s s') := fun s' n g => by
    have h1 := hC.gr g
    refine ⟨fun lo => ⟨⟨n, rfl⟩, L, ⟨h1.hp, h1.hm, h1.lp, h1.lm, h1.ne⟩, hw, Nat.le_succ _⟩, .inl ⟨g, fun _ => ⟨⟨n, rfl⟩, L, hC, hw, Nat.le_succ _⟩⟩⟩
  have g1 := (Gr.start s).new (.row true [.i .i64 a.code, .i .i64 a.up, .i .u8 a.cls, .s a.name, .b a.shut])
  have h1 := hC.gr g1
  simp only [push_cast, Bool.not_true, Bool.not_false, Nat.reduceAdd, Nat.reduceLT, Nat.reduceLeDiff, Nat.reduceBEq, Nat.reduceMul, Nat.reduceEqDiff, af22, encA]
  rw [SK_re (none36_spec _ p mb L h1)]
  simp only [push_cast, Bool.not_true, Bool.not_false, Nat.reduceAdd, Nat.reduceLT, Nat.reduceLeDiff, Nat.reduceBEq, Nat.reduceMul, Nat.reduceEqDiff]
  rw [show AV.ag [AV.i IntKind.i64 a.code, AV.i IntKind.i64 a.up, AV.i IntKind.u8 a.cls, AV.s a.name, AV.b a.shut] = .ag (encA a) from rfl]
  refine SK_some (may44_spec _ a) (fun v ⟨b, hv, hb⟩ => ?_)
  subst hv
  cases b
  · simp only [push_cast, Bool.not_true, Bool.not_false, Nat.reduceAdd, Nat.reduceLT, Nat.reduceLeDiff, Nat.reduceBEq, Nat.reduceMul, Nat.reduceEqDiff]
    exact keep _ _ g1
  have hb := hb rfl
  simp only [push_cast, Bool.not_true, Bool.not_false, Nat.reduceAdd, Nat.reduceLT, Nat.reduceLeDiff, Nat.reduceBEq, Nat.reduceMul, Nat.reduceEqDiff]
  refine X_draw ?_
  simp only [push_cast, Bool.not_true, Bool.not_false, Nat.reduceAdd, Nat.reduceLT, Nat.reduceLeDiff, Nat.reduceBEq, Nat.reduceMul, Nat.reduceEqDiff, ne_at hC.lp, ne_at hC.lm, ne_off hC.lp, ne_off hC.lm, hC.hp, hC.hm]
  cases hf : findA a.code L with
  | some x =>
    simp only [push_cast, Bool.not_true, Bool.not_false, Nat.reduceAdd, Nat.reduceLT, Nat.reduceLeDiff, Nat.reduceBEq, Nat.reduceMul, Nat.reduceEqDiff, hf, encA]
    refine XD_nil ?_ ?_
    · refine DC_of [true, true, true, true, true, true, true, true, true, true, false, false, true] 3 [[1], [1], [1], [1], [1], [1], [1], [1], [1], [1, 2], [], [], []] rfl rfl rfl rfl ?_
      intro call
      simp only [push_cast, Bool.not_true, Bool.not_false, Nat.reduceAdd, Nat.reduceLT, Nat.reduceLeDiff, Nat.reduceBEq, Nat.reduceMul, Nat.reduceEqDiff, ne_at hC.lp, ne_at hC.lm, ne_off hC.lp, ne_off hC.lm, hC.hp, hC.hm, hf, encA, and_self]
    · simp only [push_cast, Bool.not_true, Bool.not_false, Nat.reduceAdd, Nat.reduceLT, Nat.reduceLeDiff, Nat.reduceBEq, Nat.reduceMul, Nat.reduceEqDiff]
      exact keep _ _ ((g1.new _).write _ (Nat.le_succ _))
  | none =>
    simp only [push_cast, Bool.not_true, Bool.not_false, Nat.reduceAdd, Nat.reduceLT, Nat.reduceLeDiff, Nat.reduceBEq, Nat.reduceMul, Nat.reduceEqDiff, hf]
    refine XD_nil ?_ ?_
    · refine DC_of [true, true, true, true, true, true, true, true, true, true, false, false, true] 3 [[1], [1], [1], [1], [1], [1], [1], [1], [1], [1, 2], [], [], []] rfl rfl rfl rfl ?_
      intro call
      simp only [push_cast, Bool.not_true, Bool.not_false, Nat.reduceAdd, Nat.reduceLT, Nat.reduceLeDiff, Nat.reduceBEq, Nat.reduceMul, Nat.reduceEqDiff, ne_at hC.lp, ne_at hC.lm, ne_off hC.lp, ne_off hC.lm, hC.hp, hC.hm, hf, and_self]
    simp only [push_cast, Bool.not_true, Bool.not_false, Nat.reduceAdd, Nat.reduceLT, Nat.reduceLeDiff, Nat.reduceBEq, Nat.reduceMul, Nat.reduceEqDiff]
    refine X_draw ?_
    simp only [push_cast, Bool.not_true, Bool.not_false, Nat.reduceAdd, Nat.reduceLT, Nat.reduceLeDiff, Nat.reduceBEq, Nat.reduceMul, Nat.reduceEqDiff, ne_at hC.lp, ne_at hC.lm, ne_off hC.lp, ne_off hC.lm, hC.hp, hC.hm]
    have g2 := (g1.new (.row true [.i .i64 0, .i .i64 0, .i .u8 0, .s [], .b false])).write (k := s.nx + 1) (.row true [.i .i64 0, .i .i64 0, .i .u8 0, .s [], .b false]) (Nat.le_succ _)
    have last : ∀ (s' : AS), Gr s s' → (a.up = 0 ∨ ∃ b, findA a.up L = some b) → (∀ lo, AddP p mb L (.i .i64 0) ⟨(s'.write mb (.mp ((putL a L).map entA))).h, (s'.write mb (.mp ((putL a L).map entA))).nx, lo⟩) ∧ ((Gr s (s'.write mb (.mp ((putL a L).map entA))) ∧ ((AV.i .i64 0).old s.nx = true → AddP p mb L (.i .i64 0) s)) ∨ Grx mb s (s'.write mb (.mp ((putL a L).map entA)))) := fun s' g hu => by
      have hc' := hC.gr g
      refine ⟨fun lo => ⟨⟨0, rfl⟩, putL a L, ⟨?_, ?_, hc'.lp, hc'.lm, hc'.ne⟩, ?_, ?_⟩, .inr (g.grx _ hC.lm)⟩
      · show (s'.write mb _).h.get p = _
        rw [get_write, if_neg hc'.ne]; exact hc'.hp
      · show (s'.write mb _).h.get mb = _
        rw [get_write, if_pos rfl]
      · rw [putL_new hf]; exact hw.add hb hf hu
      · rw [putL_new hf]; simp
    cases hg : findA a.up L with
    | some x =>
      obtain ⟨xc, xu, xk, xn, xs⟩ := x
      have g3 := (g2.new (.row true [.i .i64 0, .i .i64 0, .i .u8 0, .s [], .b false])).write (k := s.nx + 2) (.row true [.i .i64 xc, .i .i64 xu, .i .u8 xk, .s xn, .b xs]) (Nat.le_add_right _ _)
      cases xs
      all_goals
        simp only [push_cast, Bool.not_true, Bool.not_false, Nat.reduceAdd, Nat.reduceLT, Nat.reduceLeDiff, Nat.reduceBEq, Nat.reduceMul, Nat.reduceEqDiff, hg, encA]
        refine XD_nil ?_ ?_
        · refine DC_of [true, true, true, true, true, true, true, true, true, true, false, false, true] 3 [[1], [1], [1], [1], [1], [1], [1], [1], [1], [1, 2], [], [], []] rfl rfl rfl rfl ?_
          intro call
          simp only [push_cast, Bool.not_true, Bool.not_false, Nat.reduceAdd, Nat.reduceLT, Nat.reduceLeDiff, Nat.reduceBEq, Nat.reduceMul, Nat.reduceEqDiff, ne_at hC.lp, ne_at hC.lm, ne_off hC.lp, ne_off hC.lm, hC.hp, hC.hm, hg, encA, and_self]
        have hc3 := hC.gr g3
        have call45 := depth45_spec _ p mb L hc3 hw a.up
        (try simp only [push_cast, Bool.not_true, Bool.not_false, Nat.reduceAdd, Nat.reduceLT, Nat.reduceLeDiff, Nat.reduceBEq, Nat.reduceMul, Nat.reduceEqDiff]) <;> (repeat' (first | (refine SC_casesN (fun h => ?_) (fun h => ?_) <;> simp only [push_cast, Bool.not_true, Bool.not_false, Nat.reduceAdd, Nat.reduceLT, Nat.reduceLeDiff, Nat.reduceBEq, Nat.reduceMul, Nat.reduceEqDiff, h]) | (refine SC_cases (fun h => ?_) (fun h => ?_) <;> simp only [push_cast, Bool.not_true, Bool.not_false, Nat.reduceAdd, Nat.reduceLT, Nat.reduceLeDiff, Nat.reduceBEq, Nat.reduceMul, Nat.reduceEqDiff, h]) | (refine SG_casesN (fun h => ?_) (fun h => ?_) <;> simp only [push_cast, Bool.not_true, Bool.not_false, Nat.reduceAdd, Nat.reduceLT, Nat.reduceLeDiff, Nat.reduceBEq, Nat.reduceMul, Nat.reduceEqDiff, h]) | (refine SG_cases (fun h => ?_) (fun h => ?_) <;> simp only [push_cast, Bool.not_true, Bool.not_false, Nat.reduceAdd, Nat.reduceLT, Nat.reduceLeDiff, Nat.reduceBEq, Nat.reduceMul, Nat.reduceEqDiff, h]) | (refine DG_casesN (fun h => ?_) (fun h => ?_) <;> simp only [push_cast, Bool.not_true, Bool.not_false, Nat.reduceAdd, Nat.reduceLT, Nat.reduceLeDiff, Nat.reduceBEq, Nat.reduceMul, Nat.reduceEqDiff, h]) | (refine DG_cases (fun h => ?_) (fun h => ?_) <;> simp only [push_cast, Bool.not_true, Bool.not_false, Nat.reduceAdd, Nat.reduceLT, Nat.reduceLeDiff, Nat.reduceBEq, Nat.reduceMul, Nat.reduceEqDiff, h])))
        all_goals try exact keep _ _ g3
        all_goals
          refine SK_some call45 (fun v ⟨m, hv⟩ => ?_)
          subst hv
          (try simp only [push_cast, Bool.not_true, Bool.not_false, Nat.reduceAdd, Nat.reduceLT, Nat.reduceLeDiff, Nat.reduceBEq, Nat.reduceMul, Nat.reduceEqDiff]) <;> (repeat' (first | (refine SC_casesN (fun h => ?_) (fun h => ?_) <;> simp only [push_cast, Bool.not_true, Bool.not_false, Nat.reduceAdd, Nat.reduceLT, Nat.reduceLeDiff, Nat.reduceBEq, Nat.reduceMul, Nat.reduceEqDiff, h]) | (refine SC_cases (fun h => ?_) (fun h => ?_) <;> simp only [push_cast, Bool.not_true, Bool.not_false, Nat.reduceAdd, Nat.reduceLT, Nat.reduceLeDiff, Nat.reduceBEq, Nat.reduceMul, Nat.reduceEqDiff, h]) | (refine SG_casesN (fun h => ?_) (fun h => ?_) <;> simp only [push_cast, Bool.not_true, Bool.not_false, Nat.reduceAdd, Nat.reduceLT, Nat.reduceLeDiff, Nat.reduceBEq, Nat.reduceMul, Nat.reduceEqDiff, h]) | (refine SG_cases (fun h => ?_) (fun h => ?_) <;> simp only [push_cast, Bool.not_true, Bool.not_false, Nat.reduceAdd, Nat.reduceLT, Nat.reduceLeDiff, Nat.reduceBEq, Nat.reduceMul, Nat.reduceEqDiff, h]) | (refine DG_casesN (fun h => ?_) (fun h => ?_) <;> simp only [push_cast, Bool.not_true, Bool.not_false, Nat.reduceAdd, Nat.reduceLT, Nat.reduceLeDiff, Nat.reduceBEq, Nat.reduceMul, Nat.reduceEqDiff, h]) | (refine DG_cases (fun h => ?_) (fun h => ?_) <;> simp only [push_cast, Bool.not_true, Bool.not_false, Nat.reduceAdd, Nat.reduceLT, Nat.reduceLeDiff, Nat.reduceBEq, Nat.reduceMul, Nat.reduceEqDiff, h])))
          · exact keep _ _ g3
          · refine X_draw ?_
            simp only [push_cast, Bool.not_true, Bool.not_false, Nat.reduceAdd, Nat.reduceLT, Nat.reduceLeDiff, Nat.reduceBEq, Nat.reduceMul, Nat.reduceEqDiff, ne_at hC.lp, ne_at hC.lm, ne_off hC.lp, ne_off hC.lm, hC.hp, hC.hm]
            rw [encA_ag a, mupB_spec]
            simp only [push_cast, Bool.not_true, Bool.not_false, Nat.reduceAdd, Nat.reduceLT, Nat.reduceLeDiff, Nat.reduceBEq, Nat.reduceMul, Nat.reduceEqDiff]
            refine XD_nil (DC_no [true, true, true, true, true, true, true, false] 2 rfl rfl rfl rfl) ?_
            simp only [push_cast, Bool.not_true, Bool.not_false, Nat.reduceAdd, Nat.reduceLT, Nat.reduceLeDiff, Nat.reduceBEq, Nat.reduceMul, Nat.reduceEqDiff]
            exact last _ g3 (.inr ⟨_, hg⟩)
    | none =>
      simp only [push_cast, Bool.not_true, Bool.not_false, Nat.reduceAdd, Nat.reduceLT, Nat.reduceLeDiff, Nat.reduceBEq, Nat.reduceMul, Nat.reduceEqDiff, hg]
      refine XD_nil ?_ ?_
      · refine DC_of [true, true, true, true, true, true, true, true, true, true, false, false, true] 3 [[1], [1], [1], [1], [1], [1], [1], [1], [1], [1, 2], [], [], []] rfl rfl rfl rfl ?_
        intro call
        simp only [push_cast, Bool.not_true, Bool.not_false, Nat.reduceAdd, Nat.reduceLT, Nat.reduceLeDiff, Nat.reduceBEq, Nat.reduceMul, Nat.reduceEqDiff, ne_at hC.lp, ne_at hC.lm, ne_off hC.lp, ne_off hC.lm, hC.hp, hC.hm, hg, and_self]
      have g3 := (g2.new (.row true [.i .i64 0, .i .i64 0, .i .u8 0, .s [], .b false])).write (k := s.nx + 2) (.row true [.i .i64 0, .i .i64 0, .i .u8 0, .s [], .b false]) (Nat.le_add_right _ _)
      (try simp only [push_cast, Bool.not_true, Bool.not_false, Nat.reduceAdd, Nat.reduceLT, Nat.reduceLeDiff, Nat.reduceBEq, Nat.reduceMul, Nat.reduceEqDiff]) <;> (repeat' (first | (refine SC_casesN (fun h => ?_) (fun h => ?_) <;> simp only [push_cast, Bool.not_true, Bool.not_false, Nat.reduceAdd, Nat.reduceLT, Nat.reduceLeDiff, Nat.reduceBEq, Nat.reduceMul, Nat.reduceEqDiff, h]) | (refine SC_cases (fun h => ?_) (fun h => ?_) <;> simp only [push_cast, Bool.not_true, Bool.not_false, Nat.reduceAdd, Nat.reduceLT, Nat.reduceLeDiff, Nat.reduceBEq, Nat.reduceMul, Nat.reduceEqDiff, h]) | (refine SG_casesN (fun h => ?_) (fun h => ?_) <;> simp only [push_cast, Bool.not_true, Bool.not_false, Nat.reduceAdd, Nat.reduceLT, Nat.reduceLeDiff, Nat.reduceBEq, Nat.reduceMul, Nat.reduceEqDiff, h]) | (refine SG_cases (fun h => ?_) (fun h => ?_) <;> simp only [push_cast, Bool.not_true, Bool.not_false, Nat.reduceAdd, Nat.reduceLT, Nat.reduceLeDiff, Nat.reduceBEq, Nat.reduceMul, Nat.reduceEqDiff, h]) | (refine DG_casesN (fun h => ?_) (fun h => ?_) <;> simp only [push_cast, Bool.not_true, Bool.not_false, Nat.reduceAdd, Nat.reduceLT, Nat.reduceLeDiff, Nat.reduceBEq, Nat.reduceMul, Nat.reduceEqDiff, h]) | (refine DG_cases (fun h => ?_) (fun h => ?_) <;> simp only [push_cast, Bool.not_true, Bool.not_false, Nat.reduceAdd, Nat.reduceLT, Nat.reduceLeDiff, Nat.reduceBEq, Nat.reduceMul, Nat.reduceEqDiff, h])))
      · exact keep _ _ g3
      · have hup : a.up = 0 := by simpa using h
        refine X_draw ?_
        simp only [push_cast, Bool.not_true, Bool.not_false, Nat.reduceAdd, Nat.reduceLT, Nat.reduceLeDiff, Nat.reduceBEq, Nat.reduceMul, Nat.reduceEqDiff, ne_at hC.lp, ne_at hC.lm, ne_off hC.lp, ne_off hC.lm, hC.hp, hC.hm]
        rw [encA_ag a, mupB_spec]
        simp only [push_cast, Bool.not_true, Bool.not_false, Nat.reduceAdd, Nat.reduceLT, Nat.reduceLeDiff, Nat.reduceBEq, Nat.reduceMul, Nat.reduceEqDiff]
        refine XD_nil (DC_no [true, true, true, true, true, true, true, false] 2 rfl rfl rfl rfl) ?_
        simp only [push_cast, Bool.not_true, Bool.not_false, Nat.reduceAdd, Nat.reduceLT, Nat.reduceLeDiff, Nat.reduceBEq, Nat.reduceMul, Nat.reduceEqDiff]
        exact last _ g3 (.inl hup)

end Go.AMJ
