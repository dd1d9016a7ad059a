/- What lies under an account. -/
import Derived.Test.YthdkiocnbbeigaaSpF
namespace Go.AMJ
open Go Go.AM
set_option linter.unusedSimpArgs false
set_option linter.unusedVariables false

/-! ### Powers of two -/

theorem pow_sum : ∀ (m : Nat) (l : List Nat), l.Nodup → (∀ e ∈ l, e < m) → (l.map (2 ^ ·)).sum + 1 ≤ 2 ^ m
  | 0, l, _, h => by
    cases l with
    | nil => simp
    | cons a l => exact absurd (h a (by simp)) (Nat.not_lt_zero _)
  | m + 1, l, hn, h => by
    by_cases hm : m ∈ l
    · have hp := List.perm_cons_erase hm
      have := pow_sum m (l.erase m) (hn.erase m) (fun e he => by
        have h1 := h e (List.mem_of_mem_erase he)
        have h2 : e ≠ m := fun e' => by subst e'; exact (List.Nodup.not_mem_erase hn) he
        omega)
      rw [(hp.map (2 ^ ·)).sum_nat]
      simp only [List.map_cons, List.sum_cons, Nat.pow_succ]; omega
    · have := pow_sum m l hn (fun e he => by
        have h1 := h e he
        have h2 : e ≠ m := fun e' => by subst e'; exact hm he
        omega)
      rw [Nat.pow_succ]; omega

/-! ### gather -/

def encI (n : Int) : List AV := [.i .i64 n]

/-- Where its cells lie. -/
structure GE where
  lo : Nat
  oc : Nat
  kc : Nat
  cc : Nat
  gc : Nat
  p : Nat
  mb : Nat
  kv : AV
  L : List Acc
  ks : List Int
  r : Int → Nat

structure GE.Ok (e : GE) : Prop where
  o1 : e.oc < e.lo
  o2 : e.kc < e.lo
  o3 : e.cc < e.lo
  o4 : e.gc < e.lo
  o5 : e.p < e.lo
  o6 : e.mb < e.lo
  o7 : slB e.kv < e.lo
  d2 : e.kc ≠ e.oc
  d3 : e.cc ≠ e.oc
  d4 : e.gc ≠ e.oc
  d5 : e.p ≠ e.oc
  d6 : e.mb ≠ e.oc
  d7 : slB e.kv ≠ e.oc
  wa : WA e.L
  kd : e.ks.Nodup
  km : ∀ k, k ∈ e.ks ↔ ∃ a ∈ e.L, a.code = k
  r1 : ∀ a ∈ e.L, e.r a.code < e.L.length
  r2 : ∀ a ∈ e.L, ∀ b ∈ e.L, e.r a.code = e.r b.code → a.code = b.code
  r3 : ∀ a ∈ e.L, ∀ b ∈ e.L, a.up = b.code → e.r b.code < e.r a.code
  kl : e.ks.length ≤ 1000

structure GE.St (e : GE) (s : AS) : Prop where
  kc : s.h.get e.kc = some (.row true [e.kv])
  ks : Sl s 1 e.kv (e.ks.map encI)
  cc : s.h.get e.cc = some (.row true [.p e.p 0])
  gc : s.h.get e.gc = some (.row true [.fn 46 [.p e.oc 0, .p e.kc 0, .p e.cc 0, .p e.gc 0]])
  hp : s.h.get e.p = some (.row true [.m e.mb])
  hm : s.h.get e.mb = some (.mp (e.L.map entA))
  nx : e.lo ≤ s.nx

theorem GE.St.of {e : GE} {s s' : AS} (h : e.St s) (ok : e.Ok) (hn : s.nx ≤ s'.nx) (f : ∀ q, q < e.lo → q ≠ e.oc → s'.h.get q = s.h.get q) : e.St s' :=
  ⟨by rw [f _ ok.o2 ok.d2]; exact h.kc, h.ks.same hn (f _ ok.o7 ok.d7), by rw [f _ ok.o3 ok.d3]; exact h.cc, by rw [f _ ok.o4 ok.d4]; exact h.gc, by rw [f _ ok.o5 ok.d5]; exact h.hp, by rw [f _ ok.o6 ok.d6]; exact h.hm, Nat.le_trans h.nx hn⟩

def GE.Out (e : GE) (s : AS) (xs : List Int) : Prop := ∃ v, s.h.get e.oc = some (.row true [v]) ∧ Own e.lo s 1 v (xs.map encI)

/-- Has an account another one right under it? -/
def bare (L : List Acc) (c : Int) : Bool := L.all fun a => !(a.up == c)
theorem bare_iff {L : List Acc} {c : Int} : bare L c = true ↔ ∀ a ∈ L, a.up ≠ c := by
  unfold bare; simp [List.all_eq_true]

/-- Of the keys those that stand right under one. -/
def kids (L : List Acc) (c : Int) (ks : List Int) : List Int := ks.filter fun k => match findA k L with
  | some a => a.up == c
  | none => false

theorem kids_snoc (L : List Acc) (c : Int) (ks : List Int) (k : Int) (a : Acc) (h : findA k L = some a) : kids L c (ks ++ [k]) = kids L c ks ++ (if a.up == c then [k] else []) := by
  unfold kids
  rw [List.filter_append]
  congr 1
  simp only [List.filter_cons, List.filter_nil, h]

def expo (e : GE) (k : Int) : Nat := e.L.length - 1 - e.r k
def kidSum (e : GE) (c : Int) (ks : List Int) : Nat := ((kids e.L c ks).map fun k => 2 ^ expo e k).sum

theorem kidSum_le {e : GE} (ok : e.Ok) {c : Int} (hc : ∃ a ∈ e.L, a.code = c) {ks : List Int} (hs : ks.Sublist e.ks) : kidSum e c ks + 1 ≤ 2 ^ expo e c := by
  obtain ⟨b, hb, rfl⟩ := hc
  have hmem : ∀ k ∈ kids e.L b.code ks, ∃ a ∈ e.L, a.code = k ∧ a.up = b.code := fun k hk => by
    obtain ⟨h1, h2⟩ := List.mem_filter.1 hk
    cases hf : findA k e.L with
    | none => simp [hf] at h2
    | some a =>
      simp only [hf, beq_iff_eq] at h2
      obtain ⟨h3, h4⟩ := findA_some hf
      exact ⟨a, h3, h4, h2⟩
  have := pow_sum (expo e b.code) ((kids e.L b.code ks).map (expo e)) (by
    have hn : (kids e.L b.code ks).Nodup := (ok.kd.sublist hs).sublist List.filter_sublist
    rw [List.Nodup, List.pairwise_map]
    refine hn.imp_of_mem ?_
    intro x y hx hy hne he
    obtain ⟨a, ha, e1, e3⟩ := hmem x hx
    obtain ⟨a', ha', e2, e4⟩ := hmem y hy
    have l1 := ok.r1 a ha
    have l2 := ok.r1 a' ha'
    rw [e1] at l1; rw [e2] at l2
    unfold expo at he
    exact hne (by rw [← e1, ← e2]; exact ok.r2 a ha a' ha' (by rw [e1, e2]; omega))) (by
    intro x hx
    obtain ⟨k, hk, rfl⟩ := List.mem_map.1 hx
    obtain ⟨a, ha, e1, e3⟩ := hmem k hk
    have h1 := ok.r3 a ha b hb e3
    have h2 := ok.r1 a ha
    rw [e1] at h1 h2
    unfold expo; omega)
  rw [List.map_map] at this
  exact this

def GPost (e : GE) (c : Int) (xs : List Int) (s : AS) (v : AV) (s' : AS) : Prop :=
  v = .tu [] ∧ s.nx ≤ s'.nx ∧ (s.lo ≤ e.oc → s.lo ≤ s.nx → s'.lo = s.lo) ∧ (∀ q, q < e.lo → q ≠ e.oc → s'.h.get q = s.h.get q) ∧
    ∃ ys, e.Out s' (xs ++ ys) ∧ 1 ≤ ys.length ∧ ys.length ≤ 2 ^ expo e c ∧ (ys.length = 1 ↔ bare e.L c = true)

theorem bare_of {e : GE} (ok : e.Ok) {c : Int} : bare e.L c = true ↔ kids e.L c e.ks = [] := by
  rw [bare_iff]
  unfold kids
  rw [List.filter_eq_nil_iff]
  constructor
  · intro h k hk
    cases hf : findA k e.L with
    | none => simp
    | some a => simp [h a (findA_some hf).1]
  · intro h a ha e'
    have := h a.code ((ok.km _).2 ⟨a, ha, rfl⟩)
    rw [findA_mem ok.wa ha] at this
    simp [e'] at this

set_option maxHeartbeats 2000000 in
theorem gather46 (e : GE) (ok : e.Ok) : ∀ (m : Nat) (c : Int) (xs : List Int) (s : AS), e.L.length - e.r c ≤ m → (∃ a ∈ e.L, a.code = c) → e.St s → e.Out s xs → xs.length + 2 ^ expo e c ≤ 1000000 →
    Ca tab.get smJ (.fn 46 [.p e.oc 0, .p e.kc 0, .p e.cc 0, .p e.gc 0]) [.i .i64 c] s (fun v s' _ => GPost e c xs s v s')
  | 0, c, xs, s, hm, ⟨a, ha, hc⟩, _, _, _ => by have := ok.r1 a ha; rw [hc] at this; omega
  | m + 1, c, xs, s, hm, hc, hs, ⟨v, hv, ho⟩, hl => by
    have hlen := hs.ks.len
    have hiad := fun i (hi : i < e.ks.length) => hs.ks.iad (i := i) (by simpa using hi)
    have hrow := fun i (hi : i < e.ks.length) => hs.ks.row1 hi
    simp only [List.length_map] at hlen
    have onx := hs.nx
    have oo := ok.o1
    refine Ca_fn rfl (show tab.get 46 = some af46 from rfl) rfl ?_
    simp only [push_cast, Bool.not_true, Bool.not_false, Nat.reduceAdd, Nat.reduceLT, Nat.reduceLeDiff, Nat.reduceBEq, Nat.reduceMul, Nat.reduceEqDiff, af46, hv]
    obtain ⟨v1, s1, e1, o1, l1, n1, f1, g1, _⟩ := (show Own e.lo ⟨s.h, s.nx, s.nx⟩ 1 v (xs.map encI) from ho).push (bytes := 8) (encI c) rfl rfl (by simp only [List.length_map]; have : 0 < 2 ^ expo e c := Nat.two_pow_pos _; exact most_of (by omega) (by omega)) onx
    simp only [encI] at e1
    rw [e1]
    have hoc1 : s1.h.get e.oc = some (.row true [v]) := (f1 _ oo).trans hv
    simp only [push_cast, Bool.not_true, Bool.not_false, Nat.reduceAdd, Nat.reduceLT, Nat.reduceLeDiff, Nat.reduceBEq, Nat.reduceMul, Nat.reduceEqDiff, hoc1, o1.one, cells_one o1.one]
    have s1lo : e.lo ≤ s1.lo := l1.2 onx
    have hs1 : e.St (s1.write e.oc (.row true [v1])) := hs.of ok n1 (fun q hq hne => by rw [get_write, if_neg hne]; exact f1 q hq)
    have lo1 : (s1.write e.oc (.row true [v1])).lo = e.oc := by
      simp only [AS.write]
      cases hb : Nat.ble s1.lo e.oc
      · rfl
      · have := Nat.le_of_ble_eq_true hb; omega
    have out1 : Own e.lo (s1.write e.oc (.row true [v1])) 1 v1 ((xs ++ [c]).map encI) := by
      rw [List.map_append]; exact o1.write _ (o1.elder oo)
    simp only [push_cast, Bool.not_true, Bool.not_false, Nat.reduceAdd, Nat.reduceLT, Nat.reduceLeDiff, Nat.reduceBEq, Nat.reduceMul, Nat.reduceEqDiff, ok.d2, (f1 _ ok.o2).trans hs.kc, hlen]
    refine X_while (fun i : Nat => e.ks.length - i) (fun i t s' => i ≤ e.ks.length ∧ s.nx ≤ s'.nx ∧ s'.lo = e.oc ∧ (∀ q, q < e.lo → q ≠ e.oc → s'.h.get q = s.h.get q) ∧
      ev t (.t 0) = .i .i64 c ∧ ev t (.t 3) = .p e.cc 0 ∧ ev t (.t 4) = .p e.gc 0 ∧ ev t (.t 12) = e.kv ∧ ev t (.t 13) = .i .i64 e.ks.length ∧ ev t (.t 14) = .i .i64 i ∧
      ∃ ys, e.Out s' (xs ++ ys) ∧ 1 ≤ ys.length ∧ ys.length ≤ 1 + kidSum e c (e.ks.take i) ∧ (kids e.L c (e.ks.take i) = [] → ys.length = 1) ∧ (kids e.L c (e.ks.take i) ≠ [] → 2 ≤ ys.length)) ?_ 0 _ _ ?_
    · rintro i t s' ⟨hi, hn, hlo, hf, h0, h3, h4, h12, h13, h14, ys, ⟨w, hw, how⟩, y1, y2, y3, y4⟩ ih
      have hs' : e.St s' := hs.of ok hn hf
      simp only [push_cast, Bool.not_true, Bool.not_false, Nat.reduceAdd, Nat.reduceLT, Nat.reduceLeDiff, Nat.reduceBEq, Nat.reduceMul, Nat.reduceEqDiff, h0, h3, h4, h12, h13, h14]
      (first | (refine SC_casesN (fun h => ?_) (fun h => ?_) <;> simp only [push_cast, Bool.not_true, Bool.not_false, Nat.reduceAdd, Nat.reduceLT, Nat.reduceLeDiff, Nat.reduceBEq, Nat.reduceMul, Nat.reduceEqDiff, h, h0, h3, h4, h12, h13, h14]) | (refine SC_cases (fun h => ?_) (fun h => ?_) <;> simp only [push_cast, Bool.not_true, Bool.not_false, Nat.reduceAdd, Nat.reduceLT, Nat.reduceLeDiff, Nat.reduceBEq, Nat.reduceMul, Nat.reduceEqDiff, h, h0, h3, h4, h12, h13, h14]) | (refine SG_casesN (fun h => ?_) (fun h => ?_) <;> simp only [push_cast, Bool.not_true, Bool.not_false, Nat.reduceAdd, Nat.reduceLT, Nat.reduceLeDiff, Nat.reduceBEq, Nat.reduceMul, Nat.reduceEqDiff, h, h0, h3, h4, h12, h13, h14]) | (refine SG_cases (fun h => ?_) (fun h => ?_) <;> simp only [push_cast, Bool.not_true, Bool.not_false, Nat.reduceAdd, Nat.reduceLT, Nat.reduceLeDiff, Nat.reduceBEq, Nat.reduceMul, Nat.reduceEqDiff, h, h0, h3, h4, h12, h13, h14]) | (refine DG_casesN (fun h => ?_) (fun h => ?_) <;> simp only [push_cast, Bool.not_true, Bool.not_false, Nat.reduceAdd, Nat.reduceLT, Nat.reduceLeDiff, Nat.reduceBEq, Nat.reduceMul, Nat.reduceEqDiff, h, h0, h3, h4, h12, h13, h14]) | (refine DG_cases (fun h => ?_) (fun h => ?_) <;> simp only [push_cast, Bool.not_true, Bool.not_false, Nat.reduceAdd, Nat.reduceLT, Nat.reduceLeDiff, Nat.reduceBEq, Nat.reduceMul, Nat.reduceEqDiff, h, h0, h3, h4, h12, h13, h14]))
      · have hi' : i < e.ks.length := by simpa using h
        obtain ⟨w0, cs, hb, hbn, hcs⟩ := hrow i hi'
        rw [← hf _ ok.o7 ok.d7] at hb
        obtain ⟨a, ha, hac⟩ := (ok.km e.ks[i]).1 (List.getElem_mem hi')
        have hfa : findA e.ks[i] e.L = some a := by rw [← hac]; exact findA_mem ok.wa ha
        have hk := kids_snoc e.L c (e.ks.take i) e.ks[i] a hfa
        rw [← take_succ' hi'] at hk
        simp only [push_cast, Bool.not_true, Bool.not_false, Nat.reduceAdd, Nat.reduceLT, Nat.reduceLeDiff, Nat.reduceBEq, Nat.reduceMul, Nat.reduceEqDiff, h0, h3, h4, h12, h13, h14, hiad i hi', hb, hcs, hs'.cc, hs'.hp, hs'.hm, hfa, encA]
        (first | (refine SC_casesN (fun h => ?_) (fun h => ?_) <;> simp only [push_cast, Bool.not_true, Bool.not_false, Nat.reduceAdd, Nat.reduceLT, Nat.reduceLeDiff, Nat.reduceBEq, Nat.reduceMul, Nat.reduceEqDiff, h, h0, h3, h4, h12, h13, h14, hs'.gc]) | (refine SC_cases (fun h => ?_) (fun h => ?_) <;> simp only [push_cast, Bool.not_true, Bool.not_false, Nat.reduceAdd, Nat.reduceLT, Nat.reduceLeDiff, Nat.reduceBEq, Nat.reduceMul, Nat.reduceEqDiff, h, h0, h3, h4, h12, h13, h14, hs'.gc]) | (refine SG_casesN (fun h => ?_) (fun h => ?_) <;> simp only [push_cast, Bool.not_true, Bool.not_false, Nat.reduceAdd, Nat.reduceLT, Nat.reduceLeDiff, Nat.reduceBEq, Nat.reduceMul, Nat.reduceEqDiff, h, h0, h3, h4, h12, h13, h14, hs'.gc]) | (refine SG_cases (fun h => ?_) (fun h => ?_) <;> simp only [push_cast, Bool.not_true, Bool.not_false, Nat.reduceAdd, Nat.reduceLT, Nat.reduceLeDiff, Nat.reduceBEq, Nat.reduceMul, Nat.reduceEqDiff, h, h0, h3, h4, h12, h13, h14, hs'.gc]) | (refine DG_casesN (fun h => ?_) (fun h => ?_) <;> simp only [push_cast, Bool.not_true, Bool.not_false, Nat.reduceAdd, Nat.reduceLT, Nat.reduceLeDiff, Nat.reduceBEq, Nat.reduceMul, Nat.reduceEqDiff, h, h0, h3, h4, h12, h13, h14, hs'.gc]) | (refine DG_cases (fun h => ?_) (fun h => ?_) <;> simp only [push_cast, Bool.not_true, Bool.not_false, Nat.reduceAdd, Nat.reduceLT, Nat.reduceLeDiff, Nat.reduceBEq, Nat.reduceMul, Nat.reduceEqDiff, h, h0, h3, h4, h12, h13, h14, hs'.gc]))
        · rw [h, if_pos rfl] at hk
          have hac2 : a.up = c := by simpa using h
          obtain ⟨b, hb1, hb2⟩ := hc
          have hr := ok.r3 a ha b hb1 (by rw [hac2, hb2])
          rw [hb2, hac] at hr
          have hks : kidSum e c (e.ks.take (i + 1)) = kidSum e c (e.ks.take i) + 2 ^ expo e e.ks[i] := by
            unfold kidSum; rw [hk]; simp
          have hb3 := kidSum_le ok ⟨b, hb1, hb2⟩ (List.take_sublist (i + 1) e.ks)
          refine SK_ca (gather46 e ok m e.ks[i] (xs ++ ys) s' (by omega) ⟨a, ha, hac⟩ hs' ⟨w, hw, how⟩ (by rw [List.length_append]; omega)) (fun v2 s2 _ ⟨q1, q2, q3, q4, zs, q5, q6, q7, q8⟩ => ?_)
          subst q1
          simp only [push_cast, Bool.not_true, Bool.not_false, Nat.reduceAdd, Nat.reduceLT, Nat.reduceLeDiff, Nat.reduceBEq, Nat.reduceMul, Nat.reduceEqDiff, h14]
          refine ih (i + 1) _ _ (by omega) ⟨hi', Nat.le_trans hn q2, ?_, fun q h1 h2 => (q4 q h1 h2).trans (hf q h1 h2), ?_, ?_, ?_, ?_, ?_, ?_, ys ++ zs, ?_, ?_, ?_, ?_, ?_⟩
          · rw [q3 (by omega) (by rw [hlo]; have := hs'.nx; omega), hlo]
          · simp only [push_cast, Bool.not_true, Bool.not_false, Nat.reduceAdd, Nat.reduceLT, Nat.reduceLeDiff, Nat.reduceBEq, Nat.reduceMul, Nat.reduceEqDiff, h0]
          · simp only [push_cast, Bool.not_true, Bool.not_false, Nat.reduceAdd, Nat.reduceLT, Nat.reduceLeDiff, Nat.reduceBEq, Nat.reduceMul, Nat.reduceEqDiff, h3]
          · simp only [push_cast, Bool.not_true, Bool.not_false, Nat.reduceAdd, Nat.reduceLT, Nat.reduceLeDiff, Nat.reduceBEq, Nat.reduceMul, Nat.reduceEqDiff, h4]
          · simp only [push_cast, Bool.not_true, Bool.not_false, Nat.reduceAdd, Nat.reduceLT, Nat.reduceLeDiff, Nat.reduceBEq, Nat.reduceMul, Nat.reduceEqDiff, h12]
          · simp only [push_cast, Bool.not_true, Bool.not_false, Nat.reduceAdd, Nat.reduceLT, Nat.reduceLeDiff, Nat.reduceBEq, Nat.reduceMul, Nat.reduceEqDiff, h13]
          · simp only [push_cast, Bool.not_true, Bool.not_false, Nat.reduceAdd, Nat.reduceLT, Nat.reduceLeDiff, Nat.reduceBEq, Nat.reduceMul, Nat.reduceEqDiff]; have := ok.kl; rw [wrap_i64 (by omega) (by omega)]
          · rw [← List.append_assoc]; exact q5
          · rw [List.length_append]; omega
          · rw [List.length_append, hks]; omega
          · rw [hk]; intro h'; simp at h'
          · intro _; rw [List.length_append]; omega
        · rw [h] at hk
          simp only [Bool.false_eq_true, if_false, List.append_nil] at hk
          refine ih (i + 1) _ _ (by omega) ⟨hi', hn, hlo, hf, ?_, ?_, ?_, ?_, ?_, ?_, ys, ⟨w, hw, how⟩, y1, ?_, ?_, ?_⟩
          · simp only [push_cast, Bool.not_true, Bool.not_false, Nat.reduceAdd, Nat.reduceLT, Nat.reduceLeDiff, Nat.reduceBEq, Nat.reduceMul, Nat.reduceEqDiff, h0]
          · simp only [push_cast, Bool.not_true, Bool.not_false, Nat.reduceAdd, Nat.reduceLT, Nat.reduceLeDiff, Nat.reduceBEq, Nat.reduceMul, Nat.reduceEqDiff, h3]
          · simp only [push_cast, Bool.not_true, Bool.not_false, Nat.reduceAdd, Nat.reduceLT, Nat.reduceLeDiff, Nat.reduceBEq, Nat.reduceMul, Nat.reduceEqDiff, h4]
          · simp only [push_cast, Bool.not_true, Bool.not_false, Nat.reduceAdd, Nat.reduceLT, Nat.reduceLeDiff, Nat.reduceBEq, Nat.reduceMul, Nat.reduceEqDiff, h12]
          · simp only [push_cast, Bool.not_true, Bool.not_false, Nat.reduceAdd, Nat.reduceLT, Nat.reduceLeDiff, Nat.reduceBEq, Nat.reduceMul, Nat.reduceEqDiff, h13]
          · simp only [push_cast, Bool.not_true, Bool.not_false, Nat.reduceAdd, Nat.reduceLT, Nat.reduceLeDiff, Nat.reduceBEq, Nat.reduceMul, Nat.reduceEqDiff, h14]; have := ok.kl; rw [wrap_i64 (by omega) (by omega)]
          · unfold kidSum at y2 ⊢; rw [hk]; exact y2
          · rw [hk]; exact y3
          · rw [hk]; exact y4
      · have hi' : i = e.ks.length := by simp at h; omega
        subst hi'
        rw [List.take_length] at y2 y3 y4
        simp only [push_cast, Bool.not_true, Bool.not_false, Nat.reduceAdd, Nat.reduceLT, Nat.reduceLeDiff, Nat.reduceBEq, Nat.reduceMul, Nat.reduceEqDiff, X_nil]
        rw [fin_low (by rw [hlo]; omega)]
        have hb3 := kidSum_le ok hc (List.Sublist.refl e.ks)
        refine ⟨rfl, hn, fun h1 h2 => ?_, hf, ys, ⟨w, hw, how⟩, y1, by omega, ?_⟩
        · simp only [hlo, Nat.ble_eq_true_of_le h1, cond_true]
        · rw [bare_of ok]
          constructor
          · intro h1
            by_cases h2 : kids e.L c e.ks = []
            · exact h2
            · have := y4 h2; omega
          · exact y3
    · refine ⟨Nat.zero_le _, n1, lo1, fun q h1 h2 => ?_, by simp only [push_cast, Bool.not_true, Bool.not_false, Nat.reduceAdd, Nat.reduceLT, Nat.reduceLeDiff, Nat.reduceBEq, Nat.reduceMul, Nat.reduceEqDiff], by simp only [push_cast, Bool.not_true, Bool.not_false, Nat.reduceAdd, Nat.reduceLT, Nat.reduceLeDiff, Nat.reduceBEq, Nat.reduceMul, Nat.reduceEqDiff], by simp only [push_cast, Bool.not_true, Bool.not_false, Nat.reduceAdd, Nat.reduceLT, Nat.reduceLeDiff, Nat.reduceBEq, Nat.reduceMul, Nat.reduceEqDiff], by simp only [push_cast, Bool.not_true, Bool.not_false, Nat.reduceAdd, Nat.reduceLT, Nat.reduceLeDiff, Nat.reduceBEq, Nat.reduceMul, Nat.reduceEqDiff], by simp only [push_cast, Bool.not_true, Bool.not_false, Nat.reduceAdd, Nat.reduceLT, Nat.reduceLeDiff, Nat.reduceBEq, Nat.reduceMul, Nat.reduceEqDiff], by simp only [push_cast, Bool.not_true, Bool.not_false, Nat.reduceAdd, Nat.reduceLT, Nat.reduceLeDiff, Nat.reduceBEq, Nat.reduceMul, Nat.reduceEqDiff] <;> rfl, [c], ⟨v1, by rw [get_write, if_pos rfl], out1⟩, Nat.le_refl _, by simp [kidSum, kids], fun _ => rfl, fun h1 => absurd rfl h1⟩
      rw [get_write, if_neg h2]; exact f1 q h1

end Go.AMJ
