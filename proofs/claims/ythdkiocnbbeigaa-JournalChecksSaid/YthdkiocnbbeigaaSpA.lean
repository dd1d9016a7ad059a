/- What the sums of the program and of the document are. -/
import Derived.Test.YthdkiocnbbeigaaSm
namespace Go.AMJ
open Go Go.AM
set_option linter.unusedSimpArgs false

theorem bin_shr32 (x : Int) (e : EqK) : binV .shr e (.i .i64 x) (.i .u64 32) = some (.i .i64 (x / 4294967296)) := by
  show shiftBin false .i64 x 32 = _
  simp only [shiftBin, cond_false, show decide ((32 : Int) < 0) = false from rfl]
  rw [Int.fdiv_eq_ediv_of_nonneg _ (by decide)]
  rfl
theorem bin_and32 (x : Int) (e : EqK) : binV .and e (.i .i64 x) (.i .i64 4294967295) = some (.i .i64 (x % 4294967296)) := by
  show intBin .and .i64 x 4294967295 = _
  simp only [intBin, IntKind.bits]
  congr 2
  have h : (BitVec.ofInt 64 x &&& BitVec.ofInt 64 4294967295).toNat = (x % 4294967296).toNat := by
    rw [BitVec.toNat_and, show (BitVec.ofInt 64 4294967295).toNat = 2 ^ 32 - 1 from rfl, Nat.and_two_pow_sub_one_eq_mod, BitVec.toNat_ofInt]
    omega
  show IntKind.i64.wrap ((BitVec.ofInt 64 x &&& BitVec.ofInt 64 4294967295).toNat : Int) = _
  rw [h, wrap_i64 (by omega) (by omega)]
  omega
theorem bin_shl32 (x : Int) (e : EqK) : binV .shl e (.i .i64 x) (.i .u64 32) = some (.i .i64 (IntKind.i64.wrap (x * 4294967296))) := rfl

def sumHi : List Int → Int
  | [] => 0
  | x :: r => x / 4294967296 + sumHi r
def sumLo : List Int → Int
  | [] => 0
  | x :: r => x % 4294967296 + sumLo r
def sumZ : List Int → Int
  | [] => 0
  | x :: r => x + sumZ r
def I64 (n : Int) : Prop := -9223372036854775808 ≤ n ∧ n < 9223372036854775808
theorem sumHi_snoc (l : List Int) (x : Int) : sumHi (l ++ [x]) = sumHi l + x / 4294967296 := by induction l with | nil => simp [sumHi] | cons y l ih => simp only [List.cons_append, sumHi, ih]; omega
theorem sumLo_snoc (l : List Int) (x : Int) : sumLo (l ++ [x]) = sumLo l + x % 4294967296 := by induction l with | nil => simp [sumLo] | cons y l ih => simp only [List.cons_append, sumLo, ih]; omega
theorem sum_parts (l : List Int) : sumZ l = 4294967296 * sumHi l + sumLo l := by induction l with | nil => rfl | cons y l ih => simp only [sumZ, sumHi, sumLo, ih]; omega
theorem sumHi_le {l : List Int} (h : ∀ x ∈ l, I64 x) : -2147483648 * (l.length : Int) ≤ sumHi l ∧ sumHi l ≤ 2147483647 * (l.length : Int) := by
  induction l with
  | nil => simp [sumHi]
  | cons y l ih =>
    have := ih (fun x hx => h x (by simp [hx])); have hy := h y (by simp); unfold I64 at hy
    simp only [sumHi, List.length_cons]; omega
theorem sumLo_le (l : List Int) : 0 ≤ sumLo l ∧ sumLo l ≤ 4294967295 * (l.length : Int) := by
  induction l with
  | nil => simp [sumLo]
  | cons y l ih => simp only [sumLo, List.length_cons]; omega

def sumR (l : List Int) : AV := if -9223372036854775808 ≤ sumZ l ∧ sumZ l < 9223372036854775808 then .tu [.i .i64 (sumZ l), .b true] else .tu [.i .i64 0, .b false]

theorem take_succ' {α : Type} {l : List α} {i : Nat} (h : i < l.length) : l.take (i + 1) = l.take i ++ [l[i]] := by
  rw [List.take_add_one, List.getElem?_eq_getElem h]; rfl

theorem sum7_spec (s : AS) (v : AV) (xs : List Int) (h : Sl s 1 v (xs.map fun n => [.i .i64 n])) (hx : ∀ x ∈ xs, I64 x) (hl : xs.length ≤ 1000000) :
    Re tab.get smJ (.fn 48 []) [v] s (sumR xs) := by
  have hlen := h.len
  have hiad := fun i (hi : i < xs.length) => h.iad (i := i) (by simpa using hi)
  have hrow := fun i (hi : i < xs.length) => h.row1 hi
  simp only [List.length_map] at hlen
  refine Re_fn rfl (show tab.get 48 = some af48 from rfl) rfl (by unfold sumR; split <;> rfl) ?_
  simp only [push_cast, Nat.reduceAdd, Nat.reduceLT, Nat.reduceLeDiff, Nat.reduceBEq, Nat.reduceMul, Nat.reduceEqDiff, af48]
  refine X_while (fun i : Nat => xs.length - i) (fun i t s' => i ≤ xs.length ∧ s' = ⟨s.h, s.nx, s.nx⟩ ∧ ev t (.t 0) = v ∧ ev t (.t 6) = .i .i64 i ∧ ev t (.t 4) = .i .i64 (sumHi (xs.take i)) ∧ ev t (.t 5) = .i .i64 (sumLo (xs.take i))) ?_ 0 _ _ ?_
  · rintro i t s' ⟨hi, rfl, h0, h6, h4, h5⟩ ih
    simp only [push_cast, Nat.reduceAdd, Nat.reduceLT, Nat.reduceLeDiff, Nat.reduceBEq, Nat.reduceMul, Nat.reduceEqDiff, h0, h6, h4, h5, hlen]
    (first | (refine SC_casesN (fun h => ?_) (fun h => ?_) <;> simp only [push_cast, Nat.reduceAdd, Nat.reduceLT, Nat.reduceLeDiff, Nat.reduceBEq, Nat.reduceMul, Nat.reduceEqDiff, h, Bool.not_true, Bool.not_false, h0, h6, h4, h5, hlen]) | (refine SC_cases (fun h => ?_) (fun h => ?_) <;> simp only [push_cast, Nat.reduceAdd, Nat.reduceLT, Nat.reduceLeDiff, Nat.reduceBEq, Nat.reduceMul, Nat.reduceEqDiff, h, Bool.not_true, Bool.not_false, h0, h6, h4, h5, hlen]) | (refine SG_casesN (fun h => ?_) (fun h => ?_) <;> simp only [push_cast, Nat.reduceAdd, Nat.reduceLT, Nat.reduceLeDiff, Nat.reduceBEq, Nat.reduceMul, Nat.reduceEqDiff, h, Bool.not_true, Bool.not_false, h0, h6, h4, h5, hlen]) | (refine SG_cases (fun h => ?_) (fun h => ?_) <;> simp only [push_cast, Nat.reduceAdd, Nat.reduceLT, Nat.reduceLeDiff, Nat.reduceBEq, Nat.reduceMul, Nat.reduceEqDiff, h, Bool.not_true, Bool.not_false, h0, h6, h4, h5, hlen]))
    · have hi' : i < xs.length := by simpa using h
      obtain ⟨w, cs, hb, hbn, hc⟩ := hrow i hi'
      have hb1 := sumHi_le (l := xs.take i) (fun x hx' => hx x (List.mem_of_mem_take hx'))
      have hb2 := sumLo_le (xs.take i)
      have hxi := hx xs[i] (List.getElem_mem hi')
      unfold I64 at hxi
      rw [List.length_take, Nat.min_eq_left hi] at hb1 hb2
      simp only [push_cast, Nat.reduceAdd, Nat.reduceLT, Nat.reduceLeDiff, Nat.reduceBEq, Nat.reduceMul, Nat.reduceEqDiff, h0, h6, h4, h5, hiad i hi', hb, hc, bin_shr32, bin_and32]
      refine ih (i + 1) _ _ (by omega) ⟨hi', rfl, ?_, ?_, ?_, ?_⟩
      · simp only [push_cast, Nat.reduceAdd, Nat.reduceLT, Nat.reduceLeDiff, Nat.reduceBEq, Nat.reduceMul, Nat.reduceEqDiff, h0]
      · simp only [push_cast, Nat.reduceAdd, Nat.reduceLT, Nat.reduceLeDiff, Nat.reduceBEq, Nat.reduceMul, Nat.reduceEqDiff, h6]; rw [wrap_i64 (by omega) (by omega)]
      · simp only [push_cast, Nat.reduceAdd, Nat.reduceLT, Nat.reduceLeDiff, Nat.reduceBEq, Nat.reduceMul, Nat.reduceEqDiff]; rw [take_succ' hi', sumHi_snoc, wrap_i64 (by omega) (by omega)]
      · simp only [push_cast, Nat.reduceAdd, Nat.reduceLT, Nat.reduceLeDiff, Nat.reduceBEq, Nat.reduceMul, Nat.reduceEqDiff]; rw [take_succ' hi', sumLo_snoc, wrap_i64 (by omega) (by omega)]
    · have hi' : i = xs.length := by simp at h; omega
      subst hi'
      have hb1 := sumHi_le hx
      have hb2 := sumLo_le xs
      have hp := sum_parts xs
      simp only [push_cast, Nat.reduceAdd, Nat.reduceLT, Nat.reduceLeDiff, Nat.reduceBEq, Nat.reduceMul, Nat.reduceEqDiff, h0, h6, h4, h5, bin_shr32, bin_and32, bin_shl32, List.take_length]
      rw [wrap_i64 (by omega) (by omega)]
      (try simp only [push_cast, Nat.reduceAdd, Nat.reduceLT, Nat.reduceLeDiff, Nat.reduceBEq, Nat.reduceMul, Nat.reduceEqDiff, bin_shr32, bin_and32, bin_shl32]) <;> (repeat' (first | (refine SC_casesN (fun h => ?_) (fun h => ?_) <;> simp only [push_cast, Nat.reduceAdd, Nat.reduceLT, Nat.reduceLeDiff, Nat.reduceBEq, Nat.reduceMul, Nat.reduceEqDiff, h, Bool.not_true, Bool.not_false, bin_shr32, bin_and32, bin_shl32]) | (refine SC_cases (fun h => ?_) (fun h => ?_) <;> simp only [push_cast, Nat.reduceAdd, Nat.reduceLT, Nat.reduceLeDiff, Nat.reduceBEq, Nat.reduceMul, Nat.reduceEqDiff, h, Bool.not_true, Bool.not_false, bin_shr32, bin_and32, bin_shl32]) | (refine SG_casesN (fun h => ?_) (fun h => ?_) <;> simp only [push_cast, Nat.reduceAdd, Nat.reduceLT, Nat.reduceLeDiff, Nat.reduceBEq, Nat.reduceMul, Nat.reduceEqDiff, h, Bool.not_true, Bool.not_false, bin_shr32, bin_and32, bin_shl32]) | (refine SG_cases (fun h => ?_) (fun h => ?_) <;> simp only [push_cast, Nat.reduceAdd, Nat.reduceLT, Nat.reduceLeDiff, Nat.reduceBEq, Nat.reduceMul, Nat.reduceEqDiff, h, Bool.not_true, Bool.not_false, bin_shr32, bin_and32, bin_shl32])))
      all_goals
        clear ih
        simp only [decide_eq_true_eq, decide_eq_false_iff_not, Int.not_lt, Int.not_le] at *
        refine ⟨?_, Nat.le_refl _⟩
        unfold sumR
        first
          | rw [if_neg (by omega)]
          | (rw [if_pos (by omega), wrap_i64 (n := (_ * _)) (by omega) (by omega), wrap_i64 (by omega) (by omega)]
             congr 3; omega)
  · refine ⟨Nat.zero_le _, rfl, ?_, ?_, ?_, ?_⟩ <;> simp only [push_cast, Nat.reduceAdd, Nat.reduceLT, Nat.reduceLeDiff, Nat.reduceBEq, Nat.reduceMul, Nat.reduceEqDiff] <;> rfl


/-! ### arith.Sum -/

theorem add64_sk {K : List Fr} {Q : Out → St → Prop} {x y : Int} (hx : 0 ≤ x) (hy : 0 ≤ y) {s : AS} {d : Option Nat} {r : List AOper} {t : T AV} {n : Nat} :
    SK tab.get smJ (.fn 53 []) [.i .u64 x, .i .u64 y, .i .u64 0] s d r K t n Q ↔ SS tab.get smJ (some (.tu [.i .u64 ((x + y) % 18446744073709551616), .i .u64 ((x + y) / 18446744073709551616)], s)) d r K t n Q := by
  obtain ⟨x, rfl⟩ := Int.eq_ofNat_of_zero_le hx
  obtain ⟨y, rfl⟩ := Int.eq_ofNat_of_zero_le hy
  refine SK_sm (g := add64G) rfl ?_
  rfl

theorem bin_shr63 (x : Int) (e : EqK) : binV .shr e (.i .i64 x) (.i .u64 63) = some (.i .i64 (x / 9223372036854775808)) := by
  show shiftBin false .i64 x 63 = _
  simp only [shiftBin, cond_false, show decide ((63 : Int) < 0) = false from rfl]
  rw [Int.fdiv_eq_ediv_of_nonneg _ (by decide)]
  rfl

theorem sumZ_snoc (l : List Int) (x : Int) : sumZ (l ++ [x]) = sumZ l + x := by induction l with | nil => simp [sumZ] | cons y l ih => simp only [List.cons_append, sumZ, ih]; omega
theorem sumZ_le {l : List Int} (h : ∀ x ∈ l, I64 x) : -9223372036854775808 * (l.length : Int) ≤ sumZ l ∧ sumZ l ≤ 9223372036854775807 * (l.length : Int) := by
  induction l with
  | nil => simp [sumZ]
  | cons y l ih =>
    have := ih (fun x hx => h x (by simp [hx])); have hy := h y (by simp); unfold I64 at hy
    simp only [sumZ, List.length_cons]; omega

theorem sum_end (S : Int) (h1 : -9223372036854775808000000 ≤ S) (h2 : S ≤ 9223372036854775808000000) :
    (IntKind.u64.wrap (IntKind.i64.wrap (S % 18446744073709551616) / 9223372036854775808) == S / 18446744073709551616 % 18446744073709551616) = decide (-9223372036854775808 ≤ S ∧ S < 9223372036854775808) ∧
    (-9223372036854775808 ≤ S ∧ S < 9223372036854775808 → IntKind.i64.wrap (S % 18446744073709551616) = S) := by
  have e1 : S % 18446744073709551616 % 18446744073709551616 = S % 18446744073709551616 := Int.emod_emod_of_dvd _ ⟨1, rfl⟩
  have e2 := Int.mul_ediv_add_emod S 18446744073709551616
  have e3 := Int.emod_nonneg S (b := 18446744073709551616) (by decide)
  have e4 := Int.emod_lt_of_pos S (b := 18446744073709551616) (by decide)
  rw [wrap_i64_def, wrap_u64_def, e1]
  generalize S % 18446744073709551616 = l at *
  generalize S / 18446744073709551616 = q at *
  by_cases hl : 9223372036854775808 ≤ l
  · rw [if_pos hl]
    have e5 : (l - 18446744073709551616) / 9223372036854775808 = -1 := by omega
    rw [e5, Bool.eq_iff_iff, beq_iff_eq, decide_eq_true_eq]
    refine ⟨⟨fun h => by omega, fun h => by omega⟩, fun h => by omega⟩
  · rw [if_neg hl]
    have e5 : l / 9223372036854775808 = 0 := by omega
    rw [e5, Bool.eq_iff_iff, beq_iff_eq, decide_eq_true_eq]
    refine ⟨⟨fun h => by omega, fun h => by omega⟩, fun h => by omega⟩

theorem sum_step (S x : Int) (h1 : -9223372036854775808 ≤ x) (h2 : x < 9223372036854775808) :
    IntKind.u64.wrap (IntKind.u64.wrap (S / 18446744073709551616 % 18446744073709551616 + IntKind.u64.wrap (x / 9223372036854775808)) + (S % 18446744073709551616 + IntKind.u64.wrap x) / 18446744073709551616) = (S + x) / 18446744073709551616 % 18446744073709551616 ∧
    (S % 18446744073709551616 + IntKind.u64.wrap x) % 18446744073709551616 = (S + x) % 18446744073709551616 := by
  have e2 := Int.mul_ediv_add_emod S 18446744073709551616
  have e3 := Int.emod_nonneg S (b := 18446744073709551616) (by decide)
  have e4 := Int.emod_lt_of_pos S (b := 18446744073709551616) (by decide)
  have e6 : (S + x) / 18446744073709551616 = S / 18446744073709551616 + (S % 18446744073709551616 + x) / 18446744073709551616 := by omega
  simp only [wrap_u64_def]
  refine ⟨?_, by omega⟩
  rw [e6]
  generalize S % 18446744073709551616 = l at *
  generalize S / 18446744073709551616 = q at *
  by_cases hx : 0 ≤ x
  · have e7 : x / 9223372036854775808 = 0 := by omega
    have e8 : x % 18446744073709551616 = x := by omega
    rw [e7, e8]
    generalize (l + x) / 18446744073709551616 = d
    omega
  · have e7 : x / 9223372036854775808 = -1 := by omega
    have e8 : x % 18446744073709551616 = x + 18446744073709551616 := by omega
    have e9 : (l + (x + 18446744073709551616)) / 18446744073709551616 = (l + x) / 18446744073709551616 + 1 := by omega
    rw [e7, e8, e9]
    generalize (l + x) / 18446744073709551616 = d
    omega

theorem sumA_spec (s : AS) (v : AV) (xs : List Int) (h : Sl s 1 v (xs.map fun n => [.i .i64 n])) (hx : ∀ x ∈ xs, I64 x) (hl : xs.length ≤ 1000000) :
    Re tab.get smJ (.fn 41 []) [v] s (sumR xs) := by
  have hlen := h.len
  have hiad := fun i (hi : i < xs.length) => h.iad (i := i) (by simpa using hi)
  have hrow := fun i (hi : i < xs.length) => h.row1 hi
  simp only [List.length_map] at hlen
  refine Re_fn rfl (show tab.get 41 = some af41 from rfl) rfl (by unfold sumR; split <;> rfl) ?_
  simp only [push_cast, Nat.reduceAdd, Nat.reduceLT, Nat.reduceLeDiff, Nat.reduceBEq, Nat.reduceMul, Nat.reduceEqDiff, af41, hlen]
  refine X_while (fun i : Nat => xs.length - i) (fun i t s' => i ≤ xs.length ∧ Gr s s' ∧ s.nx < s'.nx ∧ s'.h.get s.nx = some (.row true [.i .u64 (sumZ (xs.take i) / 18446744073709551616 % 18446744073709551616), .i .u64 (sumZ (xs.take i) % 18446744073709551616)]) ∧
    ev t (.t 4) = .p s.nx 0 ∧ ev t (.t 11) = v ∧ ev t (.t 12) = .i .i64 xs.length ∧ ev t (.t 13) = .i .i64 i) ?_ 0 _ _ ?_
  · rintro i t s' ⟨hi, hg, hn, hc, h4, h11, h12, h13⟩ ih
    simp only [push_cast, Nat.reduceAdd, Nat.reduceLT, Nat.reduceLeDiff, Nat.reduceBEq, Nat.reduceMul, Nat.reduceEqDiff, h4, h11, h12, h13, hc]
    (first | (refine SC_casesN (fun h => ?_) (fun h => ?_) <;> simp only [push_cast, Nat.reduceAdd, Nat.reduceLT, Nat.reduceLeDiff, Nat.reduceBEq, Nat.reduceMul, Nat.reduceEqDiff, h, Bool.not_true, Bool.not_false, h4, h11, h12, h13, hc]) | (refine SC_cases (fun h => ?_) (fun h => ?_) <;> simp only [push_cast, Nat.reduceAdd, Nat.reduceLT, Nat.reduceLeDiff, Nat.reduceBEq, Nat.reduceMul, Nat.reduceEqDiff, h, Bool.not_true, Bool.not_false, h4, h11, h12, h13, hc]) | (refine SG_casesN (fun h => ?_) (fun h => ?_) <;> simp only [push_cast, Nat.reduceAdd, Nat.reduceLT, Nat.reduceLeDiff, Nat.reduceBEq, Nat.reduceMul, Nat.reduceEqDiff, h, Bool.not_true, Bool.not_false, h4, h11, h12, h13, hc]) | (refine SG_cases (fun h => ?_) (fun h => ?_) <;> simp only [push_cast, Nat.reduceAdd, Nat.reduceLT, Nat.reduceLeDiff, Nat.reduceBEq, Nat.reduceMul, Nat.reduceEqDiff, h, Bool.not_true, Bool.not_false, h4, h11, h12, h13, hc]))
    · have hi' : i < xs.length := by simpa using h
      obtain ⟨w, cs, hb, hbn, hcs⟩ := hrow i hi'
      rw [← hg.old _ hbn] at hb
      have hxi := hx xs[i] (List.getElem_mem hi')
      unfold I64 at hxi
      simp only [push_cast, Nat.reduceAdd, Nat.reduceLT, Nat.reduceLeDiff, Nat.reduceBEq, Nat.reduceMul, Nat.reduceEqDiff, h4, h11, h12, h13, hc, hiad i hi', hb, hcs]
      rw [add64_sk (by omega) (by rw [wrap_u64_def]; omega)]
      simp only [push_cast, Nat.reduceAdd, Nat.reduceLT, Nat.reduceLeDiff, Nat.reduceBEq, Nat.reduceMul, Nat.reduceEqDiff, h4, h11, h12, h13, hc, bin_shr63]
      refine ih (i + 1) _ _ (by omega) ⟨hi', hg.write _ (Nat.le_refl _), hn, ?_, ?_, ?_, ?_, ?_⟩
      · simp only [push_cast, Nat.reduceAdd, Nat.reduceLT, Nat.reduceLeDiff, Nat.reduceBEq, Nat.reduceMul, Nat.reduceEqDiff]
        rw [take_succ' hi', sumZ_snoc]
        obtain ⟨e1, e2⟩ := sum_step (sumZ (xs.take i)) xs[i] (by omega) (by omega)
        rw [e1, e2]
      · simp only [push_cast, Nat.reduceAdd, Nat.reduceLT, Nat.reduceLeDiff, Nat.reduceBEq, Nat.reduceMul, Nat.reduceEqDiff, h4]
      · simp only [push_cast, Nat.reduceAdd, Nat.reduceLT, Nat.reduceLeDiff, Nat.reduceBEq, Nat.reduceMul, Nat.reduceEqDiff, h11]
      · simp only [push_cast, Nat.reduceAdd, Nat.reduceLT, Nat.reduceLeDiff, Nat.reduceBEq, Nat.reduceMul, Nat.reduceEqDiff, h12]
      · simp only [push_cast, Nat.reduceAdd, Nat.reduceLT, Nat.reduceLeDiff, Nat.reduceBEq, Nat.reduceMul, Nat.reduceEqDiff, h13]; rw [wrap_i64 (by omega) (by omega)]
    · have hi' : i = xs.length := by simp at h; omega
      subst hi'
      have hz := sumZ_le hx
      simp only [push_cast, Nat.reduceAdd, Nat.reduceLT, Nat.reduceLeDiff, Nat.reduceBEq, Nat.reduceMul, Nat.reduceEqDiff, h4, h11, h12, h13, hc, bin_shr63, List.take_length]
      obtain ⟨e1, e2⟩ := sum_end (sumZ xs) (by omega) (by omega)
      rw [e1]
      (try simp only [push_cast, Nat.reduceAdd, Nat.reduceLT, Nat.reduceLeDiff, Nat.reduceBEq, Nat.reduceMul, Nat.reduceEqDiff, h4, h11, h12, h13, hc, bin_shr63]) <;> (repeat' (first | (refine SC_casesN (fun h => ?_) (fun h => ?_) <;> simp only [push_cast, Nat.reduceAdd, Nat.reduceLT, Nat.reduceLeDiff, Nat.reduceBEq, Nat.reduceMul, Nat.reduceEqDiff, h, Bool.not_true, Bool.not_false, h4, h11, h12, h13, hc, bin_shr63]) | (refine SC_cases (fun h => ?_) (fun h => ?_) <;> simp only [push_cast, Nat.reduceAdd, Nat.reduceLT, Nat.reduceLeDiff, Nat.reduceBEq, Nat.reduceMul, Nat.reduceEqDiff, h, Bool.not_true, Bool.not_false, h4, h11, h12, h13, hc, bin_shr63]) | (refine SG_casesN (fun h => ?_) (fun h => ?_) <;> simp only [push_cast, Nat.reduceAdd, Nat.reduceLT, Nat.reduceLeDiff, Nat.reduceBEq, Nat.reduceMul, Nat.reduceEqDiff, h, Bool.not_true, Bool.not_false, h4, h11, h12, h13, hc, bin_shr63]) | (refine SG_cases (fun h => ?_) (fun h => ?_) <;> simp only [push_cast, Nat.reduceAdd, Nat.reduceLT, Nat.reduceLeDiff, Nat.reduceBEq, Nat.reduceMul, Nat.reduceEqDiff, h, Bool.not_true, Bool.not_false, h4, h11, h12, h13, hc, bin_shr63])))
      all_goals
        simp only [decide_eq_true_eq, decide_eq_false_iff_not] at h
        refine ⟨?_, by rw [hg.lo]; exact Nat.le_refl _⟩
        unfold sumR
      · rw [if_pos h, e2 h]
      · rw [if_neg h]
  · refine ⟨Nat.zero_le _, ((Gr.start s).new _).write _ (Nat.le_refl _), by simp [AS.new, AS.write], ?_, ?_, ?_, ?_, ?_⟩ <;> simp only [push_cast, Nat.reduceAdd, Nat.reduceLT, Nat.reduceLeDiff, Nat.reduceBEq, Nat.reduceMul, Nat.reduceEqDiff] <;> rfl

end Go.AMJ
