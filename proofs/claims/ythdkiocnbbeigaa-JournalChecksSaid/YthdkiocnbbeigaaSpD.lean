/- What is the same; totals. -/
import Derived.Test.YthdkiocnbbeigaaSpC
import Derived.Test.YthdkiocnbbeigaaAmD
namespace Go.AMJ
open Go Go.AM
set_option linter.unusedSimpArgs false
set_option linter.unusedVariables false

theorem ne_encL (x : Line) : binV .neq (.str [(0, .i), (1, .i), (2, .i), (3, .i)]) (.ag (encL x)) (.ag (encL x)) = some (.b false) := by
  simp [binV, eqV, eqS, encL, eqP, kEq]

theorem same19_spec (s : AS) (a b : AV) (xs : List Line) (ha : Sl s 4 a (xs.map encL)) (hb : Sl s 4 b (xs.map encL)) (hl : xs.length ≤ 1000) :
    Re tab.get smJ (.fn 19 []) [a, b] s (.b true) := by
  have la := ha.len
  have lb := hb.len
  have ia := fun i (hi : i < xs.length) => ha.iad (i := i) (by simpa using hi)
  have ib := fun i (hi : i < xs.length) => hb.iad (i := i) (by simpa using hi)
  have ra := fun i (hi : i < xs.length) => ha.row (i := i) (by simpa using hi)
  have rb := fun i (hi : i < xs.length) => hb.row (i := i) (by simpa using hi)
  simp only [List.length_map, List.getElem_map] at la lb ra rb
  refine Re_fn rfl (show tab.get 19 = some af19 from rfl) rfl rfl ?_
  simp only [push_cast, Bool.not_true, Bool.not_false, Nat.reduceAdd, Nat.reduceLT, Nat.reduceLeDiff, Nat.reduceBEq, Nat.reduceMul, Nat.reduceEqDiff, af19, la, lb]
  refine X_while (fun i : Nat => xs.length - i) (fun i t s' => i ≤ xs.length ∧ s' = ⟨s.h, s.nx, s.nx⟩ ∧ ev t (.t 0) = a ∧ ev t (.t 1) = b ∧ ev t (.t 5) = .i .i64 i) ?_ 0 _ _ ?_
  · rintro i t s' ⟨hi, rfl, h0, h1, h5⟩ ih
    simp only [push_cast, Bool.not_true, Bool.not_false, Nat.reduceAdd, Nat.reduceLT, Nat.reduceLeDiff, Nat.reduceBEq, Nat.reduceMul, Nat.reduceEqDiff, h0, h1, h5, la, lb]
    (first | (refine SC_casesN (fun h => ?_) (fun h => ?_) <;> simp only [push_cast, Bool.not_true, Bool.not_false, Nat.reduceAdd, Nat.reduceLT, Nat.reduceLeDiff, Nat.reduceBEq, Nat.reduceMul, Nat.reduceEqDiff, h, h0, h1, h5, la, lb]) | (refine SC_cases (fun h => ?_) (fun h => ?_) <;> simp only [push_cast, Bool.not_true, Bool.not_false, Nat.reduceAdd, Nat.reduceLT, Nat.reduceLeDiff, Nat.reduceBEq, Nat.reduceMul, Nat.reduceEqDiff, h, h0, h1, h5, la, lb]) | (refine SG_casesN (fun h => ?_) (fun h => ?_) <;> simp only [push_cast, Bool.not_true, Bool.not_false, Nat.reduceAdd, Nat.reduceLT, Nat.reduceLeDiff, Nat.reduceBEq, Nat.reduceMul, Nat.reduceEqDiff, h, h0, h1, h5, la, lb]) | (refine SG_cases (fun h => ?_) (fun h => ?_) <;> simp only [push_cast, Bool.not_true, Bool.not_false, Nat.reduceAdd, Nat.reduceLT, Nat.reduceLeDiff, Nat.reduceBEq, Nat.reduceMul, Nat.reduceEqDiff, h, h0, h1, h5, la, lb]) | (refine DG_casesN (fun h => ?_) (fun h => ?_) <;> simp only [push_cast, Bool.not_true, Bool.not_false, Nat.reduceAdd, Nat.reduceLT, Nat.reduceLeDiff, Nat.reduceBEq, Nat.reduceMul, Nat.reduceEqDiff, h, h0, h1, h5, la, lb]) | (refine DG_cases (fun h => ?_) (fun h => ?_) <;> simp only [push_cast, Bool.not_true, Bool.not_false, Nat.reduceAdd, Nat.reduceLT, Nat.reduceLeDiff, Nat.reduceBEq, Nat.reduceMul, Nat.reduceEqDiff, h, h0, h1, h5, la, lb]))
    · have hi' : i < xs.length := by simpa using h
      obtain ⟨w, cs, hq, hqn, hc⟩ := ra i hi'
      obtain ⟨w', cs', hq', hqn', hc'⟩ := rb i hi'
      refine X_draw ?_
      simp only [push_cast, Bool.not_true, Bool.not_false, Nat.reduceAdd, Nat.reduceLT, Nat.reduceLeDiff, Nat.reduceBEq, Nat.reduceMul, Nat.reduceEqDiff, h0, h1, h5, la, lb, ia i hi', ib i hi', hq, hc, hq', hc', ne_encL]
      refine XD_nil (DC_one (by rfl)) ?_
      simp only [push_cast, Bool.not_true, Bool.not_false, Nat.reduceAdd, Nat.reduceLT, Nat.reduceLeDiff, Nat.reduceBEq, Nat.reduceMul, Nat.reduceEqDiff, h5]
      refine ih (i + 1) _ _ (by omega) ⟨hi', rfl, ?_, ?_, ?_⟩
      · simp only [push_cast, Bool.not_true, Bool.not_false, Nat.reduceAdd, Nat.reduceLT, Nat.reduceLeDiff, Nat.reduceBEq, Nat.reduceMul, Nat.reduceEqDiff, h0]
      · simp only [push_cast, Bool.not_true, Bool.not_false, Nat.reduceAdd, Nat.reduceLT, Nat.reduceLeDiff, Nat.reduceBEq, Nat.reduceMul, Nat.reduceEqDiff, h1]
      · simp only [push_cast, Bool.not_true, Bool.not_false, Nat.reduceAdd, Nat.reduceLT, Nat.reduceLeDiff, Nat.reduceBEq, Nat.reduceMul, Nat.reduceEqDiff]; rw [wrap_i64 (by omega) (by omega)]
    · exact ⟨by trivial, Nat.le_refl _⟩
  · exact ⟨Nat.zero_le _, rfl, by simp only [push_cast, Bool.not_true, Bool.not_false, Nat.reduceAdd, Nat.reduceLT, Nat.reduceLeDiff, Nat.reduceBEq, Nat.reduceMul, Nat.reduceEqDiff], by simp only [push_cast, Bool.not_true, Bool.not_false, Nat.reduceAdd, Nat.reduceLT, Nat.reduceLeDiff, Nat.reduceBEq, Nat.reduceMul, Nat.reduceEqDiff], by simp only [push_cast, Bool.not_true, Bool.not_false, Nat.reduceAdd, Nat.reduceLT, Nat.reduceLeDiff, Nat.reduceBEq, Nat.reduceMul, Nat.reduceEqDiff] <;> rfl⟩

set_option maxHeartbeats 1000000 in
theorem same16_spec (s : AS) (d k src : Int) (a b : AV) (xs : List Line) (ha : Sl s 4 a (xs.map encL)) (hb : Sl s 4 b (xs.map encL)) (hl : xs.length ≤ 1000) :
    Re tab.get smJ (.fn 16 []) [encE d k src a, encE d k src b] s (.b true) := by
  refine Re_fn rfl (show tab.get 16 = some af16 from rfl) rfl rfl ?_
  simp only [push_cast, Bool.not_true, Bool.not_false, Nat.reduceAdd, Nat.reduceLT, Nat.reduceLeDiff, Nat.reduceBEq, Nat.reduceMul, Nat.reduceEqDiff, af16, encE, ha.one, hb.one]
  rw [SK_re (same19_spec _ a b xs ((ha.start.new _).new _) ((hb.start.new _).new _) hl)]
  simp only [push_cast, Bool.not_true, Bool.not_false, Nat.reduceAdd, Nat.reduceLT, Nat.reduceLeDiff, Nat.reduceBEq, Nat.reduceMul, Nat.reduceEqDiff]
  exact ⟨by trivial, Nat.le_refl _⟩

/-! ### Totals -/

def posL (xs : List Line) : List Line := xs.filter fun x => decide (0 < x.m)
def negL (xs : List Line) : List Line := xs.filter fun x => !decide (0 < x.m)
theorem posL_snoc (l : List Line) (x : Line) : posL (l ++ [x]) = posL l ++ (if 0 < x.m then [x] else []) := by
  unfold posL; rw [List.filter_append]; congr 1; by_cases h : 0 < x.m <;> simp [h]
theorem negL_snoc (l : List Line) (x : Line) : negL (l ++ [x]) = negL l ++ (if 0 < x.m then [] else [x]) := by
  unfold negL; rw [List.filter_append]; congr 1; by_cases h : 0 < x.m <;> simp [h]

theorem pos_neg (xs : List Line) : sumZ ((posL xs).map (·.m)) + sumZ ((negL xs).map (·.m)) = sumZ (xs.map (·.m)) ∧ sumZ (picked (fun n => decide (0 < n)) xs) = sumZ ((posL xs).map (·.m)) ∧ sumZ (picked (fun n => decide (n < 0)) xs) = sumZ ((negL xs).map (·.m)) ∧ 0 ≤ sumZ ((posL xs).map (·.m)) := by
  induction xs with
  | nil => decide
  | cons x xs ih =>
    obtain ⟨h1, h2, h3, h4⟩ := ih
    unfold posL negL picked at *
    by_cases h : 0 < x.m
    · have h' : ¬ x.m < 0 := by omega
      simp only [List.map_cons, List.filter_cons, h, h', decide_true, decide_false, Bool.not_true, if_true, if_false, sumZ, Bool.false_eq_true]; omega
    · by_cases h' : x.m < 0
      · simp only [List.map_cons, List.filter_cons, h, h', decide_true, decide_false, Bool.not_false, if_true, if_false, sumZ, Bool.false_eq_true]; omega
      · simp only [List.map_cons, List.filter_cons, h, h', decide_false, Bool.not_false, if_true, if_false, sumZ, Bool.false_eq_true]; omega

theorem posL_sub {xs : List Line} {x : Line} (h : x ∈ posL xs) : x ∈ xs := (List.mem_filter.1 h).1
theorem negL_sub {xs : List Line} {x : Line} (h : x ∈ negL xs) : x ∈ xs := (List.mem_filter.1 h).1
theorem posL_len (xs : List Line) : (posL xs).length ≤ xs.length := List.length_filter_le _ _
theorem negL_len (xs : List Line) : (negL xs).length ≤ xs.length := List.length_filter_le _ _

def totR (d k : Int) (xs : List Line) : AV :=
  if checkZ d k xs = 0 then (if sumZ ((posL xs).map (·.m)) < 9223372036854775808 then .tu [.i .i64 (sumZ ((posL xs).map (·.m))), .i .i64 (sumZ ((posL xs).map (·.m))), .i .i64 0] else .tu [.i .i64 0, .i .i64 0, .i .i64 2])
  else .tu [.i .i64 0, .i .i64 0, .i .i64 (checkZ d k xs)]

theorem checkZ_zero {d k : Int} {xs : List Line} (h : checkZ d k xs = 0) : sumZ (xs.map (·.m)) = 0 := by
  unfold checkZ at h
  split at h
  · omega
  · split at h
    · omega
    · split at h
      · assumption
      · omega

theorem totR_old (d k : Int) (xs : List Line) (n : Nat) : (totR d k xs).old n = true := by
  unfold totR; split
  · split <;> rfl
  · rfl

set_option maxHeartbeats 1000000 in
theorem totals7_spec (s : AS) (d k src : Int) (v : AV) (xs : List Line) (hs : Sl s 4 v (xs.map encL)) (hx : ∀ x ∈ xs, I64 x.m) (hl : xs.length ≤ 1000) :
    Re tab.get smJ (.fn 7 []) [encE d k src v] s (totR d k xs) := by
  obtain ⟨p1, p2, p3, p4⟩ := pos_neg xs
  refine Re_fn rfl (show tab.get 7 = some af7 from rfl) rfl (totR_old _ _ _ _) ?_
  simp only [push_cast, Bool.not_true, Bool.not_false, Nat.reduceAdd, Nat.reduceLT, Nat.reduceLeDiff, Nat.reduceBEq, Nat.reduceMul, Nat.reduceEqDiff, af7, encE, hs.one]
  rw [← encE, SK_re (check11_spec _ d k src v xs (hs.start.new _) hx hl)]
  simp only [push_cast, Bool.not_true, Bool.not_false, Nat.reduceAdd, Nat.reduceLT, Nat.reduceLeDiff, Nat.reduceBEq, Nat.reduceMul, Nat.reduceEqDiff]
  (first | (refine SC_casesN (fun h => ?_) (fun h => ?_) <;> simp only [push_cast, Bool.not_true, Bool.not_false, Nat.reduceAdd, Nat.reduceLT, Nat.reduceLeDiff, Nat.reduceBEq, Nat.reduceMul, Nat.reduceEqDiff, h]) | (refine SC_cases (fun h => ?_) (fun h => ?_) <;> simp only [push_cast, Bool.not_true, Bool.not_false, Nat.reduceAdd, Nat.reduceLT, Nat.reduceLeDiff, Nat.reduceBEq, Nat.reduceMul, Nat.reduceEqDiff, h]) | (refine SG_casesN (fun h => ?_) (fun h => ?_) <;> simp only [push_cast, Bool.not_true, Bool.not_false, Nat.reduceAdd, Nat.reduceLT, Nat.reduceLeDiff, Nat.reduceBEq, Nat.reduceMul, Nat.reduceEqDiff, h]) | (refine SG_cases (fun h => ?_) (fun h => ?_) <;> simp only [push_cast, Bool.not_true, Bool.not_false, Nat.reduceAdd, Nat.reduceLT, Nat.reduceLeDiff, Nat.reduceBEq, Nat.reduceMul, Nat.reduceEqDiff, h]) | (refine DG_casesN (fun h => ?_) (fun h => ?_) <;> simp only [push_cast, Bool.not_true, Bool.not_false, Nat.reduceAdd, Nat.reduceLT, Nat.reduceLeDiff, Nat.reduceBEq, Nat.reduceMul, Nat.reduceEqDiff, h]) | (refine DG_cases (fun h => ?_) (fun h => ?_) <;> simp only [push_cast, Bool.not_true, Bool.not_false, Nat.reduceAdd, Nat.reduceLT, Nat.reduceLeDiff, Nat.reduceBEq, Nat.reduceMul, Nat.reduceEqDiff, h]))
  · simp only [beq_eq_false_iff_ne] at h
    unfold totR; rw [if_neg h]
    exact ⟨by trivial, Nat.le_refl _⟩
  · simp only [beq_iff_eq] at h
    have hz := checkZ_zero h
    unfold totR; rw [if_pos h]
    rw [SK_re (sum25_spec _ v xs 26 _ asks26 (hs.start.new _) hx hl)]
    unfold sumR
    split
    · simp only [push_cast, Bool.not_true, Bool.not_false, Nat.reduceAdd, Nat.reduceLT, Nat.reduceLeDiff, Nat.reduceBEq, Nat.reduceMul, Nat.reduceEqDiff]
      rw [SK_re (sum25_spec _ v xs 27 _ asks27 (hs.start.new _) hx hl)]
      unfold sumR
      rw [if_pos (by omega), if_pos (by omega)]
      simp only [push_cast, Bool.not_true, Bool.not_false, Nat.reduceAdd, Nat.reduceLT, Nat.reduceLeDiff, Nat.reduceBEq, Nat.reduceMul, Nat.reduceEqDiff]
      refine ⟨?_, Nat.le_refl _⟩
      rw [wrap_i64 (by omega) (by omega), p2]
      congr 4; omega
    · simp only [push_cast, Bool.not_true, Bool.not_false, Nat.reduceAdd, Nat.reduceLT, Nat.reduceLeDiff, Nat.reduceBEq, Nat.reduceMul, Nat.reduceEqDiff]
      rw [if_neg (by omega)]
      exact ⟨by trivial, Nat.le_refl _⟩

set_option maxHeartbeats 2000000 in
theorem totals8_spec (s : AS) (d k src : Int) (v : AV) (xs : List Line) (hs : Sl s 4 v (xs.map encL)) (hx : ∀ x ∈ xs, I64 x.m) (hl : xs.length ≤ 1000) :
    Re tab.get smJ (.fn 8 []) [encE d k src v] s (totR d k xs) := by
  obtain ⟨p1, p2, p3, p4⟩ := pos_neg xs
  have hlen := hs.len
  have hiad := fun i (hi : i < xs.length) => hs.iad (i := i) (by simpa using hi)
  have hrow := fun i (hi : i < xs.length) => hs.row (i := i) (by simpa using hi)
  simp only [List.length_map, List.getElem_map] at hlen hrow
  refine Re_fn rfl (show tab.get 8 = some af8 from rfl) rfl (totR_old _ _ _ _) ?_
  simp only [push_cast, Bool.not_true, Bool.not_false, Nat.reduceAdd, Nat.reduceLT, Nat.reduceLeDiff, Nat.reduceBEq, Nat.reduceMul, Nat.reduceEqDiff, af8, encE, hs.one]
  rw [← encE, SK_re (check12_spec _ d k src v xs (hs.start.new _) hx hl)]
  simp only [push_cast, Bool.not_true, Bool.not_false, Nat.reduceAdd, Nat.reduceLT, Nat.reduceLeDiff, Nat.reduceBEq, Nat.reduceMul, Nat.reduceEqDiff]
  (first | (refine SC_casesN (fun h => ?_) (fun h => ?_) <;> simp only [push_cast, Bool.not_true, Bool.not_false, Nat.reduceAdd, Nat.reduceLT, Nat.reduceLeDiff, Nat.reduceBEq, Nat.reduceMul, Nat.reduceEqDiff, h]) | (refine SC_cases (fun h => ?_) (fun h => ?_) <;> simp only [push_cast, Bool.not_true, Bool.not_false, Nat.reduceAdd, Nat.reduceLT, Nat.reduceLeDiff, Nat.reduceBEq, Nat.reduceMul, Nat.reduceEqDiff, h]) | (refine SG_casesN (fun h => ?_) (fun h => ?_) <;> simp only [push_cast, Bool.not_true, Bool.not_false, Nat.reduceAdd, Nat.reduceLT, Nat.reduceLeDiff, Nat.reduceBEq, Nat.reduceMul, Nat.reduceEqDiff, h]) | (refine SG_cases (fun h => ?_) (fun h => ?_) <;> simp only [push_cast, Bool.not_true, Bool.not_false, Nat.reduceAdd, Nat.reduceLT, Nat.reduceLeDiff, Nat.reduceBEq, Nat.reduceMul, Nat.reduceEqDiff, h]) | (refine DG_casesN (fun h => ?_) (fun h => ?_) <;> simp only [push_cast, Bool.not_true, Bool.not_false, Nat.reduceAdd, Nat.reduceLT, Nat.reduceLeDiff, Nat.reduceBEq, Nat.reduceMul, Nat.reduceEqDiff, h]) | (refine DG_cases (fun h => ?_) (fun h => ?_) <;> simp only [push_cast, Bool.not_true, Bool.not_false, Nat.reduceAdd, Nat.reduceLT, Nat.reduceLeDiff, Nat.reduceBEq, Nat.reduceMul, Nat.reduceEqDiff, h]))
  · simp only [beq_eq_false_iff_ne] at h
    unfold totR; rw [if_neg h]
    exact ⟨by trivial, Nat.le_refl _⟩
  simp only [beq_iff_eq] at h
  have hz := checkZ_zero h
  unfold totR; rw [if_pos h]
  refine X_while (fun i : Nat => xs.length - i) (fun i t s' => i ≤ xs.length ∧ Gr s s' ∧ s.nx < s'.nx ∧ s'.h.get s.nx = some (.row true [.i .i64 d, .i .u8 k, .i .u64 src, v]) ∧ ev t (.t 1) = .p s.nx 0 ∧ ev t (.t 8) = .i .i64 i ∧
    ∃ u w, ev t (.t 6) = u ∧ ev t (.t 7) = w ∧ Own (s.nx + 1) s' 4 u ((posL (xs.take i)).map encL) ∧ Own (s.nx + 1) s' 4 w ((negL (xs.take i)).map encL) ∧ (u = .sn ∨ w = .sn ∨ slB u ≠ slB w)) ?_ 0 _ _ ?_
  · rintro i t s' ⟨hi, hg, hn, he, h1, h8, u, w, h6, h7, hu, hw, huw⟩ ih
    simp only [push_cast, Bool.not_true, Bool.not_false, Nat.reduceAdd, Nat.reduceLT, Nat.reduceLeDiff, Nat.reduceBEq, Nat.reduceMul, Nat.reduceEqDiff, h1, h8, he, hlen, h6, h7]
    (first | (refine SC_casesN (fun h => ?_) (fun h => ?_) <;> simp only [push_cast, Bool.not_true, Bool.not_false, Nat.reduceAdd, Nat.reduceLT, Nat.reduceLeDiff, Nat.reduceBEq, Nat.reduceMul, Nat.reduceEqDiff, h, h1, h8, he, hlen, h6, h7]) | (refine SC_cases (fun h => ?_) (fun h => ?_) <;> simp only [push_cast, Bool.not_true, Bool.not_false, Nat.reduceAdd, Nat.reduceLT, Nat.reduceLeDiff, Nat.reduceBEq, Nat.reduceMul, Nat.reduceEqDiff, h, h1, h8, he, hlen, h6, h7]) | (refine SG_casesN (fun h => ?_) (fun h => ?_) <;> simp only [push_cast, Bool.not_true, Bool.not_false, Nat.reduceAdd, Nat.reduceLT, Nat.reduceLeDiff, Nat.reduceBEq, Nat.reduceMul, Nat.reduceEqDiff, h, h1, h8, he, hlen, h6, h7]) | (refine SG_cases (fun h => ?_) (fun h => ?_) <;> simp only [push_cast, Bool.not_true, Bool.not_false, Nat.reduceAdd, Nat.reduceLT, Nat.reduceLeDiff, Nat.reduceBEq, Nat.reduceMul, Nat.reduceEqDiff, h, h1, h8, he, hlen, h6, h7]) | (refine DG_casesN (fun h => ?_) (fun h => ?_) <;> simp only [push_cast, Bool.not_true, Bool.not_false, Nat.reduceAdd, Nat.reduceLT, Nat.reduceLeDiff, Nat.reduceBEq, Nat.reduceMul, Nat.reduceEqDiff, h, h1, h8, he, hlen, h6, h7]) | (refine DG_cases (fun h => ?_) (fun h => ?_) <;> simp only [push_cast, Bool.not_true, Bool.not_false, Nat.reduceAdd, Nat.reduceLT, Nat.reduceLeDiff, Nat.reduceBEq, Nat.reduceMul, Nat.reduceEqDiff, h, h1, h8, he, hlen, h6, h7]))
    · have hi' : i < xs.length := by simpa using h
      obtain ⟨w0, cs, hb, hbn, hc⟩ := hrow i hi'
      rw [← hg.old _ hbn] at hb
      have hcs : cs[slO v + i * 4 + 3]? = some (.i .i64 xs[i].m) := by
        unfold cut at hc
        cases hbl : Nat.ble (slO v + i * 4 + 4) cs.length
        · simp [hbl] at hc
        · simp only [hbl, cond_true, Option.some.injEq] at hc
          have : ((cs.drop (slO v + i * 4)).take 4)[3]? = some (.i .i64 xs[i].m) := by rw [hc]; rfl
          simpa [List.getElem?_take] using this
      have hk1 := posL_snoc (xs.take i) xs[i]
      have hk2 := negL_snoc (xs.take i) xs[i]
      rw [← take_succ' hi'] at hk1 hk2
      simp only [push_cast, Bool.not_true, Bool.not_false, Nat.reduceAdd, Nat.reduceLT, Nat.reduceLeDiff, Nat.reduceBEq, Nat.reduceMul, Nat.reduceEqDiff, h1, h8, he, hlen, h6, h7, hiad i hi', hb, hcs]
      (first | (refine SC_casesN (fun h => ?_) (fun h => ?_) <;> simp only [push_cast, Bool.not_true, Bool.not_false, Nat.reduceAdd, Nat.reduceLT, Nat.reduceLeDiff, Nat.reduceBEq, Nat.reduceMul, Nat.reduceEqDiff, h, h1, h8, he, hlen, h6, h7, hiad i hi', hb, hc, encL]) | (refine SC_cases (fun h => ?_) (fun h => ?_) <;> simp only [push_cast, Bool.not_true, Bool.not_false, Nat.reduceAdd, Nat.reduceLT, Nat.reduceLeDiff, Nat.reduceBEq, Nat.reduceMul, Nat.reduceEqDiff, h, h1, h8, he, hlen, h6, h7, hiad i hi', hb, hc, encL]) | (refine SG_casesN (fun h => ?_) (fun h => ?_) <;> simp only [push_cast, Bool.not_true, Bool.not_false, Nat.reduceAdd, Nat.reduceLT, Nat.reduceLeDiff, Nat.reduceBEq, Nat.reduceMul, Nat.reduceEqDiff, h, h1, h8, he, hlen, h6, h7, hiad i hi', hb, hc, encL]) | (refine SG_cases (fun h => ?_) (fun h => ?_) <;> simp only [push_cast, Bool.not_true, Bool.not_false, Nat.reduceAdd, Nat.reduceLT, Nat.reduceLeDiff, Nat.reduceBEq, Nat.reduceMul, Nat.reduceEqDiff, h, h1, h8, he, hlen, h6, h7, hiad i hi', hb, hc, encL]) | (refine DG_casesN (fun h => ?_) (fun h => ?_) <;> simp only [push_cast, Bool.not_true, Bool.not_false, Nat.reduceAdd, Nat.reduceLT, Nat.reduceLeDiff, Nat.reduceBEq, Nat.reduceMul, Nat.reduceEqDiff, h, h1, h8, he, hlen, h6, h7, hiad i hi', hb, hc, encL]) | (refine DG_cases (fun h => ?_) (fun h => ?_) <;> simp only [push_cast, Bool.not_true, Bool.not_false, Nat.reduceAdd, Nat.reduceLT, Nat.reduceLeDiff, Nat.reduceBEq, Nat.reduceMul, Nat.reduceEqDiff, h, h1, h8, he, hlen, h6, h7, hiad i hi', hb, hc, encL]))
      · have hm : 0 < xs[i].m := by simpa using h
        rw [if_pos hm] at hk1 hk2
        have := posL_len (xs.take i)
        refine SS_push (s.nx + 1) _ hg hu rfl rfl (by simp only [List.length_map, List.length_take] at this ⊢; exact most_of (by omega) (by omega)) (Nat.le_succ _) hn (fun u' s2 o hg2 n f g q => ?_)
        simp only [push_cast, Bool.not_true, Bool.not_false, Nat.reduceAdd, Nat.reduceLT, Nat.reduceLeDiff, Nat.reduceBEq, Nat.reduceMul, Nat.reduceEqDiff, h8]
        refine ih (i + 1) _ _ (by omega) ⟨hi', hg2, Nat.lt_of_lt_of_le hn n, (f _ (Nat.lt_succ_self _)).trans he, ?_, ?_, u', w, ?_, ?_, ?_, ?_, ?_⟩
        · simp only [push_cast, Bool.not_true, Bool.not_false, Nat.reduceAdd, Nat.reduceLT, Nat.reduceLeDiff, Nat.reduceBEq, Nat.reduceMul, Nat.reduceEqDiff, h1]
        · simp only [push_cast, Bool.not_true, Bool.not_false, Nat.reduceAdd, Nat.reduceLT, Nat.reduceLeDiff, Nat.reduceBEq, Nat.reduceMul, Nat.reduceEqDiff]; rw [wrap_i64 (by omega) (by omega)]
        · simp only [push_cast, Bool.not_true, Bool.not_false, Nat.reduceAdd, Nat.reduceLT, Nat.reduceLeDiff, Nat.reduceBEq, Nat.reduceMul, Nat.reduceEqDiff]
        · simp only [push_cast, Bool.not_true, Bool.not_false, Nat.reduceAdd, Nat.reduceLT, Nat.reduceLeDiff, Nat.reduceBEq, Nat.reduceMul, Nat.reduceEqDiff, h7]
        · rw [hk1, List.map_append]; exact o
        · rw [hk2, List.append_nil]
          exact hw.frame n g (match huw with
            | .inl h => .inr (.inl h)
            | .inr (.inl h) => .inl h
            | .inr (.inr h) => .inr (.inr h.symm))
        · rcases q with q | q
          · exact .inl q
          · rcases hw.lt with h | h
            · exact .inr (.inl h)
            · exact .inr (.inr (by omega))
      · have hm : ¬ 0 < xs[i].m := by simpa using h
        rw [if_neg hm] at hk1 hk2
        have := negL_len (xs.take i)
        refine SS_push (s.nx + 1) _ hg hw rfl rfl (by simp only [List.length_map, List.length_take] at this ⊢; exact most_of (by omega) (by omega)) (Nat.le_succ _) hn (fun u' s2 o hg2 n f g q => ?_)
        simp only [push_cast, Bool.not_true, Bool.not_false, Nat.reduceAdd, Nat.reduceLT, Nat.reduceLeDiff, Nat.reduceBEq, Nat.reduceMul, Nat.reduceEqDiff, h8]
        refine ih (i + 1) _ _ (by omega) ⟨hi', hg2, Nat.lt_of_lt_of_le hn n, (f _ (Nat.lt_succ_self _)).trans he, ?_, ?_, u, u', ?_, ?_, ?_, ?_, ?_⟩
        · simp only [push_cast, Bool.not_true, Bool.not_false, Nat.reduceAdd, Nat.reduceLT, Nat.reduceLeDiff, Nat.reduceBEq, Nat.reduceMul, Nat.reduceEqDiff, h1]
        · simp only [push_cast, Bool.not_true, Bool.not_false, Nat.reduceAdd, Nat.reduceLT, Nat.reduceLeDiff, Nat.reduceBEq, Nat.reduceMul, Nat.reduceEqDiff]; rw [wrap_i64 (by omega) (by omega)]
        · simp only [push_cast, Bool.not_true, Bool.not_false, Nat.reduceAdd, Nat.reduceLT, Nat.reduceLeDiff, Nat.reduceBEq, Nat.reduceMul, Nat.reduceEqDiff, h6]
        · simp only [push_cast, Bool.not_true, Bool.not_false, Nat.reduceAdd, Nat.reduceLT, Nat.reduceLeDiff, Nat.reduceBEq, Nat.reduceMul, Nat.reduceEqDiff]
        · rw [hk1, List.append_nil]
          exact hu.frame n g huw
        · rw [hk2, List.map_append]; exact o
        · rcases q with q | q
          · exact .inr (.inl q)
          · rcases hu.lt with h | h
            · exact .inl h
            · exact .inr (.inr (by omega))
    · have hi' : i = xs.length := by simp at h; omega
      subst hi'
      rw [List.take_length] at hu hw
      have l1 := posL_len xs
      have l2 := negL_len xs
      rw [SK_re (sum28_spec s' u (posL xs) hu.sl (fun x hx' => hx x (posL_sub hx')) (by omega))]
      unfold sumR
      split
      · simp only [push_cast, Bool.not_true, Bool.not_false, Nat.reduceAdd, Nat.reduceLT, Nat.reduceLeDiff, Nat.reduceBEq, Nat.reduceMul, Nat.reduceEqDiff, h7]
        rw [SK_re (sum28_spec s' w (negL xs) hw.sl (fun x hx' => hx x (negL_sub hx')) (by omega))]
        unfold sumR
        rw [if_pos (by omega), if_pos (by omega)]
        simp only [push_cast, Bool.not_true, Bool.not_false, Nat.reduceAdd, Nat.reduceLT, Nat.reduceLeDiff, Nat.reduceBEq, Nat.reduceMul, Nat.reduceEqDiff]
        refine ⟨?_, hg.lo ▸ Nat.le_refl _⟩
        rw [wrap_i64 (by omega) (by omega)]
        congr 4; omega
      · simp only [push_cast, Bool.not_true, Bool.not_false, Nat.reduceAdd, Nat.reduceLT, Nat.reduceLeDiff, Nat.reduceBEq, Nat.reduceMul, Nat.reduceEqDiff, h7]
        rw [SK_re (sum28_spec s' w (negL xs) hw.sl (fun x hx' => hx x (negL_sub hx')) (by omega)), if_neg (by omega)]
        unfold sumR
        split <;> simp only [push_cast, Bool.not_true, Bool.not_false, Nat.reduceAdd, Nat.reduceLT, Nat.reduceLeDiff, Nat.reduceBEq, Nat.reduceMul, Nat.reduceEqDiff] <;> exact ⟨by trivial, hg.lo ▸ Nat.le_refl _⟩
  · exact ⟨Nat.zero_le _, (Gr.start s).new _, Nat.lt_succ_self _, by simp only [push_cast, Bool.not_true, Bool.not_false, Nat.reduceAdd, Nat.reduceLT, Nat.reduceLeDiff, Nat.reduceBEq, Nat.reduceMul, Nat.reduceEqDiff], by simp only [push_cast, Bool.not_true, Bool.not_false, Nat.reduceAdd, Nat.reduceLT, Nat.reduceLeDiff, Nat.reduceBEq, Nat.reduceMul, Nat.reduceEqDiff], by simp only [push_cast, Bool.not_true, Bool.not_false, Nat.reduceAdd, Nat.reduceLT, Nat.reduceLeDiff, Nat.reduceBEq, Nat.reduceMul, Nat.reduceEqDiff] <;> rfl, .sn, .sn, by simp only [push_cast, Bool.not_true, Bool.not_false, Nat.reduceAdd, Nat.reduceLT, Nat.reduceLeDiff, Nat.reduceBEq, Nat.reduceMul, Nat.reduceEqDiff], by simp only [push_cast, Bool.not_true, Bool.not_false, Nat.reduceAdd, Nat.reduceLT, Nat.reduceLeDiff, Nat.reduceBEq, Nat.reduceMul, Nat.reduceEqDiff], Own.nil _ _ _, Own.nil _ _ _, .inl rfl⟩

end Go.AMJ
