/- Check, of the program and of the document. -/
import Derived.Test.YthdkiocnbbeigaaSpB
namespace Go.AMJ
open Go Go.AM
set_option linter.unusedSimpArgs false
set_option linter.unusedVariables false

def checkZ (d k : Int) (xs : List Line) : Int :=
  if d < 1 ∨ 3652059 < d ∨ k = 0 ∨ (xs.length : Int) < 2 ∨ 64 < (xs.length : Int) then 2 else if xs.all mayL = false then 2 else if sumZ (xs.map (·.m)) = 0 then 0 else 200

/-- An entry, as it is handed. -/
def encE (d k src : Int) (v : AV) : AV := .ag [.i .i64 d, .i .u8 k, .i .u64 src, v]

theorem all_take {xs : List Line} {i : Nat} (hi : i < xs.length) (h : (xs.take i).all mayL = true) (h2 : mayL xs[i] = true) : (xs.take (i + 1)).all mayL = true := by
  rw [take_succ' hi, List.all_append, h]; simp [h2]
theorem not_all {xs : List Line} {i : Nat} (hi : i < xs.length) (h2 : mayL xs[i] = false) : xs.all mayL = false := by
  rw [List.all_eq_false]; exact ⟨_, List.getElem_mem hi, by simp [h2]⟩

def checkRest (xs : List Line) : Int := if xs.all mayL = false then 2 else if sumZ (xs.map (·.m)) = 0 then 0 else 200

theorem checkRest_no {xs : List Line} (h : xs.all mayL = false) : checkRest xs = 2 := if_pos h
theorem checkRest_go {xs : List Line} (h : xs.all mayL = true) : checkRest xs = if sumZ (xs.map (·.m)) = 0 then 0 else 200 := if_neg (by rw [h]; exact fun e => nomatch e)

theorem checkZ_no {d k : Int} {xs : List Line} (h : d < 1 ∨ 3652059 < d ∨ k = 0 ∨ (xs.length : Int) < 2 ∨ 64 < (xs.length : Int)) : checkZ d k xs = 2 := if_pos h
theorem checkZ_go {d k : Int} {xs : List Line} (h1 : ¬ d < 1) (h2 : ¬ 3652059 < d) (h3 : ¬ k = 0) (h4 : ¬ (xs.length : Int) < 2) (h5 : ¬ 64 < (xs.length : Int)) : checkZ d k xs = checkRest xs := if_neg (by simp only [not_or]; exact ⟨h1, h2, h3, h4, h5⟩)

set_option maxHeartbeats 2000000 in
theorem check12_spec (s : AS) (d k src : Int) (v : AV) (xs : List Line) (hs : Sl s 4 v (xs.map encL)) (hx : ∀ x ∈ xs, I64 x.m) (hl : xs.length ≤ 1000) :
    Re tab.get smJ (.fn 12 []) [encE d k src v] s (.i .i64 (checkZ d k xs)) := by
  have hlen := hs.len
  have h1v := hs.one
  have hiad := fun i (hi : i < xs.length) => hs.iad (i := i) (by simpa using hi)
  have hrow := fun i (hi : i < xs.length) => hs.row (i := i) (by simpa using hi)
  simp only [List.length_map, List.getElem_map] at hlen hrow
  refine Re_fn rfl (show tab.get 12 = some af12 from rfl) rfl rfl ?_
  simp only [push_cast, Bool.not_true, Bool.not_false, Nat.reduceAdd, Nat.reduceLT, Nat.reduceLeDiff, Nat.reduceBEq, Nat.reduceMul, Nat.reduceEqDiff, af12, encE, h1v]
  (try simp only [push_cast, Bool.not_true, Bool.not_false, Nat.reduceAdd, Nat.reduceLT, Nat.reduceLeDiff, Nat.reduceBEq, Nat.reduceMul, Nat.reduceEqDiff, hlen]) <;> (repeat' (first | (refine SC_casesN (fun h => ?_) (fun h => ?_) <;> simp only [push_cast, Bool.not_true, Bool.not_false, Nat.reduceAdd, Nat.reduceLT, Nat.reduceLeDiff, Nat.reduceBEq, Nat.reduceMul, Nat.reduceEqDiff, h, hlen]) | (refine SC_cases (fun h => ?_) (fun h => ?_) <;> simp only [push_cast, Bool.not_true, Bool.not_false, Nat.reduceAdd, Nat.reduceLT, Nat.reduceLeDiff, Nat.reduceBEq, Nat.reduceMul, Nat.reduceEqDiff, h, hlen]) | (refine SG_casesN (fun h => ?_) (fun h => ?_) <;> simp only [push_cast, Bool.not_true, Bool.not_false, Nat.reduceAdd, Nat.reduceLT, Nat.reduceLeDiff, Nat.reduceBEq, Nat.reduceMul, Nat.reduceEqDiff, h, hlen]) | (refine SG_cases (fun h => ?_) (fun h => ?_) <;> simp only [push_cast, Bool.not_true, Bool.not_false, Nat.reduceAdd, Nat.reduceLT, Nat.reduceLeDiff, Nat.reduceBEq, Nat.reduceMul, Nat.reduceEqDiff, h, hlen])))
  all_goals try
    (refine ⟨?_, Nat.le_refl _⟩
     simp only [decide_eq_true_eq, decide_eq_false_iff_not, beq_iff_eq] at *
     rw [checkZ_no (by omega)]; done)
  have hz : checkZ d k xs = checkRest xs := by
    simp only [decide_eq_false_iff_not, beq_eq_false_iff_ne] at *
    exact checkZ_go (by assumption) (by assumption) (by assumption) (by assumption) (by assumption)
  rw [hz]
  refine X_while (fun i : Nat => xs.length - i) (fun i t s' => i ≤ xs.length ∧ Gr s s' ∧ s'.h.get s.nx = some (.row true [.i .i64 d, .i .u8 k, .i .u64 src, v]) ∧ ev t (.t 1) = .p s.nx 0 ∧ ev t (.t 3) = .i .i64 i ∧ (xs.take i).all mayL = true) ?_ 0 _ _ ?_
  · rintro i t s' ⟨hi, hg, he, h1, h3, ha⟩ ih
    simp only [push_cast, Bool.not_true, Bool.not_false, Nat.reduceAdd, Nat.reduceLT, Nat.reduceLeDiff, Nat.reduceBEq, Nat.reduceMul, Nat.reduceEqDiff, h1, h3, he, hlen]
    (first | (refine SC_casesN (fun h => ?_) (fun h => ?_) <;> simp only [push_cast, Bool.not_true, Bool.not_false, Nat.reduceAdd, Nat.reduceLT, Nat.reduceLeDiff, Nat.reduceBEq, Nat.reduceMul, Nat.reduceEqDiff, h, h1, h3, he, hlen]) | (refine SC_cases (fun h => ?_) (fun h => ?_) <;> simp only [push_cast, Bool.not_true, Bool.not_false, Nat.reduceAdd, Nat.reduceLT, Nat.reduceLeDiff, Nat.reduceBEq, Nat.reduceMul, Nat.reduceEqDiff, h, h1, h3, he, hlen]) | (refine SG_casesN (fun h => ?_) (fun h => ?_) <;> simp only [push_cast, Bool.not_true, Bool.not_false, Nat.reduceAdd, Nat.reduceLT, Nat.reduceLeDiff, Nat.reduceBEq, Nat.reduceMul, Nat.reduceEqDiff, h, h1, h3, he, hlen]) | (refine SG_cases (fun h => ?_) (fun h => ?_) <;> simp only [push_cast, Bool.not_true, Bool.not_false, Nat.reduceAdd, Nat.reduceLT, Nat.reduceLeDiff, Nat.reduceBEq, Nat.reduceMul, Nat.reduceEqDiff, h, h1, h3, he, hlen]))
    · have hi' : i < xs.length := by simpa using h
      obtain ⟨w, cs, hb, hbn, hc⟩ := hrow i hi'
      rw [← hg.old _ hbn] at hb
      simp only [push_cast, Bool.not_true, Bool.not_false, Nat.reduceAdd, Nat.reduceLT, Nat.reduceLeDiff, Nat.reduceBEq, Nat.reduceMul, Nat.reduceEqDiff, h1, h3, he, hlen, hiad i hi', hb, hc]
      rw [SK_re (may32_spec _ _)]
      simp only [push_cast, Bool.not_true, Bool.not_false, Nat.reduceAdd, Nat.reduceLT, Nat.reduceLeDiff, Nat.reduceBEq, Nat.reduceMul, Nat.reduceEqDiff, h1, h3]
      (first | (refine SC_casesN (fun h => ?_) (fun h => ?_) <;> simp only [push_cast, Bool.not_true, Bool.not_false, Nat.reduceAdd, Nat.reduceLT, Nat.reduceLeDiff, Nat.reduceBEq, Nat.reduceMul, Nat.reduceEqDiff, h, h1, h3]) | (refine SC_cases (fun h => ?_) (fun h => ?_) <;> simp only [push_cast, Bool.not_true, Bool.not_false, Nat.reduceAdd, Nat.reduceLT, Nat.reduceLeDiff, Nat.reduceBEq, Nat.reduceMul, Nat.reduceEqDiff, h, h1, h3]) | (refine SG_casesN (fun h => ?_) (fun h => ?_) <;> simp only [push_cast, Bool.not_true, Bool.not_false, Nat.reduceAdd, Nat.reduceLT, Nat.reduceLeDiff, Nat.reduceBEq, Nat.reduceMul, Nat.reduceEqDiff, h, h1, h3]) | (refine SG_cases (fun h => ?_) (fun h => ?_) <;> simp only [push_cast, Bool.not_true, Bool.not_false, Nat.reduceAdd, Nat.reduceLT, Nat.reduceLeDiff, Nat.reduceBEq, Nat.reduceMul, Nat.reduceEqDiff, h, h1, h3]))
      · rw [checkRest_no (not_all hi' h)]
        exact ⟨rfl, hg.lo ▸ Nat.le_refl _⟩
      · refine ih (i + 1) _ _ (by omega) ⟨hi', hg, he, ?_, ?_, all_take hi' ha h⟩
        · simp only [push_cast, Bool.not_true, Bool.not_false, Nat.reduceAdd, Nat.reduceLT, Nat.reduceLeDiff, Nat.reduceBEq, Nat.reduceMul, Nat.reduceEqDiff, h1]
        · simp only [push_cast, Bool.not_true, Bool.not_false, Nat.reduceAdd, Nat.reduceLT, Nat.reduceLeDiff, Nat.reduceBEq, Nat.reduceMul, Nat.reduceEqDiff]; rw [wrap_i64 (by omega) (by omega)]
    · have hi' : i = xs.length := by simp at h; omega
      subst hi'
      rw [List.take_length] at ha
      rw [SK_re (sum28_spec s' v xs (hs.gr hg) hx hl)]
      rw [checkRest_go ha]
      unfold sumR
      split
      · (try simp only [push_cast, Bool.not_true, Bool.not_false, Nat.reduceAdd, Nat.reduceLT, Nat.reduceLeDiff, Nat.reduceBEq, Nat.reduceMul, Nat.reduceEqDiff]) <;> (repeat' (first | (refine SC_casesN (fun h => ?_) (fun h => ?_) <;> simp only [push_cast, Bool.not_true, Bool.not_false, Nat.reduceAdd, Nat.reduceLT, Nat.reduceLeDiff, Nat.reduceBEq, Nat.reduceMul, Nat.reduceEqDiff, h]) | (refine SC_cases (fun h => ?_) (fun h => ?_) <;> simp only [push_cast, Bool.not_true, Bool.not_false, Nat.reduceAdd, Nat.reduceLT, Nat.reduceLeDiff, Nat.reduceBEq, Nat.reduceMul, Nat.reduceEqDiff, h]) | (refine SG_casesN (fun h => ?_) (fun h => ?_) <;> simp only [push_cast, Bool.not_true, Bool.not_false, Nat.reduceAdd, Nat.reduceLT, Nat.reduceLeDiff, Nat.reduceBEq, Nat.reduceMul, Nat.reduceEqDiff, h]) | (refine SG_cases (fun h => ?_) (fun h => ?_) <;> simp only [push_cast, Bool.not_true, Bool.not_false, Nat.reduceAdd, Nat.reduceLT, Nat.reduceLeDiff, Nat.reduceBEq, Nat.reduceMul, Nat.reduceEqDiff, h])))
        all_goals
          simp only [beq_iff_eq, beq_eq_false_iff_ne, Bool.not_eq_true', Bool.not_eq_false', ne_eq] at h
          first
            | (rw [if_neg h]; exact ⟨rfl, hg.lo ▸ Nat.le_refl _⟩)
            | (rw [if_pos h]; exact ⟨rfl, hg.lo ▸ Nat.le_refl _⟩)
      · (try simp only [push_cast, Bool.not_true, Bool.not_false, Nat.reduceAdd, Nat.reduceLT, Nat.reduceLeDiff, Nat.reduceBEq, Nat.reduceMul, Nat.reduceEqDiff]) <;> (repeat' (first | (refine SC_casesN (fun h => ?_) (fun h => ?_) <;> simp only [push_cast, Bool.not_true, Bool.not_false, Nat.reduceAdd, Nat.reduceLT, Nat.reduceLeDiff, Nat.reduceBEq, Nat.reduceMul, Nat.reduceEqDiff, h]) | (refine SC_cases (fun h => ?_) (fun h => ?_) <;> simp only [push_cast, Bool.not_true, Bool.not_false, Nat.reduceAdd, Nat.reduceLT, Nat.reduceLeDiff, Nat.reduceBEq, Nat.reduceMul, Nat.reduceEqDiff, h]) | (refine SG_casesN (fun h => ?_) (fun h => ?_) <;> simp only [push_cast, Bool.not_true, Bool.not_false, Nat.reduceAdd, Nat.reduceLT, Nat.reduceLeDiff, Nat.reduceBEq, Nat.reduceMul, Nat.reduceEqDiff, h]) | (refine SG_cases (fun h => ?_) (fun h => ?_) <;> simp only [push_cast, Bool.not_true, Bool.not_false, Nat.reduceAdd, Nat.reduceLT, Nat.reduceLeDiff, Nat.reduceBEq, Nat.reduceMul, Nat.reduceEqDiff, h])))
        all_goals
          rw [if_neg (by omega)]
          exact ⟨rfl, hg.lo ▸ Nat.le_refl _⟩
  · exact ⟨Nat.zero_le _, (Gr.start s).new _, by simp only [push_cast, Bool.not_true, Bool.not_false, Nat.reduceAdd, Nat.reduceLT, Nat.reduceLeDiff, Nat.reduceBEq, Nat.reduceMul, Nat.reduceEqDiff], by simp only [push_cast, Bool.not_true, Bool.not_false, Nat.reduceAdd, Nat.reduceLT, Nat.reduceLeDiff, Nat.reduceBEq, Nat.reduceMul, Nat.reduceEqDiff], by simp only [push_cast, Bool.not_true, Bool.not_false, Nat.reduceAdd, Nat.reduceLT, Nat.reduceLeDiff, Nat.reduceBEq, Nat.reduceMul, Nat.reduceEqDiff] <;> rfl, rfl⟩

set_option maxHeartbeats 2000000 in
theorem check11_spec (s : AS) (d k src : Int) (v : AV) (xs : List Line) (hs : Sl s 4 v (xs.map encL)) (hx : ∀ x ∈ xs, I64 x.m) (hl : xs.length ≤ 1000) :
    Re tab.get smJ (.fn 11 []) [encE d k src v] s (.i .i64 (checkZ d k xs)) := by
  have hlen := hs.len
  have h1v := hs.one
  have hiad := fun i (hi : i < xs.length) => hs.iad (i := i) (by simpa using hi)
  have hrow := fun i (hi : i < xs.length) => hs.row (i := i) (by simpa using hi)
  simp only [List.length_map, List.getElem_map] at hlen hrow
  refine Re_fn rfl (show tab.get 11 = some af11 from rfl) rfl rfl ?_
  simp only [push_cast, Bool.not_true, Bool.not_false, Nat.reduceAdd, Nat.reduceLT, Nat.reduceLeDiff, Nat.reduceBEq, Nat.reduceMul, Nat.reduceEqDiff, af11, encE, h1v]
  (try simp only [push_cast, Bool.not_true, Bool.not_false, Nat.reduceAdd, Nat.reduceLT, Nat.reduceLeDiff, Nat.reduceBEq, Nat.reduceMul, Nat.reduceEqDiff, hlen]) <;> (repeat' (first | (refine SC_casesN (fun h => ?_) (fun h => ?_) <;> simp only [push_cast, Bool.not_true, Bool.not_false, Nat.reduceAdd, Nat.reduceLT, Nat.reduceLeDiff, Nat.reduceBEq, Nat.reduceMul, Nat.reduceEqDiff, h, hlen]) | (refine SC_cases (fun h => ?_) (fun h => ?_) <;> simp only [push_cast, Bool.not_true, Bool.not_false, Nat.reduceAdd, Nat.reduceLT, Nat.reduceLeDiff, Nat.reduceBEq, Nat.reduceMul, Nat.reduceEqDiff, h, hlen]) | (refine SG_casesN (fun h => ?_) (fun h => ?_) <;> simp only [push_cast, Bool.not_true, Bool.not_false, Nat.reduceAdd, Nat.reduceLT, Nat.reduceLeDiff, Nat.reduceBEq, Nat.reduceMul, Nat.reduceEqDiff, h, hlen]) | (refine SG_cases (fun h => ?_) (fun h => ?_) <;> simp only [push_cast, Bool.not_true, Bool.not_false, Nat.reduceAdd, Nat.reduceLT, Nat.reduceLeDiff, Nat.reduceBEq, Nat.reduceMul, Nat.reduceEqDiff, h, hlen])))
  all_goals try
    (refine ⟨?_, Nat.le_refl _⟩
     simp only [decide_eq_true_eq, decide_eq_false_iff_not, beq_iff_eq] at *
     rw [checkZ_no (by omega)]; done)
  have hz : checkZ d k xs = checkRest xs := by
    simp only [decide_eq_false_iff_not, beq_eq_false_iff_ne] at *
    exact checkZ_go (by assumption) (by assumption) (by assumption) (by assumption) (by assumption)
  rw [hz]
  refine X_while (fun i : Nat => xs.length - i) (fun i t s' => i ≤ xs.length ∧ Gr s s' ∧ s.nx < s'.nx ∧ s'.h.get s.nx = some (.row true [.i .i64 d, .i .u8 k, .i .u64 src, v]) ∧ ev t (.t 1) = .p s.nx 0 ∧ ev t (.t 33) = v ∧ ev t (.t 34) = .i .i64 xs.length ∧ ev t (.t 35) = .i .i64 i ∧ (xs.take i).all mayL = true) ?_ 0 _ _ ?_
  · rintro i t s' ⟨hi, hg, hn, he, h1, h33, h34, h35, ha⟩ ih
    simp only [push_cast, Bool.not_true, Bool.not_false, Nat.reduceAdd, Nat.reduceLT, Nat.reduceLeDiff, Nat.reduceBEq, Nat.reduceMul, Nat.reduceEqDiff, h1, h33, h34, h35, he]
    (first | (refine SC_casesN (fun h => ?_) (fun h => ?_) <;> simp only [push_cast, Bool.not_true, Bool.not_false, Nat.reduceAdd, Nat.reduceLT, Nat.reduceLeDiff, Nat.reduceBEq, Nat.reduceMul, Nat.reduceEqDiff, h, h1, h33, h34, h35, he]) | (refine SC_cases (fun h => ?_) (fun h => ?_) <;> simp only [push_cast, Bool.not_true, Bool.not_false, Nat.reduceAdd, Nat.reduceLT, Nat.reduceLeDiff, Nat.reduceBEq, Nat.reduceMul, Nat.reduceEqDiff, h, h1, h33, h34, h35, he]) | (refine SG_casesN (fun h => ?_) (fun h => ?_) <;> simp only [push_cast, Bool.not_true, Bool.not_false, Nat.reduceAdd, Nat.reduceLT, Nat.reduceLeDiff, Nat.reduceBEq, Nat.reduceMul, Nat.reduceEqDiff, h, h1, h33, h34, h35, he]) | (refine SG_cases (fun h => ?_) (fun h => ?_) <;> simp only [push_cast, Bool.not_true, Bool.not_false, Nat.reduceAdd, Nat.reduceLT, Nat.reduceLeDiff, Nat.reduceBEq, Nat.reduceMul, Nat.reduceEqDiff, h, h1, h33, h34, h35, he]))
    · have hi' : i < xs.length := by simpa using h
      obtain ⟨w, cs, hb, hbn, hc⟩ := hrow i hi'
      rw [← hg.old _ hbn] at hb
      simp only [push_cast, Bool.not_true, Bool.not_false, Nat.reduceAdd, Nat.reduceLT, Nat.reduceLeDiff, Nat.reduceBEq, Nat.reduceMul, Nat.reduceEqDiff, h1, h33, h34, h35, he, hiad i hi', hb, hc, encL]
      rw [← encL_ag, SK_re (may30_spec _ _)]
      simp only [push_cast, Bool.not_true, Bool.not_false, Nat.reduceAdd, Nat.reduceLT, Nat.reduceLeDiff, Nat.reduceBEq, Nat.reduceMul, Nat.reduceEqDiff, h1, h33, h34, h35]
      (first | (refine SC_casesN (fun h => ?_) (fun h => ?_) <;> simp only [push_cast, Bool.not_true, Bool.not_false, Nat.reduceAdd, Nat.reduceLT, Nat.reduceLeDiff, Nat.reduceBEq, Nat.reduceMul, Nat.reduceEqDiff, h, h1, h33, h34, h35]) | (refine SC_cases (fun h => ?_) (fun h => ?_) <;> simp only [push_cast, Bool.not_true, Bool.not_false, Nat.reduceAdd, Nat.reduceLT, Nat.reduceLeDiff, Nat.reduceBEq, Nat.reduceMul, Nat.reduceEqDiff, h, h1, h33, h34, h35]) | (refine SG_casesN (fun h => ?_) (fun h => ?_) <;> simp only [push_cast, Bool.not_true, Bool.not_false, Nat.reduceAdd, Nat.reduceLT, Nat.reduceLeDiff, Nat.reduceBEq, Nat.reduceMul, Nat.reduceEqDiff, h, h1, h33, h34, h35]) | (refine SG_cases (fun h => ?_) (fun h => ?_) <;> simp only [push_cast, Bool.not_true, Bool.not_false, Nat.reduceAdd, Nat.reduceLT, Nat.reduceLeDiff, Nat.reduceBEq, Nat.reduceMul, Nat.reduceEqDiff, h, h1, h33, h34, h35]))
      · rw [checkRest_no (not_all hi' h)]
        exact ⟨rfl, ((hg.new _).write _ hg.nx).lo ▸ Nat.le_refl _⟩
      · refine ih (i + 1) _ _ (by omega) ⟨hi', (hg.new _).write _ hg.nx, Nat.lt_succ_of_lt hn, ?_, ?_, ?_, ?_, ?_, all_take hi' ha h⟩
        · simp only [push_cast, Bool.not_true, Bool.not_false, Nat.reduceAdd, Nat.reduceLT, Nat.reduceLeDiff, Nat.reduceBEq, Nat.reduceMul, Nat.reduceEqDiff, ne_at hn, he]
        · simp only [push_cast, Bool.not_true, Bool.not_false, Nat.reduceAdd, Nat.reduceLT, Nat.reduceLeDiff, Nat.reduceBEq, Nat.reduceMul, Nat.reduceEqDiff, h1]
        · simp only [push_cast, Bool.not_true, Bool.not_false, Nat.reduceAdd, Nat.reduceLT, Nat.reduceLeDiff, Nat.reduceBEq, Nat.reduceMul, Nat.reduceEqDiff, h33]
        · simp only [push_cast, Bool.not_true, Bool.not_false, Nat.reduceAdd, Nat.reduceLT, Nat.reduceLeDiff, Nat.reduceBEq, Nat.reduceMul, Nat.reduceEqDiff, h34]
        · simp only [push_cast, Bool.not_true, Bool.not_false, Nat.reduceAdd, Nat.reduceLT, Nat.reduceLeDiff, Nat.reduceBEq, Nat.reduceMul, Nat.reduceEqDiff]; rw [wrap_i64 (by omega) (by omega)]
    · have hi' : i = xs.length := by simp at h; omega
      subst hi'
      rw [List.take_length] at ha
      have hp : picked (fun _ => true) xs = xs.map (·.m) := List.filter_eq_self.2 (fun _ _ => rfl)
      rw [SK_re (sum25_spec s' v xs 31 _ asks31 (hs.gr hg) hx hl), hp]
      rw [checkRest_go ha]
      unfold sumR
      split
      · (try simp only [push_cast, Bool.not_true, Bool.not_false, Nat.reduceAdd, Nat.reduceLT, Nat.reduceLeDiff, Nat.reduceBEq, Nat.reduceMul, Nat.reduceEqDiff]) <;> (repeat' (first | (refine SC_casesN (fun h => ?_) (fun h => ?_) <;> simp only [push_cast, Bool.not_true, Bool.not_false, Nat.reduceAdd, Nat.reduceLT, Nat.reduceLeDiff, Nat.reduceBEq, Nat.reduceMul, Nat.reduceEqDiff, h]) | (refine SC_cases (fun h => ?_) (fun h => ?_) <;> simp only [push_cast, Bool.not_true, Bool.not_false, Nat.reduceAdd, Nat.reduceLT, Nat.reduceLeDiff, Nat.reduceBEq, Nat.reduceMul, Nat.reduceEqDiff, h]) | (refine SG_casesN (fun h => ?_) (fun h => ?_) <;> simp only [push_cast, Bool.not_true, Bool.not_false, Nat.reduceAdd, Nat.reduceLT, Nat.reduceLeDiff, Nat.reduceBEq, Nat.reduceMul, Nat.reduceEqDiff, h]) | (refine SG_cases (fun h => ?_) (fun h => ?_) <;> simp only [push_cast, Bool.not_true, Bool.not_false, Nat.reduceAdd, Nat.reduceLT, Nat.reduceLeDiff, Nat.reduceBEq, Nat.reduceMul, Nat.reduceEqDiff, h])))
        all_goals
          simp only [beq_iff_eq, beq_eq_false_iff_ne, Bool.not_eq_true', Bool.not_eq_false', ne_eq] at h
          first
            | (rw [if_neg h]; exact ⟨rfl, hg.lo ▸ Nat.le_refl _⟩)
            | (rw [if_pos h]; exact ⟨rfl, hg.lo ▸ Nat.le_refl _⟩)
      · (try simp only [push_cast, Bool.not_true, Bool.not_false, Nat.reduceAdd, Nat.reduceLT, Nat.reduceLeDiff, Nat.reduceBEq, Nat.reduceMul, Nat.reduceEqDiff]) <;> (repeat' (first | (refine SC_casesN (fun h => ?_) (fun h => ?_) <;> simp only [push_cast, Bool.not_true, Bool.not_false, Nat.reduceAdd, Nat.reduceLT, Nat.reduceLeDiff, Nat.reduceBEq, Nat.reduceMul, Nat.reduceEqDiff, h]) | (refine SC_cases (fun h => ?_) (fun h => ?_) <;> simp only [push_cast, Bool.not_true, Bool.not_false, Nat.reduceAdd, Nat.reduceLT, Nat.reduceLeDiff, Nat.reduceBEq, Nat.reduceMul, Nat.reduceEqDiff, h]) | (refine SG_casesN (fun h => ?_) (fun h => ?_) <;> simp only [push_cast, Bool.not_true, Bool.not_false, Nat.reduceAdd, Nat.reduceLT, Nat.reduceLeDiff, Nat.reduceBEq, Nat.reduceMul, Nat.reduceEqDiff, h]) | (refine SG_cases (fun h => ?_) (fun h => ?_) <;> simp only [push_cast, Bool.not_true, Bool.not_false, Nat.reduceAdd, Nat.reduceLT, Nat.reduceLeDiff, Nat.reduceBEq, Nat.reduceMul, Nat.reduceEqDiff, h])))
        all_goals
          rw [if_neg (by omega)]
          exact ⟨rfl, hg.lo ▸ Nat.le_refl _⟩
  · exact ⟨Nat.zero_le _, (Gr.start s).new _, Nat.lt_succ_self _, by simp only [push_cast, Bool.not_true, Bool.not_false, Nat.reduceAdd, Nat.reduceLT, Nat.reduceLeDiff, Nat.reduceBEq, Nat.reduceMul, Nat.reduceEqDiff], by simp only [push_cast, Bool.not_true, Bool.not_false, Nat.reduceAdd, Nat.reduceLT, Nat.reduceLeDiff, Nat.reduceBEq, Nat.reduceMul, Nat.reduceEqDiff], by simp only [push_cast, Bool.not_true, Bool.not_false, Nat.reduceAdd, Nat.reduceLT, Nat.reduceLeDiff, Nat.reduceBEq, Nat.reduceMul, Nat.reduceEqDiff], by simp only [push_cast, Bool.not_true, Bool.not_false, Nat.reduceAdd, Nat.reduceLT, Nat.reduceLeDiff, Nat.reduceBEq, Nat.reduceMul, Nat.reduceEqDiff, hlen], by simp only [push_cast, Bool.not_true, Bool.not_false, Nat.reduceAdd, Nat.reduceLT, Nat.reduceLeDiff, Nat.reduceBEq, Nat.reduceMul, Nat.reduceEqDiff] <;> rfl, rfl⟩

end Go.AMJ
