/- What Check is, of the program and of the document. -/
import Derived.Test.YthdkiocnbbeigaaSpA
namespace Go.AMJ
open Go Go.AM
set_option linter.unusedSimpArgs false
set_option linter.unusedVariables false

structure Line where
  a : Int
  c : Int
  k : Int
  m : Int

def encL (x : Line) : List AV := [.i .i64 x.a, .i .u64 x.c, .i .u64 x.k, .i .i64 x.m]
theorem encL_len (x : Line) : (encL x).length = 4 := rfl
theorem encL_one (x : Line) : (encL x).all AV.one = true := rfl
theorem encL_ag (x : Line) : AV.ag (encL x) = .ag [.i .i64 x.a, .i .u64 x.c, .i .u64 x.k, .i .i64 x.m] := rfl
def mayL (x : Line) : Bool := decide (1 ≤ x.a) && decide (x.a ≤ 9999) && !(x.m == 0) && decide (-4611686018427387904 ≤ x.m) && decide (x.m ≤ 4611686018427387904)

set_option maxHeartbeats 1000000 in
theorem may32_spec (s : AS) (x : Line) : Re tab.get smJ (.fn 32 []) [.ag (encL x)] s (.b (mayL x)) := by
  refine Re_fn rfl (show tab.get 32 = some af32 from rfl) rfl rfl ?_
  (try simp only [push_cast, Nat.reduceAdd, Nat.reduceLT, Nat.reduceLeDiff, Nat.reduceBEq, Nat.reduceMul, Nat.reduceEqDiff, af32, encL]) <;> (repeat' (first | (refine SC_casesN (fun h => ?_) (fun h => ?_) <;> simp only [push_cast, Nat.reduceAdd, Nat.reduceLT, Nat.reduceLeDiff, Nat.reduceBEq, Nat.reduceMul, Nat.reduceEqDiff, h, Bool.not_true, Bool.not_false, af32, encL]) | (refine SC_cases (fun h => ?_) (fun h => ?_) <;> simp only [push_cast, Nat.reduceAdd, Nat.reduceLT, Nat.reduceLeDiff, Nat.reduceBEq, Nat.reduceMul, Nat.reduceEqDiff, h, Bool.not_true, Bool.not_false, af32, encL]) | (refine SG_casesN (fun h => ?_) (fun h => ?_) <;> simp only [push_cast, Nat.reduceAdd, Nat.reduceLT, Nat.reduceLeDiff, Nat.reduceBEq, Nat.reduceMul, Nat.reduceEqDiff, h, Bool.not_true, Bool.not_false, af32, encL]) | (refine SG_cases (fun h => ?_) (fun h => ?_) <;> simp only [push_cast, Nat.reduceAdd, Nat.reduceLT, Nat.reduceLeDiff, Nat.reduceBEq, Nat.reduceMul, Nat.reduceEqDiff, h, Bool.not_true, Bool.not_false, af32, encL])))
  all_goals
    refine ⟨?_, Nat.le_refl _⟩
    unfold mayL
    simp only [*, Bool.true_and, Bool.and_true, Bool.false_and, Bool.and_false, Bool.not_true, Bool.not_false]
set_option maxHeartbeats 1000000 in
theorem may30_spec (s : AS) (x : Line) : Re tab.get smJ (.fn 30 []) [.ag (encL x)] s (.b (mayL x)) := by
  refine Re_fn rfl (show tab.get 30 = some af30 from rfl) rfl rfl ?_
  (try simp only [push_cast, Nat.reduceAdd, Nat.reduceLT, Nat.reduceLeDiff, Nat.reduceBEq, Nat.reduceMul, Nat.reduceEqDiff, af30, encL]) <;> (repeat' (first | (refine SC_casesN (fun h => ?_) (fun h => ?_) <;> simp only [push_cast, Nat.reduceAdd, Nat.reduceLT, Nat.reduceLeDiff, Nat.reduceBEq, Nat.reduceMul, Nat.reduceEqDiff, h, Bool.not_true, Bool.not_false, af30, encL]) | (refine SC_cases (fun h => ?_) (fun h => ?_) <;> simp only [push_cast, Nat.reduceAdd, Nat.reduceLT, Nat.reduceLeDiff, Nat.reduceBEq, Nat.reduceMul, Nat.reduceEqDiff, h, Bool.not_true, Bool.not_false, af30, encL]) | (refine SG_casesN (fun h => ?_) (fun h => ?_) <;> simp only [push_cast, Nat.reduceAdd, Nat.reduceLT, Nat.reduceLeDiff, Nat.reduceBEq, Nat.reduceMul, Nat.reduceEqDiff, h, Bool.not_true, Bool.not_false, af30, encL]) | (refine SG_cases (fun h => ?_) (fun h => ?_) <;> simp only [push_cast, Nat.reduceAdd, Nat.reduceLT, Nat.reduceLeDiff, Nat.reduceBEq, Nat.reduceMul, Nat.reduceEqDiff, h, Bool.not_true, Bool.not_false, af30, encL])))
  all_goals
    refine ⟨?_, Nat.le_refl _⟩
    unfold mayL
    simp only [*, Bool.true_and, Bool.and_true, Bool.false_and, Bool.and_false, Bool.not_true, Bool.not_false]

/-! ### Sums of lines -/

theorem most_of {n k : Nat} (h : n ≤ 1000000) (hk : k ≤ 64) : n * k ≤ most46 := by
  have : n * k ≤ 1000000 * 64 := Nat.mul_le_mul h hk
  unfold most46; omega

theorem sum28_spec (s : AS) (v : AV) (xs : List Line) (h : Sl s 4 v (xs.map encL)) (hx : ∀ x ∈ xs, I64 x.m) (hl : xs.length ≤ 1000) :
    Re tab.get smJ (.fn 28 []) [v] s (sumR (xs.map (·.m))) := by
  have hlen := h.len
  have hiad := fun i (hi : i < xs.length) => h.iad (i := i) (by simpa using hi)
  have hrow := fun i (hi : i < xs.length) => h.row (i := i) (by simpa using hi)
  simp only [List.length_map, List.getElem_map] at hlen hrow
  refine Re_fn rfl (show tab.get 28 = some af28 from rfl) rfl (by unfold sumR; split <;> rfl) ?_
  simp only [push_cast, Nat.reduceAdd, Nat.reduceLT, Nat.reduceLeDiff, Nat.reduceBEq, Nat.reduceMul, Nat.reduceEqDiff, af28]
  refine X_while (fun i : Nat => xs.length - i) (fun i t s' => i ≤ xs.length ∧ Gr s s' ∧ ev t (.t 0) = v ∧ ev t (.t 5) = .i .i64 i ∧ ∃ u, ev t (.t 4) = u ∧ Own s.nx s' 1 u ((xs.take i).map fun x => [.i .i64 x.m])) ?_ 0 _ _ ?_
  · rintro i t s' ⟨hi, hg, h0, h5, u, h4, hu⟩ ih
    simp only [push_cast, Nat.reduceAdd, Nat.reduceLT, Nat.reduceLeDiff, Nat.reduceBEq, Nat.reduceMul, Nat.reduceEqDiff, h0, h5, h4, hlen]
    (first | (refine SC_casesN (fun h => ?_) (fun h => ?_) <;> simp only [push_cast, Nat.reduceAdd, Nat.reduceLT, Nat.reduceLeDiff, Nat.reduceBEq, Nat.reduceMul, Nat.reduceEqDiff, h, Bool.not_true, Bool.not_false, h0, h5, h4, hlen]) | (refine SC_cases (fun h => ?_) (fun h => ?_) <;> simp only [push_cast, Nat.reduceAdd, Nat.reduceLT, Nat.reduceLeDiff, Nat.reduceBEq, Nat.reduceMul, Nat.reduceEqDiff, h, Bool.not_true, Bool.not_false, h0, h5, h4, hlen]) | (refine SG_casesN (fun h => ?_) (fun h => ?_) <;> simp only [push_cast, Nat.reduceAdd, Nat.reduceLT, Nat.reduceLeDiff, Nat.reduceBEq, Nat.reduceMul, Nat.reduceEqDiff, h, Bool.not_true, Bool.not_false, h0, h5, h4, hlen]) | (refine SG_cases (fun h => ?_) (fun h => ?_) <;> simp only [push_cast, Nat.reduceAdd, Nat.reduceLT, Nat.reduceLeDiff, Nat.reduceBEq, Nat.reduceMul, Nat.reduceEqDiff, h, Bool.not_true, Bool.not_false, h0, h5, h4, hlen]))
    · have hi' : i < xs.length := by simpa using h
      obtain ⟨w, cs, hb, hbn, hc⟩ := hrow i hi'
      rw [← hg.old _ hbn] at hb
      have hcs : cs[slO v + i * 4 + 3]? = some (.i .i64 xs[i].m) := by
        unfold cut at hc
        cases hbl : Nat.ble (slO v + i * 4 + 4) cs.length
        · simp [hbl] at hc
        · simp only [hbl, cond_true, Option.some.injEq] at hc
          have : ((cs.drop (slO v + i * 4)).take 4)[3]? = some (.i .i64 xs[i].m) := by rw [hc]; rfl
          simpa [List.getElem?_take] using this
      simp only [push_cast, Nat.reduceAdd, Nat.reduceLT, Nat.reduceLeDiff, Nat.reduceBEq, Nat.reduceMul, Nat.reduceEqDiff, h0, h5, h4, hiad i hi', hb, hcs]
      refine SS_push s.nx _ hg hu rfl rfl (by simp only [List.length_map, List.length_take]; exact most_of (by omega) (by omega)) (Nat.le_refl _) hg.nx (fun u' s2 o hg2 n f g _ => ?_)
      simp only [push_cast, Nat.reduceAdd, Nat.reduceLT, Nat.reduceLeDiff, Nat.reduceBEq, Nat.reduceMul, Nat.reduceEqDiff, h5]
      refine ih (i + 1) _ _ (by omega) ⟨hi', hg2, ?_, ?_, u', ?_, ?_⟩
      · simp only [push_cast, Nat.reduceAdd, Nat.reduceLT, Nat.reduceLeDiff, Nat.reduceBEq, Nat.reduceMul, Nat.reduceEqDiff, h0]
      · simp only [push_cast, Nat.reduceAdd, Nat.reduceLT, Nat.reduceLeDiff, Nat.reduceBEq, Nat.reduceMul, Nat.reduceEqDiff, h5]; rw [wrap_i64 (by omega) (by omega)]
      · simp only [push_cast, Nat.reduceAdd, Nat.reduceLT, Nat.reduceLeDiff, Nat.reduceBEq, Nat.reduceMul, Nat.reduceEqDiff]
      · rw [take_succ' hi', List.map_append]; exact o
    · have hi' : i = xs.length := by simp at h; omega
      subst hi'
      rw [List.take_length] at hu
      rw [SK_re (sum7_spec s' u (xs.map (·.m)) (by rw [List.map_map]; exact hu.sl) (by simpa using hx) (by rw [List.length_map]; omega))]
      simp only [push_cast, Nat.reduceAdd, Nat.reduceLT, Nat.reduceLeDiff, Nat.reduceBEq, Nat.reduceMul, Nat.reduceEqDiff]
      unfold sumR
      split <;> simp only [push_cast, Nat.reduceAdd, Nat.reduceLT, Nat.reduceLeDiff, Nat.reduceBEq, Nat.reduceMul, Nat.reduceEqDiff] <;> exact ⟨by trivial, hg.lo ▸ Nat.le_refl _⟩
  · exact ⟨Nat.zero_le _, Gr.start s, by simp only [push_cast, Nat.reduceAdd, Nat.reduceLT, Nat.reduceLeDiff, Nat.reduceBEq, Nat.reduceMul, Nat.reduceEqDiff], by simp only [push_cast, Nat.reduceAdd, Nat.reduceLT, Nat.reduceLeDiff, Nat.reduceBEq, Nat.reduceMul, Nat.reduceEqDiff] <;> rfl, .sn, by simp only [push_cast, Nat.reduceAdd, Nat.reduceLT, Nat.reduceLeDiff, Nat.reduceBEq, Nat.reduceMul, Nat.reduceEqDiff], Own.nil _ _ _⟩

/-- A function of a number that answers a bool, and leaves all. -/
def Asks (g : Nat) (p : Int → Bool) : Prop := ∀ s n, Re tab.get smJ (.fn g []) [.i .i64 n] s (.b (p n))

theorem asks31 : Asks 31 (fun _ => true) := fun s n => by
  refine Re_fn rfl (show tab.get 31 = some af31 from rfl) rfl rfl ?_
  simp only [push_cast, Nat.reduceAdd, Nat.reduceLT, Nat.reduceLeDiff, Nat.reduceBEq, Nat.reduceMul, Nat.reduceEqDiff, af31]; exact ⟨trivial, Nat.le_refl _⟩
theorem asks26 : Asks 26 (fun n => decide (0 < n)) := fun s n => by
  refine Re_fn rfl (show tab.get 26 = some af26 from rfl) rfl rfl ?_
  simp only [push_cast, Nat.reduceAdd, Nat.reduceLT, Nat.reduceLeDiff, Nat.reduceBEq, Nat.reduceMul, Nat.reduceEqDiff, af26]; exact ⟨trivial, Nat.le_refl _⟩
theorem asks27 : Asks 27 (fun n => decide (n < 0)) := fun s n => by
  refine Re_fn rfl (show tab.get 27 = some af27 from rfl) rfl rfl ?_
  simp only [push_cast, Nat.reduceAdd, Nat.reduceLT, Nat.reduceLeDiff, Nat.reduceBEq, Nat.reduceMul, Nat.reduceEqDiff, af27]; exact ⟨trivial, Nat.le_refl _⟩

def picked (p : Int → Bool) (xs : List Line) : List Int := (xs.map (·.m)).filter p
theorem picked_snoc (p : Int → Bool) (l : List Line) (x : Line) : picked p (l ++ [x]) = picked p l ++ (if p x.m then [x.m] else []) := by
  unfold picked
  rw [List.map_append, List.filter_append]
  congr 1
  simp only [List.map_cons, List.map_nil, List.filter_cons, List.filter_nil]
theorem picked_len (p : Int → Bool) (l : List Line) : (picked p l).length ≤ l.length := by
  have := List.length_filter_le p (l.map (·.m)); simpa [picked] using this

theorem sum25_spec (s : AS) (v : AV) (xs : List Line) (g : Nat) (p : Int → Bool) (hp : Asks g p) (h : Sl s 4 v (xs.map encL)) (hx : ∀ x ∈ xs, I64 x.m) (hl : xs.length ≤ 1000) :
    Re tab.get smJ (.fn 25 []) [v, .fn g []] s (sumR (picked p xs)) := by
  have hlen := h.len
  have hiad := fun i (hi : i < xs.length) => h.iad (i := i) (by simpa using hi)
  have hrow := fun i (hi : i < xs.length) => h.row (i := i) (by simpa using hi)
  simp only [List.length_map, List.getElem_map] at hlen hrow
  refine Re_fn rfl (show tab.get 25 = some af25 from rfl) rfl (by unfold sumR; split <;> rfl) ?_
  simp only [push_cast, Nat.reduceAdd, Nat.reduceLT, Nat.reduceLeDiff, Nat.reduceBEq, Nat.reduceMul, Nat.reduceEqDiff, af25, hlen]
  refine X_while (fun i : Nat => xs.length - i) (fun i t s' => i ≤ xs.length ∧ Gr s s' ∧ ev t (.t 9) = v ∧ ev t (.t 10) = .i .i64 xs.length ∧ ev t (.t 1) = .fn g [] ∧ ev t (.t 11) = .i .i64 i ∧ ∃ u, ev t (.t 6) = u ∧ Own s.nx s' 1 u ((picked p (xs.take i)).map fun n => [.i .i64 n])) ?_ 0 _ _ ?_
  · rintro i t s' ⟨hi, hg, h9, h10, h1, h11, u, h6, hu⟩ ih
    simp only [push_cast, Nat.reduceAdd, Nat.reduceLT, Nat.reduceLeDiff, Nat.reduceBEq, Nat.reduceMul, Nat.reduceEqDiff, h9, h10, h1, h11, h6]
    (first | (refine SC_casesN (fun h => ?_) (fun h => ?_) <;> simp only [push_cast, Nat.reduceAdd, Nat.reduceLT, Nat.reduceLeDiff, Nat.reduceBEq, Nat.reduceMul, Nat.reduceEqDiff, h, Bool.not_true, Bool.not_false, h9, h10, h1, h11, h6]) | (refine SC_cases (fun h => ?_) (fun h => ?_) <;> simp only [push_cast, Nat.reduceAdd, Nat.reduceLT, Nat.reduceLeDiff, Nat.reduceBEq, Nat.reduceMul, Nat.reduceEqDiff, h, Bool.not_true, Bool.not_false, h9, h10, h1, h11, h6]) | (refine SG_casesN (fun h => ?_) (fun h => ?_) <;> simp only [push_cast, Nat.reduceAdd, Nat.reduceLT, Nat.reduceLeDiff, Nat.reduceBEq, Nat.reduceMul, Nat.reduceEqDiff, h, Bool.not_true, Bool.not_false, h9, h10, h1, h11, h6]) | (refine SG_cases (fun h => ?_) (fun h => ?_) <;> simp only [push_cast, Nat.reduceAdd, Nat.reduceLT, Nat.reduceLeDiff, Nat.reduceBEq, Nat.reduceMul, Nat.reduceEqDiff, h, Bool.not_true, Bool.not_false, h9, h10, h1, h11, h6]))
    · have hi' : i < xs.length := by simpa using h
      obtain ⟨w, cs, hb, hbn, hc⟩ := hrow i hi'
      rw [← hg.old _ hbn] at hb
      simp only [push_cast, Nat.reduceAdd, Nat.reduceLT, Nat.reduceLeDiff, Nat.reduceBEq, Nat.reduceMul, Nat.reduceEqDiff, h9, h10, h1, h11, h6, hiad i hi', hb, hc, encL]
      rw [SK_re (hp _ _)]
      simp only [push_cast, Nat.reduceAdd, Nat.reduceLT, Nat.reduceLeDiff, Nat.reduceBEq, Nat.reduceMul, Nat.reduceEqDiff, h9, h10, h1, h11, h6]
      have hk := picked_snoc p (xs.take i) xs[i]
      rw [← take_succ' hi'] at hk
      (first | (refine SC_casesN (fun h => ?_) (fun h => ?_) <;> simp only [push_cast, Nat.reduceAdd, Nat.reduceLT, Nat.reduceLeDiff, Nat.reduceBEq, Nat.reduceMul, Nat.reduceEqDiff, h, Bool.not_true, Bool.not_false, h9, h10, h1, h11, h6]) | (refine SC_cases (fun h => ?_) (fun h => ?_) <;> simp only [push_cast, Nat.reduceAdd, Nat.reduceLT, Nat.reduceLeDiff, Nat.reduceBEq, Nat.reduceMul, Nat.reduceEqDiff, h, Bool.not_true, Bool.not_false, h9, h10, h1, h11, h6]) | (refine SG_casesN (fun h => ?_) (fun h => ?_) <;> simp only [push_cast, Nat.reduceAdd, Nat.reduceLT, Nat.reduceLeDiff, Nat.reduceBEq, Nat.reduceMul, Nat.reduceEqDiff, h, Bool.not_true, Bool.not_false, h9, h10, h1, h11, h6]) | (refine SG_cases (fun h => ?_) (fun h => ?_) <;> simp only [push_cast, Nat.reduceAdd, Nat.reduceLT, Nat.reduceLeDiff, Nat.reduceBEq, Nat.reduceMul, Nat.reduceEqDiff, h, Bool.not_true, Bool.not_false, h9, h10, h1, h11, h6]))
      · rw [h, if_pos rfl] at hk
        refine SS_push s.nx _ ((hg.new _).write _ hg.nx) ((hu.new _).write _ (hu.fresh (Nat.le_refl _))) rfl rfl (by have := picked_len p (xs.take i); simp only [List.length_map, List.length_take] at this ⊢; exact most_of (by omega) (by omega)) (Nat.le_refl _) (Nat.le_succ_of_le hg.nx) (fun u' s2 o hg2 n f q _ => ?_)
        simp only [push_cast, Nat.reduceAdd, Nat.reduceLT, Nat.reduceLeDiff, Nat.reduceBEq, Nat.reduceMul, Nat.reduceEqDiff, h11]
        refine ih (i + 1) _ _ (by omega) ⟨hi', hg2, ?_, ?_, ?_, ?_, u', ?_, ?_⟩
        · simp only [push_cast, Nat.reduceAdd, Nat.reduceLT, Nat.reduceLeDiff, Nat.reduceBEq, Nat.reduceMul, Nat.reduceEqDiff, h9]
        · simp only [push_cast, Nat.reduceAdd, Nat.reduceLT, Nat.reduceLeDiff, Nat.reduceBEq, Nat.reduceMul, Nat.reduceEqDiff, h10]
        · simp only [push_cast, Nat.reduceAdd, Nat.reduceLT, Nat.reduceLeDiff, Nat.reduceBEq, Nat.reduceMul, Nat.reduceEqDiff, h1]
        · simp only [push_cast, Nat.reduceAdd, Nat.reduceLT, Nat.reduceLeDiff, Nat.reduceBEq, Nat.reduceMul, Nat.reduceEqDiff]; rw [wrap_i64 (by omega) (by omega)]
        · simp only [push_cast, Nat.reduceAdd, Nat.reduceLT, Nat.reduceLeDiff, Nat.reduceBEq, Nat.reduceMul, Nat.reduceEqDiff]
        · rw [hk, List.map_append]; exact o
      · rw [h, if_neg (by simp), List.append_nil] at hk
        refine ih (i + 1) _ _ (by omega) ⟨hi', (hg.new _).write _ hg.nx, ?_, ?_, ?_, ?_, u, ?_, ?_⟩
        · simp only [push_cast, Nat.reduceAdd, Nat.reduceLT, Nat.reduceLeDiff, Nat.reduceBEq, Nat.reduceMul, Nat.reduceEqDiff, h9]
        · simp only [push_cast, Nat.reduceAdd, Nat.reduceLT, Nat.reduceLeDiff, Nat.reduceBEq, Nat.reduceMul, Nat.reduceEqDiff, h10]
        · simp only [push_cast, Nat.reduceAdd, Nat.reduceLT, Nat.reduceLeDiff, Nat.reduceBEq, Nat.reduceMul, Nat.reduceEqDiff, h1]
        · simp only [push_cast, Nat.reduceAdd, Nat.reduceLT, Nat.reduceLeDiff, Nat.reduceBEq, Nat.reduceMul, Nat.reduceEqDiff, h11]; rw [wrap_i64 (by omega) (by omega)]
        · simp only [push_cast, Nat.reduceAdd, Nat.reduceLT, Nat.reduceLeDiff, Nat.reduceBEq, Nat.reduceMul, Nat.reduceEqDiff, h6]
        · rw [hk]; exact (hu.new _).write _ (hu.fresh (Nat.le_refl _))
    · have hi' : i = xs.length := by simp at h; omega
      subst hi'
      rw [List.take_length] at hu
      rw [SK_re (sumA_spec s' u (picked p xs) hu.sl (fun n hn => by obtain ⟨x, hx', rfl⟩ := List.mem_map.1 (List.mem_filter.1 hn).1; exact hx x hx') (by have := picked_len p xs; omega))]
      simp only [push_cast, Nat.reduceAdd, Nat.reduceLT, Nat.reduceLeDiff, Nat.reduceBEq, Nat.reduceMul, Nat.reduceEqDiff]
      unfold sumR
      split <;> simp only [push_cast, Nat.reduceAdd, Nat.reduceLT, Nat.reduceLeDiff, Nat.reduceBEq, Nat.reduceMul, Nat.reduceEqDiff] <;> exact ⟨by trivial, hg.lo ▸ Nat.le_refl _⟩
  · exact ⟨Nat.zero_le _, Gr.start s, by simp only [push_cast, Nat.reduceAdd, Nat.reduceLT, Nat.reduceLeDiff, Nat.reduceBEq, Nat.reduceMul, Nat.reduceEqDiff], by simp only [push_cast, Nat.reduceAdd, Nat.reduceLT, Nat.reduceLeDiff, Nat.reduceBEq, Nat.reduceMul, Nat.reduceEqDiff], by simp only [push_cast, Nat.reduceAdd, Nat.reduceLT, Nat.reduceLeDiff, Nat.reduceBEq, Nat.reduceMul, Nat.reduceEqDiff], by simp only [push_cast, Nat.reduceAdd, Nat.reduceLT, Nat.reduceLeDiff, Nat.reduceBEq, Nat.reduceMul, Nat.reduceEqDiff] <;> rfl, .sn, by simp only [push_cast, Nat.reduceAdd, Nat.reduceLT, Nat.reduceLeDiff, Nat.reduceBEq, Nat.reduceMul, Nat.reduceEqDiff], Own.nil _ _ _⟩

end Go.AMJ
