/- An entry turned. -/
import Derived.Test.YthdkiocnbbeigaaSpD
namespace Go.AMJ
open Go Go.AM
set_option linter.unusedSimpArgs false
set_option linter.unusedVariables false

theorem encL_all (xs : List Line) : ∀ x ∈ xs.map encL, x.length = 4 ∧ x.all AV.one = true := by
  intro x hx; obtain ⟨y, _, rfl⟩ := List.mem_map.1 hx; exact ⟨rfl, rfl⟩

theorem clone29_spec (s : AS) (v : AV) (xs : List Line) (hs : Sl s 4 v (xs.map encL)) (hl : xs.length ≤ 1000) :
    Ca tab.get smJ (.fn 29 []) [v] s (fun v' s' _ => Grc s s' ∧ Own s.nx s' 4 v' (xs.map encL)) := by
  refine Ca_grow rfl (show tab.get 29 = some af29 from rfl) rfl ?_
  rcases hs with ⟨rfl, hn⟩ | ⟨b, o, cap, ex, w, cs, rfl, h⟩
  · simp only [push_cast, Bool.not_true, Bool.not_false, Nat.reduceAdd, Nat.reduceLT, Nat.reduceLeDiff, Nat.reduceBEq, Nat.reduceMul, Nat.reduceEqDiff, af29]
    rw [hn]
    exact ⟨.start s, fun _ => Own.nil _ _ _, fun _ => Own.nil _ _ _⟩
  · have hs : Sl s 4 (.sl b o 4 (xs.map encL).length cap ex) (xs.map encL) := .inr ⟨b, o, cap, ex, w, cs, rfl, h⟩
    simp only [push_cast, Bool.not_true, Bool.not_false, Nat.reduceAdd, Nat.reduceLT, Nat.reduceLeDiff, Nat.reduceBEq, Nat.reduceMul, Nat.reduceEqDiff, af29]
    have hsrc := (hs.start.new (.row true [])).src (fun x hx => (encL_all xs x hx).1)
    refine SS_app (s0 := s) s.nx [] (xs.map encL) ((Gr.start s).new _) ⟨by simp, .inr ⟨s.nx, true, rfl, get_new_at _ _, Nat.le_refl _, Nat.lt_succ_self _⟩⟩ hsrc (encL_all xs) (by simp only [List.length_map, List.length_nil, Nat.zero_add]; exact most_of (by omega) (by omega)) (Nat.le_refl _) (Nat.le_succ _) (fun v' s' o hg n f g => ?_)
    simp only [push_cast, Bool.not_true, Bool.not_false, Nat.reduceAdd, Nat.reduceLT, Nat.reduceLeDiff, Nat.reduceBEq, Nat.reduceMul, Nat.reduceEqDiff]
    exact ⟨hg, fun lo => o, fun ho => o.old ho⟩

def negM (x : Line) : Line := { x with m := IntKind.i64.wrap (0 - x.m) }

/-- What turning an entry answers. -/
def TurnP (d k src day : Int) (xs : List Line) (v : AV) (s' : AS) : Prop :=
  if checkZ d k xs = 0 then (if day < 1 ∨ 3652059 < day then v = .tu [encE 0 0 0 .sn, .i .i64 2] else ∃ u, v = .tu [encE day k src u, .i .i64 0] ∧ Sl s' 4 u ((xs.map negM).map encL))
  else v = .tu [encE 0 0 0 .sn, .i .i64 (checkZ d k xs)]

theorem set_mid {α : Type} (l1 l2 : List α) (a b : α) : (l1 ++ a :: l2).set l1.length b = l1 ++ b :: l2 := by
  rw [List.set_append_right _ _ (Nat.le_refl _), Nat.sub_self, List.set_cons_zero]

/-- The first ones turned. -/
def half (xs : List Line) (i : Nat) : List Line := (xs.take i).map negM ++ xs.drop i
theorem half_zero (xs : List Line) : half xs 0 = xs := by simp [half]
theorem half_all (xs : List Line) : half xs xs.length = xs.map negM := by simp [half]
theorem half_len (xs : List Line) (i : Nat) : (half xs i).length = xs.length := by
  simp only [half, List.length_append, List.length_map, List.length_take, List.length_drop]; omega
theorem half_get {xs : List Line} {i : Nat} (hi : i < xs.length) (h : i < (half xs i).length) : (half xs i)[i] = xs[i] := by
  have hl : ((xs.take i).map negM).length = i := by simp only [List.length_map, List.length_take]; omega
  have e : (half xs i)[i]? = some xs[i] := by
    unfold half
    rw [List.getElem?_append_right (by omega)]
    simp [hi, Nat.min_eq_left (Nat.le_of_lt hi)]
  exact (List.getElem?_eq_some_iff.1 e).2
theorem half_set {xs : List Line} {i : Nat} (hi : i < xs.length) : (half xs i).set i (negM xs[i]) = half xs (i + 1) := by
  have hl : ((xs.take i).map negM).length = i := by simp only [List.length_map, List.length_take]; omega
  unfold half
  rw [List.drop_eq_getElem_cons hi, take_succ' hi, List.map_append, List.append_assoc]
  have := set_mid ((xs.take i).map negM) (xs.drop (i + 1)) xs[i] (negM xs[i])
  rw [hl] at this
  exact this

theorem neg_enc (x : Line) : (encL x).set 3 (.i .i64 (IntKind.i64.wrap (0 - x.m))) = encL (negM x) := rfl

set_option maxHeartbeats 2000000 in
theorem turn9_spec (s : AS) (d k src day : Int) (v : AV) (xs : List Line) (hs : Sl s 4 v (xs.map encL)) (hx : ∀ x ∈ xs, I64 x.m) (hl : xs.length ≤ 1000) :
    Ca tab.get smJ (.fn 9 []) [encE d k src v, .i .i64 day] s (fun v' s' _ => Grc s s' ∧ TurnP d k src day xs v' s') := by
  refine Ca_grow rfl (show tab.get 9 = some af9 from rfl) rfl ?_
  simp only [push_cast, Bool.not_true, Bool.not_false, Nat.reduceAdd, Nat.reduceLT, Nat.reduceLeDiff, Nat.reduceBEq, Nat.reduceMul, Nat.reduceEqDiff, af9, encE, hs.one]
  rw [← encE, SK_re (check11_spec _ d k src v xs ((hs.start.new _).new _) hx hl)]
  simp only [push_cast, Bool.not_true, Bool.not_false, Nat.reduceAdd, Nat.reduceLT, Nat.reduceLeDiff, Nat.reduceBEq, Nat.reduceMul, Nat.reduceEqDiff]
  (first | (refine SC_casesN (fun h => ?_) (fun h => ?_) <;> simp only [push_cast, Bool.not_true, Bool.not_false, Nat.reduceAdd, Nat.reduceLT, Nat.reduceLeDiff, Nat.reduceBEq, Nat.reduceMul, Nat.reduceEqDiff, h]) | (refine SC_cases (fun h => ?_) (fun h => ?_) <;> simp only [push_cast, Bool.not_true, Bool.not_false, Nat.reduceAdd, Nat.reduceLT, Nat.reduceLeDiff, Nat.reduceBEq, Nat.reduceMul, Nat.reduceEqDiff, h]) | (refine SG_casesN (fun h => ?_) (fun h => ?_) <;> simp only [push_cast, Bool.not_true, Bool.not_false, Nat.reduceAdd, Nat.reduceLT, Nat.reduceLeDiff, Nat.reduceBEq, Nat.reduceMul, Nat.reduceEqDiff, h]) | (refine SG_cases (fun h => ?_) (fun h => ?_) <;> simp only [push_cast, Bool.not_true, Bool.not_false, Nat.reduceAdd, Nat.reduceLT, Nat.reduceLeDiff, Nat.reduceBEq, Nat.reduceMul, Nat.reduceEqDiff, h]) | (refine DG_casesN (fun h => ?_) (fun h => ?_) <;> simp only [push_cast, Bool.not_true, Bool.not_false, Nat.reduceAdd, Nat.reduceLT, Nat.reduceLeDiff, Nat.reduceBEq, Nat.reduceMul, Nat.reduceEqDiff, h]) | (refine DG_cases (fun h => ?_) (fun h => ?_) <;> simp only [push_cast, Bool.not_true, Bool.not_false, Nat.reduceAdd, Nat.reduceLT, Nat.reduceLeDiff, Nat.reduceBEq, Nat.reduceMul, Nat.reduceEqDiff, h]))
  · simp only [beq_eq_false_iff_ne] at h
    have g := (((Gr.start s).new (.row true [.i .i64 d, .i .u8 k, .i .u64 src, v])).new (.row true [.i .i64 0, .i .u8 0, .i .u64 0, .sn])).write (k := s.nx + 1) (.row true [.i .i64 0, .i .u8 0, .i .u64 0, .sn]) (Nat.le_succ _)
    refine ⟨g, ?_, ?_⟩ <;> intros <;> (unfold TurnP; rw [if_neg h]; rfl)
  simp only [beq_iff_eq] at h
  have hz := h
  (try simp only [push_cast, Bool.not_true, Bool.not_false, Nat.reduceAdd, Nat.reduceLT, Nat.reduceLeDiff, Nat.reduceBEq, Nat.reduceMul, Nat.reduceEqDiff]) <;> (repeat' (first | (refine SC_casesN (fun h => ?_) (fun h => ?_) <;> simp only [push_cast, Bool.not_true, Bool.not_false, Nat.reduceAdd, Nat.reduceLT, Nat.reduceLeDiff, Nat.reduceBEq, Nat.reduceMul, Nat.reduceEqDiff, h]) | (refine SC_cases (fun h => ?_) (fun h => ?_) <;> simp only [push_cast, Bool.not_true, Bool.not_false, Nat.reduceAdd, Nat.reduceLT, Nat.reduceLeDiff, Nat.reduceBEq, Nat.reduceMul, Nat.reduceEqDiff, h]) | (refine SG_casesN (fun h => ?_) (fun h => ?_) <;> simp only [push_cast, Bool.not_true, Bool.not_false, Nat.reduceAdd, Nat.reduceLT, Nat.reduceLeDiff, Nat.reduceBEq, Nat.reduceMul, Nat.reduceEqDiff, h]) | (refine SG_cases (fun h => ?_) (fun h => ?_) <;> simp only [push_cast, Bool.not_true, Bool.not_false, Nat.reduceAdd, Nat.reduceLT, Nat.reduceLeDiff, Nat.reduceBEq, Nat.reduceMul, Nat.reduceEqDiff, h]) | (refine DG_casesN (fun h => ?_) (fun h => ?_) <;> simp only [push_cast, Bool.not_true, Bool.not_false, Nat.reduceAdd, Nat.reduceLT, Nat.reduceLeDiff, Nat.reduceBEq, Nat.reduceMul, Nat.reduceEqDiff, h]) | (refine DG_cases (fun h => ?_) (fun h => ?_) <;> simp only [push_cast, Bool.not_true, Bool.not_false, Nat.reduceAdd, Nat.reduceLT, Nat.reduceLeDiff, Nat.reduceBEq, Nat.reduceMul, Nat.reduceEqDiff, h])))
  · rename_i h1
    simp only [decide_eq_false_iff_not, decide_eq_true_eq] at h1 h
    have g := (((Gr.start s).new (.row true [.i .i64 d, .i .u8 k, .i .u64 src, v])).new (.row true [.i .i64 0, .i .u8 0, .i .u64 0, .sn])).write (k := s.nx + 1) (.row true [.i .i64 0, .i .u8 0, .i .u64 0, .sn]) (Nat.le_succ _)
    refine ⟨g, ?_, ?_⟩ <;> intros <;> (unfold TurnP; rw [if_pos hz, if_pos (by omega)]; rfl)
  · rename_i h1
    simp only [decide_eq_false_iff_not, decide_eq_true_eq] at h1 h
    have hday : ¬ (day < 1 ∨ 3652059 < day) := by omega
    have g0 := ((Gr.start s).new (.row true [.i .i64 d, .i .u8 k, .i .u64 src, v])).new (.row true [.i .i64 0, .i .u8 0, .i .u64 0, .sn])
    refine SK_ca (clone29_spec _ v xs ((hs.start.new _).new _) hl) (fun u s1 _ ⟨hc, hu⟩ => ?_)
    have g1 := g0.call hc
    have e0 : s1.h.get s.nx = some (.row true [.i .i64 d, .i .u8 k, .i .u64 src, v]) := by rw [hc.old _ (by show _ < s.nx + 1 + 1; omega)]; simp only [push_cast, Bool.not_true, Bool.not_false, Nat.reduceAdd, Nat.reduceLT, Nat.reduceLeDiff, Nat.reduceBEq, Nat.reduceMul, Nat.reduceEqDiff]
    have e1 : s1.h.get (s.nx + 1) = some (.row true [.i .i64 0, .i .u8 0, .i .u64 0, .sn]) := by rw [hc.old _ (by show _ < s.nx + 1 + 1; omega)]; simp only [push_cast, Bool.not_true, Bool.not_false, Nat.reduceAdd, Nat.reduceLT, Nat.reduceLeDiff, Nat.reduceBEq, Nat.reduceMul, Nat.reduceEqDiff]
    have hn1 : s.nx + 2 ≤ s1.nx := hc.nx
    replace hu : Own (s.nx + 2) s1 4 u (xs.map encL) := hu
    simp only [push_cast, Bool.not_true, Bool.not_false, Nat.reduceAdd, Nat.reduceLT, Nat.reduceLeDiff, Nat.reduceBEq, Nat.reduceMul, Nat.reduceEqDiff, e0, e1, hu.one, cells_one hu.one, hu.sl.len]
    have hu2 := (hu.write (k := s.nx) (.row true [.i .i64 day, .i .u8 k, .i .u64 src, v]) (hu.elder (by omega))).write (k := s.nx) (.row true [.i .i64 day, .i .u8 k, .i .u64 src, u]) (hu.elder (by omega))
    have g2 := (g1.write (k := s.nx) (.row true [.i .i64 day, .i .u8 k, .i .u64 src, v]) (Nat.le_refl _)).write (k := s.nx) (.row true [.i .i64 day, .i .u8 k, .i .u64 src, u]) (Nat.le_refl _)
    refine X_while (fun i : Nat => xs.length - i) (fun i t s' => i ≤ xs.length ∧ Gr s s' ∧ s.nx + 2 ≤ s'.nx ∧ s'.h.get s.nx = some (.row true [.i .i64 day, .i .u8 k, .i .u64 src, u]) ∧ s'.h.get (s.nx + 1) = some (.row true [.i .i64 0, .i .u8 0, .i .u64 0, .sn]) ∧ Own (s.nx + 2) s' 4 u ((half xs i).map encL) ∧
      ev t (.t 2) = .p s.nx 0 ∧ ev t (.t 4) = .p (s.nx + 1) 0 ∧ ev t (.t 29) = .i .i64 xs.length ∧ ev t (.t 30) = .i .i64 i) ?_ 0 _ _ ?_
    · rintro i t s' ⟨hi, hg, hn, he, he1, hu', h2, h4, h29, h30⟩ ih
      simp only [push_cast, Bool.not_true, Bool.not_false, Nat.reduceAdd, Nat.reduceLT, Nat.reduceLeDiff, Nat.reduceBEq, Nat.reduceMul, Nat.reduceEqDiff, h2, h4, h29, h30, he]
      (first | (refine SC_casesN (fun h => ?_) (fun h => ?_) <;> simp only [push_cast, Bool.not_true, Bool.not_false, Nat.reduceAdd, Nat.reduceLT, Nat.reduceLeDiff, Nat.reduceBEq, Nat.reduceMul, Nat.reduceEqDiff, h, h2, h4, h29, h30, he]) | (refine SC_cases (fun h => ?_) (fun h => ?_) <;> simp only [push_cast, Bool.not_true, Bool.not_false, Nat.reduceAdd, Nat.reduceLT, Nat.reduceLeDiff, Nat.reduceBEq, Nat.reduceMul, Nat.reduceEqDiff, h, h2, h4, h29, h30, he]) | (refine SG_casesN (fun h => ?_) (fun h => ?_) <;> simp only [push_cast, Bool.not_true, Bool.not_false, Nat.reduceAdd, Nat.reduceLT, Nat.reduceLeDiff, Nat.reduceBEq, Nat.reduceMul, Nat.reduceEqDiff, h, h2, h4, h29, h30, he]) | (refine SG_cases (fun h => ?_) (fun h => ?_) <;> simp only [push_cast, Bool.not_true, Bool.not_false, Nat.reduceAdd, Nat.reduceLT, Nat.reduceLeDiff, Nat.reduceBEq, Nat.reduceMul, Nat.reduceEqDiff, h, h2, h4, h29, h30, he]) | (refine DG_casesN (fun h => ?_) (fun h => ?_) <;> simp only [push_cast, Bool.not_true, Bool.not_false, Nat.reduceAdd, Nat.reduceLT, Nat.reduceLeDiff, Nat.reduceBEq, Nat.reduceMul, Nat.reduceEqDiff, h, h2, h4, h29, h30, he]) | (refine DG_cases (fun h => ?_) (fun h => ?_) <;> simp only [push_cast, Bool.not_true, Bool.not_false, Nat.reduceAdd, Nat.reduceLT, Nat.reduceLeDiff, Nat.reduceBEq, Nat.reduceMul, Nat.reduceEqDiff, h, h2, h4, h29, h30, he]))
      · have hi' : i < xs.length := by simpa using h
        have hi2 : i < ((half xs i).map encL).length := by simpa [half_len] using hi'
        have hel : ((half xs i).map encL)[i] = encL xs[i] := by rw [List.getElem_map, half_get hi']
        obtain ⟨w0, cs, hb, hbn, hc'⟩ := hu'.sl.row hi2
        have hcs := cut_at hc' (show 3 < 4 by omega)
        rw [hel] at hcs
        replace hcs : cs[slO u + i * 4 + 3]? = some (.i .i64 xs[i].m) := hcs
        obtain ⟨q1, q2, q3⟩ := hu'.set hi2 (j := 3) (by omega) (x := .i .i64 (IntKind.i64.wrap (0 - xs[i].m))) rfl
        rw [hel, neg_enc, ← List.map_set, half_set hi'] at q1 q2
        refine X_draw ?_
        simp only [push_cast, Bool.not_true, Bool.not_false, Nat.reduceAdd, Nat.reduceLT, Nat.reduceLeDiff, Nat.reduceBEq, Nat.reduceMul, Nat.reduceEqDiff, h2, h4, h29, h30, he, hu'.sl.iad hi2, hb, hcs]
        rw [← hb, q1]
        simp only [push_cast, Bool.not_true, Bool.not_false, Nat.reduceAdd, Nat.reduceLT, Nat.reduceLeDiff, Nat.reduceBEq, Nat.reduceMul, Nat.reduceEqDiff]
        refine XD_nil (DC_no [true, true, true, true, true, true, true, true, true, true, true, true, false] 2 rfl rfl rfl rfl) ?_
        simp only [push_cast, Bool.not_true, Bool.not_false, Nat.reduceAdd, Nat.reduceLT, Nat.reduceLeDiff, Nat.reduceBEq, Nat.reduceMul, Nat.reduceEqDiff, h30]
        refine ih (i + 1) _ _ (by omega) ⟨hi', hg.write _ (by omega), hn, ?_, ?_, q2, ?_, ?_, ?_, ?_⟩
        · rw [get_write, if_neg (by omega)]; exact he
        · rw [get_write, if_neg (by omega)]; exact he1
        · simp only [push_cast, Bool.not_true, Bool.not_false, Nat.reduceAdd, Nat.reduceLT, Nat.reduceLeDiff, Nat.reduceBEq, Nat.reduceMul, Nat.reduceEqDiff, h2]
        · simp only [push_cast, Bool.not_true, Bool.not_false, Nat.reduceAdd, Nat.reduceLT, Nat.reduceLeDiff, Nat.reduceBEq, Nat.reduceMul, Nat.reduceEqDiff, h4]
        · simp only [push_cast, Bool.not_true, Bool.not_false, Nat.reduceAdd, Nat.reduceLT, Nat.reduceLeDiff, Nat.reduceBEq, Nat.reduceMul, Nat.reduceEqDiff, h29]
        · simp only [push_cast, Bool.not_true, Bool.not_false, Nat.reduceAdd, Nat.reduceLT, Nat.reduceLeDiff, Nat.reduceBEq, Nat.reduceMul, Nat.reduceEqDiff]; rw [wrap_i64 (by omega) (by omega)]
      · have hi' : i = xs.length := by simp at h; omega
        subst hi'
        simp only [push_cast, Bool.not_true, Bool.not_false, Nat.reduceAdd, Nat.reduceLT, Nat.reduceLeDiff, Nat.reduceBEq, Nat.reduceMul, Nat.reduceEqDiff, h2, h4, he, he1, hu'.one, cells_one hu'.one]
        rw [half_all] at hu'
        have hg' := hg.write (k := s.nx + 1) (.row true [.i .i64 day, .i .u8 k, .i .u64 src, u]) (Nat.le_succ _)
        have hu'' := hu'.write (k := s.nx + 1) (.row true [.i .i64 day, .i .u8 k, .i .u64 src, u]) (hu'.elder (by omega))
        refine ⟨hg', fun lo => ?_, fun ho => ?_⟩
        · unfold TurnP; rw [if_pos hz, if_neg hday]
          exact ⟨u, rfl, hu''.sl⟩
        · unfold TurnP; rw [if_pos hz, if_neg hday]
          refine ⟨u, rfl, ((hu''.low (lo' := s.nx) (by omega)).old (s' := s) ?_).sl⟩
          simpa [AV.old, AV.olds] using ho
    · refine ⟨Nat.zero_le _, g2, hn1, by simp only [push_cast, Bool.not_true, Bool.not_false, Nat.reduceAdd, Nat.reduceLT, Nat.reduceLeDiff, Nat.reduceBEq, Nat.reduceMul, Nat.reduceEqDiff], by simp only [push_cast, Bool.not_true, Bool.not_false, Nat.reduceAdd, Nat.reduceLT, Nat.reduceLeDiff, Nat.reduceBEq, Nat.reduceMul, Nat.reduceEqDiff, e1], by rw [half_zero]; exact hu2, by simp only [push_cast, Bool.not_true, Bool.not_false, Nat.reduceAdd, Nat.reduceLT, Nat.reduceLeDiff, Nat.reduceBEq, Nat.reduceMul, Nat.reduceEqDiff], by simp only [push_cast, Bool.not_true, Bool.not_false, Nat.reduceAdd, Nat.reduceLT, Nat.reduceLeDiff, Nat.reduceBEq, Nat.reduceMul, Nat.reduceEqDiff], ?_, by simp only [push_cast, Bool.not_true, Bool.not_false, Nat.reduceAdd, Nat.reduceLT, Nat.reduceLeDiff, Nat.reduceBEq, Nat.reduceMul, Nat.reduceEqDiff] <;> rfl⟩
      simp only [push_cast, Bool.not_true, Bool.not_false, Nat.reduceAdd, Nat.reduceLT, Nat.reduceLeDiff, Nat.reduceBEq, Nat.reduceMul, Nat.reduceEqDiff, List.length_map]
  · simp only [decide_eq_true_eq] at h
    have g := (((Gr.start s).new (.row true [.i .i64 d, .i .u8 k, .i .u64 src, v])).new (.row true [.i .i64 0, .i .u8 0, .i .u64 0, .sn])).write (k := s.nx + 1) (.row true [.i .i64 0, .i .u8 0, .i .u64 0, .sn]) (Nat.le_succ _)
    refine ⟨g, ?_, ?_⟩ <;> intros <;> (unfold TurnP; rw [if_pos hz, if_pos (by omega)]; rfl)

set_option maxHeartbeats 2000000 in
theorem turn10_spec (s : AS) (d k src day : Int) (v : AV) (xs : List Line) (hs : Sl s 4 v (xs.map encL)) (hx : ∀ x ∈ xs, I64 x.m) (hl : xs.length ≤ 1000) :
    Ca tab.get smJ (.fn 10 []) [encE d k src v, .i .i64 day] s (fun v' s' _ => Grc s s' ∧ TurnP d k src day xs v' s') := by
  have hlen := hs.len
  have hiad := fun i (hi : i < xs.length) => hs.iad (i := i) (by simpa using hi)
  have hrow := fun i (hi : i < xs.length) => hs.row (i := i) (by simpa using hi)
  simp only [List.length_map, List.getElem_map] at hlen hrow
  refine Ca_grow rfl (show tab.get 10 = some af10 from rfl) rfl ?_
  simp only [push_cast, Bool.not_true, Bool.not_false, Nat.reduceAdd, Nat.reduceLT, Nat.reduceLeDiff, Nat.reduceBEq, Nat.reduceMul, Nat.reduceEqDiff, af10, encE, hs.one]
  rw [← encE, SK_re (check12_spec _ d k src v xs ((hs.start.new _).new _) hx hl)]
  simp only [push_cast, Bool.not_true, Bool.not_false, Nat.reduceAdd, Nat.reduceLT, Nat.reduceLeDiff, Nat.reduceBEq, Nat.reduceMul, Nat.reduceEqDiff]
  (first | (refine SC_casesN (fun h => ?_) (fun h => ?_) <;> simp only [push_cast, Bool.not_true, Bool.not_false, Nat.reduceAdd, Nat.reduceLT, Nat.reduceLeDiff, Nat.reduceBEq, Nat.reduceMul, Nat.reduceEqDiff, h]) | (refine SC_cases (fun h => ?_) (fun h => ?_) <;> simp only [push_cast, Bool.not_true, Bool.not_false, Nat.reduceAdd, Nat.reduceLT, Nat.reduceLeDiff, Nat.reduceBEq, Nat.reduceMul, Nat.reduceEqDiff, h]) | (refine SG_casesN (fun h => ?_) (fun h => ?_) <;> simp only [push_cast, Bool.not_true, Bool.not_false, Nat.reduceAdd, Nat.reduceLT, Nat.reduceLeDiff, Nat.reduceBEq, Nat.reduceMul, Nat.reduceEqDiff, h]) | (refine SG_cases (fun h => ?_) (fun h => ?_) <;> simp only [push_cast, Bool.not_true, Bool.not_false, Nat.reduceAdd, Nat.reduceLT, Nat.reduceLeDiff, Nat.reduceBEq, Nat.reduceMul, Nat.reduceEqDiff, h]) | (refine DG_casesN (fun h => ?_) (fun h => ?_) <;> simp only [push_cast, Bool.not_true, Bool.not_false, Nat.reduceAdd, Nat.reduceLT, Nat.reduceLeDiff, Nat.reduceBEq, Nat.reduceMul, Nat.reduceEqDiff, h]) | (refine DG_cases (fun h => ?_) (fun h => ?_) <;> simp only [push_cast, Bool.not_true, Bool.not_false, Nat.reduceAdd, Nat.reduceLT, Nat.reduceLeDiff, Nat.reduceBEq, Nat.reduceMul, Nat.reduceEqDiff, h]))
  · simp only [beq_eq_false_iff_ne] at h
    have g := (((Gr.start s).new (.row true [.i .i64 d, .i .u8 k, .i .u64 src, v])).new (.row true [.i .i64 0, .i .u8 0, .i .u64 0, .sn])).write (k := s.nx + 1) (.row true [.i .i64 0, .i .u8 0, .i .u64 0, .sn]) (Nat.le_succ _)
    refine ⟨g, ?_, ?_⟩ <;> intros <;> (unfold TurnP; rw [if_neg h]; rfl)
  simp only [beq_iff_eq] at h
  have hz := h
  (try simp only [push_cast, Bool.not_true, Bool.not_false, Nat.reduceAdd, Nat.reduceLT, Nat.reduceLeDiff, Nat.reduceBEq, Nat.reduceMul, Nat.reduceEqDiff]) <;> (repeat' (first | (refine SC_casesN (fun h => ?_) (fun h => ?_) <;> simp only [push_cast, Bool.not_true, Bool.not_false, Nat.reduceAdd, Nat.reduceLT, Nat.reduceLeDiff, Nat.reduceBEq, Nat.reduceMul, Nat.reduceEqDiff, h]) | (refine SC_cases (fun h => ?_) (fun h => ?_) <;> simp only [push_cast, Bool.not_true, Bool.not_false, Nat.reduceAdd, Nat.reduceLT, Nat.reduceLeDiff, Nat.reduceBEq, Nat.reduceMul, Nat.reduceEqDiff, h]) | (refine SG_casesN (fun h => ?_) (fun h => ?_) <;> simp only [push_cast, Bool.not_true, Bool.not_false, Nat.reduceAdd, Nat.reduceLT, Nat.reduceLeDiff, Nat.reduceBEq, Nat.reduceMul, Nat.reduceEqDiff, h]) | (refine SG_cases (fun h => ?_) (fun h => ?_) <;> simp only [push_cast, Bool.not_true, Bool.not_false, Nat.reduceAdd, Nat.reduceLT, Nat.reduceLeDiff, Nat.reduceBEq, Nat.reduceMul, Nat.reduceEqDiff, h]) | (refine DG_casesN (fun h => ?_) (fun h => ?_) <;> simp only [push_cast, Bool.not_true, Bool.not_false, Nat.reduceAdd, Nat.reduceLT, Nat.reduceLeDiff, Nat.reduceBEq, Nat.reduceMul, Nat.reduceEqDiff, h]) | (refine DG_cases (fun h => ?_) (fun h => ?_) <;> simp only [push_cast, Bool.not_true, Bool.not_false, Nat.reduceAdd, Nat.reduceLT, Nat.reduceLeDiff, Nat.reduceBEq, Nat.reduceMul, Nat.reduceEqDiff, h])))
  · rename_i h1
    simp only [decide_eq_false_iff_not, decide_eq_true_eq] at h1 h
    have g := (((Gr.start s).new (.row true [.i .i64 d, .i .u8 k, .i .u64 src, v])).new (.row true [.i .i64 0, .i .u8 0, .i .u64 0, .sn])).write (k := s.nx + 1) (.row true [.i .i64 0, .i .u8 0, .i .u64 0, .sn]) (Nat.le_succ _)
    refine ⟨g, ?_, ?_⟩ <;> intros <;> (unfold TurnP; rw [if_pos hz, if_pos (by omega)]; rfl)
  · rename_i h1
    simp only [decide_eq_false_iff_not, decide_eq_true_eq] at h1 h
    have hday : ¬ (day < 1 ∨ 3652059 < day) := by omega
    have g0 := ((((Gr.start s).new (.row true [.i .i64 d, .i .u8 k, .i .u64 src, v])).new (.row true [.i .i64 0, .i .u8 0, .i .u64 0, .sn])).new (.row true [.i .i64 0, .i .u8 0, .i .u64 0, .sn])).write (k := s.nx + 2) (.row true [.i .i64 day, .i .u8 k, .i .u64 src, .sn]) (Nat.le_add_right _ _)
    refine X_while (fun i : Nat => xs.length - i) (fun i t s' => i ≤ xs.length ∧ Gr s s' ∧ s.nx + 3 ≤ s'.nx ∧ s'.h.get s.nx = some (.row true [.i .i64 d, .i .u8 k, .i .u64 src, v]) ∧ s'.h.get (s.nx + 1) = some (.row true [.i .i64 0, .i .u8 0, .i .u64 0, .sn]) ∧
      ev t (.t 2) = .p s.nx 0 ∧ ev t (.t 4) = .p (s.nx + 1) 0 ∧ ev t (.t 7) = .p (s.nx + 2) 0 ∧ ev t (.t 8) = .i .i64 i ∧
      ∃ u, s'.h.get (s.nx + 2) = some (.row true [.i .i64 day, .i .u8 k, .i .u64 src, u]) ∧ Own (s.nx + 3) s' 4 u (((xs.take i).map negM).map encL)) ?_ 0 _ _ ?_
    · rintro i t s' ⟨hi, hg, hn, he, he1, h2, h4, h7, h8, u, he2, hu⟩ ih
      simp only [push_cast, Bool.not_true, Bool.not_false, Nat.reduceAdd, Nat.reduceLT, Nat.reduceLeDiff, Nat.reduceBEq, Nat.reduceMul, Nat.reduceEqDiff, h2, h4, h7, h8, he, hlen]
      (first | (refine SC_casesN (fun h => ?_) (fun h => ?_) <;> simp only [push_cast, Bool.not_true, Bool.not_false, Nat.reduceAdd, Nat.reduceLT, Nat.reduceLeDiff, Nat.reduceBEq, Nat.reduceMul, Nat.reduceEqDiff, h, h2, h4, h7, h8, he, hlen]) | (refine SC_cases (fun h => ?_) (fun h => ?_) <;> simp only [push_cast, Bool.not_true, Bool.not_false, Nat.reduceAdd, Nat.reduceLT, Nat.reduceLeDiff, Nat.reduceBEq, Nat.reduceMul, Nat.reduceEqDiff, h, h2, h4, h7, h8, he, hlen]) | (refine SG_casesN (fun h => ?_) (fun h => ?_) <;> simp only [push_cast, Bool.not_true, Bool.not_false, Nat.reduceAdd, Nat.reduceLT, Nat.reduceLeDiff, Nat.reduceBEq, Nat.reduceMul, Nat.reduceEqDiff, h, h2, h4, h7, h8, he, hlen]) | (refine SG_cases (fun h => ?_) (fun h => ?_) <;> simp only [push_cast, Bool.not_true, Bool.not_false, Nat.reduceAdd, Nat.reduceLT, Nat.reduceLeDiff, Nat.reduceBEq, Nat.reduceMul, Nat.reduceEqDiff, h, h2, h4, h7, h8, he, hlen]) | (refine DG_casesN (fun h => ?_) (fun h => ?_) <;> simp only [push_cast, Bool.not_true, Bool.not_false, Nat.reduceAdd, Nat.reduceLT, Nat.reduceLeDiff, Nat.reduceBEq, Nat.reduceMul, Nat.reduceEqDiff, h, h2, h4, h7, h8, he, hlen]) | (refine DG_cases (fun h => ?_) (fun h => ?_) <;> simp only [push_cast, Bool.not_true, Bool.not_false, Nat.reduceAdd, Nat.reduceLT, Nat.reduceLeDiff, Nat.reduceBEq, Nat.reduceMul, Nat.reduceEqDiff, h, h2, h4, h7, h8, he, hlen]))
      · have hi' : i < xs.length := by simpa using h
        obtain ⟨w0, cs, hb, hbn, hc'⟩ := hrow i hi'
        rw [← hg.old _ hbn] at hb
        have hlt : s.nx + 2 < s'.nx := by omega
        simp only [push_cast, Bool.not_true, Bool.not_false, Nat.reduceAdd, Nat.reduceLT, Nat.reduceLeDiff, Nat.reduceBEq, Nat.reduceMul, Nat.reduceEqDiff, h2, h4, h7, h8, he, hlen, hiad i hi', hb, hc', encL, he2, ne_at hlt]
        have := posL_len xs
        refine SS_push (s.nx + 3) _ ((((hg.new _).write _ hg.nx).write _ hg.nx)) (((hu.new _).write _ (hu.fresh (Nat.le_refl _))).write _ (hu.fresh (Nat.le_refl _))) rfl rfl (by simp only [List.length_map, List.length_take]; exact most_of (by omega) (by omega)) (by omega) (by show _ ≤ s'.nx + 1; omega) (fun u' s2 o hg2 n f g q => ?_)
        replace n : s'.nx + 1 ≤ s2.nx := n
        have f1 : ∀ q, q < s.nx + 3 → s2.h.get q = s'.h.get q := fun q hq => by rw [f q hq, get_write, if_neg (by omega), get_write, if_neg (by omega), get_new, if_neg (by omega)]
        simp only [push_cast, Bool.not_true, Bool.not_false, Nat.reduceAdd, Nat.reduceLT, Nat.reduceLeDiff, Nat.reduceBEq, Nat.reduceMul, Nat.reduceEqDiff, h7, h8, f1 (s.nx + 2) (by omega), he2, o.one, cells_one o.one]
        refine ih (i + 1) _ _ (by omega) ⟨hi', hg2.write _ (by omega), (by show _ ≤ s2.nx; omega), ?_, ?_, ?_, ?_, ?_, ?_, u', by rw [get_write, if_pos rfl], ?_⟩
        · rw [get_write, if_neg (by omega), f1 _ (by omega)]; exact he
        · rw [get_write, if_neg (by omega), f1 _ (by omega)]; exact he1
        · simp only [push_cast, Bool.not_true, Bool.not_false, Nat.reduceAdd, Nat.reduceLT, Nat.reduceLeDiff, Nat.reduceBEq, Nat.reduceMul, Nat.reduceEqDiff, h2]
        · simp only [push_cast, Bool.not_true, Bool.not_false, Nat.reduceAdd, Nat.reduceLT, Nat.reduceLeDiff, Nat.reduceBEq, Nat.reduceMul, Nat.reduceEqDiff, h4]
        · simp only [push_cast, Bool.not_true, Bool.not_false, Nat.reduceAdd, Nat.reduceLT, Nat.reduceLeDiff, Nat.reduceBEq, Nat.reduceMul, Nat.reduceEqDiff, h7]
        · simp only [push_cast, Bool.not_true, Bool.not_false, Nat.reduceAdd, Nat.reduceLT, Nat.reduceLeDiff, Nat.reduceBEq, Nat.reduceMul, Nat.reduceEqDiff]; rw [wrap_i64 (by omega) (by omega)]
        · refine Own.write ?_ _ (o.elder (by omega))
          rw [take_succ' hi', List.map_append, List.map_append]; exact o
      · have hi' : i = xs.length := by simp at h; omega
        subst hi'
        simp only [push_cast, Bool.not_true, Bool.not_false, Nat.reduceAdd, Nat.reduceLT, Nat.reduceLeDiff, Nat.reduceBEq, Nat.reduceMul, Nat.reduceEqDiff, h2, h4, h7, he2, he1, hu.one, cells_one hu.one]
        rw [List.take_length] at hu
        have hg' := hg.write (k := s.nx + 1) (.row true [.i .i64 day, .i .u8 k, .i .u64 src, u]) (Nat.le_succ _)
        have hu'' := hu.write (k := s.nx + 1) (.row true [.i .i64 day, .i .u8 k, .i .u64 src, u]) (hu.elder (by omega))
        refine ⟨hg', fun lo => ?_, fun ho => ?_⟩
        · unfold TurnP; rw [if_pos hz, if_neg hday]
          exact ⟨u, rfl, hu''.sl⟩
        · unfold TurnP; rw [if_pos hz, if_neg hday]
          refine ⟨u, rfl, ((hu''.low (lo' := s.nx) (by omega)).old (s' := s) ?_).sl⟩
          simpa [AV.old, AV.olds] using ho
    · exact ⟨Nat.zero_le _, g0, Nat.le_refl _, by simp only [push_cast, Bool.not_true, Bool.not_false, Nat.reduceAdd, Nat.reduceLT, Nat.reduceLeDiff, Nat.reduceBEq, Nat.reduceMul, Nat.reduceEqDiff], by simp only [push_cast, Bool.not_true, Bool.not_false, Nat.reduceAdd, Nat.reduceLT, Nat.reduceLeDiff, Nat.reduceBEq, Nat.reduceMul, Nat.reduceEqDiff], by simp only [push_cast, Bool.not_true, Bool.not_false, Nat.reduceAdd, Nat.reduceLT, Nat.reduceLeDiff, Nat.reduceBEq, Nat.reduceMul, Nat.reduceEqDiff], by simp only [push_cast, Bool.not_true, Bool.not_false, Nat.reduceAdd, Nat.reduceLT, Nat.reduceLeDiff, Nat.reduceBEq, Nat.reduceMul, Nat.reduceEqDiff], by simp only [push_cast, Bool.not_true, Bool.not_false, Nat.reduceAdd, Nat.reduceLT, Nat.reduceLeDiff, Nat.reduceBEq, Nat.reduceMul, Nat.reduceEqDiff], by simp only [push_cast, Bool.not_true, Bool.not_false, Nat.reduceAdd, Nat.reduceLT, Nat.reduceLeDiff, Nat.reduceBEq, Nat.reduceMul, Nat.reduceEqDiff] <;> rfl, .sn, by simp only [push_cast, Bool.not_true, Bool.not_false, Nat.reduceAdd, Nat.reduceLT, Nat.reduceLeDiff, Nat.reduceBEq, Nat.reduceMul, Nat.reduceEqDiff], Own.nil _ _ _⟩
  · simp only [decide_eq_true_eq] at h
    have g := (((Gr.start s).new (.row true [.i .i64 d, .i .u8 k, .i .u64 src, v])).new (.row true [.i .i64 0, .i .u8 0, .i .u64 0, .sn])).write (k := s.nx + 1) (.row true [.i .i64 0, .i .u8 0, .i .u64 0, .sn]) (Nat.le_succ _)
    refine ⟨g, ?_, ?_⟩ <;> intros <;> (unfold TurnP; rw [if_pos hz, if_pos (by omega)]; rfl)

end Go.AMJ
