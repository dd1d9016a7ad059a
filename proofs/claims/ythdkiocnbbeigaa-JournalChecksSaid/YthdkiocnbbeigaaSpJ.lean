/- A chart of the standard accounts, and some more. -/
import Derived.Test.YthdkiocnbbeigaaSpI
namespace Go.AMJ
open Go Go.AM
set_option linter.unusedSimpArgs false
set_option linter.unusedVariables false

theorem WA_nil : WA [] := ⟨List.nodup_nil, fun a h => (nomatch h), fun a h => (nomatch h), fun _ => 0, fun a h => (nomatch h), fun a h => (nomatch h), fun a h => (nomatch h)⟩

theorem new20_spec (s : AS) : Ca tab.get smJ (.fn 20 []) [] s (fun v s' _ => Grc s s' ∧ v = .p (s.nx + 1) 0 ∧ Ch s' (s.nx + 1) s.nx []) := by
  refine Ca_grow rfl (show tab.get 20 = some af20 from rfl) rfl ?_
  simp only [push_cast, Bool.not_true, Bool.not_false, Int.reduceBEq, Int.reduceLT, Int.reduceLE, decide_true, decide_false, Nat.reduceAdd, Nat.reduceLT, Nat.reduceLeDiff, Nat.reduceBEq, Nat.reduceMul, Nat.reduceEqDiff, af20]
  refine ⟨((Gr.start s).new _).new _, fun lo => ⟨by trivial, ⟨?_, ?_, ?_, ?_, by omega⟩⟩, fun ho => ?_⟩
  · show (AS.h _).get (s.nx + 1) = _
    simp only [push_cast, Bool.not_true, Bool.not_false, Int.reduceBEq, Int.reduceLT, Int.reduceLE, decide_true, decide_false, Nat.reduceAdd, Nat.reduceLT, Nat.reduceLeDiff, Nat.reduceBEq, Nat.reduceMul, Nat.reduceEqDiff]
  · show (AS.h _).get s.nx = _
    simp only [push_cast, Bool.not_true, Bool.not_false, Int.reduceBEq, Int.reduceLT, Int.reduceLE, decide_true, decide_false, Nat.reduceAdd, Nat.reduceLT, Nat.reduceLeDiff, Nat.reduceBEq, Nat.reduceMul, Nat.reduceEqDiff]
  · show s.nx + 1 < s.nx + 2; omega
  · show s.nx < s.nx + 2; omega
  · simp only [AV.old, Nat.blt_eq] at ho; omega

def std : List Acc := [⟨1100, 0, 1, [67, 97, 115, 104], false⟩, ⟨1200, 0, 1, [82, 101, 99, 101, 105, 118, 97, 98, 108, 101], false⟩, ⟨2100, 0, 2, [68, 101, 102, 101, 114, 114, 101, 100], false⟩, ⟨2200, 0, 2, [85, 110, 97, 112, 112, 108, 105, 101, 100], false⟩, ⟨3100, 0, 3, [82, 101, 118, 101, 110, 117, 101], false⟩, ⟨4100, 0, 4, [76, 111, 115, 116], false⟩]

theorem encA_all (xs : List Acc) : ∀ x ∈ xs.map encA, x.length = 5 ∧ x.all AV.one = true := by
  intro x hx; obtain ⟨y, _, rfl⟩ := List.mem_map.1 hx; exact ⟨rfl, rfl⟩

theorem std21_spec (s : AS) : Ca tab.get smJ (.fn 21 []) [] s (fun v s' _ => Grc s s' ∧ Own s.nx s' 5 v (std.map encA)) := by
  refine Ca_grow rfl (show tab.get 21 = some af21 from rfl) rfl ?_
  simp only [push_cast, Bool.not_true, Bool.not_false, Int.reduceBEq, Int.reduceLT, Int.reduceLE, decide_true, decide_false, Nat.reduceAdd, Nat.reduceLT, Nat.reduceLeDiff, Nat.reduceBEq, Nat.reduceMul, Nat.reduceEqDiff, af21]
  have o : Own s.nx ((⟨s.h, s.nx, s.nx⟩ : AS).new (.row true (std.map encA).flatten)) 5 (.sl s.nx 0 5 6 6 true) (std.map encA) := ⟨encA_all _, .inr ⟨s.nx, true, rfl, get_new_at _ _, Nat.le_refl _, Nat.lt_succ_self _⟩⟩
  exact ⟨(Gr.start s).new _, fun lo => o, fun ho => o.old ho⟩

theorem Grw.gr {k : Nat} {s0 s s' : AS} (h : Gr s0 s) (c : Grw k s s') (hk : s0.nx ≤ k) : Gr s0 s' := h.wr c hk

set_option maxHeartbeats 2000000 in
theorem standard5_spec (s : AS) (v : AV) (more : List Acc) (hs : Sl s 5 v (more.map encA)) (hl : more.length ≤ 10) :
    Ca tab.get smJ (.fn 5 []) [v] s (fun v' s' _ => Grc s s' ∧ ∃ p mb L, v' = .p p 0 ∧ s.nx ≤ p ∧ s.nx ≤ mb ∧ Ch s' p mb L ∧ WA L ∧ L.length ≤ 6 + more.length) := by
  refine Ca_grow rfl (show tab.get 5 = some af5 from rfl) rfl ?_
  have mlen := hs.len
  have miad := fun i (hi : i < more.length) => hs.iad (i := i) (by simpa using hi)
  have mrow := fun i (hi : i < more.length) => hs.row (i := i) (by simpa using hi)
  simp only [List.length_map, List.getElem_map] at mlen mrow
  simp only [push_cast, Bool.not_true, Bool.not_false, Int.reduceBEq, Int.reduceLT, Int.reduceLE, decide_true, decide_false, Nat.reduceAdd, Nat.reduceLT, Nat.reduceLeDiff, Nat.reduceBEq, Nat.reduceMul, Nat.reduceEqDiff, af5]
  refine SK_ca (new20_spec _) (fun v1 s1 _ ⟨c1, e1, h1⟩ => ?_)
  subst e1
  have g1 := (Gr.start s).call c1
  replace h1 : Ch s1 (s.nx + 1) s.nx [] := h1
  simp only [push_cast, Bool.not_true, Bool.not_false, Int.reduceBEq, Int.reduceLT, Int.reduceLE, decide_true, decide_false, Nat.reduceAdd, Nat.reduceLT, Nat.reduceLeDiff, Nat.reduceBEq, Nat.reduceMul, Nat.reduceEqDiff]
  refine SK_ca (std21_spec _) (fun u s2 _ ⟨c2, o2⟩ => ?_)
  have g2 := g1.call c2
  have h2 := h1.grc c2
  have l1 := h1.lp
  have slen := o2.sl.len
  have siad := fun i (hi : i < std.length) => o2.sl.iad (i := i) (by simpa using hi)
  simp only [List.length_map] at slen
  have ub : s.nx + 2 ≤ slB u := by
    rcases o2.lt with h | h
    · obtain ⟨_, h3 | ⟨b, ex, h3, _⟩⟩ := o2
      · simp [std] at h3
      · rw [h] at h3; cases h3
    · omega
  have sl6 : std.length = 6 := rfl
  simp only [push_cast, Bool.not_true, Bool.not_false, Int.reduceBEq, Int.reduceLT, Int.reduceLE, decide_true, decide_false, Nat.reduceAdd, Nat.reduceLT, Nat.reduceLeDiff, Nat.reduceBEq, Nat.reduceMul, Nat.reduceEqDiff, slen]
  refine X_while (fun i : Nat => std.length - i) (fun i t s' => i ≤ std.length ∧ Gr s s' ∧ s2.nx ≤ s'.nx ∧ s'.h.get (slB u) = s2.h.get (slB u) ∧ ev t (.t 0) = v ∧ ev t (.t 3) = .p (s.nx + 1) 0 ∧ ev t (.t 4) = u ∧ ev t (.t 5) = .i .i64 i ∧
    ∃ L, Ch s' (s.nx + 1) s.nx L ∧ WA L ∧ L.length ≤ i) ?_ 0 _ _ ?_
  · rintro i t s' ⟨hi, hg, hn, hu, h0, h3, h4, h5, L, hC, hw, hL⟩ ih
    have o3 := o2.sl.same hn hu
    simp only [push_cast, Bool.not_true, Bool.not_false, Int.reduceBEq, Int.reduceLT, Int.reduceLE, decide_true, decide_false, Nat.reduceAdd, Nat.reduceLT, Nat.reduceLeDiff, Nat.reduceBEq, Nat.reduceMul, Nat.reduceEqDiff, h0, h3, h4, h5, slen]
    (first | (refine SC_casesN (fun h => ?_) (fun h => ?_) <;> simp only [push_cast, Bool.not_true, Bool.not_false, Int.reduceBEq, Int.reduceLT, Int.reduceLE, decide_true, decide_false, Nat.reduceAdd, Nat.reduceLT, Nat.reduceLeDiff, Nat.reduceBEq, Nat.reduceMul, Nat.reduceEqDiff, h, h0, h3, h4, h5, slen]) | (refine SC_cases (fun h => ?_) (fun h => ?_) <;> simp only [push_cast, Bool.not_true, Bool.not_false, Int.reduceBEq, Int.reduceLT, Int.reduceLE, decide_true, decide_false, Nat.reduceAdd, Nat.reduceLT, Nat.reduceLeDiff, Nat.reduceBEq, Nat.reduceMul, Nat.reduceEqDiff, h, h0, h3, h4, h5, slen]) | (refine SG_casesN (fun h => ?_) (fun h => ?_) <;> simp only [push_cast, Bool.not_true, Bool.not_false, Int.reduceBEq, Int.reduceLT, Int.reduceLE, decide_true, decide_false, Nat.reduceAdd, Nat.reduceLT, Nat.reduceLeDiff, Nat.reduceBEq, Nat.reduceMul, Nat.reduceEqDiff, h, h0, h3, h4, h5, slen]) | (refine SG_cases (fun h => ?_) (fun h => ?_) <;> simp only [push_cast, Bool.not_true, Bool.not_false, Int.reduceBEq, Int.reduceLT, Int.reduceLE, decide_true, decide_false, Nat.reduceAdd, Nat.reduceLT, Nat.reduceLeDiff, Nat.reduceBEq, Nat.reduceMul, Nat.reduceEqDiff, h, h0, h3, h4, h5, slen]) | (refine DG_casesN (fun h => ?_) (fun h => ?_) <;> simp only [push_cast, Bool.not_true, Bool.not_false, Int.reduceBEq, Int.reduceLT, Int.reduceLE, decide_true, decide_false, Nat.reduceAdd, Nat.reduceLT, Nat.reduceLeDiff, Nat.reduceBEq, Nat.reduceMul, Nat.reduceEqDiff, h, h0, h3, h4, h5, slen]) | (refine DG_cases (fun h => ?_) (fun h => ?_) <;> simp only [push_cast, Bool.not_true, Bool.not_false, Int.reduceBEq, Int.reduceLT, Int.reduceLE, decide_true, decide_false, Nat.reduceAdd, Nat.reduceLT, Nat.reduceLeDiff, Nat.reduceBEq, Nat.reduceMul, Nat.reduceEqDiff, h, h0, h3, h4, h5, slen]))
    · have hi' : i < std.length := by
        have := of_decide_eq_true h; rw [sl6]; omega
      obtain ⟨w0, cs, hb, hbn, hc⟩ := o3.row (i := i) (by simpa using hi')
      rw [List.getElem_map] at hc
      simp only [push_cast, Bool.not_true, Bool.not_false, Int.reduceBEq, Int.reduceLT, Int.reduceLE, decide_true, decide_false, Nat.reduceAdd, Nat.reduceLT, Nat.reduceLeDiff, Nat.reduceBEq, Nat.reduceMul, Nat.reduceEqDiff, h0, h3, h4, h5, siad i hi', hb, hc]
      refine SK_ca (add22_spec _ _ _ L hC hw std[i]) (fun v2 s3 _ ⟨c3, _, L', hC', hw', hL'⟩ => ?_)
      simp only [push_cast, Bool.not_true, Bool.not_false, Int.reduceBEq, Int.reduceLT, Int.reduceLE, decide_true, decide_false, Nat.reduceAdd, Nat.reduceLT, Nat.reduceLeDiff, Nat.reduceBEq, Nat.reduceMul, Nat.reduceEqDiff, h5]
      refine ih (i + 1) _ _ (by omega) ⟨hi', hg.wr c3 (Nat.le_refl _), Nat.le_trans hn c3.nx, (c3.old _ hbn (by omega)).trans hu, ?_, ?_, ?_, ?_, L', hC', hw', by omega⟩
      · simp only [push_cast, Bool.not_true, Bool.not_false, Int.reduceBEq, Int.reduceLT, Int.reduceLE, decide_true, decide_false, Nat.reduceAdd, Nat.reduceLT, Nat.reduceLeDiff, Nat.reduceBEq, Nat.reduceMul, Nat.reduceEqDiff, h0]
      · simp only [push_cast, Bool.not_true, Bool.not_false, Int.reduceBEq, Int.reduceLT, Int.reduceLE, decide_true, decide_false, Nat.reduceAdd, Nat.reduceLT, Nat.reduceLeDiff, Nat.reduceBEq, Nat.reduceMul, Nat.reduceEqDiff, h3]
      · simp only [push_cast, Bool.not_true, Bool.not_false, Int.reduceBEq, Int.reduceLT, Int.reduceLE, decide_true, decide_false, Nat.reduceAdd, Nat.reduceLT, Nat.reduceLeDiff, Nat.reduceBEq, Nat.reduceMul, Nat.reduceEqDiff, h4]
      · simp only [push_cast, Bool.not_true, Bool.not_false, Int.reduceBEq, Int.reduceLT, Int.reduceLE, decide_true, decide_false, Nat.reduceAdd, Nat.reduceLT, Nat.reduceLeDiff, Nat.reduceBEq, Nat.reduceMul, Nat.reduceEqDiff]; rw [wrap_i64 (by omega) (by omega)]
    · have hi' : i = std.length := by
        have := of_decide_eq_false h; rw [sl6] at *; omega
      refine X_while (fun i : Nat => more.length - i) (fun i t s' => i ≤ more.length ∧ Gr s s' ∧ ev t (.t 0) = v ∧ ev t (.t 3) = .p (s.nx + 1) 0 ∧ ev t (.t 6) = .i .i64 i ∧
        ∃ L, Ch s' (s.nx + 1) s.nx L ∧ WA L ∧ L.length ≤ 6 + i) ?_ 0 _ _ ?_
      · clear ih
        rintro i t s' ⟨hi, hg, h0, h3, h6, L, hC, hw, hL⟩ ih
        simp only [push_cast, Bool.not_true, Bool.not_false, Int.reduceBEq, Int.reduceLT, Int.reduceLE, decide_true, decide_false, Nat.reduceAdd, Nat.reduceLT, Nat.reduceLeDiff, Nat.reduceBEq, Nat.reduceMul, Nat.reduceEqDiff, h0, h3, h6, mlen]
        (first | (refine SC_casesN (fun h => ?_) (fun h => ?_) <;> simp only [push_cast, Bool.not_true, Bool.not_false, Int.reduceBEq, Int.reduceLT, Int.reduceLE, decide_true, decide_false, Nat.reduceAdd, Nat.reduceLT, Nat.reduceLeDiff, Nat.reduceBEq, Nat.reduceMul, Nat.reduceEqDiff, h, h0, h3, h6, mlen]) | (refine SC_cases (fun h => ?_) (fun h => ?_) <;> simp only [push_cast, Bool.not_true, Bool.not_false, Int.reduceBEq, Int.reduceLT, Int.reduceLE, decide_true, decide_false, Nat.reduceAdd, Nat.reduceLT, Nat.reduceLeDiff, Nat.reduceBEq, Nat.reduceMul, Nat.reduceEqDiff, h, h0, h3, h6, mlen]) | (refine SG_casesN (fun h => ?_) (fun h => ?_) <;> simp only [push_cast, Bool.not_true, Bool.not_false, Int.reduceBEq, Int.reduceLT, Int.reduceLE, decide_true, decide_false, Nat.reduceAdd, Nat.reduceLT, Nat.reduceLeDiff, Nat.reduceBEq, Nat.reduceMul, Nat.reduceEqDiff, h, h0, h3, h6, mlen]) | (refine SG_cases (fun h => ?_) (fun h => ?_) <;> simp only [push_cast, Bool.not_true, Bool.not_false, Int.reduceBEq, Int.reduceLT, Int.reduceLE, decide_true, decide_false, Nat.reduceAdd, Nat.reduceLT, Nat.reduceLeDiff, Nat.reduceBEq, Nat.reduceMul, Nat.reduceEqDiff, h, h0, h3, h6, mlen]) | (refine DG_casesN (fun h => ?_) (fun h => ?_) <;> simp only [push_cast, Bool.not_true, Bool.not_false, Int.reduceBEq, Int.reduceLT, Int.reduceLE, decide_true, decide_false, Nat.reduceAdd, Nat.reduceLT, Nat.reduceLeDiff, Nat.reduceBEq, Nat.reduceMul, Nat.reduceEqDiff, h, h0, h3, h6, mlen]) | (refine DG_cases (fun h => ?_) (fun h => ?_) <;> simp only [push_cast, Bool.not_true, Bool.not_false, Int.reduceBEq, Int.reduceLT, Int.reduceLE, decide_true, decide_false, Nat.reduceAdd, Nat.reduceLT, Nat.reduceLeDiff, Nat.reduceBEq, Nat.reduceMul, Nat.reduceEqDiff, h, h0, h3, h6, mlen]))
        · have hi' : i < more.length := by simpa using h
          obtain ⟨w0, cs, hb, hbn, hc⟩ := mrow i hi'
          rw [← hg.old _ hbn] at hb
          have hc3 : cs[slO v + i * 5 + 3]? = some (.s more[i].name) := cut_at hc (show 3 < 5 by omega)
          simp only [push_cast, Bool.not_true, Bool.not_false, Int.reduceBEq, Int.reduceLT, Int.reduceLE, decide_true, decide_false, Nat.reduceAdd, Nat.reduceLT, Nat.reduceLeDiff, Nat.reduceBEq, Nat.reduceMul, Nat.reduceEqDiff, h0, h3, h6, miad i hi', hb, hc3]
          (first | (refine SC_casesN (fun h => ?_) (fun h => ?_) <;> simp only [push_cast, Bool.not_true, Bool.not_false, Int.reduceBEq, Int.reduceLT, Int.reduceLE, decide_true, decide_false, Nat.reduceAdd, Nat.reduceLT, Nat.reduceLeDiff, Nat.reduceBEq, Nat.reduceMul, Nat.reduceEqDiff, h, h0, h3, h6, miad i hi', hb, hc]) | (refine SC_cases (fun h => ?_) (fun h => ?_) <;> simp only [push_cast, Bool.not_true, Bool.not_false, Int.reduceBEq, Int.reduceLT, Int.reduceLE, decide_true, decide_false, Nat.reduceAdd, Nat.reduceLT, Nat.reduceLeDiff, Nat.reduceBEq, Nat.reduceMul, Nat.reduceEqDiff, h, h0, h3, h6, miad i hi', hb, hc]) | (refine SG_casesN (fun h => ?_) (fun h => ?_) <;> simp only [push_cast, Bool.not_true, Bool.not_false, Int.reduceBEq, Int.reduceLT, Int.reduceLE, decide_true, decide_false, Nat.reduceAdd, Nat.reduceLT, Nat.reduceLeDiff, Nat.reduceBEq, Nat.reduceMul, Nat.reduceEqDiff, h, h0, h3, h6, miad i hi', hb, hc]) | (refine SG_cases (fun h => ?_) (fun h => ?_) <;> simp only [push_cast, Bool.not_true, Bool.not_false, Int.reduceBEq, Int.reduceLT, Int.reduceLE, decide_true, decide_false, Nat.reduceAdd, Nat.reduceLT, Nat.reduceLeDiff, Nat.reduceBEq, Nat.reduceMul, Nat.reduceEqDiff, h, h0, h3, h6, miad i hi', hb, hc]) | (refine DG_casesN (fun h => ?_) (fun h => ?_) <;> simp only [push_cast, Bool.not_true, Bool.not_false, Int.reduceBEq, Int.reduceLT, Int.reduceLE, decide_true, decide_false, Nat.reduceAdd, Nat.reduceLT, Nat.reduceLeDiff, Nat.reduceBEq, Nat.reduceMul, Nat.reduceEqDiff, h, h0, h3, h6, miad i hi', hb, hc]) | (refine DG_cases (fun h => ?_) (fun h => ?_) <;> simp only [push_cast, Bool.not_true, Bool.not_false, Int.reduceBEq, Int.reduceLT, Int.reduceLE, decide_true, decide_false, Nat.reduceAdd, Nat.reduceLT, Nat.reduceLeDiff, Nat.reduceBEq, Nat.reduceMul, Nat.reduceEqDiff, h, h0, h3, h6, miad i hi', hb, hc]))
          · refine SK_ca (add22_spec _ _ _ L hC hw more[i]) (fun v2 s3 _ ⟨c3, _, L', hC', hw', hL'⟩ => ?_)
            simp only [push_cast, Bool.not_true, Bool.not_false, Int.reduceBEq, Int.reduceLT, Int.reduceLE, decide_true, decide_false, Nat.reduceAdd, Nat.reduceLT, Nat.reduceLeDiff, Nat.reduceBEq, Nat.reduceMul, Nat.reduceEqDiff, h6]
            refine ih (i + 1) _ _ (by omega) ⟨hi', hg.wr c3 (Nat.le_refl _), ?_, ?_, ?_, L', hC', hw', by omega⟩
            · simp only [push_cast, Bool.not_true, Bool.not_false, Int.reduceBEq, Int.reduceLT, Int.reduceLE, decide_true, decide_false, Nat.reduceAdd, Nat.reduceLT, Nat.reduceLeDiff, Nat.reduceBEq, Nat.reduceMul, Nat.reduceEqDiff, h0]
            · simp only [push_cast, Bool.not_true, Bool.not_false, Int.reduceBEq, Int.reduceLT, Int.reduceLE, decide_true, decide_false, Nat.reduceAdd, Nat.reduceLT, Nat.reduceLeDiff, Nat.reduceBEq, Nat.reduceMul, Nat.reduceEqDiff, h3]
            · simp only [push_cast, Bool.not_true, Bool.not_false, Int.reduceBEq, Int.reduceLT, Int.reduceLE, decide_true, decide_false, Nat.reduceAdd, Nat.reduceLT, Nat.reduceLeDiff, Nat.reduceBEq, Nat.reduceMul, Nat.reduceEqDiff]; rw [wrap_i64 (by omega) (by omega)]
          · refine ih (i + 1) _ _ (by omega) ⟨hi', hg, ?_, ?_, ?_, L, hC, hw, by omega⟩
            · simp only [push_cast, Bool.not_true, Bool.not_false, Int.reduceBEq, Int.reduceLT, Int.reduceLE, decide_true, decide_false, Nat.reduceAdd, Nat.reduceLT, Nat.reduceLeDiff, Nat.reduceBEq, Nat.reduceMul, Nat.reduceEqDiff, h0]
            · simp only [push_cast, Bool.not_true, Bool.not_false, Int.reduceBEq, Int.reduceLT, Int.reduceLE, decide_true, decide_false, Nat.reduceAdd, Nat.reduceLT, Nat.reduceLeDiff, Nat.reduceBEq, Nat.reduceMul, Nat.reduceEqDiff, h3]
            · simp only [push_cast, Bool.not_true, Bool.not_false, Int.reduceBEq, Int.reduceLT, Int.reduceLE, decide_true, decide_false, Nat.reduceAdd, Nat.reduceLT, Nat.reduceLeDiff, Nat.reduceBEq, Nat.reduceMul, Nat.reduceEqDiff, h6]; rw [wrap_i64 (by omega) (by omega)]
        · refine ⟨hg, fun lo => ⟨s.nx + 1, s.nx, L, rfl, by omega, Nat.le_refl _, ⟨hC.hp, hC.hm, hC.lp, hC.lm, hC.ne⟩, hw, by omega⟩, fun ho => ?_⟩
          simp only [AV.old, Nat.blt_eq] at ho; omega
      · exact ⟨Nat.zero_le _, hg, by simp only [push_cast, Bool.not_true, Bool.not_false, Int.reduceBEq, Int.reduceLT, Int.reduceLE, decide_true, decide_false, Nat.reduceAdd, Nat.reduceLT, Nat.reduceLeDiff, Nat.reduceBEq, Nat.reduceMul, Nat.reduceEqDiff, h0], by simp only [push_cast, Bool.not_true, Bool.not_false, Int.reduceBEq, Int.reduceLT, Int.reduceLE, decide_true, decide_false, Nat.reduceAdd, Nat.reduceLT, Nat.reduceLeDiff, Nat.reduceBEq, Nat.reduceMul, Nat.reduceEqDiff, h3], by simp only [push_cast, Bool.not_true, Bool.not_false, Int.reduceBEq, Int.reduceLT, Int.reduceLE, decide_true, decide_false, Nat.reduceAdd, Nat.reduceLT, Nat.reduceLeDiff, Nat.reduceBEq, Nat.reduceMul, Nat.reduceEqDiff] <;> rfl, L, hC, hw, by omega⟩
  · exact ⟨Nat.zero_le _, g2, Nat.le_refl _, rfl, by simp only [push_cast, Bool.not_true, Bool.not_false, Int.reduceBEq, Int.reduceLT, Int.reduceLE, decide_true, decide_false, Nat.reduceAdd, Nat.reduceLT, Nat.reduceLeDiff, Nat.reduceBEq, Nat.reduceMul, Nat.reduceEqDiff], by simp only [push_cast, Bool.not_true, Bool.not_false, Int.reduceBEq, Int.reduceLT, Int.reduceLE, decide_true, decide_false, Nat.reduceAdd, Nat.reduceLT, Nat.reduceLeDiff, Nat.reduceBEq, Nat.reduceMul, Nat.reduceEqDiff], by simp only [push_cast, Bool.not_true, Bool.not_false, Int.reduceBEq, Int.reduceLT, Int.reduceLE, decide_true, decide_false, Nat.reduceAdd, Nat.reduceLT, Nat.reduceLeDiff, Nat.reduceBEq, Nat.reduceMul, Nat.reduceEqDiff], by simp only [push_cast, Bool.not_true, Bool.not_false, Int.reduceBEq, Int.reduceLT, Int.reduceLE, decide_true, decide_false, Nat.reduceAdd, Nat.reduceLT, Nat.reduceLeDiff, Nat.reduceBEq, Nat.reduceMul, Nat.reduceEqDiff] <;> rfl, [], h2, WA_nil, Nat.le_refl _⟩

end Go.AMJ
