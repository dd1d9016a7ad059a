/- Shut, All; the standard chart. -/
import Derived.Test.YthdkiocnbbeigaaSpH
namespace Go.AMJ
open Go Go.AM
set_option linter.unusedSimpArgs false
set_option linter.unusedVariables false

theorem eq_bb (x y : Bool) : binV .eql (.plain .b) (.b x) (.b y) = some (.b (x == y)) := rfl

set_option maxHeartbeats 4000000 in
theorem shut6_spec (s : AS) (p mb : Nat) (L : List Acc) (hC : Ch s p mb L) (hw : WA L) (hl : L.length ≤ 17) (c : Int) :
    Ca tab.get smJ (.fn 6 []) [.p p 0, .i .i64 c] s (fun v s' _ => Grw mb s s' ∧ AddP p mb L v s') := by
  refine Ca_wr mb rfl (show tab.get 6 = some af6 from rfl) rfl ?_
  have keep : ∀ (s' : AS) (n : Int), Gr s s' → (∀ lo, AddP p mb L (.i .i64 n) ⟨s'.h, s'.nx, lo⟩) ∧ ((Gr s s' ∧ ((AV.i .i64 n).old s.nx = true → AddP p mb L (.i .i64 n) s)) ∨ Grx mb s s') := fun s' n g => by
    have h1 := hC.gr g
    refine ⟨fun lo => ⟨⟨n, rfl⟩, L, ⟨h1.hp, h1.hm, h1.lp, h1.lm, h1.ne⟩, hw, Nat.le_succ _⟩, .inl ⟨g, fun _ => ⟨⟨n, rfl⟩, L, hC, hw, Nat.le_succ _⟩⟩⟩
  simp only [push_cast, Bool.not_true, Bool.not_false, Int.reduceBEq, Int.reduceLT, Int.reduceLE, decide_true, decide_false, Nat.reduceAdd, Nat.reduceLT, Nat.reduceLeDiff, Nat.reduceBEq, Nat.reduceMul, Nat.reduceEqDiff, af6]
  rw [SK_re (get23_spec _ p mb L hC.start c)]
  unfold getR
  cases hf : findA c L with
  | none =>
    simp only [push_cast, Bool.not_true, Bool.not_false, Int.reduceBEq, Int.reduceLT, Int.reduceLE, decide_true, decide_false, Nat.reduceAdd, Nat.reduceLT, Nat.reduceLeDiff, Nat.reduceBEq, Nat.reduceMul, Nat.reduceEqDiff, zeroA]
    exact keep _ _ (((Gr.start s).new _).write _ (Nat.le_refl _))
  | some a =>
    obtain ⟨ha, hac⟩ := findA_some hf
    simp only [push_cast, Bool.not_true, Bool.not_false, Int.reduceBEq, Int.reduceLT, Int.reduceLE, decide_true, decide_false, Nat.reduceAdd, Nat.reduceLT, Nat.reduceLeDiff, Nat.reduceBEq, Nat.reduceMul, Nat.reduceEqDiff, encA]
    have g1 := ((Gr.start s).new (.row true [.i .i64 0, .i .i64 0, .i .u8 0, .s [], .b false])).write (k := s.nx) (.row true [.i .i64 a.code, .i .i64 a.up, .i .u8 a.cls, .s a.name, .b a.shut]) (Nat.le_refl _)
    refine SK_ca (under24_spec _ p mb L (hC.gr g1) hw hl c) (fun v s1 _ ⟨c1, ys, o1, y1, y2⟩ => ?_)
    have g2 := g1.call c1
    have h2 := hC.gr g2
    have e0 : s1.h.get s.nx = some (.row true [.i .i64 a.code, .i .i64 a.up, .i .u8 a.cls, .s a.name, .b a.shut]) := by rw [c1.old _ (by show _ < s.nx + 1; omega)]; simp only [push_cast, Bool.not_true, Bool.not_false, Int.reduceBEq, Int.reduceLT, Int.reduceLE, decide_true, decide_false, Nat.reduceAdd, Nat.reduceLT, Nat.reduceLeDiff, Nat.reduceBEq, Nat.reduceMul, Nat.reduceEqDiff]
    have hlen := o1.sl.len
    have hiad := fun i (hi : i < ys.length) => o1.sl.iad (i := i) (by simpa using hi)
    have hrow := fun i (hi : i < ys.length) => o1.sl.row1 hi
    simp only [List.length_map] at hlen
    have hn1 : s.nx < s1.nx := c1.nx
    simp only [push_cast, Bool.not_true, Bool.not_false, Int.reduceBEq, Int.reduceLT, Int.reduceLE, decide_true, decide_false, Nat.reduceAdd, Nat.reduceLT, Nat.reduceLeDiff, Nat.reduceBEq, Nat.reduceMul, Nat.reduceEqDiff, hlen]
    refine X_while (fun i : Nat => ys.length - i) (fun i t s' => i ≤ ys.length ∧ s' = s1 ∧ ev t (.t 0) = .p p 0 ∧ ev t (.t 1) = .i .i64 c ∧ ev t (.t 5) = .p s.nx 0 ∧ ev t (.t 20) = v ∧ ev t (.t 21) = .i .i64 ys.length ∧ ev t (.t 22) = .i .i64 i) ?_ 0 _ _ ?_
    · rintro i t s' ⟨hi, rfl, q0, q1, q5, q20, q21, q22⟩ ih
      simp only [push_cast, Bool.not_true, Bool.not_false, Int.reduceBEq, Int.reduceLT, Int.reduceLE, decide_true, decide_false, Nat.reduceAdd, Nat.reduceLT, Nat.reduceLeDiff, Nat.reduceBEq, Nat.reduceMul, Nat.reduceEqDiff, q0, q1, q5, q20, q21, q22]
      (first | (refine SC_casesN (fun h => ?_) (fun h => ?_) <;> simp only [push_cast, Bool.not_true, Bool.not_false, Int.reduceBEq, Int.reduceLT, Int.reduceLE, decide_true, decide_false, Nat.reduceAdd, Nat.reduceLT, Nat.reduceLeDiff, Nat.reduceBEq, Nat.reduceMul, Nat.reduceEqDiff, h, q0, q1, q5, q20, q21, q22]) | (refine SC_cases (fun h => ?_) (fun h => ?_) <;> simp only [push_cast, Bool.not_true, Bool.not_false, Int.reduceBEq, Int.reduceLT, Int.reduceLE, decide_true, decide_false, Nat.reduceAdd, Nat.reduceLT, Nat.reduceLeDiff, Nat.reduceBEq, Nat.reduceMul, Nat.reduceEqDiff, h, q0, q1, q5, q20, q21, q22]) | (refine SG_casesN (fun h => ?_) (fun h => ?_) <;> simp only [push_cast, Bool.not_true, Bool.not_false, Int.reduceBEq, Int.reduceLT, Int.reduceLE, decide_true, decide_false, Nat.reduceAdd, Nat.reduceLT, Nat.reduceLeDiff, Nat.reduceBEq, Nat.reduceMul, Nat.reduceEqDiff, h, q0, q1, q5, q20, q21, q22]) | (refine SG_cases (fun h => ?_) (fun h => ?_) <;> simp only [push_cast, Bool.not_true, Bool.not_false, Int.reduceBEq, Int.reduceLT, Int.reduceLE, decide_true, decide_false, Nat.reduceAdd, Nat.reduceLT, Nat.reduceLeDiff, Nat.reduceBEq, Nat.reduceMul, Nat.reduceEqDiff, h, q0, q1, q5, q20, q21, q22]) | (refine DG_casesN (fun h => ?_) (fun h => ?_) <;> simp only [push_cast, Bool.not_true, Bool.not_false, Int.reduceBEq, Int.reduceLT, Int.reduceLE, decide_true, decide_false, Nat.reduceAdd, Nat.reduceLT, Nat.reduceLeDiff, Nat.reduceBEq, Nat.reduceMul, Nat.reduceEqDiff, h, q0, q1, q5, q20, q21, q22]) | (refine DG_cases (fun h => ?_) (fun h => ?_) <;> simp only [push_cast, Bool.not_true, Bool.not_false, Int.reduceBEq, Int.reduceLT, Int.reduceLE, decide_true, decide_false, Nat.reduceAdd, Nat.reduceLT, Nat.reduceLeDiff, Nat.reduceBEq, Nat.reduceMul, Nat.reduceEqDiff, h, q0, q1, q5, q20, q21, q22]))
      · have hi' : i < ys.length := by simpa using h
        obtain ⟨w0, cs, hb, hbn, hcs⟩ := hrow i hi'
        simp only [push_cast, Bool.not_true, Bool.not_false, Int.reduceBEq, Int.reduceLT, Int.reduceLE, decide_true, decide_false, Nat.reduceAdd, Nat.reduceLT, Nat.reduceLeDiff, Nat.reduceBEq, Nat.reduceMul, Nat.reduceEqDiff, q0, q1, q5, q20, q21, q22, hiad i hi', hb, hcs, h2.hp, h2.hm]
        cases hk : findA ys[i] L with
        | none =>
          simp only [push_cast, Bool.not_true, Bool.not_false, Int.reduceBEq, Int.reduceLT, Int.reduceLE, decide_true, decide_false, Nat.reduceAdd, Nat.reduceLT, Nat.reduceLeDiff, Nat.reduceBEq, Nat.reduceMul, Nat.reduceEqDiff, hk, eq_bb]
          (first | (refine SC_casesN (fun h => ?_) (fun h => ?_) <;> simp only [push_cast, Bool.not_true, Bool.not_false, Int.reduceBEq, Int.reduceLT, Int.reduceLE, decide_true, decide_false, Nat.reduceAdd, Nat.reduceLT, Nat.reduceLeDiff, Nat.reduceBEq, Nat.reduceMul, Nat.reduceEqDiff, h, q22]) | (refine SC_cases (fun h => ?_) (fun h => ?_) <;> simp only [push_cast, Bool.not_true, Bool.not_false, Int.reduceBEq, Int.reduceLT, Int.reduceLE, decide_true, decide_false, Nat.reduceAdd, Nat.reduceLT, Nat.reduceLeDiff, Nat.reduceBEq, Nat.reduceMul, Nat.reduceEqDiff, h, q22]) | (refine SG_casesN (fun h => ?_) (fun h => ?_) <;> simp only [push_cast, Bool.not_true, Bool.not_false, Int.reduceBEq, Int.reduceLT, Int.reduceLE, decide_true, decide_false, Nat.reduceAdd, Nat.reduceLT, Nat.reduceLeDiff, Nat.reduceBEq, Nat.reduceMul, Nat.reduceEqDiff, h, q22]) | (refine SG_cases (fun h => ?_) (fun h => ?_) <;> simp only [push_cast, Bool.not_true, Bool.not_false, Int.reduceBEq, Int.reduceLT, Int.reduceLE, decide_true, decide_false, Nat.reduceAdd, Nat.reduceLT, Nat.reduceLeDiff, Nat.reduceBEq, Nat.reduceMul, Nat.reduceEqDiff, h, q22]) | (refine DG_casesN (fun h => ?_) (fun h => ?_) <;> simp only [push_cast, Bool.not_true, Bool.not_false, Int.reduceBEq, Int.reduceLT, Int.reduceLE, decide_true, decide_false, Nat.reduceAdd, Nat.reduceLT, Nat.reduceLeDiff, Nat.reduceBEq, Nat.reduceMul, Nat.reduceEqDiff, h, q22]) | (refine DG_cases (fun h => ?_) (fun h => ?_) <;> simp only [push_cast, Bool.not_true, Bool.not_false, Int.reduceBEq, Int.reduceLT, Int.reduceLE, decide_true, decide_false, Nat.reduceAdd, Nat.reduceLT, Nat.reduceLeDiff, Nat.reduceBEq, Nat.reduceMul, Nat.reduceEqDiff, h, q22]))
          · exact keep _ _ g2
          · refine ih (i + 1) _ _ (by omega) ⟨hi', rfl, ?_, ?_, ?_, ?_, ?_, ?_⟩
            · simp only [push_cast, Bool.not_true, Bool.not_false, Int.reduceBEq, Int.reduceLT, Int.reduceLE, decide_true, decide_false, Nat.reduceAdd, Nat.reduceLT, Nat.reduceLeDiff, Nat.reduceBEq, Nat.reduceMul, Nat.reduceEqDiff, q0]
            · simp only [push_cast, Bool.not_true, Bool.not_false, Int.reduceBEq, Int.reduceLT, Int.reduceLE, decide_true, decide_false, Nat.reduceAdd, Nat.reduceLT, Nat.reduceLeDiff, Nat.reduceBEq, Nat.reduceMul, Nat.reduceEqDiff, q1]
            · simp only [push_cast, Bool.not_true, Bool.not_false, Int.reduceBEq, Int.reduceLT, Int.reduceLE, decide_true, decide_false, Nat.reduceAdd, Nat.reduceLT, Nat.reduceLeDiff, Nat.reduceBEq, Nat.reduceMul, Nat.reduceEqDiff, q5]
            · simp only [push_cast, Bool.not_true, Bool.not_false, Int.reduceBEq, Int.reduceLT, Int.reduceLE, decide_true, decide_false, Nat.reduceAdd, Nat.reduceLT, Nat.reduceLeDiff, Nat.reduceBEq, Nat.reduceMul, Nat.reduceEqDiff, q20]
            · simp only [push_cast, Bool.not_true, Bool.not_false, Int.reduceBEq, Int.reduceLT, Int.reduceLE, decide_true, decide_false, Nat.reduceAdd, Nat.reduceLT, Nat.reduceLeDiff, Nat.reduceBEq, Nat.reduceMul, Nat.reduceEqDiff, q21]
            · simp only [push_cast, Bool.not_true, Bool.not_false, Int.reduceBEq, Int.reduceLT, Int.reduceLE, decide_true, decide_false, Nat.reduceAdd, Nat.reduceLT, Nat.reduceLeDiff, Nat.reduceBEq, Nat.reduceMul, Nat.reduceEqDiff]; rw [wrap_i64 (by omega) (by omega)]
        | some b =>
          simp only [push_cast, Bool.not_true, Bool.not_false, Int.reduceBEq, Int.reduceLT, Int.reduceLE, decide_true, decide_false, Nat.reduceAdd, Nat.reduceLT, Nat.reduceLeDiff, Nat.reduceBEq, Nat.reduceMul, Nat.reduceEqDiff, hk, eq_bb, encA]
          (first | (refine SC_casesN (fun h => ?_) (fun h => ?_) <;> simp only [push_cast, Bool.not_true, Bool.not_false, Int.reduceBEq, Int.reduceLT, Int.reduceLE, decide_true, decide_false, Nat.reduceAdd, Nat.reduceLT, Nat.reduceLeDiff, Nat.reduceBEq, Nat.reduceMul, Nat.reduceEqDiff, h, q22]) | (refine SC_cases (fun h => ?_) (fun h => ?_) <;> simp only [push_cast, Bool.not_true, Bool.not_false, Int.reduceBEq, Int.reduceLT, Int.reduceLE, decide_true, decide_false, Nat.reduceAdd, Nat.reduceLT, Nat.reduceLeDiff, Nat.reduceBEq, Nat.reduceMul, Nat.reduceEqDiff, h, q22]) | (refine SG_casesN (fun h => ?_) (fun h => ?_) <;> simp only [push_cast, Bool.not_true, Bool.not_false, Int.reduceBEq, Int.reduceLT, Int.reduceLE, decide_true, decide_false, Nat.reduceAdd, Nat.reduceLT, Nat.reduceLeDiff, Nat.reduceBEq, Nat.reduceMul, Nat.reduceEqDiff, h, q22]) | (refine SG_cases (fun h => ?_) (fun h => ?_) <;> simp only [push_cast, Bool.not_true, Bool.not_false, Int.reduceBEq, Int.reduceLT, Int.reduceLE, decide_true, decide_false, Nat.reduceAdd, Nat.reduceLT, Nat.reduceLeDiff, Nat.reduceBEq, Nat.reduceMul, Nat.reduceEqDiff, h, q22]) | (refine DG_casesN (fun h => ?_) (fun h => ?_) <;> simp only [push_cast, Bool.not_true, Bool.not_false, Int.reduceBEq, Int.reduceLT, Int.reduceLE, decide_true, decide_false, Nat.reduceAdd, Nat.reduceLT, Nat.reduceLeDiff, Nat.reduceBEq, Nat.reduceMul, Nat.reduceEqDiff, h, q22]) | (refine DG_cases (fun h => ?_) (fun h => ?_) <;> simp only [push_cast, Bool.not_true, Bool.not_false, Int.reduceBEq, Int.reduceLT, Int.reduceLE, decide_true, decide_false, Nat.reduceAdd, Nat.reduceLT, Nat.reduceLeDiff, Nat.reduceBEq, Nat.reduceMul, Nat.reduceEqDiff, h, q22]))
          · exact keep _ _ g2
          · refine ih (i + 1) _ _ (by omega) ⟨hi', rfl, ?_, ?_, ?_, ?_, ?_, ?_⟩
            · simp only [push_cast, Bool.not_true, Bool.not_false, Int.reduceBEq, Int.reduceLT, Int.reduceLE, decide_true, decide_false, Nat.reduceAdd, Nat.reduceLT, Nat.reduceLeDiff, Nat.reduceBEq, Nat.reduceMul, Nat.reduceEqDiff, q0]
            · simp only [push_cast, Bool.not_true, Bool.not_false, Int.reduceBEq, Int.reduceLT, Int.reduceLE, decide_true, decide_false, Nat.reduceAdd, Nat.reduceLT, Nat.reduceLeDiff, Nat.reduceBEq, Nat.reduceMul, Nat.reduceEqDiff, q1]
            · simp only [push_cast, Bool.not_true, Bool.not_false, Int.reduceBEq, Int.reduceLT, Int.reduceLE, decide_true, decide_false, Nat.reduceAdd, Nat.reduceLT, Nat.reduceLeDiff, Nat.reduceBEq, Nat.reduceMul, Nat.reduceEqDiff, q5]
            · simp only [push_cast, Bool.not_true, Bool.not_false, Int.reduceBEq, Int.reduceLT, Int.reduceLE, decide_true, decide_false, Nat.reduceAdd, Nat.reduceLT, Nat.reduceLeDiff, Nat.reduceBEq, Nat.reduceMul, Nat.reduceEqDiff, q20]
            · simp only [push_cast, Bool.not_true, Bool.not_false, Int.reduceBEq, Int.reduceLT, Int.reduceLE, decide_true, decide_false, Nat.reduceAdd, Nat.reduceLT, Nat.reduceLeDiff, Nat.reduceBEq, Nat.reduceMul, Nat.reduceEqDiff, q21]
            · simp only [push_cast, Bool.not_true, Bool.not_false, Int.reduceBEq, Int.reduceLT, Int.reduceLE, decide_true, decide_false, Nat.reduceAdd, Nat.reduceLT, Nat.reduceLeDiff, Nat.reduceBEq, Nat.reduceMul, Nat.reduceEqDiff]; rw [wrap_i64 (by omega) (by omega)]
      · simp only [push_cast, Bool.not_true, Bool.not_false, Int.reduceBEq, Int.reduceLT, Int.reduceLE, decide_true, decide_false, Nat.reduceAdd, Nat.reduceLT, Nat.reduceLeDiff, Nat.reduceBEq, Nat.reduceMul, Nat.reduceEqDiff, q5, e0, q0, q1]
        refine X_draw ?_
        simp only [push_cast, Bool.not_true, Bool.not_false, Int.reduceBEq, Int.reduceLT, Int.reduceLE, decide_true, decide_false, Nat.reduceAdd, Nat.reduceLT, Nat.reduceLeDiff, Nat.reduceBEq, Nat.reduceMul, Nat.reduceEqDiff, q0, q1, q5, ne_at hC.lp, ne_at hC.lm, h2.hp, h2.hm]
        let a' : Acc := ⟨c, a.up, a.cls, a.name, true⟩
        rw [show AV.ag [.i .i64 a.code, .i .i64 a.up, .i .u8 a.cls, .s a.name, .b true] = .ag (encA a') by rw [hac]; rfl, show AV.i .i64 c = .i .i64 a'.code from rfl, mupB_spec]
        simp only [push_cast, Bool.not_true, Bool.not_false, Int.reduceBEq, Int.reduceLT, Int.reduceLE, decide_true, decide_false, Nat.reduceAdd, Nat.reduceLT, Nat.reduceLeDiff, Nat.reduceBEq, Nat.reduceMul, Nat.reduceEqDiff]
        refine XD_nil (DC_no [true, true, true, true, true, true, false] 2 rfl rfl rfl rfl) ?_
        simp only [push_cast, Bool.not_true, Bool.not_false, Int.reduceBEq, Int.reduceLT, Int.reduceLE, decide_true, decide_false, Nat.reduceAdd, Nat.reduceLT, Nat.reduceLeDiff, Nat.reduceBEq, Nat.reduceMul, Nat.reduceEqDiff]
        have g3 := g2.write (k := s.nx) (.row true [.i .i64 a.code, .i .i64 a.up, .i .u8 a.cls, .s a.name, .b true]) (Nat.le_refl _)
        have h3 := hC.gr g3
        have hw2 := hw.shut (a := a') (by
          obtain ⟨x1, x2, x3, x4, x5⟩ := a
          subst hac
          cases x5
          · exact .inl hf
          · exact .inr hf)
        refine ⟨fun lo => ⟨⟨0, rfl⟩, putL a' L, ⟨?_, ?_, h3.lp, h3.lm, h3.ne⟩, hw2.1, by rw [hw2.2]; exact Nat.le_succ _⟩, .inr (g3.grx _ hC.lm)⟩
        · show (AS.write _ mb _).h.get p = _
          rw [get_write, if_neg h3.ne]; exact h3.hp
        · show (AS.write _ mb _).h.get mb = _
          rw [get_write, if_pos rfl]
    · exact ⟨Nat.zero_le _, rfl, by simp only [push_cast, Bool.not_true, Bool.not_false, Int.reduceBEq, Int.reduceLT, Int.reduceLE, decide_true, decide_false, Nat.reduceAdd, Nat.reduceLT, Nat.reduceLeDiff, Nat.reduceBEq, Nat.reduceMul, Nat.reduceEqDiff], by simp only [push_cast, Bool.not_true, Bool.not_false, Int.reduceBEq, Int.reduceLT, Int.reduceLE, decide_true, decide_false, Nat.reduceAdd, Nat.reduceLT, Nat.reduceLeDiff, Nat.reduceBEq, Nat.reduceMul, Nat.reduceEqDiff], by simp only [push_cast, Bool.not_true, Bool.not_false, Int.reduceBEq, Int.reduceLT, Int.reduceLE, decide_true, decide_false, Nat.reduceAdd, Nat.reduceLT, Nat.reduceLeDiff, Nat.reduceBEq, Nat.reduceMul, Nat.reduceEqDiff], by simp only [push_cast, Bool.not_true, Bool.not_false, Int.reduceBEq, Int.reduceLT, Int.reduceLE, decide_true, decide_false, Nat.reduceAdd, Nat.reduceLT, Nat.reduceLeDiff, Nat.reduceBEq, Nat.reduceMul, Nat.reduceEqDiff], by simp only [push_cast, Bool.not_true, Bool.not_false, Int.reduceBEq, Int.reduceLT, Int.reduceLE, decide_true, decide_false, Nat.reduceAdd, Nat.reduceLT, Nat.reduceLeDiff, Nat.reduceBEq, Nat.reduceMul, Nat.reduceEqDiff], by simp only [push_cast, Bool.not_true, Bool.not_false, Int.reduceBEq, Int.reduceLT, Int.reduceLE, decide_true, decide_false, Nat.reduceAdd, Nat.reduceLT, Nat.reduceLeDiff, Nat.reduceBEq, Nat.reduceMul, Nat.reduceEqDiff] <;> rfl⟩

/-! ### All -/

def rowA (L : List Acc) : List Acc := (codes L).filterMap fun k => findA k L
theorem rowA_codes {L : List Acc} (h : WA L) : (rowA L).map (·.code) = codes L := by
  have key : ∀ ks : List Int, (∀ k ∈ ks, ∃ a ∈ L, a.code = k) → (ks.filterMap fun k => findA k L).map (·.code) = ks := by
    intro ks
    induction ks with
    | nil => intro _; rfl
    | cons k ks ih =>
      intro hk
      obtain ⟨a, ha, hac⟩ := hk k (by simp)
      have hf : findA k L = some a := by rw [← hac]; exact findA_mem h ha
      simp only [List.filterMap_cons, hf, List.map_cons]
      rw [ih (fun x hx => hk x (by simp [hx])), hac]
  exact key _ (fun k hk => (codes_mem L k).1 hk)
theorem rowA_len {L : List Acc} (h : WA L) : (rowA L).length = L.length := by
  have := congrArg List.length (rowA_codes h); rw [List.length_map, codes_len] at this; exact this
theorem rowA_mem {L : List Acc} (h : WA L) {a : Acc} : a ∈ rowA L ↔ a ∈ L := by
  unfold rowA
  rw [List.mem_filterMap]
  constructor
  · rintro ⟨k, _, hk⟩; exact (findA_some hk).1
  · intro ha; exact ⟨a.code, (codes_mem L _).2 ⟨a, ha, rfl⟩, findA_mem h ha⟩
theorem rowA_wa {L : List Acc} (h : WA L) : WA (rowA L) := by
  obtain ⟨r, r1, r2, r3⟩ := h.rk
  have m := fun {a} => rowA_mem (a := a) h
  refine ⟨by rw [rowA_codes h]; exact codes_nodup h, fun a ha => h.rg a (m.1 ha), fun a ha => ?_, r, fun a ha => by rw [rowA_len h]; exact r1 a (m.1 ha), fun a ha b hb => r2 a (m.1 ha) b (m.1 hb), fun a ha b hb => r3 a (m.1 ha) b (m.1 hb)⟩
  rcases h.up a (m.1 ha) with h1 | ⟨b, hb, h1⟩
  · exact .inl h1
  · exact .inr ⟨b, m.2 hb, h1⟩
theorem rowA_find {L : List Acc} (h : WA L) (c : Int) : findA c (rowA L) = findA c L := by
  cases hf : findA c L with
  | some a =>
    obtain ⟨ha, hac⟩ := findA_some hf
    rw [← hac]; exact findA_mem (rowA_wa h) ((rowA_mem h).2 ha)
  | none =>
    cases hg : findA c (rowA L) with
    | none => rfl
    | some a =>
      obtain ⟨ha, hac⟩ := findA_some hg
      exact absurd hac (findA_none hf a ((rowA_mem h).1 ha))
theorem rowA_bare {L : List Acc} (h : WA L) (c : Int) : bare (rowA L) c = bare L c := by
  rw [Bool.eq_iff_iff, bare_iff, bare_iff]
  exact ⟨fun g a ha => g a ((rowA_mem h).2 ha), fun g a ha => g a ((rowA_mem h).1 ha)⟩

set_option maxHeartbeats 1000000 in
theorem all15_spec (s : AS) (p mb : Nat) (L : List Acc) (hC : Ch s p mb L) (hw : WA L) (hl : L.length ≤ 17) :
    Ca tab.get smJ (.fn 15 []) [.p p 0] s (fun v s' _ => Grc s s' ∧ Own s.nx s' 5 v ((rowA L).map encA)) := by
  refine Ca_grow rfl (show tab.get 15 = some af15 from rfl) rfl ?_
  simp only [push_cast, Bool.not_true, Bool.not_false, Int.reduceBEq, Int.reduceLT, Int.reduceLE, decide_true, decide_false, Nat.reduceAdd, Nat.reduceLT, Nat.reduceLeDiff, Nat.reduceBEq, Nat.reduceMul, Nat.reduceEqDiff, af15]
  rw [SK_re (none36_spec _ p mb L hC.start)]
  simp only [push_cast, Bool.not_true, Bool.not_false, Int.reduceBEq, Int.reduceLT, Int.reduceLE, decide_true, decide_false, Nat.reduceAdd, Nat.reduceLT, Nat.reduceLeDiff, Nat.reduceBEq, Nat.reduceMul, Nat.reduceEqDiff, hC.hp, hC.hm]
  by_cases hne : L = []
  · subst hne
    rw [SK_sm (g := keysG) (v := .sn) (s' := ⟨s.h, s.nx, s.nx⟩) rfl (by
      unfold keysG; simp only [List.append_nil, hC.hm]; rfl)]
    simp only [push_cast, Bool.not_true, Bool.not_false, Int.reduceBEq, Int.reduceLT, Int.reduceLE, decide_true, decide_false, Nat.reduceAdd, Nat.reduceLT, Nat.reduceLeDiff, Nat.reduceBEq, Nat.reduceMul, Nat.reduceEqDiff]
    rw [X_loop]
    simp only [push_cast, Bool.not_true, Bool.not_false, Int.reduceBEq, Int.reduceLT, Int.reduceLE, decide_true, decide_false, Nat.reduceAdd, Nat.reduceLT, Nat.reduceLeDiff, Nat.reduceBEq, Nat.reduceMul, Nat.reduceEqDiff, Int.reduceLT]
    exact ⟨.start s, fun _ => Own.nil _ _ _, fun _ => Own.nil _ _ _⟩
  obtain ⟨kv, s1, e1, c1, o1, n1, b1, k1⟩ := keys_own hw hC.start.hm hne (by omega)
  rw [SK_sm (g := keysG) rfl e1]
  have g1 := (Gr.start s).call c1
  replace n1 : s1.nx = s.nx + 1 := n1
  replace b1 : slB kv = s.nx := b1
  have hlen := o1.sl.len
  have hiad := fun i (hi : i < (codes L).length) => o1.sl.iad (i := i) (by simpa using hi)
  have hrow := fun i (hi : i < (codes L).length) => o1.sl.row1 hi
  simp only [List.length_map] at hlen
  have hcl := codes_len L
  simp only [push_cast, Bool.not_true, Bool.not_false, Int.reduceBEq, Int.reduceLT, Int.reduceLE, decide_true, decide_false, Nat.reduceAdd, Nat.reduceLT, Nat.reduceLeDiff, Nat.reduceBEq, Nat.reduceMul, Nat.reduceEqDiff, hlen]
  refine X_while (fun i : Nat => (codes L).length - i) (fun i t s' => i ≤ (codes L).length ∧ Gr s s' ∧ s.nx + 1 ≤ s'.nx ∧ s'.h.get (slB kv) = s1.h.get (slB kv) ∧ ev t (.t 0) = .p p 0 ∧ ev t (.t 12) = kv ∧ ev t (.t 13) = .i .i64 (codes L).length ∧ ev t (.t 14) = .i .i64 i ∧
    ∃ u, ev t (.t 3) = u ∧ Own (s.nx + 1) s' 5 u ((((codes L).take i).filterMap fun k => findA k L).map encA)) ?_ 0 _ _ ?_
  · rintro i t s' ⟨hi, hg, hn, hkv, h0, h12, h13, h14, u, h3, hu⟩ ih
    simp only [push_cast, Bool.not_true, Bool.not_false, Int.reduceBEq, Int.reduceLT, Int.reduceLE, decide_true, decide_false, Nat.reduceAdd, Nat.reduceLT, Nat.reduceLeDiff, Nat.reduceBEq, Nat.reduceMul, Nat.reduceEqDiff, h0, h12, h13, h14, h3]
    (first | (refine SC_casesN (fun h => ?_) (fun h => ?_) <;> simp only [push_cast, Bool.not_true, Bool.not_false, Int.reduceBEq, Int.reduceLT, Int.reduceLE, decide_true, decide_false, Nat.reduceAdd, Nat.reduceLT, Nat.reduceLeDiff, Nat.reduceBEq, Nat.reduceMul, Nat.reduceEqDiff, h, h0, h12, h13, h14, h3]) | (refine SC_cases (fun h => ?_) (fun h => ?_) <;> simp only [push_cast, Bool.not_true, Bool.not_false, Int.reduceBEq, Int.reduceLT, Int.reduceLE, decide_true, decide_false, Nat.reduceAdd, Nat.reduceLT, Nat.reduceLeDiff, Nat.reduceBEq, Nat.reduceMul, Nat.reduceEqDiff, h, h0, h12, h13, h14, h3]) | (refine SG_casesN (fun h => ?_) (fun h => ?_) <;> simp only [push_cast, Bool.not_true, Bool.not_false, Int.reduceBEq, Int.reduceLT, Int.reduceLE, decide_true, decide_false, Nat.reduceAdd, Nat.reduceLT, Nat.reduceLeDiff, Nat.reduceBEq, Nat.reduceMul, Nat.reduceEqDiff, h, h0, h12, h13, h14, h3]) | (refine SG_cases (fun h => ?_) (fun h => ?_) <;> simp only [push_cast, Bool.not_true, Bool.not_false, Int.reduceBEq, Int.reduceLT, Int.reduceLE, decide_true, decide_false, Nat.reduceAdd, Nat.reduceLT, Nat.reduceLeDiff, Nat.reduceBEq, Nat.reduceMul, Nat.reduceEqDiff, h, h0, h12, h13, h14, h3]) | (refine DG_casesN (fun h => ?_) (fun h => ?_) <;> simp only [push_cast, Bool.not_true, Bool.not_false, Int.reduceBEq, Int.reduceLT, Int.reduceLE, decide_true, decide_false, Nat.reduceAdd, Nat.reduceLT, Nat.reduceLeDiff, Nat.reduceBEq, Nat.reduceMul, Nat.reduceEqDiff, h, h0, h12, h13, h14, h3]) | (refine DG_cases (fun h => ?_) (fun h => ?_) <;> simp only [push_cast, Bool.not_true, Bool.not_false, Int.reduceBEq, Int.reduceLT, Int.reduceLE, decide_true, decide_false, Nat.reduceAdd, Nat.reduceLT, Nat.reduceLeDiff, Nat.reduceBEq, Nat.reduceMul, Nat.reduceEqDiff, h, h0, h12, h13, h14, h3]))
    · have hi' : i < (codes L).length := by simpa using h
      obtain ⟨w0, cs, hb, hbn, hcs⟩ := hrow i hi'
      rw [← hkv] at hb
      have h2 := hC.gr hg
      obtain ⟨a, ha, hac⟩ := (codes_mem L (codes L)[i]).1 (List.getElem_mem hi')
      have hf : findA (codes L)[i] L = some a := by rw [← hac]; exact findA_mem hw ha
      simp only [push_cast, Bool.not_true, Bool.not_false, Int.reduceBEq, Int.reduceLT, Int.reduceLE, decide_true, decide_false, Nat.reduceAdd, Nat.reduceLT, Nat.reduceLeDiff, Nat.reduceBEq, Nat.reduceMul, Nat.reduceEqDiff, h0, h12, h13, h14, h3, hiad i hi', hb, hcs, h2.hp, h2.hm, hf, encA]
      have hle : (((codes L).take i).filterMap fun k => findA k L).length ≤ i := by
        have := List.length_filterMap_le (fun k => findA k L) ((codes L).take i)
        rw [List.length_take] at this; omega
      refine SS_push (s.nx + 1) _ hg hu rfl rfl (by rw [List.length_map]; exact most_of (by omega) (by omega)) (Nat.le_succ _) hn (fun u' s2 o hg2 n f q _ => ?_)
      simp only [push_cast, Bool.not_true, Bool.not_false, Int.reduceBEq, Int.reduceLT, Int.reduceLE, decide_true, decide_false, Nat.reduceAdd, Nat.reduceLT, Nat.reduceLeDiff, Nat.reduceBEq, Nat.reduceMul, Nat.reduceEqDiff, h14]
      refine ih (i + 1) _ _ (by omega) ⟨hi', hg2, Nat.le_trans hn n, (f _ (by omega)).trans hkv, ?_, ?_, ?_, ?_, u', ?_, ?_⟩
      · simp only [push_cast, Bool.not_true, Bool.not_false, Int.reduceBEq, Int.reduceLT, Int.reduceLE, decide_true, decide_false, Nat.reduceAdd, Nat.reduceLT, Nat.reduceLeDiff, Nat.reduceBEq, Nat.reduceMul, Nat.reduceEqDiff, h0]
      · simp only [push_cast, Bool.not_true, Bool.not_false, Int.reduceBEq, Int.reduceLT, Int.reduceLE, decide_true, decide_false, Nat.reduceAdd, Nat.reduceLT, Nat.reduceLeDiff, Nat.reduceBEq, Nat.reduceMul, Nat.reduceEqDiff, h12]
      · simp only [push_cast, Bool.not_true, Bool.not_false, Int.reduceBEq, Int.reduceLT, Int.reduceLE, decide_true, decide_false, Nat.reduceAdd, Nat.reduceLT, Nat.reduceLeDiff, Nat.reduceBEq, Nat.reduceMul, Nat.reduceEqDiff, h13]
      · simp only [push_cast, Bool.not_true, Bool.not_false, Int.reduceBEq, Int.reduceLT, Int.reduceLE, decide_true, decide_false, Nat.reduceAdd, Nat.reduceLT, Nat.reduceLeDiff, Nat.reduceBEq, Nat.reduceMul, Nat.reduceEqDiff]; rw [wrap_i64 (by omega) (by omega)]
      · simp only [push_cast, Bool.not_true, Bool.not_false, Int.reduceBEq, Int.reduceLT, Int.reduceLE, decide_true, decide_false, Nat.reduceAdd, Nat.reduceLT, Nat.reduceLeDiff, Nat.reduceBEq, Nat.reduceMul, Nat.reduceEqDiff]
      · rw [take_succ' hi', List.filterMap_append, List.map_append]
        simp only [List.filterMap_cons, hf, List.filterMap_nil]; exact o
    · have hi' : i = (codes L).length := by simp at h; omega
      subst hi'
      rw [List.take_length] at hu
      have o := hu.low (lo' := s.nx) (Nat.le_succ _)
      exact ⟨hg, fun lo => o, fun ho => o.old ho⟩
  · exact ⟨Nat.zero_le _, g1, by omega, rfl, by simp only [push_cast, Bool.not_true, Bool.not_false, Int.reduceBEq, Int.reduceLT, Int.reduceLE, decide_true, decide_false, Nat.reduceAdd, Nat.reduceLT, Nat.reduceLeDiff, Nat.reduceBEq, Nat.reduceMul, Nat.reduceEqDiff], by simp only [push_cast, Bool.not_true, Bool.not_false, Int.reduceBEq, Int.reduceLT, Int.reduceLE, decide_true, decide_false, Nat.reduceAdd, Nat.reduceLT, Nat.reduceLeDiff, Nat.reduceBEq, Nat.reduceMul, Nat.reduceEqDiff], by simp only [push_cast, Bool.not_true, Bool.not_false, Int.reduceBEq, Int.reduceLT, Int.reduceLE, decide_true, decide_false, Nat.reduceAdd, Nat.reduceLT, Nat.reduceLeDiff, Nat.reduceBEq, Nat.reduceMul, Nat.reduceEqDiff], by simp only [push_cast, Bool.not_true, Bool.not_false, Int.reduceBEq, Int.reduceLT, Int.reduceLE, decide_true, decide_false, Nat.reduceAdd, Nat.reduceLT, Nat.reduceLeDiff, Nat.reduceBEq, Nat.reduceMul, Nat.reduceEqDiff] <;> rfl, .sn, by simp only [push_cast, Bool.not_true, Bool.not_false, Int.reduceBEq, Int.reduceLT, Int.reduceLE, decide_true, decide_false, Nat.reduceAdd, Nat.reduceLT, Nat.reduceLeDiff, Nat.reduceBEq, Nat.reduceMul, Nat.reduceEqDiff], Own.nil _ _ _⟩

end Go.AMJ
