/- Under, Leaf, All, Shut. -/
import Derived.Test.YthdkiocnbbeigaaSpG
namespace Go.AMJ
open Go Go.AM
set_option linter.unusedSimpArgs false
set_option linter.unusedVariables false

theorem rowInts_enc (l : List Int) : rowInts (l.map (.i .i64)) = some l := by
  induction l with
  | nil => rfl
  | cons n l ih => simp only [List.map_cons, rowInts, ih]
theorem flat_enc (l : List Int) : (l.map encI).flatten = l.map (.i .i64) := by
  induction l with
  | nil => rfl
  | cons n l ih => simp only [List.map_cons, List.flatten_cons, ih, encI, List.cons_append, List.nil_append]
theorem putAt_same : ∀ (a b : List AV), a.length = b.length → putAt a 0 b = b
  | [], [], _ => rfl
  | [], _ :: _, h => by simp at h
  | _ :: _, [], h => by simp at h
  | x :: a, y :: b, h => by simp only [putAt]; rw [putAt_same a b (by simpa using h)]
theorem encI_all (xs : List Int) : ∀ x ∈ xs.map encI, x.length = 1 ∧ x.all AV.one = true := by
  intro x hx; obtain ⟨y, _, rfl⟩ := List.mem_map.1 hx; exact ⟨rfl, rfl⟩

theorem sort_own {lo : Nat} {s : AS} {v : AV} {xs : List Int} (h : Own lo s 1 v (xs.map encI)) (hl : xs.length ≤ 1000000) :
    ∃ s', sortG [v] s = some (.tu [], s') ∧ Own lo s' 1 v ((sortI xs).map encI) ∧ s'.nx = s.nx ∧ (s.lo ≤ lo → s'.lo = s.lo) ∧ ∀ q, q < lo → s'.h.get q = s.h.get q := by
  have hsl : (sortI xs).length = xs.length := (sortI_perm xs).length_eq
  obtain ⟨h0, ⟨rfl, hn⟩ | ⟨b, ex, rfl, h2, h3, h4⟩⟩ := h
  · have : xs = [] := by simpa using hn
    subst this
    exact ⟨s, rfl, Own.nil _ _ _, rfl, fun _ => rfl, fun _ _ => rfl⟩
  · rw [List.length_map] at *
    by_cases hx : xs = []
    · subst hx
      exact ⟨s, rfl, ⟨by simp [sortI], .inr ⟨b, ex, rfl, h2, h3, h4⟩⟩, rfl, fun _ => rfl, fun _ _ => rfl⟩
    · have hne : (xs.length == 0) = false := by simpa using hx
      refine ⟨s.write b (.row true ((sortI xs).map (.i .i64))), ?_, ⟨encI_all _, .inr ⟨b, ex, by rw [List.length_map, hsl], by rw [get_write, if_pos rfl, flat_enc], h3, h4⟩⟩, rfl, fun hs => lo_write _ _ _ (by omega), fun q hq => by rw [get_write, if_neg (by omega)]⟩
      unfold sortG
      simp only [hne, cond_false, BEq.rfl, Bool.true_and, Nat.ble_eq_true_of_le hl, cond_true, h2, flat_enc, cut_all (xs.map (AV.i .i64)) (List.length_map _), rowInts_enc]
      rw [putAt_same _ _ (by rw [List.length_map, List.length_map, hsl])]

theorem intsOf_ent : ∀ (L : List Acc), (∀ a ∈ L, 1 ≤ a.code ∧ a.code ≤ 9999) → intsOf (L.map entA) = some (L.map (·.code))
  | [], _ => rfl
  | a :: L, h => by
    have ha := h a (by simp)
    have e1 : decide (IntKind.i64.min ≤ a.code) = true := by simp [IntKind.min, IntKind.bits, IntKind.signed]; omega
    have e2 : decide (a.code ≤ IntKind.i64.max) = true := by simp [IntKind.max, IntKind.bits, IntKind.signed]; omega
    simp only [List.map_cons, entA, intsOf, e1, e2, Bool.and_self, cond_true]
    have := intsOf_ent L (fun b hb => h b (by simp [hb]))
    rw [this]

theorem apart_of : ∀ {l : List Int}, l.Nodup → AMJ.apart l = true
  | [], _ => rfl
  | x :: l, h => by
    rw [List.nodup_cons] at h
    simp only [AMJ.apart, apart_of h.2, Bool.and_true, Bool.not_eq_true', List.contains_eq_mem, decide_eq_false_iff_not]
    exact h.1

theorem keys_of {s : AS} {mb : Nat} {L : List Acc} (hw : WA L) (hm : s.h.get mb = some (.mp (L.map entA))) (hn : L ≠ []) (hl : L.length ≤ 1000) :
    keysG [.m mb] s = some (.sl s.nx 0 1 L.length L.length false, s.new (.row true ((sortI (L.map (·.code))).map (.i .i64)))) := by
  unfold keysG
  simp only [hm, intsOf_ent L hw.rg, apart_of hw.nd, Bool.true_and]
  rw [Nat.ble_eq_true_of_le (by rw [List.length_map]; omega)]
  cases L with
  | nil => exact absurd rfl hn
  | cons a L => simp

/-- The keys as they come. -/
def codes (L : List Acc) : List Int := sortI (L.map (·.code))
theorem codes_len (L : List Acc) : (codes L).length = L.length := by unfold codes; rw [(sortI_perm _).length_eq, List.length_map]
theorem codes_mem (L : List Acc) (k : Int) : k ∈ codes L ↔ ∃ a ∈ L, a.code = k := by unfold codes; rw [(sortI_perm _).mem_iff, List.mem_map]
theorem codes_nodup {L : List Acc} (h : WA L) : (codes L).Nodup := (sortI_perm _).nodup_iff.2 h.nd

theorem keys_own {s : AS} {mb : Nat} {L : List Acc} (hw : WA L) (hm : s.h.get mb = some (.mp (L.map entA))) (hn : L ≠ []) (hl : L.length ≤ 1000) :
    ∃ v s', keysG [.m mb] s = some (v, s') ∧ Grc s s' ∧ Own s.nx s' 1 v ((codes L).map encI) ∧ s'.nx = s.nx + 1 ∧ slB v = s.nx ∧ v ≠ .sn := by
  refine ⟨_, _, keys_of hw hm hn hl, .new _ _, ⟨encI_all _, .inr ⟨s.nx, false, by rw [List.length_map, codes_len], by rw [get_new_at, flat_enc]; rfl, Nat.le_refl _, Nat.lt_succ_self _⟩⟩, rfl, rfl, by simp⟩

def UnderP (c : Int) (L : List Acc) (n : Nat) (v : AV) (s' : AS) : Prop :=
  ∃ ys : List Int, Own n s' 1 v (ys.map encI) ∧ ys.length ≤ 1000000 ∧ (findA c L ≠ none → (ys.length = 1 ↔ bare L c = true))

set_option maxHeartbeats 2000000 in
theorem under24_spec (s : AS) (p mb : Nat) (L : List Acc) (hC : Ch s p mb L) (hw : WA L) (hl : L.length ≤ 17) (c : Int) :
    Ca tab.get smJ (.fn 24 []) [.p p 0, .i .i64 c] s (fun v s' _ => Grc s s' ∧ UnderP c L s.nx v s') := by
  refine Ca_grow rfl (show tab.get 24 = some af24 from rfl) rfl ?_
  have g1 := (Gr.start s).new (.row true [.p p 0])
  have h1 := hC.gr g1
  simp only [push_cast, Bool.not_true, Bool.not_false, Int.reduceBEq, Int.reduceLT, Int.reduceLE, decide_true, decide_false, Nat.reduceAdd, Nat.reduceLT, Nat.reduceLeDiff, Nat.reduceBEq, Nat.reduceMul, Nat.reduceEqDiff, af24]
  rw [SK_re (get23_spec _ p mb L h1 c)]
  unfold getR
  cases hf : findA c L with
  | none =>
    simp only [push_cast, Bool.not_true, Bool.not_false, Int.reduceBEq, Int.reduceLT, Int.reduceLE, decide_true, decide_false, Nat.reduceAdd, Nat.reduceLT, Nat.reduceLeDiff, Nat.reduceBEq, Nat.reduceMul, Nat.reduceEqDiff, zeroA]
    exact ⟨(g1.new _).write _ (Nat.le_succ _), fun lo => ⟨[], Own.nil _ _ _, by simp, fun h => absurd hf h⟩, fun _ => ⟨[], Own.nil _ _ _, by simp, fun h => absurd hf h⟩⟩
  | some a =>
    obtain ⟨ha, hac⟩ := findA_some hf
    have hne : L ≠ [] := fun e => by rw [e] at ha; cases ha
    simp only [push_cast, Bool.not_true, Bool.not_false, Int.reduceBEq, Int.reduceLT, Int.reduceLE, decide_true, decide_false, Nat.reduceAdd, Nat.reduceLT, Nat.reduceLeDiff, Nat.reduceBEq, Nat.reduceMul, Nat.reduceEqDiff, encA, ne_at hC.lp, ne_at hC.lm, ne_off hC.lp, ne_off hC.lm, hC.hp, hC.hm]
    have g3 := (((g1.new (.row true [.i .i64 0, .i .i64 0, .i .u8 0, .s [], .b false])).write (k := s.nx + 1) (.row true [.i .i64 a.code, .i .i64 a.up, .i .u8 a.cls, .s a.name, .b a.shut]) (Nat.le_succ _)).new (.row true [.sn]))
    have h3 := hC.gr g3
    obtain ⟨kv, s4, e4, c4, o4, n4, b4, k4⟩ := keys_own hw h3.hm hne (by omega)
    rw [SK_sm (g := keysG) rfl e4]
    have g4 := g3.call c4
    have h4 := hC.gr g4
    have c0 : s4.h.get s.nx = some (.row true [.p p 0]) := by rw [c4.old _ (by show _ < s.nx + 1 + 1 + 1; omega)]; simp only [push_cast, Bool.not_true, Bool.not_false, Int.reduceBEq, Int.reduceLT, Int.reduceLE, decide_true, decide_false, Nat.reduceAdd, Nat.reduceLT, Nat.reduceLeDiff, Nat.reduceBEq, Nat.reduceMul, Nat.reduceEqDiff]
    have c2 : s4.h.get (s.nx + 2) = some (.row true [.sn]) := by rw [c4.old _ (by show _ < s.nx + 1 + 1 + 1; omega)]; simp only [push_cast, Bool.not_true, Bool.not_false, Int.reduceBEq, Int.reduceLT, Int.reduceLE, decide_true, decide_false, Nat.reduceAdd, Nat.reduceLT, Nat.reduceLeDiff, Nat.reduceBEq, Nat.reduceMul, Nat.reduceEqDiff]
    replace n4 : s4.nx = s.nx + 4 := n4
    replace b4 : slB kv = s.nx + 3 := b4
    simp only [push_cast, Bool.not_true, Bool.not_false, Int.reduceBEq, Int.reduceLT, Int.reduceLE, decide_true, decide_false, Nat.reduceAdd, Nat.reduceLT, Nat.reduceLeDiff, Nat.reduceBEq, Nat.reduceMul, Nat.reduceEqDiff, n4, o4.one, cells_one o4.one]
    have g5 := (((((g4.new (.row true [.sn])).write (k := s.nx + 4) (.row true [kv]) (Nat.le_add_right _ _)).new (.row true [.nf])).write (k := s.nx + 5) (.row true [.fn 46 [.p (s.nx + 2) 0, .p (s.nx + 4) 0, .p s.nx 0, .p (s.nx + 5) 0]]) (Nat.le_add_right _ _)))
    let e : GE := ⟨s.nx + 6, s.nx + 2, s.nx + 4, s.nx, s.nx + 5, p, mb, kv, L, codes L, hw.rk.choose⟩
    obtain ⟨r1, r2, r3⟩ := hw.rk.choose_spec
    have lp := hC.lp
    have lm := hC.lm
    have ok : e.Ok := ⟨by show s.nx + 2 < s.nx + 6; omega, by show s.nx + 4 < s.nx + 6; omega, by show s.nx < s.nx + 6; omega, by show s.nx + 5 < s.nx + 6; omega, by show p < s.nx + 6; omega, by show mb < s.nx + 6; omega, by show slB kv < s.nx + 6; omega,
      by show s.nx + 4 ≠ s.nx + 2; omega, by show s.nx ≠ s.nx + 2; omega, by show s.nx + 5 ≠ s.nx + 2; omega, by show p ≠ s.nx + 2; omega, by show mb ≠ s.nx + 2; omega, by show slB kv ≠ s.nx + 2; omega, hw, codes_nodup hw, codes_mem L, r1, r2, r3, by show (codes L).length ≤ 1000; rw [codes_len]; omega⟩
    have st : e.St ((((s4.new (.row true [.sn])).write (s.nx + 4) (.row true [kv])).new (.row true [.nf])).write (s.nx + 5) (.row true [.fn 46 [.p (s.nx + 2) 0, .p (s.nx + 4) 0, .p s.nx 0, .p (s.nx + 5) 0]])) := by
      have h5 := hC.gr g5
      refine ⟨?_, (o4.sl.same ?_ ?_), ?_, ?_, h5.hp, h5.hm, ?_⟩
      · show (AS.h _).get (s.nx + 4) = _
        simp only [push_cast, Bool.not_true, Bool.not_false, Int.reduceBEq, Int.reduceLT, Int.reduceLE, decide_true, decide_false, Nat.reduceAdd, Nat.reduceLT, Nat.reduceLeDiff, Nat.reduceBEq, Nat.reduceMul, Nat.reduceEqDiff, n4]; rfl
      · show _ ≤ s4.nx + 1 + 1; omega
      · show (AS.h _).get (slB kv) = _
        rw [b4]; simp only [push_cast, Bool.not_true, Bool.not_false, Int.reduceBEq, Int.reduceLT, Int.reduceLE, decide_true, decide_false, Nat.reduceAdd, Nat.reduceLT, Nat.reduceLeDiff, Nat.reduceBEq, Nat.reduceMul, Nat.reduceEqDiff, n4]
      · show (AS.h _).get s.nx = _
        simp only [push_cast, Bool.not_true, Bool.not_false, Int.reduceBEq, Int.reduceLT, Int.reduceLE, decide_true, decide_false, Nat.reduceAdd, Nat.reduceLT, Nat.reduceLeDiff, Nat.reduceBEq, Nat.reduceMul, Nat.reduceEqDiff, n4]; exact c0
      · show (AS.h _).get (s.nx + 5) = _
        simp only [push_cast, Bool.not_true, Bool.not_false, Int.reduceBEq, Int.reduceLT, Int.reduceLE, decide_true, decide_false, Nat.reduceAdd, Nat.reduceLT, Nat.reduceLeDiff, Nat.reduceBEq, Nat.reduceMul, Nat.reduceEqDiff, n4]; rfl
      · show s.nx + 6 ≤ s4.nx + 1 + 1; omega
    have out : e.Out ((((s4.new (.row true [.sn])).write (s.nx + 4) (.row true [kv])).new (.row true [.nf])).write (s.nx + 5) (.row true [.fn 46 [.p (s.nx + 2) 0, .p (s.nx + 4) 0, .p s.nx 0, .p (s.nx + 5) 0]])) [] := by
      refine ⟨.sn, ?_, Own.nil _ _ _⟩
      show (AS.h _).get (s.nx + 2) = _
      simp only [push_cast, Bool.not_true, Bool.not_false, Int.reduceBEq, Int.reduceLT, Int.reduceLE, decide_true, decide_false, Nat.reduceAdd, Nat.reduceLT, Nat.reduceLeDiff, Nat.reduceBEq, Nat.reduceMul, Nat.reduceEqDiff, n4]; exact c2
    have hex : expo e c ≤ 16 := by show L.length - 1 - _ ≤ 16; omega
    have hpow : 2 ^ expo e c ≤ 2 ^ 16 := Nat.pow_le_pow_right (by omega) hex
    refine SK_ca (gather46 e ok _ c [] _ (Nat.le_refl _) ⟨a, ha, hac⟩ st out (by simp only [List.length_nil]; omega)) (fun v5 s5 _ ⟨q1, q2, q3, q4, ys, ⟨w, hw5, ho5⟩, y1, y2, y3⟩ => ?_)
    subst q1
    have q5 : s5.lo = s.nx := by rw [q3 (by rw [g5.lo]; exact Nat.le_add_right _ _) (by rw [g5.lo]; exact g5.nx), g5.lo]
    have g6 : Gr s s5 := ⟨Nat.le_trans g5.nx q2, q5, fun q hq => by rw [q4 q (by show q < s.nx + 6; omega) (by show q ≠ s.nx + 2; omega)]; exact g5.old q hq⟩
    rw [List.nil_append] at ho5
    replace ho5 : Own (s.nx + 6) s5 1 w (ys.map encI) := ho5
    obtain ⟨s6, e6, o6, n6, l6, f6⟩ := sort_own ho5 (by omega)
    have hw5' : s5.h.get (s.nx + 2) = some (.row true [w]) := hw5
    simp only [push_cast, Bool.not_true, Bool.not_false, Int.reduceBEq, Int.reduceLT, Int.reduceLE, decide_true, decide_false, Nat.reduceAdd, Nat.reduceLT, Nat.reduceLeDiff, Nat.reduceBEq, Nat.reduceMul, Nat.reduceEqDiff, hw5']
    rw [SK_sm (g := sortG) rfl e6]
    simp only [push_cast, Bool.not_true, Bool.not_false, Int.reduceBEq, Int.reduceLT, Int.reduceLE, decide_true, decide_false, Nat.reduceAdd, Nat.reduceLT, Nat.reduceLeDiff, Nat.reduceBEq, Nat.reduceMul, Nat.reduceEqDiff, f6 (s.nx + 2) (by omega), hw5']
    have g7 : Gr s s6 := ⟨by rw [n6]; exact g6.nx, by rw [l6 (by omega), q5], fun q hq => by rw [f6 q (by omega)]; exact g6.old q hq⟩
    have o7 := o6.low (lo' := s.nx) (by omega)
    have ysl : (sortI ys).length = ys.length := (sortI_perm ys).length_eq
    refine ⟨g7, fun lo => ⟨sortI ys, o7, by omega, fun _ => by rw [ysl]; exact y3⟩, fun ho => ⟨sortI ys, o7.old ho, by omega, fun _ => by rw [ysl]; exact y3⟩⟩

theorem leaf33_spec (s : AS) (p mb : Nat) (L : List Acc) (hC : Ch s p mb L) (hw : WA L) (hl : L.length ≤ 17) (c : Int) (hc : findA c L ≠ none) :
    Re tab.get smJ (.fn 33 []) [.p p 0, .i .i64 c] s (.b (bare L c)) := by
  refine Re_fn rfl (show tab.get 33 = some af33 from rfl) rfl rfl ?_
  simp only [push_cast, Bool.not_true, Bool.not_false, Int.reduceBEq, Int.reduceLT, Int.reduceLE, decide_true, decide_false, Nat.reduceAdd, Nat.reduceLT, Nat.reduceLeDiff, Nat.reduceBEq, Nat.reduceMul, Nat.reduceEqDiff, af33]
  refine SK_ca (under24_spec _ p mb L hC.start hw hl c) (fun v s' _ ⟨g, ys, o, y1, y2⟩ => ?_)
  have g2 := (Gr.start s).call g
  simp only [push_cast, Bool.not_true, Bool.not_false, Int.reduceBEq, Int.reduceLT, Int.reduceLE, decide_true, decide_false, Nat.reduceAdd, Nat.reduceLT, Nat.reduceLeDiff, Nat.reduceBEq, Nat.reduceMul, Nat.reduceEqDiff, o.sl.len, List.length_map]
  refine ⟨?_, g2.lo ▸ Nat.le_refl _⟩
  congr 1
  have := y2 hc
  rw [Bool.eq_iff_iff, ← this]
  simp; omega

end Go.AMJ
