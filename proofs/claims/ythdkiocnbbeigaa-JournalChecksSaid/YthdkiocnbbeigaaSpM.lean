/- The law. -/
import Derived.Test.YthdkiocnbbeigaaSpL
import Derived.Test.YthdkiocnbbeigaaHead
namespace Go.AMJ
open Go Go.AM
set_option linter.unusedSimpArgs false
set_option linter.unusedVariables false

/-! ### What is handed in -/

def lineTy : List Ty := [.int .i64, .int .u64, .int .u64, .int .i64]
def accTy : List Ty := [.int .i64, .int .i64, .int .u8, .str, .bool]
def askTy : List (Bool × List Ty) := [(true, [.int .i64, .int .u8, .int .u64, .slice lineTy, .slice accTy, .bool, .int .i64])]

theorem lines_of {s : AS} : ∀ (els : List (List AV)), (∀ x ∈ els, Hass s lineTy x) → ∃ xs : List Line, els = xs.map encL ∧ ∀ x ∈ xs, I64 x.m
  | [], _ => ⟨[], rfl, fun x h => (nomatch h)⟩
  | e :: els, h => by
    obtain ⟨xs, h1, h2⟩ := lines_of els (fun x hx => h x (by simp [hx]))
    have h3 := h e (by simp)
    simp only [lineTy, Hass, Has] at h3
    obtain ⟨_, _, rfl, ⟨a, rfl, _⟩, _, _, rfl, ⟨c, rfl, _⟩, _, _, rfl, ⟨k, rfl, _⟩, _, _, rfl, ⟨m, rfl, hm1, hm2⟩, rfl⟩ := h3
    refine ⟨⟨a, c, k, m⟩ :: xs, by rw [h1]; rfl, fun x hx => ?_⟩
    rcases List.mem_cons.1 hx with rfl | hx
    · simp only [IntKind.min, IntKind.max, IntKind.bits, IntKind.signed] at hm1 hm2
      refine ⟨?_, ?_⟩
      · simpa using hm1
      · have : m ≤ 9223372036854775807 := by simpa using hm2
        show m < 9223372036854775808; omega
    · exact h2 x hx

theorem accs_of {s : AS} : ∀ (els : List (List AV)), (∀ x ∈ els, Hass s accTy x) → ∃ xs : List Acc, els = xs.map encA
  | [], _ => ⟨[], rfl⟩
  | e :: els, h => by
    obtain ⟨xs, h1⟩ := accs_of els (fun x hx => h x (by simp [hx]))
    have h3 := h e (by simp)
    simp only [accTy, Hass, Has] at h3
    obtain ⟨_, _, rfl, ⟨a, rfl, _⟩, _, _, rfl, ⟨c, rfl, _⟩, _, _, rfl, ⟨k, rfl, _⟩, _, _, rfl, ⟨m, rfl, _⟩, _, _, rfl, ⟨b, rfl⟩, rfl⟩ := h3
    exact ⟨⟨a, c, k, m, b⟩ :: xs, by rw [h1]; rfl⟩

theorem slice_of {s : AS} {ty : List Ty} {v : AV} (hl : ∀ q B, s.h.get q = some B → q < s.nx) (h : Has s (.slice ty) v) : ∃ els, Sl s (size ty) v els ∧ ∀ x ∈ els, Hass s ty x := by
  simp only [Has] at h
  rcases h with rfl | ⟨q, len, cap, els, rfl, h2, h3, h4, h5, h6⟩
  · exact ⟨[], Sl.nil _ _, fun x hx => (nomatch hx)⟩
  · subst h5
    have hz : ∀ x ∈ els, x.length = size ty := fun x hx => by rw [size_eq]; exact (h6 x hx).length
    have := flatten_cut hz
    refine ⟨els, .inr ⟨q, 0, cap, true, false, _, rfl, h4, hl _ _ h4, h2, by rw [this.1]; omega, fun i hi => ?_⟩, h6⟩
    have := this.2 i hi []
    rw [List.append_nil] at this
    rw [Nat.zero_add]; exact this

/-- What turning answers: of which parts. -/
def turnR (d k src day : Int) (xs : List Line) : Int × Int × Int × Int × List Line :=
  if checkZ d k xs = 0 then (if day < 1 ∨ 3652059 < day then (0, 0, 0, 2, []) else (day, k, src, 0, xs.map negM)) else (0, 0, 0, checkZ d k xs, [])
theorem TurnP.ex {d k src day : Int} {xs : List Line} {v : AV} {s : AS} (h : TurnP d k src day xs v s) :
    ∃ u, v = .tu [encE (turnR d k src day xs).1 (turnR d k src day xs).2.1 (turnR d k src day xs).2.2.1 u, .i .i64 (turnR d k src day xs).2.2.2.1] ∧ Sl s 4 u ((turnR d k src day xs).2.2.2.2.map encL) := by
  unfold TurnP at h
  unfold turnR
  split at h
  · rename_i h1
    rw [if_pos h1]
    split at h
    · rename_i h2
      rw [if_pos h2]; exact ⟨.sn, h, Sl.nil _ _⟩
    · rename_i h2
      rw [if_neg h2]; exact h
  · rename_i h1
    rw [if_neg h1]; exact ⟨.sn, h, Sl.nil _ _⟩
theorem turnR_len (d k src day : Int) (xs : List Line) : (turnR d k src day xs).2.2.2.2.length ≤ xs.length := by
  unfold turnR; split
  · split <;> simp
  · simp
theorem totR_ex (d k : Int) (xs : List Line) : ∃ a b c, totR d k xs = .tu [.i .i64 a, .i .i64 b, .i .i64 c] := by
  unfold totR; split
  · split <;> exact ⟨_, _, _, rfl⟩
  · exact ⟨_, _, _, rfl⟩

def LawQ (o : Out) (st : St) : Prop := (∀ id, o ≠ .exit id) ∧ aress st [.t 2] = some [.b true]
theorem LawQ_ret {t : T AV} {n : Nat} {s : AS} : LawQ .ret ⟨t, n, s⟩ ↔ ev t (.t 2) = .b true := by
  unfold LawQ
  rw [aress_t, aress_nil]
  exact ⟨fun h => by simpa using h.2, fun h => ⟨(fun _ e => nomatch e), by simpa using h⟩⟩

theorem onL_row {L : List Acc} (hw : WA L) : ∀ xs, onL (rowA L) xs = onL L xs
  | [] => rfl
  | x :: xs => by
    simp only [onL]
    rw [rowA_find hw, rowA_bare hw, onL_row hw xs]
theorem onZ_row {L : List Acc} (hw : WA L) (d k : Int) (xs : List Line) : onZ (rowA L) d k xs = onZ L d k xs := by
  unfold onZ; rw [onL_row hw]

def aR : ACode → ACode
  | .seq _ b => b
  | c => c
def aL : ACode → ACode
  | .seq a _ => a
  | c => c
def p1 : ACode := aL af3.body
def p2 : ACode := aL (aR af3.body)
def p3 : ACode := aL (aR (aR af3.body))
def p4 : ACode := aL (aR (aR (aR af3.body)))
def p5 : ACode := aL (aR (aR (aR (aR af3.body))))
def rest3 : ACode := aR (aR (aR (aR (aR af3.body))))

def sameG (w : Option Bool) (call : Caller) (t : T AV) (d : Option Nat) (op : AOp) (v : AV) (s : AS) : Bool := match w with
  | some true => sameThere call t ⟨d, none, op⟩ v s
  | some false => true
  | none => false
theorem body3 : af3.body = .seq p1 (.seq p2 (.seq p3 (.seq p4 (.seq p5 rest3)))) := rfl
theorem sameThere_may (call : Caller) (t : T AV) (d : Option Nat) (k : Nat) (w : Bool) (op : AOp) (v : AV) (s : AS) : sameThere call t ⟨d, some (k, w), op⟩ v s = sameG (wb (ev t (.t k)) w) call t d op v s := by
  unfold sameG
  simp only [sameThere, wanted_some, wanted_none]
  cases wb (ev t (.t k)) w with
  | none => rfl
  | some b => cases b <;> rfl
theorem sameG_true (call : Caller) (t : T AV) (d : Option Nat) (op : AOp) (v : AV) (s : AS) : sameG (some true) call t d op v s = sameThere call t ⟨d, none, op⟩ v s := rfl

theorem eqi_self (n : Int) : (n == n) = true := by simp

set_option maxHeartbeats 4000000 in
theorem rest_ok {s : AS} {d k src day : Int} {v : AV} {xs : List Line} (hs4 : Sl s 4 v (xs.map encL)) (hx : ∀ x ∈ xs, I64 x.m) (hl : xs.length ≤ 1000) {t : T AV} {s2 : AS} {p mb : Nat} {L : List Acc}
    (hg : Gr s s2) (hn : s.nx + 2 ≤ s2.nx) (h3 : ev t (.t 3) = .p (s.nx + 1) 0) (h5 : ev t (.t 5) = .i .i64 day) (h6 : ev t (.t 6) = .p p 0) (hr : s2.h.get (s.nx + 1) = some (.row true [.i .i64 d, .i .u8 k, .i .u64 src, v]))
    (hC : Ch s2 p mb L) (hw : WA L) (hL : L.length ≤ 17) : X tab.get smJ [.c rest3] .nrm ⟨t, 115, s2⟩ LawQ := by
  obtain ⟨ta, tb, tc, ht⟩ := totR_ex d k xs
  simp only [push_cast, Bool.not_true, Bool.not_false, Int.reduceBEq, Int.reduceLT, Int.reduceLE, decide_true, decide_false, Nat.reduceAdd, Nat.reduceLT, Nat.reduceLeDiff, Nat.reduceBEq, Nat.reduceMul, Nat.reduceEqDiff, rest3, af3, aR, h3, hr]
  rw [← encE, SK_re (totals7_spec _ d k src v xs (hs4.gr hg) hx hl), ht]
  simp only [push_cast, Bool.not_true, Bool.not_false, Int.reduceBEq, Int.reduceLT, Int.reduceLE, decide_true, decide_false, Nat.reduceAdd, Nat.reduceLT, Nat.reduceLeDiff, Nat.reduceBEq, Nat.reduceMul, Nat.reduceEqDiff, h3, hr]
  rw [← encE, SK_re (totals8_spec _ d k src v xs (hs4.gr hg) hx hl), ht]
  simp only [push_cast, Bool.not_true, Bool.not_false, Int.reduceBEq, Int.reduceLT, Int.reduceLE, decide_true, decide_false, Nat.reduceAdd, Nat.reduceLT, Nat.reduceLeDiff, Nat.reduceBEq, Nat.reduceMul, Nat.reduceEqDiff, h3, hr, h5]
  rw [← encE]
  refine SK_ca (turn9_spec _ d k src day v xs (hs4.gr hg) hx hl) (fun v3 s3 _ ⟨c3, hp3⟩ => ?_)
  obtain ⟨u3, rfl, hu3⟩ := hp3.ex
  have g3 := hg.call c3
  have r3 : s3.h.get (s.nx + 1) = some (.row true [.i .i64 d, .i .u8 k, .i .u64 src, v]) := by rw [c3.old _ (by omega)]; exact hr
  have n3 := c3.nx
  have hC3 := hC.grc c3
  generalize hT : turnR d k src day xs = tr at hu3
  have hTl : tr.2.2.2.2.length ≤ xs.length := by rw [← hT]; exact turnR_len d k src day xs
  simp only [push_cast, Bool.not_true, Bool.not_false, Int.reduceBEq, Int.reduceLT, Int.reduceLE, decide_true, decide_false, Nat.reduceAdd, Nat.reduceLT, Nat.reduceLeDiff, Nat.reduceBEq, Nat.reduceMul, Nat.reduceEqDiff, encE, hu3.one, cells_one hu3.one, h3, h5, ne_at (show s.nx + 1 < s3.nx by omega), r3]
  have c4 : Grc s3 (s3.new (.row true [.i .i64 0, .i .u8 0, .i .u64 0, .sn])) := .new _ _
  have g4 := (g3.new (.row true [.i .i64 0, .i .u8 0, .i .u64 0, .sn])).write (k := s3.nx) (.row true [.i .i64 tr.1, .i .u8 tr.2.1, .i .u64 tr.2.2.1, u3]) g3.nx
  have e4 : ((s3.new (.row true [.i .i64 0, .i .u8 0, .i .u64 0, .sn])).write s3.nx (.row true [.i .i64 tr.1, .i .u8 tr.2.1, .i .u64 tr.2.2.1, u3])).h.get (s.nx + 1) = some (.row true [.i .i64 d, .i .u8 k, .i .u64 src, v]) := by
    rw [get_write, if_neg (by omega), get_new, if_neg (by omega)]; exact r3
  have q4 : ((s3.new (.row true [.i .i64 0, .i .u8 0, .i .u64 0, .sn])).write s3.nx (.row true [.i .i64 tr.1, .i .u8 tr.2.1, .i .u64 tr.2.2.1, u3])).h.get s3.nx = some (.row true [.i .i64 tr.1, .i .u8 tr.2.1, .i .u64 tr.2.2.1, u3]) := by
    rw [get_write, if_pos rfl]
  have o4 : ∀ q, q < s3.nx → ((s3.new (.row true [.i .i64 0, .i .u8 0, .i .u64 0, .sn])).write s3.nx (.row true [.i .i64 tr.1, .i .u8 tr.2.1, .i .u64 tr.2.2.1, u3])).h.get q = s3.h.get q := fun q hq => by
    rw [get_write, if_neg (by omega), get_new, if_neg (by omega)]
  have n4 : ((s3.new (.row true [.i .i64 0, .i .u8 0, .i .u64 0, .sn])).write s3.nx (.row true [.i .i64 tr.1, .i .u8 tr.2.1, .i .u64 tr.2.2.1, u3])).nx = s3.nx + 1 := rfl
  generalize ((s3.new (.row true [.i .i64 0, .i .u8 0, .i .u64 0, .sn])).write s3.nx (.row true [.i .i64 tr.1, .i .u8 tr.2.1, .i .u64 tr.2.2.1, u3])) = s4 at g4 e4 q4 o4 n4 ⊢
  have hC4 := hC3.of (by omega) o4
  have hu4 := hu3.mono (by omega) o4
  rw [← encE]
  refine SK_ca (turn10_spec _ d k src day v xs (hs4.gr g4) hx hl) (fun v5 s5 _ ⟨c5, hp5⟩ => ?_)
  obtain ⟨u5, rfl, hu5⟩ := hp5.ex
  rw [hT] at hu5 ⊢
  have g5 := g4.call c5
  have e5 : s5.h.get (s.nx + 1) = some (.row true [.i .i64 d, .i .u8 k, .i .u64 src, v]) := by rw [c5.old _ (by omega)]; exact e4
  have q5 : s5.h.get s3.nx = some (.row true [.i .i64 tr.1, .i .u8 tr.2.1, .i .u64 tr.2.2.1, u3]) := by rw [c5.old _ (by omega)]; exact q4
  have n5 := c5.nx
  have hC5 := hC4.grc c5
  have hu35 := hu4.grc c5
  simp only [push_cast, Bool.not_true, Bool.not_false, Int.reduceBEq, Int.reduceLT, Int.reduceLE, decide_true, decide_false, Nat.reduceAdd, Nat.reduceLT, Nat.reduceLeDiff, Nat.reduceBEq, Nat.reduceMul, Nat.reduceEqDiff, encE, hu5.one, cells_one hu5.one, h3, h5]
  have g6 := (g5.new (.row true [.i .i64 0, .i .u8 0, .i .u64 0, .sn])).write (k := s5.nx) (.row true [.i .i64 tr.1, .i .u8 tr.2.1, .i .u64 tr.2.2.1, u5]) g5.nx
  have o6 : ∀ q, q < s5.nx → ((s5.new (.row true [.i .i64 0, .i .u8 0, .i .u64 0, .sn])).write s5.nx (.row true [.i .i64 tr.1, .i .u8 tr.2.1, .i .u64 tr.2.2.1, u5])).h.get q = s5.h.get q := fun q hq => by
    rw [get_write, if_neg (by omega), get_new, if_neg (by omega)]
  have w6 : ((s5.new (.row true [.i .i64 0, .i .u8 0, .i .u64 0, .sn])).write s5.nx (.row true [.i .i64 tr.1, .i .u8 tr.2.1, .i .u64 tr.2.2.1, u5])).h.get s5.nx = some (.row true [.i .i64 tr.1, .i .u8 tr.2.1, .i .u64 tr.2.2.1, u5]) := by
    rw [get_write, if_pos rfl]
  have n6 : ((s5.new (.row true [.i .i64 0, .i .u8 0, .i .u64 0, .sn])).write s5.nx (.row true [.i .i64 tr.1, .i .u8 tr.2.1, .i .u64 tr.2.2.1, u5])).nx = s5.nx + 1 := rfl
  generalize ((s5.new (.row true [.i .i64 0, .i .u8 0, .i .u64 0, .sn])).write s5.nx (.row true [.i .i64 tr.1, .i .u8 tr.2.1, .i .u64 tr.2.2.1, u5])) = s6 at g6 o6 w6 n6 ⊢
  have e6 := (o6 (s.nx + 1) (by omega)).trans e5
  have q6 := (o6 s3.nx (by omega)).trans q5
  have hC6 := hC5.of (by omega) o6
  have hu36 := hu35.mono (by omega) o6
  have hu56 := hu5.mono (by omega) o6
  refine X_draw ?_
  simp only [push_cast, Bool.not_true, Bool.not_false, Int.reduceBEq, Int.reduceLT, Int.reduceLE, decide_true, decide_false, Nat.reduceAdd, Nat.reduceLT, Nat.reduceLeDiff, Nat.reduceBEq, Nat.reduceMul, Nat.reduceEqDiff, h3, e6]
  rw [← encE]
  refine DK_re (check11_spec s6 d k src v xs (hs4.gr g6) hx hl) ?_
  simp only [push_cast, Bool.not_true, Bool.not_false, Int.reduceBEq, Int.reduceLT, Int.reduceLE, decide_true, decide_false, Nat.reduceAdd, Nat.reduceLT, Nat.reduceLeDiff, Nat.reduceBEq, Nat.reduceMul, Nat.reduceEqDiff, h3, e6, encE]
  rw [← encE]
  refine DK_re (check12_spec s6 d k src v xs (hs4.gr g6) hx hl) ?_
  simp only [push_cast, Bool.not_true, Bool.not_false, Int.reduceBEq, Int.reduceLT, Int.reduceLE, decide_true, decide_false, Nat.reduceAdd, Nat.reduceLT, Nat.reduceLeDiff, Nat.reduceBEq, Nat.reduceMul, Nat.reduceEqDiff, h3, h6, e6, encE, eqi_self]
  rw [← encE]
  refine DK_re (on13_spec s6 p mb L hC6 hw hL d k src v xs (hs4.gr g6) hx hl) ?_
  simp only [push_cast, Bool.not_true, Bool.not_false, Int.reduceBEq, Int.reduceLT, Int.reduceLE, decide_true, decide_false, Nat.reduceAdd, Nat.reduceLT, Nat.reduceLeDiff, Nat.reduceBEq, Nat.reduceMul, Nat.reduceEqDiff, h3, h6, e6, encE, eqi_self]
  refine DK_ca (all15_spec s6 p mb L hC6 hw hL).quiet (fun v7 s7 q7 ⟨⟨c7, o7⟩, f7⟩ => ?_)
  have g7 := g6.call c7
  have e7 : s7.h.get (s.nx + 1) = some (.row true [.i .i64 d, .i .u8 k, .i .u64 src, v]) := by rw [c7.old _ (by omega)]; exact e6
  have q7' : s7.h.get s3.nx = some (.row true [.i .i64 tr.1, .i .u8 tr.2.1, .i .u64 tr.2.2.1, u3]) := by rw [c7.old _ (by omega)]; exact q6
  have w7 : s7.h.get s5.nx = some (.row true [.i .i64 tr.1, .i .u8 tr.2.1, .i .u64 tr.2.2.1, u5]) := by rw [c7.old _ (by omega)]; exact w6
  have hSl := rowA_len hw
  have same : ∀ (s8 : AS), Gr s s8 → Sl s8 5 v7 ((rowA L).map encA) → Re tab.get smJ (.fn 14 []) [v7, encE d k src v] s8 (.i .i64 (onZ L d k xs)) := fun s8 g8 h8 => by
    have := on14_spec s8 v7 (rowA L) h8 (rowA_wa hw) (by omega) d k src v xs (hs4.gr g8) hx hl
    rw [onZ_row hw] at this; exact this
  cases q7
  · simp only [push_cast, Bool.not_true, Bool.not_false, Int.reduceBEq, Int.reduceLT, Int.reduceLE, decide_true, decide_false, Nat.reduceAdd, Nat.reduceLT, Nat.reduceLeDiff, Nat.reduceBEq, Nat.reduceMul, Nat.reduceEqDiff, h3, h6, e7, encE, eqi_self]
    rw [← encE]
    refine DK_re (same s7 g7 o7.sl) ?_
    simp only [push_cast, Bool.not_true, Bool.not_false, Int.reduceBEq, Int.reduceLT, Int.reduceLE, decide_true, decide_false, Nat.reduceAdd, Nat.reduceLT, Nat.reduceLeDiff, Nat.reduceBEq, Nat.reduceMul, Nat.reduceEqDiff, h3, h6, e7, q7', w7, encE, eqi_self]
    rw [← encE, ← encE]
    refine DK_re (same16_spec s7 _ _ _ u3 u5 tr.2.2.2.2 (hu36.mono c7.nx c7.old) (hu56.mono c7.nx c7.old) (by omega)) ?_
    simp only [push_cast, Bool.not_true, Bool.not_false, Int.reduceBEq, Int.reduceLT, Int.reduceLE, decide_true, decide_false, Nat.reduceAdd, Nat.reduceLT, Nat.reduceLeDiff, Nat.reduceBEq, Nat.reduceMul, Nat.reduceEqDiff, h3, h6, encE, eqi_self]
    refine DK_sm (g := headG) rfl rfl ?_
    simp only [push_cast, Bool.not_true, Bool.not_false, Int.reduceBEq, Int.reduceLT, Int.reduceLE, decide_true, decide_false, Nat.reduceAdd, Nat.reduceLT, Nat.reduceLeDiff, Nat.reduceBEq, Nat.reduceMul, Nat.reduceEqDiff]
    refine XD_nil ?_ ?_
    · refine DC_of [true, true, true, true, true, true, true, true, true, true, false, true, true, true, true, true, true, true, true, true, true, true, true, true, true, true, true, true, true, true, true, true, true, true, true, true, true, true, true, true, true, false, true, true] 3 [[], [], [], [], [], [], [], [], [], [], [], [0], [], [], [], [], [], [], [], [], [], [], [], [], [], [], [], [], [], [], [], [], [], [], [], [], [], [], [], [], [], [], [], []] rfl rfl rfl rfl ?_
      intro call
      simp only [push_cast, Bool.not_true, Bool.not_false, Int.reduceBEq, Int.reduceLT, Int.reduceLE, decide_true, decide_false, Nat.reduceAdd, Nat.reduceLT, Nat.reduceLeDiff, Nat.reduceBEq, Nat.reduceMul, Nat.reduceEqDiff, h3, e6, sameThere_may, sameG_true, encE, and_self]
    · simp only [push_cast, Bool.not_true, Bool.not_false, Int.reduceBEq, Int.reduceLT, Int.reduceLE, decide_true, decide_false, Nat.reduceAdd, Nat.reduceLT, Nat.reduceLeDiff, Nat.reduceBEq, Nat.reduceMul, Nat.reduceEqDiff, LawQ_ret]
  · obtain rfl := f7 rfl
    simp only [push_cast, Bool.not_true, Bool.not_false, Int.reduceBEq, Int.reduceLT, Int.reduceLE, decide_true, decide_false, Nat.reduceAdd, Nat.reduceLT, Nat.reduceLeDiff, Nat.reduceBEq, Nat.reduceMul, Nat.reduceEqDiff, h3, h6, e7, encE, eqi_self]
    rw [← encE]
    refine DK_re (same s7 g7 o7.sl) ?_
    simp only [push_cast, Bool.not_true, Bool.not_false, Int.reduceBEq, Int.reduceLT, Int.reduceLE, decide_true, decide_false, Nat.reduceAdd, Nat.reduceLT, Nat.reduceLeDiff, Nat.reduceBEq, Nat.reduceMul, Nat.reduceEqDiff, h3, h6, e7, q7', w7, encE, eqi_self]
    rw [← encE, ← encE]
    refine DK_re (same16_spec s7 _ _ _ u3 u5 tr.2.2.2.2 (hu36.mono c7.nx c7.old) (hu56.mono c7.nx c7.old) (by omega)) ?_
    simp only [push_cast, Bool.not_true, Bool.not_false, Int.reduceBEq, Int.reduceLT, Int.reduceLE, decide_true, decide_false, Nat.reduceAdd, Nat.reduceLT, Nat.reduceLeDiff, Nat.reduceBEq, Nat.reduceMul, Nat.reduceEqDiff, h3, h6, encE, eqi_self]
    refine DK_sm (g := headG) rfl rfl ?_
    simp only [push_cast, Bool.not_true, Bool.not_false, Int.reduceBEq, Int.reduceLT, Int.reduceLE, decide_true, decide_false, Nat.reduceAdd, Nat.reduceLT, Nat.reduceLeDiff, Nat.reduceBEq, Nat.reduceMul, Nat.reduceEqDiff]
    refine XD_nil (DC_no [true, true, true, true, true, true, true, true, true, true, true, true, true, true, true, true, true, true, true, true, true, true, true, true, true, true, true, true, true, true, true, true, true, true, true, true, true, true, true, true, true, false, true, true] 2 rfl rfl rfl rfl) ?_
    simp only [push_cast, Bool.not_true, Bool.not_false, Int.reduceBEq, Int.reduceLT, Int.reduceLE, decide_true, decide_false, Nat.reduceAdd, Nat.reduceLT, Nat.reduceLeDiff, Nat.reduceBEq, Nat.reduceMul, Nat.reduceEqDiff, LawQ_ret]

set_option maxHeartbeats 4000000 in
theorem law3 : Answers tab.get smJ af3 askTy := by
  intro s l hro hlt hargs
  simp only [askTy, HasArgs, HasArg, Hass, Has] at hargs
  obtain ⟨_, _, rfl, ⟨_, rfl, _, _, rfl, ⟨d, rfl, _⟩, _, _, rfl, ⟨k, rfl, _⟩, _, _, rfl, ⟨src, rfl, _⟩, v, _, rfl, hv, w, _, rfl, hw, _, _, rfl, ⟨shut, rfl⟩, _, _, rfl, ⟨day, rfl, _⟩, rfl⟩, rfl⟩ := hargs
  obtain ⟨els, hs4, hels⟩ := slice_of (ty := lineTy) hlt (by simpa only [Has] using hv)
  obtain ⟨xs, rfl, hx⟩ := lines_of els hels
  obtain ⟨mls, hm5, hmls⟩ := slice_of (ty := accTy) hlt (by simpa only [Has] using hw)
  obtain ⟨more, rfl⟩ := accs_of mls hmls
  replace hs4 : Sl s 4 v (xs.map encL) := hs4
  replace hm5 : Sl s 5 w (more.map encA) := hm5
  clear hv hw hels hmls
  suffices h : X tab.get smJ [.c af3.body] .nrm ⟨argsT [.ag [.i .i64 d, .i .u8 k, .i .u64 src, v, w, .b shut, .i .i64 day]] 0 T.e, af3.nt, ⟨s.h, s.nx, s.nx⟩⟩ LawQ by
    obtain ⟨kk, o1, st1, h1, h2⟩ := X_step.1 h
    obtain ⟨h3, h4⟩ := X_nil.1 h2
    exact ⟨kk, o1, st1, h1, h3, h4⟩
  have hlen := hs4.len
  have mlen := hm5.len
  simp only [List.length_map] at hlen mlen
  rw [body3]
  simp only [push_cast, Bool.not_true, Bool.not_false, Int.reduceBEq, Int.reduceLT, Int.reduceLE, decide_true, decide_false, Nat.reduceAdd, Nat.reduceLT, Nat.reduceLeDiff, Nat.reduceBEq, Nat.reduceMul, Nat.reduceEqDiff, p1, p2, p3, p4, p5, af3, aL, aR, hs4.one, hm5.one]
  refine X_draw ?_
  simp only [push_cast, Bool.not_true, Bool.not_false, Int.reduceBEq, Int.reduceLT, Int.reduceLE, decide_true, decide_false, Nat.reduceAdd, Nat.reduceLT, Nat.reduceLeDiff, Nat.reduceBEq, Nat.reduceMul, Nat.reduceEqDiff, hs4.one, cells_one hs4.one]
  refine XD_nil ?_ ?_
  · refine DC_of [true, true, true, true, true, true, false, false, true, true] 3 [[1], [1], [1, 2], [1, 2], [1, 2], [1, 2], [], [], [], []] rfl rfl rfl rfl ?_
    intro call
    simp only [push_cast, Bool.not_true, Bool.not_false, Int.reduceBEq, Int.reduceLT, Int.reduceLE, decide_true, decide_false, Nat.reduceAdd, Nat.reduceLT, Nat.reduceLeDiff, Nat.reduceBEq, Nat.reduceMul, Nat.reduceEqDiff, and_self]
  have g1 := ((Gr.start s).new (.row true [.i .i64 d, .i .u8 k, .i .u64 src, v, w, .b shut, .i .i64 day])).new (.row true [.i .i64 0, .i .u8 0, .i .u64 0, .sn])
  have g2 := g1.write (k := s.nx + 1) (.row true [.i .i64 d, .i .u8 k, .i .u64 src, v]) (Nat.le_succ _)
  simp only [push_cast, Bool.not_true, Bool.not_false, Int.reduceBEq, Int.reduceLT, Int.reduceLE, decide_true, decide_false, Nat.reduceAdd, Nat.reduceLT, Nat.reduceLeDiff, Nat.reduceBEq, Nat.reduceMul, Nat.reduceEqDiff, hlen, mlen]
  (try simp only [push_cast, Bool.not_true, Bool.not_false, Int.reduceBEq, Int.reduceLT, Int.reduceLE, decide_true, decide_false, Nat.reduceAdd, Nat.reduceLT, Nat.reduceLeDiff, Nat.reduceBEq, Nat.reduceMul, Nat.reduceEqDiff, hlen, mlen]) <;> (repeat' (first | (refine SC_casesN (fun h => ?_) (fun h => ?_) <;> simp only [push_cast, Bool.not_true, Bool.not_false, Int.reduceBEq, Int.reduceLT, Int.reduceLE, decide_true, decide_false, Nat.reduceAdd, Nat.reduceLT, Nat.reduceLeDiff, Nat.reduceBEq, Nat.reduceMul, Nat.reduceEqDiff, h, hlen, mlen]) | (refine SC_cases (fun h => ?_) (fun h => ?_) <;> simp only [push_cast, Bool.not_true, Bool.not_false, Int.reduceBEq, Int.reduceLT, Int.reduceLE, decide_true, decide_false, Nat.reduceAdd, Nat.reduceLT, Nat.reduceLeDiff, Nat.reduceBEq, Nat.reduceMul, Nat.reduceEqDiff, h, hlen, mlen]) | (refine SG_casesN (fun h => ?_) (fun h => ?_) <;> simp only [push_cast, Bool.not_true, Bool.not_false, Int.reduceBEq, Int.reduceLT, Int.reduceLE, decide_true, decide_false, Nat.reduceAdd, Nat.reduceLT, Nat.reduceLeDiff, Nat.reduceBEq, Nat.reduceMul, Nat.reduceEqDiff, h, hlen, mlen]) | (refine SG_cases (fun h => ?_) (fun h => ?_) <;> simp only [push_cast, Bool.not_true, Bool.not_false, Int.reduceBEq, Int.reduceLT, Int.reduceLE, decide_true, decide_false, Nat.reduceAdd, Nat.reduceLT, Nat.reduceLeDiff, Nat.reduceBEq, Nat.reduceMul, Nat.reduceEqDiff, h, hlen, mlen]) | (refine DG_casesN (fun h => ?_) (fun h => ?_) <;> simp only [push_cast, Bool.not_true, Bool.not_false, Int.reduceBEq, Int.reduceLT, Int.reduceLE, decide_true, decide_false, Nat.reduceAdd, Nat.reduceLT, Nat.reduceLeDiff, Nat.reduceBEq, Nat.reduceMul, Nat.reduceEqDiff, h, hlen, mlen]) | (refine DG_cases (fun h => ?_) (fun h => ?_) <;> simp only [push_cast, Bool.not_true, Bool.not_false, Int.reduceBEq, Int.reduceLT, Int.reduceLE, decide_true, decide_false, Nat.reduceAdd, Nat.reduceLT, Nat.reduceLeDiff, Nat.reduceBEq, Nat.reduceMul, Nat.reduceEqDiff, h, hlen, mlen])))
  · rw [SK_sm (g := headG) rfl rfl]
    simp only [push_cast, Bool.not_true, Bool.not_false, Int.reduceBEq, Int.reduceLT, Int.reduceLE, decide_true, decide_false, Nat.reduceAdd, Nat.reduceLT, Nat.reduceLeDiff, Nat.reduceBEq, Nat.reduceMul, Nat.reduceEqDiff, LawQ_ret]
  · rename_i hl1
    have hl1' : xs.length ≤ 100 := by have := of_decide_eq_false hl1; omega
    have hml : more.length ≤ 10 := by have := of_decide_eq_false h; omega
    refine SK_ca (standard5_spec _ w more (hm5.gr g2) hml) (fun v1 s1 _ ⟨c1, p, mb, L, e1, hp, hmb, hC, hw, hL⟩ => ?_)
    subst e1
    have g3 := g2.call c1
    replace hp : s.nx + 2 ≤ p := hp
    replace hmb : s.nx + 2 ≤ mb := hmb
    have r1 : s1.h.get s.nx = some (.row true [.i .i64 d, .i .u8 k, .i .u64 src, v, w, .b shut, .i .i64 day]) := by rw [c1.old _ (by show _ < s.nx + 1 + 1; omega)]; simp only [push_cast, Bool.not_true, Bool.not_false, Int.reduceBEq, Int.reduceLT, Int.reduceLE, decide_true, decide_false, Nat.reduceAdd, Nat.reduceLT, Nat.reduceLeDiff, Nat.reduceBEq, Nat.reduceMul, Nat.reduceEqDiff]
    have r3 : s1.h.get (s.nx + 1) = some (.row true [.i .i64 d, .i .u8 k, .i .u64 src, v]) := by rw [c1.old _ (by show _ < s.nx + 1 + 1; omega)]; simp only [push_cast, Bool.not_true, Bool.not_false, Int.reduceBEq, Int.reduceLT, Int.reduceLE, decide_true, decide_false, Nat.reduceAdd, Nat.reduceLT, Nat.reduceLeDiff, Nat.reduceBEq, Nat.reduceMul, Nat.reduceEqDiff]
    have n1 : s.nx + 2 ≤ s1.nx := c1.nx
    simp only [push_cast, Bool.not_true, Bool.not_false, Int.reduceBEq, Int.reduceLT, Int.reduceLE, decide_true, decide_false, Nat.reduceAdd, Nat.reduceLT, Nat.reduceLeDiff, Nat.reduceBEq, Nat.reduceMul, Nat.reduceEqDiff, r1, mlen]
    cases shut
    · simp only [push_cast, Bool.not_true, Bool.not_false, Int.reduceBEq, Int.reduceLT, Int.reduceLE, decide_true, decide_false, Nat.reduceAdd, Nat.reduceLT, Nat.reduceLeDiff, Nat.reduceBEq, Nat.reduceMul, Nat.reduceEqDiff]
      refine rest_ok (day := day) hs4 hx (by omega) g3 n1 ?_ ?_ ?_ r3 hC hw (by omega) <;> simp only [push_cast, Bool.not_true, Bool.not_false, Int.reduceBEq, Int.reduceLT, Int.reduceLE, decide_true, decide_false, Nat.reduceAdd, Nat.reduceLT, Nat.reduceLeDiff, Nat.reduceBEq, Nat.reduceMul, Nat.reduceEqDiff]
    · simp only [push_cast, Bool.not_true, Bool.not_false, Int.reduceBEq, Int.reduceLT, Int.reduceLE, decide_true, decide_false, Nat.reduceAdd, Nat.reduceLT, Nat.reduceLeDiff, Nat.reduceBEq, Nat.reduceMul, Nat.reduceEqDiff, mlen]
      (first | (refine SC_casesN (fun h => ?_) (fun h => ?_) <;> simp only [push_cast, Bool.not_true, Bool.not_false, Int.reduceBEq, Int.reduceLT, Int.reduceLE, decide_true, decide_false, Nat.reduceAdd, Nat.reduceLT, Nat.reduceLeDiff, Nat.reduceBEq, Nat.reduceMul, Nat.reduceEqDiff, h, mlen]) | (refine SC_cases (fun h => ?_) (fun h => ?_) <;> simp only [push_cast, Bool.not_true, Bool.not_false, Int.reduceBEq, Int.reduceLT, Int.reduceLE, decide_true, decide_false, Nat.reduceAdd, Nat.reduceLT, Nat.reduceLeDiff, Nat.reduceBEq, Nat.reduceMul, Nat.reduceEqDiff, h, mlen]) | (refine SG_casesN (fun h => ?_) (fun h => ?_) <;> simp only [push_cast, Bool.not_true, Bool.not_false, Int.reduceBEq, Int.reduceLT, Int.reduceLE, decide_true, decide_false, Nat.reduceAdd, Nat.reduceLT, Nat.reduceLeDiff, Nat.reduceBEq, Nat.reduceMul, Nat.reduceEqDiff, h, mlen]) | (refine SG_cases (fun h => ?_) (fun h => ?_) <;> simp only [push_cast, Bool.not_true, Bool.not_false, Int.reduceBEq, Int.reduceLT, Int.reduceLE, decide_true, decide_false, Nat.reduceAdd, Nat.reduceLT, Nat.reduceLeDiff, Nat.reduceBEq, Nat.reduceMul, Nat.reduceEqDiff, h, mlen]) | (refine DG_casesN (fun h => ?_) (fun h => ?_) <;> simp only [push_cast, Bool.not_true, Bool.not_false, Int.reduceBEq, Int.reduceLT, Int.reduceLE, decide_true, decide_false, Nat.reduceAdd, Nat.reduceLT, Nat.reduceLeDiff, Nat.reduceBEq, Nat.reduceMul, Nat.reduceEqDiff, h, mlen]) | (refine DG_cases (fun h => ?_) (fun h => ?_) <;> simp only [push_cast, Bool.not_true, Bool.not_false, Int.reduceBEq, Int.reduceLT, Int.reduceLE, decide_true, decide_false, Nat.reduceAdd, Nat.reduceLT, Nat.reduceLeDiff, Nat.reduceBEq, Nat.reduceMul, Nat.reduceEqDiff, h, mlen]))
      · have hpos : 0 < more.length := by have := of_decide_eq_true h; omega
        obtain ⟨w0, cs, hb, hbn, hc⟩ := hm5.row (i := 0) (by simpa using hpos)
        rw [← g3.old _ hbn] at hb
        rw [List.getElem_map] at hc
        obtain ⟨k1, _⟩ := cell_of hpos hc
        have hi0 := hm5.iad (i := 0) (by simpa using hpos)
        have hi0' : ∀ (k : IntKind) (s' : AS), iadA none 5 w (.i k 0) s' = some (.p (slB w) (slO w + 0 * 5), s') := hi0
        simp only [push_cast, Bool.not_true, Bool.not_false, Int.reduceBEq, Int.reduceLT, Int.reduceLE, decide_true, decide_false, Nat.reduceAdd, Nat.reduceLT, Nat.reduceLeDiff, Nat.reduceBEq, Nat.reduceMul, Nat.reduceEqDiff, hi0', hb]
        rw [Nat.zero_mul, Nat.add_zero] at k1
        simp only [push_cast, Bool.not_true, Bool.not_false, Int.reduceBEq, Int.reduceLT, Int.reduceLE, decide_true, decide_false, Nat.reduceAdd, Nat.reduceLT, Nat.reduceLeDiff, Nat.reduceBEq, Nat.reduceMul, Nat.reduceEqDiff, k1]
        refine SK_ca (shut6_spec s1 p mb L hC hw (by omega) _) (fun v2 s2 _ ⟨c2, _, L', hC2, hw2, hL2⟩ => ?_)
        simp only [push_cast, Bool.not_true, Bool.not_false, Int.reduceBEq, Int.reduceLT, Int.reduceLE, decide_true, decide_false, Nat.reduceAdd, Nat.reduceLT, Nat.reduceLeDiff, Nat.reduceBEq, Nat.reduceMul, Nat.reduceEqDiff]
        refine rest_ok (day := day) hs4 hx (by omega) (g3.wr c2 (by omega)) (Nat.le_trans n1 c2.nx) ?_ ?_ ?_ ((c2.old _ (by omega) (by omega)).trans r3) hC2 hw2 (by omega) <;> simp only [push_cast, Bool.not_true, Bool.not_false, Int.reduceBEq, Int.reduceLT, Int.reduceLE, decide_true, decide_false, Nat.reduceAdd, Nat.reduceLT, Nat.reduceLeDiff, Nat.reduceBEq, Nat.reduceMul, Nat.reduceEqDiff]
      · refine rest_ok (day := day) hs4 hx (by omega) g3 n1 ?_ ?_ ?_ r3 hC hw (by omega) <;> simp only [push_cast, Bool.not_true, Bool.not_false, Int.reduceBEq, Int.reduceLT, Int.reduceLE, decide_true, decide_false, Nat.reduceAdd, Nat.reduceLT, Nat.reduceLeDiff, Nat.reduceBEq, Nat.reduceMul, Nat.reduceEqDiff]
  · rw [SK_sm (g := headG) rfl rfl]
    simp only [push_cast, Bool.not_true, Bool.not_false, Int.reduceBEq, Int.reduceLT, Int.reduceLE, decide_true, decide_false, Nat.reduceAdd, Nat.reduceLT, Nat.reduceLeDiff, Nat.reduceBEq, Nat.reduceMul, Nat.reduceEqDiff, LawQ_ret]

end Go.AMJ
