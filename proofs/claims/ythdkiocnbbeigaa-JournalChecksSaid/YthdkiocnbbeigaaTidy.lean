/- Tidy, of one list of lines: the range over the map goes either way. -/
import Derived.Test.YthdkiocnbbeigaaSm
import Derived.Test.YthdkiocnbbeigaaFt
import Derived.Test.YthdkiocnbbeigaaAmRange
namespace Go.AMJ
open Go Go.AM Go.Proofs Go.RowKit Go.Maps Go.Sort Go.Shelf
set_option linter.unusedVariables false

noncomputable def seqL : Code → Code
  | .seq a _ => a
  | c => c
noncomputable def seqR : Code → Code
  | .seq _ b => b
  | c => c
noncomputable def inB : Code → Code
  | .block _ c => c
  | .loop c => c
  | c => c
noncomputable def opsOf : Code → Array Oper
  | .region _ o _ => o
  | _ => #[]
noncomputable def bodyOf (f : Func) : Code := match f.body with
  | some c => c
  | none => .skip
noncomputable def cc (c : Code) : ACode := match cCode Try.prog c with
  | some a => a
  | none => .skip

noncomputable def c0 : Code := bodyOf Try.f18
noncomputable def c1 : Code := seqR c0
noncomputable def c2 : Code := seqR c1
noncomputable def c3 : Code := seqR c2
noncomputable def c4 : Code := seqR c3
noncomputable def x5 : Code := seqL c4
noncomputable def c5 : Code := seqR c4
noncomputable def l5 : Code := inB (inB (seqR x5))
noncomputable def b3 : Code := inB (seqR (seqR l5))

theorem body_eq : Try.f18.body = some c0 := by kernel_rfl
theorem c0_eq : c0 = .seq (seqL c0) c1 := by kernel_rfl
theorem c1_eq : c1 = .seq (seqL c1) c2 := by kernel_rfl
theorem c2_eq : c2 = .seq (seqL c2) c3 := by kernel_rfl
theorem c3_eq : c3 = .seq (seqL c3) c4 := by kernel_rfl
theorem c4_eq : c4 = .seq x5 c5 := by kernel_rfl
theorem x5_eq : x5 = .seq (.region 10 (opsOf (seqL x5)) false) (.block 2 (.loop l5)) := by kernel_rfl
theorem l5_eq : l5 = .seq (.region 11 (opsOf (seqL l5)) false) (.seq (.cond (.tmp 38) .skip (.exit 2)) (.block 3 (.seq (.region 12 (opsOf (seqL b3)) false) (seqR b3)))) := by kernel_rfl

theorem k0 : cCode Try.prog (seqL c0) = some (cc (seqL c0)) := by kernel_rfl
theorem k1 : cCode Try.prog (seqL c1) = some (cc (seqL c1)) := by kernel_rfl
theorem k2 : cCode Try.prog (seqL c2) = some (cc (seqL c2)) := by kernel_rfl
theorem k3 : cCode Try.prog (seqL c3) = some (cc (seqL c3)) := by kernel_rfl
theorem k5 : cCode Try.prog c5 = some (cc c5) := by kernel_rfl
theorem kb : cCode Try.prog (seqR b3) = some (cc (seqR b3)) := by kernel_rfl

noncomputable def run (c : ACode) (st : St) : St := match aexec tab.get smB 100 c st with
  | some (_, st') => st'
  | none => st

noncomputable def s00 : AS := ⟨T.put .e 0 (some (.row false (ofK tidyK))), 1, 0⟩
noncomputable def st0 : St := ⟨argsT [.sl 0 0 4 3 3 true] 0 .e, 76, ⟨s00.h, s00.nx, s00.nx⟩⟩
noncomputable def st1 : St := run (cc (seqL c0)) st0
noncomputable def st2 : St := run (cc (seqL c1)) st1
noncomputable def st3 : St := run (cc (seqL c2)) st2
noncomputable def st4 : St := run (cc (seqL c3)) st3

theorem r1 : aexec tab.get smB 100 (cc (seqL c0)) st0 = some (.nrm, st1) := by kernel_rfl
theorem r2 : aexec tab.get smB 100 (cc (seqL c1)) st1 = some (.nrm, st2) := by kernel_rfl
theorem r3 : aexec tab.get smB 100 (cc (seqL c2)) st2 = some (.nrm, st3) := by kernel_rfl
theorem r4 : aexec tab.get smB 100 (cc (seqL c3)) st3 = some (.nrm, st4) := by kernel_rfl

noncomputable def es4 : List (AV × AV) := match st4.s.h.get 1 with
  | some (.mp es) => es
  | _ => []
theorem h4 : st4.s.h.get 1 = some (.mp es4) := by kernel_rfl
noncomputable def st5 : St := ⟨(st4.t.put 35 (some (.m 1))).put 36 (some (.p 11 0)), 76, ⟨(st4.s.kill 1).h, 12, (st4.s.kill 1).lo⟩⟩

noncomputable def ops2 : Array Oper := opsOf (seqL b3)
theorem ops2_def : opsOf (seqL b3) = ops2 := rfl
noncomputable def alC : List AOper := match cOpers Try.prog ops2 (ops2.toList.drop 1) with
  | some l => l
  | none => []
theorem alC_eq : cOpers Try.prog ops2 (ops2.toList.drop 1) = some alC := by kernel_rfl
noncomputable def mr : MR := ⟨37, 38, 39, 36, 3, alC, cc (seqR b3), es4⟩

def good (st : St) : Bool := match ev st.t (.t 2), ev st.t (.t 3) with
  | .sl b 0 4 1 1 false, .i .i64 n => (n == 0) && (match st.s.h.get b with | some (.row true cs) => decide (kis cs = some outK) | _ => false)
  | _, _ => false
noncomputable def phi (st : St) : Bool := match aexec tab.get smB 100 (cc c5) st with
  | some (.ret, st') => good st'
  | _ => false

theorem mr_ok : mrunB tab.get smB 100 mr phi 3 [0, 1] st5 = true := by kernel_rfl

theorem sort47 : SumOk Try.prog 47 sortG :=
  sort_sum (enters_of Try.func47 (by kernel_rfl) rfl) (fun blk off cap zs w h1 h2 h3 => AnyM.slices_Sort_int sortA blk off cap zs w h1 h2 h3) (fun p cap w => AnyM.slices_Sort_int_none sortA p cap w)

theorem smB_ok : SmOk Try.prog smB := fun f g h => by
  unfold smB at h
  split at h <;> (try (simp only [reduceCtorEq] at h; done)) <;> (obtain rfl := Option.some.inj h)
  · exact keys_sum
  · exact sort47
  · exact add64_sum

theorem mixed : Try.prog.follows .mixedOrders = true := by kernel_rfl

noncomputable def opAt (ops : Array Oper) (i : Nat) (d : Oper) : Oper := match ops[i]? with
  | some o => o
  | none => d
noncomputable def oz : Oper := { op := .move (.const (.bool false)), type := 0, pos := "", after := #[], dst := none, guard := none }
noncomputable def oMv : Oper := opAt (opsOf (seqL x5)) 0 oz
noncomputable def oRg : Oper := opAt (opsOf (seqL x5)) 1 oz
noncomputable def oNx : Oper := opAt (opsOf (seqL l5)) 0 oz
noncomputable def oEx : Oper := opAt (opsOf (seqL l5)) 1 oz
noncomputable def oEn : Oper := opAt ops2 0 oz

theorem ops5 : opsOf (seqL x5) = #[oMv, oRg] := by kernel_rfl
theorem opsL : opsOf (seqL l5) = #[oNx, oEx] := by kernel_rfl
theorem oMv1 : oMv.op = .move (.tmp 4) := by kernel_rfl
theorem oMv2 : oMv.dst = some 35 := by kernel_rfl
theorem oMv3 : oMv.guard = none := by kernel_rfl
theorem oRg1 : oRg.op = .range 80 (.tmp 35) := by kernel_rfl
theorem oRg2 : oRg.dst = some 36 := by kernel_rfl
theorem oRg3 : oRg.guard = none := by kernel_rfl
theorem oNx1 : oNx.op = .next (.tmp 36) false := by kernel_rfl
theorem oNx2 : oNx.dst = some 37 := by kernel_rfl
theorem oNx3 : oNx.guard = none := by kernel_rfl
theorem oEx1 : oEx.op = .extract (.tmp 37) 0 := by kernel_rfl
theorem oEx2 : oEx.dst = some 38 := by kernel_rfl
theorem oEx3 : oEx.guard = none := by kernel_rfl
theorem oEn0 : ops2[0]? = some oEn := by kernel_rfl
theorem oEn1 : oEn.op = .entry (.tmp 36) := by kernel_rfl
theorem oEn2 : oEn.dst = some 39 := by kernel_rfl
theorem oEn3 : oEn.guard = none := by kernel_rfl
theorem under80 : ∃ k e, Try.prog.underlying 80 = some (.map k e) := ⟨_, _, Try.underlying80⟩
theorem n4 : st4.n = 76 := by kernel_rfl
theorem nx4 : st4.s.nx = 11 := by kernel_rfl
theorem t4 : ev st4.t (.t 4) = .m 1 := by kernel_rfl
theorem e511 : ev st5.t (.t mr.tI) = .p 11 0 := by kernel_rfl
theorem len4 : es4.length = 2 := by kernel_rfl

attribute [irreducible] st1 st2 st3 st4 es4 alC ops2

set_option maxRecDepth 100000 in
set_option maxHeartbeats 1000000 in
/-- Behind the loop: from wherever the function began. -/
theorem loop_ok {ι0 : IM} {w0 : World} {a : Act} {w : World} {n : Nat} (h : Here Try.prog ι0 st0.s w0 st4 a w) {Q : Exit → Act → World → Prop} (hq : ∀ st' a' w', phi st' = true → Here Try.prog ι0 st0.s w0 st' a' w' → Q .normal a' w') :
    x5.wpIn (FR none) n Try.prog Q a w := by
  obtain ⟨ι, rs, hx, hT, hd, hm⟩ := h
  have hmv : VR ι (.m 1) (a.eval (.tmp 4)) := by
    have := ev_ok hT 4
    rw [t4] at this; exact this
  generalize hu : a.eval (.tmp 4) = u at hmv
  cases hmv with
  | m hL =>
    rename_i L
    obtain ⟨ents, clk, f1, f2, f3⟩ := hx.rel.mapOf h4 hL
    rw [x5_eq, ops5]
    refine wpIn_seq (region_two oMv3 oRg3 ?_)
    refine oper_val (v := .map (some L.r)) (w' := w) (fun c e => by rw [oMv1] at e; cases e) (by simp [execOp, oMv1, hu]) ?_
    have hT1 : TR ι (st4.t.put 35 (some (.m 1))) 76 (a.put oMv.dst (.map (some L.r))).tmps := by
      rw [oMv2]
      have := hT.put (k := 35) (by rw [n4]; omega) (VR.m hL)
      rw [n4] at this; exact this
    generalize ha1 : a.put oMv.dst (.map (some L.r)) = a1 at hT1
    have hd1 : a1.defers = a.defers := by rw [← ha1, oMv2]; rfl
    have he1 : a1.eval (.tmp 35) = .map (some L.r) := by
      have := ev_ok hT1 35
      rw [ev_put] at this
      simp only [Nat.beq_refl, cond_true] at this
      show Array.getD _ 35 undef = _
      generalize Array.getD _ 35 undef = u at this
      cases this with
      | m hL' => obtain rfl := Option.some.inj (hL'.symm.trans hL); rfl
    obtain ⟨kt, et, h80⟩ := under80
    refine oper_val (v := .pointer (some ⟨w.heap.size, 0, none⟩)) (w' := w.alloc (.mapIter (some L.r) clk #[] clk)) (fun c e => by rw [oRg1] at e; cases e) (by
      have := run_range_map (P := Try.prog) w 80 kt et L.r ents clk h80 f1
      simp [execOp, oRg1, he1, this]) ?_
    have hk := Ext.kill hx.rel 1
    have hn := Ext.name (w' := w.alloc (.mapIter (some L.r) clk #[] clk)) hk.rel (.mapIter (some L.r) clk #[] clk) rfl rfl rfl rfl
    have hq11 : (st4.s.kill 1).nx = 11 := (nx_kill _ _).trans nx4
    rw [hq11] at hn
    have hx5 : Ext Try.prog ι0 st0.s w0 (ι.set 11 ⟨w.heap.size, 0, 0⟩) st5.s (w.alloc (.mapIter (some L.r) clk #[] clk)) := (hx.trans hk).trans hn
    have h11 : (ι.set 11 ⟨w.heap.size, 0, 0⟩) 11 = some ⟨w.heap.size, 0, 0⟩ := IM.set_same _ _ _
    have hT5 : TR (ι.set 11 ⟨w.heap.size, 0, 0⟩) st5.t st5.n (a1.put oRg.dst (.pointer (some ⟨w.heap.size, 0, none⟩))).tmps := by
      rw [oRg2]
      exact (hT1.mono hn.le).put (k := 36) (by omega) (VR.p (L := ⟨w.heap.size, 0, 0⟩) (o := 0) h11)
    have size1 : L.r < w.heap.size := lt_of_get f1
    refine wpIn_block (wpIn_loop_rounds 3 ?_)
    rw [l5_eq, opsL, ops2_def]
    have hold : ∀ q B L', st5.s.h.get q = some B → (ι.set 11 ⟨w.heap.size, 0, 0⟩) q = some L' → L'.r ≠ w.heap.size ∧ L'.r ≠ L.r := fun q B L' hb hL' => by
      have hb' : (st4.s.kill 1).h.get q = some B := hb
      rw [get_kill] at hb'
      by_cases e : q = 1
      · rw [if_pos e] at hb'; cases hb'
      · rw [if_neg e] at hb'
        have hqn : q ≠ 11 := fun e' => by have := hx.rel.get_lt hb'; rw [nx4] at this; omega
        rw [IM.set_ne _ _ hqn] at hL'
        refine ⟨fun e' => by have := hx.rel.lt q L' hL'; omega, fun e' => ?_⟩
        exact hx.rel.inj 1 q _ _ L L' h4 hb' rfl hL hL' (fun e'' => e e''.symm) e'.symm
    have hes := f2.mono hn.le
    have ersl : ∀ {ι : IM} {l : List (AV × AV)} {es : List MapEntry}, ERs ι l es → l.length = es.length := fun h => by
      induction h with
      | nil => rfl
      | cons _ _ _ ih => simp [ih]
    have hsize : ents.size = 2 := by
      have h1 := ersl hes
      have h2 : ents.toList.length = 2 := h1.symm.trans len4
      simpa using h2
    have main := mrange_ok (ft := tab.get) (sm := smB) (m := mr) (Φ := fun st => phi st = true) (id := 2) (r1 := 11) (r2 := 12) (n := n) (ds := []) (rI := w.heap.size) (bm := L.r) (since := clk) (clk := clk) (ents := ents)
      mixed tabOk smB_ok oNx1 oNx2 oNx3 oEx1 oEx2 oEx3 oEn0 oEn1 oEn2 oEn3 (tail_ok alC_eq oEn0).1 (tail_ok alC_eq oEn0).2 kb (by decide) (by decide) (by decide) (by decide) hx.sz f3.nodup f3.lt
      3 [0, 1] st5 (mrunB_ok 3 [0, 1] st5 mr_ok) (ι.set 11 ⟨w.heap.size, 0, 0⟩) (w.alloc (.mapIter (some L.r) clk #[] clk)) (a1.put oRg.dst (.pointer (some ⟨w.heap.size, 0, none⟩))) #[] clk
      ⟨hT5, hx5, ⟨11, e511, h11⟩, by show (w.heap.push _)[w.heap.size]? = _; rw [Array.getElem?_push, if_pos rfl], by show (w.heap.push _)[L.r]? = _; rw [Array.getElem?_push, if_neg (by omega)]; exact f1,
        fun q B L' hb hL' => (hold q B L' hb hL').1, fun q B L' hb hL' => (hold q B L' hb hL').2, Nat.le_refl _, Nat.le_refl _, fun j e hj => ?_, by decide, hes, rs, by rw [oRg2]; show a1.defers = _; rw [hd1, hd]; simp, ?_⟩
    · refine rounds_mono (fun e a' w' ⟨st', hphi, he, ι', rs', hx', hT', hd', hm'⟩ => ?_) _ _ _ main
      subst he
      simp only [Out.exitOf, Exit.inBlock, if_true]
      exact hq st' a' w' hphi ⟨ι', rs', hx', hT', by simpa using hd', hm'⟩
    · have hlt : j < 2 := by rw [← hsize]; exact (Array.getElem?_eq_some_iff.1 hj).1
      have e1 : (#[] : Array Nat).contains e.born = false := by simp
      rw [e1]
      have : j = 0 ∨ j = 1 := by omega
      rcases this with rfl | rfl <;> simp
    · have hx45 := hk.trans hn
      exact hm.ext hx45

theorem Here.first {P : Program} {ι : IM} {s : AS} {w : World} {st : St} {a : Act} (hs : st.s = s) (hR : R P ι s w) (hT : TR ι st.t st.n a.tmps) (hd : a.defers = []) : Here P ι s w st a w :=
  ⟨ι, [], by rw [hs]; exact Ext.refl hR, hT, by rw [hd]; rfl, Marks.nil _ _ _⟩

theorem phi_run {st : St} (h : phi st = true) : ∃ st', aexec tab.get smB 100 (cc c5) st = some (.ret, st') ∧ good st' = true := by
  unfold phi at h
  split at h
  · exact ⟨_, by assumption, h⟩
  · cases h

theorem good_of {st : St} (h : good st = true) : ∃ b cs, ev st.t (.t 2) = .sl b 0 4 1 1 false ∧ ev st.t (.t 3) = .i .i64 0 ∧ st.s.h.get b = some (.row true cs) ∧ kis cs = some outK := by
  unfold good at h
  split at h
  · rename_i b n e1 e2
    simp only [Bool.and_eq_true, beq_iff_eq] at h
    obtain ⟨rfl, h⟩ := h
    split at h
    · rename_i cs hc
      exact ⟨b, cs, e1, e2, hc, of_decide_eq_true h⟩
    · cases h
  · cases h

theorem st0_ro : ∀ q B, st0.s.h.get q = some B → q = 0 ∧ B = .row false (ofK tidyK) := by
  intro q B h
  have h' : (T.put .e 0 (some (.row false (ofK tidyK)))).get q = some B := h
  rw [T.get_put] at h'
  by_cases e : q = 0
  · rw [if_pos e] at h'; exact ⟨e, (Option.some.inj h').symm⟩
  · rw [if_neg e] at h'; cases h'

theorem vr_ofK {ι : IM} : ∀ (l : List (IntKind × Int)) {c : Array Value} {d : Nat}, (∀ (i : Nat) (v : AV), (ofK l)[i]? = some v → ∃ u, c[d + i]? = some u ∧ VR ι v u) → ∀ (ι' : IM) (i : Nat) (v : AV), (ofK l)[i]? = some v → ∃ u, c[d + i]? = some u ∧ VR ι' v u := by
  intro l c d h ι' i v hv
  obtain ⟨u, h1, h2⟩ := h i v hv
  have : ∃ k n, v = .i k n := by
    unfold ofK at hv
    rw [List.getElem?_map, Option.map_eq_some_iff] at hv
    obtain ⟨p, _, rfl⟩ := hv
    exact ⟨_, _, rfl⟩
  obtain ⟨k, n, rfl⟩ := this
  cases h2
  exact ⟨_, h1, .i _ _⟩

set_option maxHeartbeats 1000000 in
theorem tidy_sum : SumOk Try.prog 18 tidyG := by
  intro ι s w args vs v s' hR hvs hg r n
  unfold tidyG at hg
  split at hg <;> (try (simp only [reduceCtorEq] at hg; done))
  rename_i b
  split at hg <;> (try (simp only [reduceCtorEq] at hg; done))
  rename_i cs hb
  cases hk : decide (kis cs = some tidyK) <;> simp only [hk, cond_true, cond_false, reduceCtorEq, Option.some.injEq, Prod.mk.injEq] at hg
  obtain ⟨rfl, rfl⟩ := hg
  have hcs : cs = ofK tidyK := kis_eq (of_decide_eq_true hk)
  subst hcs
  cases hvs with
  | cons h1 h2 =>
    cases h2
    obtain ⟨L, hL, hblk⟩ := hR.blk b _ hb
    obtain ⟨c, el, fr, q1, q2, q3, q4, q5⟩ := hblk
    have hbL : ∀ ι0 : IM, ι0 0 = some L → ∃ vv, VR ι (.sl b 0 4 3 3 true) vv ∧ True := fun _ _ => ⟨_, h1, trivial⟩
    let ι0 : IM := fun q => if q = 0 then some L else none
    have hι0 : ι0 0 = some L := if_pos rfl
    have hι1 : ∀ q L', ι0 q = some L' → q = 0 ∧ L' = L := fun q L' h => by
      by_cases e : q = 0
      · subst e; exact ⟨rfl, (Option.some.inj (hι0.symm.trans h)).symm⟩
      · have : ι0 q = none := if_neg e
        rw [this] at h; cases h
    have hR0 : R Try.prog ι0 st0.s w := by
      refine ⟨fun q hq => ⟨L, ?_⟩, fun q L' h => ?_, fun q L' h => ?_, fun q B h => ?_, fun q q' B B' L1 L2 a _ c => ?_, Nat.le_refl _⟩
      · have : q < 1 := hq
        obtain rfl : q = 0 := by omega
        exact hι0
      · obtain ⟨rfl, _⟩ := hι1 q L' h; exact Nat.zero_lt_one
      · obtain ⟨_, rfl⟩ := hι1 q L' h; exact lt_of_get q1
      · obtain ⟨rfl, rfl⟩ := st0_ro q B h
        exact ⟨L, hι0, c, el, fr, q1, q2, q3, vr_ofK _ q4 ι0, fun e => nomatch e⟩
      · obtain ⟨_, rfl⟩ := st0_ro q B a; cases c
    have hv0 : ∀ u, VR ι (.sl b 0 4 3 3 true) u → VR ι0 (.sl 0 0 4 3 3 true) u := fun u hu => by
      cases hu with
      | sl h hl hc he hbb =>
        obtain rfl := Option.some.inj (hL.symm.trans h)
        exact VR.sl hι0 hl hc he hbb
    have hvs0 := VRs.cons (hv0 _ h1) .nil
    refine ⟨_, _, enters_of Try.func18 (by kernel_rfl) rfl _ _, ?_⟩
    refine (callsIn_of_wp_marks (F := FR none) (n := n) Try.func18 body_eq trivial ?_ : CallsIn (FR none) n Try.prog 18 _ w _)
    have hT0 := TR.enter (n := 76) hvs0 (by simp)
    have here0 : Here Try.prog ι0 st0.s w st0 { tmps := _, defers := [] } w := Here.first rfl hR0 hT0 rfl
    rw [c0_eq]
    refine wpIn_seq (piece_ok mixed tabOk smB_ok k0 r1 here0 (fun a1 w1 here1 => ?_))
    show Code.wpIn _ _ _ _ _ _ _
    rw [c1_eq]
    refine wpIn_seq (piece_ok mixed tabOk smB_ok k1 r2 here1 (fun a2 w2 here2 => ?_))
    show Code.wpIn _ _ _ _ _ _ _
    rw [c2_eq]
    refine wpIn_seq (piece_ok mixed tabOk smB_ok k2 r3 here2 (fun a3 w3 here3 => ?_))
    show Code.wpIn _ _ _ _ _ _ _
    rw [c3_eq]
    refine wpIn_seq (piece_ok mixed tabOk smB_ok k3 r4 here3 (fun a4 w4 here4 => ?_))
    show Code.wpIn _ _ _ _ _ _ _
    rw [c4_eq]
    refine wpIn_seq (loop_ok here4 (fun st' a5 w5 hphi here5 => ?_))
    show Code.wpIn _ _ _ _ _ _ _
    obtain ⟨stF, hrF, hgood⟩ := phi_run hphi
    refine piece_ok mixed tabOk smB_ok k5 hrF here5 (fun a6 w6 here6 => ?_)
    obtain ⟨bo, co, g1, g2, g3, g4⟩ := good_of hgood
    obtain ⟨ι6, rs, hx6, hT6, hd6, hm6⟩ := here6
    show LeavesInM (FR none) n Try.prog Try.f18 a6.tmps _ a6.defers .returning w6
    rw [hd6]
    refine leaves_ok (st' := stF) (fun w7 hx7 => ?_) rs w6 hx6 hm6
    have hres : aress stF [.t 2, .t 3] = some [.sl bo 0 4 1 1 false, .i .i64 0] := by
      rw [aress_t, aress_t, aress_nil, g1, g2]; rfl
    obtain ⟨u, u1, u2⟩ := results_run (fn := Try.f18) (al := [.t 2, .t 3]) hT6 hx7.rel rfl hres
    refine ⟨u, u1, u, rfl, ?_⟩
    have hbel := hx7.below (fun q B hq => by obtain ⟨_, rfl⟩ := st0_ro q B hq; rfl)
    obtain ⟨Lo, hLo, hblo⟩ := hx7.rel.blk bo _ g3
    have hfresh : w.heap.size ≤ Lo.r := by
      rcases hx7.own bo _ Lo g3 rfl hLo with h | ⟨q', B', L', h1, h2, _⟩
      · exact h
      · obtain ⟨_, rfl⟩ := st0_ro q' B' h1; cases h2
    have hco : co = ofK outK := kis_eq g4
    subst hco
    obtain ⟨c', el', fr', p1, p2, p3, p4, p5⟩ := hblo
    obtain ⟨lr, ld, ln⟩ := Lo
    refine ⟨_, Ext.adopt hR hbel hfresh (lt_of_get p1) (d := ld) (n := ln) (B := .row true (ofK outK)) ⟨c', el', fr', p1, p2, p3, vr_ofK _ p4 _, p5⟩, ?_⟩
    have hu : VR ι6 (.tu [.sl bo 0 4 1 1 false, .i .i64 0]) u := u2
    cases hu with
    | tu hl =>
      cases hl with
      | cons hl1 hl2 =>
        cases hl2 with
        | cons hl2 hl3 =>
          cases hl3; cases hl2
          cases hl1 with
          | sl h hl hc he hbb =>
            obtain rfl := Option.some.inj (hLo.symm.trans h)
            exact VR.tu (.cons (VR.sl (IM.set_same _ _ _) hl hc he hbb) (.cons (.i _ _) .nil))

end Go.AMJ
