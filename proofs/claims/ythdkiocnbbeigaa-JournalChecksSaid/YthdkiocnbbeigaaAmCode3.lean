/- The abstract machine is sound: code, third part: all of it together. -/
import Derived.Test.YthdkiocnbbeigaaAmDraw
namespace Go.AM
set_option linter.unusedVariables false
set_option linter.unusedSimpArgs false

variable {P : Program} {ft : Nat → Option AFunc} {sm : Nat → Option Summ}

/-- A block of the model's own is made. -/
theorem Ext.allocSide {ι : IM} {s : AS} {w w' : World} (h : R P ι s w) {o : Obj} (hh : w'.heap = w.heap.push o) (ho : w'.os = w.os) (ht : w'.tape = w.tape) (hp : w'.output = w.output) : Ext P ι s w ι s w' where
  rel := by
    refine ⟨h.dom, h.top, fun q L a => by have := h.lt q L a; rw [hh, Array.size_push]; omega, fun q B a => ?_, h.inj, h.low⟩
    obtain ⟨L, hL, hb⟩ := h.blk q B a
    have := h.lt q L hL
    exact ⟨L, hL, by rw [hh, Array.getElem?_push, if_neg (by omega)]; exact hb⟩
  le := .refl _
  nx := Nat.le_refl _
  sz := by rw [hh]; simp
  os := ho
  tape := ht
  output := hp
  keep r hr _ := by rw [hh, Array.getElem?_push, if_neg (by omega)]
  own q B L a b c := .inr ⟨q, B, L, a, b, c, rfl⟩
  img q L a := .inr ⟨q, L, a, rfl⟩
  lo := Nat.le_refl _
  same _ _ := rfl

theorem CPost.here {ι : IM} {st : St} {w : World} {a : Act} {o : Out} (hT : TR ι st.t st.n a.tmps) (hR : R P ι st.s w) : CPost P ι st.s w a.defers o st o.exitOf a w :=
  ⟨rfl, ι, [], .refl hR, hT, rfl, .nil _ _ _⟩

/-- Rounds of a loop. -/
def LoopOk (P : Program) (ex : Exec) (exl : ACode → St → Option (Out × St)) : Prop :=
  ∀ (c : Code) (ac : ACode), cCode P c = some ac → ∀ (st : St) (o : Out) (st' : St), exl (.loop ac) st = some (o, st') → ∃ m, ∀ (ι : IM) (w : World) (a : Act) (r : Option Nat) (n : Nat), (r = none ∨ noRf ac = true) →
    TR ι st.t st.n a.tmps → R P ι st.s w → Code.roundsIn (FR r) n P c (CPost P ι st.s w a.defers o st') m a w

theorem rounds_mono {F : Fence} {n : Nat} {c : Code} {Q Q' : Exit → Act → World → Prop} (hq : ∀ e a w, Q e a w → Q' e a w) : ∀ (m : Nat) (a : Act) (w : World), Code.roundsIn F n P c Q m a w → Code.roundsIn F n P c Q' m a w
  | 0, a, w, h => h.elim
  | m + 1, a, w, h => wpIn_mono h (fun e a w h => by
      cases e with
      | normal => exact rounds_mono hq m a w h
      | _ => exact hq _ _ _ h)

theorem code_ok (hm : P.follows .mixedOrders = true) (hft : FtOk P ft) (hsm : SmOk P sm) : ∀ (k : Nat), CodeOk P (aexec ft sm k) ∧ LoopOk P (aexec ft sm k) (aexec ft sm k)
  | 0 => ⟨fun _ _ _ _ _ _ h => by simp [aexec] at h, fun _ _ _ _ _ _ h => by simp [aexec] at h⟩
  | k + 1 => by
    obtain ⟨ih, ihl⟩ := code_ok hm hft hsm k
    have hcall : CallerOk P (callWith ft sm (aexec ft sm k)) := caller_ok ih hft hsm
    have hloop : ∀ (c : Code) (ac : ACode), cCode P c = some ac → ∀ (st : St) (o : Out) (st' : St), aexec ft sm (k + 1) (.loop ac) st = some (o, st') → ∃ m, ∀ (ι : IM) (w : World) (a : Act) (r : Option Nat) (n : Nat), (r = none ∨ noRf ac = true) →
        TR ι st.t st.n a.tmps → R P ι st.s w → Code.roundsIn (FR r) n P c (CPost P ι st.s w a.defers o st') m a w := by
      intro c ac hc st o st' h
      simp only [aexec] at h
      split at h
      · rename_i st1 h1
        obtain ⟨m, hmr⟩ := ihl c ac hc st1 o st' h
        refine ⟨m + 1, fun ι w a r n hr hT hR => ?_⟩
        refine wpIn_mono (ih c ac hc st _ _ h1 ι w a r n hr hT hR) (fun e a1 w1 hp => ?_)
        obtain ⟨he, ι1, rs, hx, hT1, hd, hmk⟩ := hp
        subst he
        exact rounds_mono (fun e a' w' hp' => CPost.trans hx hmk hd hp') m a1 w1 (hmr ι1 w1 a1 r n hr hT1 hx.rel)
      · rename_i hne
        refine ⟨1, fun ι w a r n hr hT hR => ?_⟩
        refine wpIn_mono (ih c ac hc st _ _ h ι w a r n hr hT hR) (fun e a1 w1 hp => ?_)
        have he := hp.1
        subst he
        cases o with
        | nrm => exact absurd h (hne st')
        | ret => exact hp
        | exit id => exact hp
    refine ⟨?_, hloop⟩
    intro c ac hc st o st' h ι w a r n hr hT hR
    cases c with
    | skip =>
      simp [cCode] at hc; subst hc
      simp [aexec] at h
      obtain ⟨rfl, rfl⟩ := h
      exact wpIn_skip (CPost.here hT hR)
    | region id ops draw =>
      simp only [cCode] at hc
      split at hc <;> (try (simp only [reduceCtorEq] at hc; done))
      rename_i l hl
      obtain ⟨g1, g2⟩ := cOpers_get _ _ hl
      have hlen : l.length = ops.size := by rw [← g1, Array.length_toList]
      have hget : ∀ (i : Nat) (ao : AOper), l[i]? = some ao → ∃ o, ops[i]? = some o ∧ cOper P ops o = some ao := by
        intro i ao hi
        have hil : i < l.length := by
          rcases Nat.lt_or_ge i l.length with h | h
          · exact h
          · rw [List.getElem?_eq_none h] at hi; cases hi
        have : i < ops.size := by omega
        exact ⟨ops[i], by simp [this], g2 i _ _ (by simp [this]) hi⟩
      cases draw with
      | false =>
        simp only [cond_false, Option.some.injEq] at hc
        subst hc
        simp only [aexec] at h
        split at h <;> (try (simp only [reduceCtorEq] at h; done))
        rename_i st1 h1
        simp only [Option.some.injEq, Prod.mk.injEq] at h
        obtain ⟨rfl, rfl⟩ := h
        refine wpIn_region ?_
        have := aops_ok (r := r) (n := n) (Q := CPost P ι st.s w a.defers .nrm st1) hcall (ops := ops) l 0 st st1 (fun i ao hi => by rw [Nat.zero_add]; exact hget i ao hi) (by omega) h1 ι w a hT hR (fun ι' w' a' hx hT' hd => ⟨rfl, ι', [], hx, hT', by simpa using hd, .nil _ _ _⟩)
        rw [hlen, ← List.range_eq_range'] at this
        exact this
      | true =>
        simp only [cond_true] at hc
        cases hd : drawOk ops (befsOf ops.toList []) l <;> simp only [hd, cond_true, cond_false, reduceCtorEq, Option.some.injEq] at hc
        subst hc
        simp only [aexec] at h
        split at h <;> (try (simp only [reduceCtorEq] at h; done))
        rename_i st1 h1
        simp only [Option.some.injEq, Prod.mk.injEq] at h
        obtain ⟨rfl, rfl⟩ := h
        exact adraw_ok hm hcall hget hlen hd h1 hT hR (fun ι' w' a' hx hT' hd => ⟨rfl, ι', [], hx, hT', by simpa using hd, .nil _ _ _⟩)
    | seq x y =>
      simp only [cCode] at hc
      split at hc <;> (try (simp only [reduceCtorEq] at hc; done))
      rename_i ax ay h1 h2
      simp only [Option.some.injEq] at hc; subst hc
      have hr1 : r = none ∨ noRf ax = true := hr.imp id (fun g => by simp only [noRf, Bool.and_eq_true] at g; exact g.1)
      have hr2 : r = none ∨ noRf ay = true := hr.imp id (fun g => by simp only [noRf, Bool.and_eq_true] at g; exact g.2)
      simp only [aexec] at h
      refine wpIn_seq ?_
      split at h
      · rename_i st1 hs1
        refine wpIn_mono (ih x ax h1 st _ _ hs1 ι w a r n hr1 hT hR) (fun e a1 w1 hp => ?_)
        obtain ⟨he, ι1, rs, hx, hT1, hd, hmk⟩ := hp
        subst he
        exact wpIn_mono (ih y ay h2 st1 _ _ h ι1 w1 a1 r n hr2 hT1 hx.rel) (fun e a2 w2 hp2 => CPost.trans hx hmk hd hp2)
      · rename_i hne
        refine wpIn_mono (ih x ax h1 st _ _ h ι w a r n hr1 hT hR) (fun e a1 w1 hp => ?_)
        have he := hp.1
        subst he
        cases o with
        | nrm => exact absurd h (hne st')
        | ret => exact hp
        | exit id => exact hp
    | cond x y z =>
      simp only [cCode] at hc
      split at hc <;> (try (simp only [reduceCtorEq] at hc; done))
      rename_i ax ay az h0 h1 h2
      simp only [Option.some.injEq] at hc; subst hc
      have hr1 : r = none ∨ noRf ay = true := hr.imp id (fun g => by simp only [noRf, Bool.and_eq_true] at g; exact g.1)
      have hr2 : r = none ∨ noRf az = true := hr.imp id (fun g => by simp only [noRf, Bool.and_eq_true] at g; exact g.2)
      have hv := cOpd_ok h0 hT
      simp only [aexec] at h
      split at h <;> (try (simp only [reduceCtorEq] at h; done)) <;> rename_i he <;> rw [he] at hv
      · generalize hq : a.eval x = u at hv
        cases hv
        exact wpIn_cond_true hq (ih y ay h1 st _ _ h ι w a r n hr1 hT hR)
      · generalize hq : a.eval x = u at hv
        cases hv
        exact wpIn_cond_false hq (ih z az h2 st _ _ h ι w a r n hr2 hT hR)
    | block id x =>
      simp only [cCode, Option.map_eq_some_iff] at hc
      obtain ⟨ax, h1, rfl⟩ := hc
      have hr1 : r = none ∨ noRf ax = true := hr
      simp only [aexec] at h
      refine wpIn_block ?_
      split at h
      · rename_i j st1 hs1
        refine wpIn_mono (ih x ax h1 st _ _ hs1 ι w a r n hr1 hT hR) (fun e a1 w1 hp => ?_)
        have he := hp.1
        subst he
        cases hj : j == id <;> simp only [hj, cond_true, cond_false, Option.some.injEq, Prod.mk.injEq] at h
        · obtain ⟨rfl, rfl⟩ := h
          have hj' : ¬ j = id := by simpa using hj
          simp only [Exit.inBlock, Out.exitOf, if_neg hj']
          exact hp
        · obtain ⟨rfl, rfl⟩ := h
          have hj' : j = id := by simpa using hj
          simp only [Exit.inBlock, Out.exitOf, if_pos hj']
          exact ⟨rfl, hp.2⟩
      · rename_i hne
        refine wpIn_mono (ih x ax h1 st _ _ h ι w a r n hr1 hT hR) (fun e a1 w1 hp => ?_)
        have he := hp.1
        subst he
        cases o with
        | nrm => exact hp
        | ret => exact hp
        | exit j => exact absurd h (hne j st')
    | loop x =>
      simp only [cCode, Option.map_eq_some_iff] at hc
      obtain ⟨ax, h1, rfl⟩ := hc
      obtain ⟨m, hmr⟩ := hloop x ax h1 st o st' h
      exact wpIn_loop_rounds m (hmr ι w a r n hr hT hR)
    | exit id =>
      simp [cCode] at hc; subst hc
      simp [aexec] at h
      obtain ⟨rfl, rfl⟩ := h
      exact wpIn_exit (CPost.here (o := .exit id) hT hR)
    | ret =>
      simp [cCode] at hc; subst hc
      simp [aexec] at h
      obtain ⟨rfl, rfl⟩ := h
      exact wpIn_ret (CPost.here (o := .ret) hT hR)
    | rangeFunc fo ps asg body =>
      simp only [cCode] at hc
      split at hc <;> (try (simp only [reduceCtorEq] at hc; done))
      rename_i af aa ab h0 h1 h2
      cases hnr : noRf aa && noRf ab <;> simp only [hnr, cond_true, cond_false, reduceCtorEq, Option.some.injEq] at hc
      subst hc
      simp only [Bool.and_eq_true] at hnr
      have hr0 : r = none := by
        rcases hr with g | g
        · exact g
        · simp [noRf] at g
      subst hr0
      have hv := cOpd_ok h0 hT
      simp only [aexec] at h
      split at h <;> (try (simp only [reduceCtorEq] at h; done))
      rename_i g c he
      rw [he] at hv
      split at h <;> (try (simp only [reduceCtorEq] at h; done))
      rename_i hsg
      split at h <;> (try (simp only [reduceCtorEq] at h; done))
      rename_i v s2 q hcallr
      generalize hq : a.eval fo = uf at hv
      cases hv with
      | fn hcs =>
        rename_i cs
        -- what is laid
        have hx0 := Ext.allocSide hR (o := .deferred (some [])) (w' := w.alloc (.deferred (some []))) rfl rfl rfl rfl
        refine wpIn_rangeFunc (F := FR none) (fun fn0 _ => ?_)
        have hx1 : Ext P ι st.s (w.alloc (.deferred (some []))) (ι.set st.s.nx ⟨w.heap.size + 1, 0, 0⟩) (st.s.new (.lp .ready .nrm st.n st.t ps.toList aa ab))
            ((w.alloc (.deferred (some []))).alloc (.loop { state := .ready, pending := none, fn := fn0, tmps := a.tmps, params := ps, assign := asg, body := body, defers := w.heap.size })) := by
          have := Ext.new hx0.rel (d := 0) (n := 0) (B := .lp .ready .nrm st.n st.t ps.toList aa ab) (o := .loop { state := .ready, pending := none, fn := fn0, tmps := a.tmps, params := ps, assign := asg, body := body, defers := w.heap.size })
            (w' := (w.alloc (.deferred (some []))).alloc (.loop { state := .ready, pending := none, fn := fn0, tmps := a.tmps, params := ps, assign := asg, body := body, defers := w.heap.size }))
            ⟨_, rfl, trivial, rfl, rfl, hT.mono (hx0.rel.le_set _), h1, h2, hnr.1, hnr.2⟩ rfl rfl rfl rfl
          simpa using this
        have hx := hx0.trans hx1
        have hmk1 : Marks (ι.set st.s.nx ⟨w.heap.size + 1, 0, 0⟩) w ((w.alloc (.deferred (some []))).alloc (.loop { state := .ready, pending := none, fn := fn0, tmps := a.tmps, params := ps, assign := asg, body := body, defers := w.heap.size })) [w.heap.size] := by
          refine ⟨by simp, fun r' hr' => ?_⟩
          simp only [List.mem_singleton] at hr'
          subst hr'
          refine ⟨Nat.le_refl _, ?_, fun q' L hL e => ?_⟩
          · show ((w.heap.push _).push _)[w.heap.size]? = _
            rw [Array.getElem?_push, if_neg (by simp), Array.getElem?_push, if_pos rfl]
          · by_cases hqn : q' = st.s.nx
            · rw [hqn, IM.set_same] at hL
              obtain rfl := Option.some.inj hL
              simp at e
            · rw [IM.set_ne _ _ hqn] at hL
              have := hR.lt q' L hL
              omega
        have hyv : VRs (ι.set st.s.nx ⟨w.heap.size + 1, 0, 0⟩) [.yl st.s.nx] [.func (.yield (w.heap.size + 1)) #[] #[]] := .cons (VR.yl (L := ⟨w.heap.size + 1, 0, 0⟩) (IM.set_same _ _ _)) .nil
        have hall := hyv.append (hcs.mono (hR.le_set ⟨w.heap.size + 1, 0, 0⟩))
        unfold callWith at hcallr
        simp only [hsg] at hcallr
        split at hcallr <;> (try (simp only [reduceCtorEq] at hcallr; done))
        rename_i fn hfn
        cases hle : Nat.ble ([AV.yl st.s.nx] ++ c).length fn.nt <;> simp only [hle, cond_true, cond_false, reduceCtorEq] at hcallr
        split at hcallr <;> (try (simp only [reduceCtorEq] at hcallr; done))
        rename_i o1 st1 hne hrun
        split at hcallr <;> (try (simp only [reduceCtorEq] at hcallr; done))
        rename_i rv hres
        simp only [Option.some.injEq] at hcallr
        obtain ⟨g1, g2⟩ := func_ok ih hft hfn (Nat.le_of_ble_eq_true hle) hrun (fun id e => hne id e) hres hcallr hall hx1.rel none (n - 1)
        have hsz : (w.alloc (.deferred (some []))).heap.size = w.heap.size + 1 := by simp
        refine ⟨w.heap.size + 1, [markOf w.heap.size], ((w.alloc (.deferred (some []))).alloc (.loop { state := .ready, pending := none, fn := fn0, tmps := a.tmps, params := ps, assign := asg, body := body, defers := w.heap.size })), { target := .fn (.func g) cs.toArray, args := #[.func (.yield (w.heap.size + 1)) #[] #[]] }, ((w.alloc (.deferred (some []))).alloc (.loop { state := .ready, pending := none, fn := fn0, tmps := a.tmps, params := ps, assign := asg, body := body, defers := w.heap.size })), g, ([Value.func (.yield (w.heap.size + 1)) #[] #[]] ++ cs).toArray, ((w.alloc (.deferred (some []))).alloc (.loop { state := .ready, pending := none, fn := fn0, tmps := a.tmps, params := ps, assign := asg, body := body, defers := w.heap.size })), run_enterLoop_outer fn0 a.tmps ps asg body, ?_, fun _ _ => trivial, ?_, fr_depth none n, ?_⟩
        · simp [resolve, Deferred.ofValue, hq]; rfl
        · have e : (#[Value.func (.yield (w.heap.size + 1)) #[] #[]] ++ cs.toArray : Array Value) = ([Value.func (.yield (w.heap.size + 1)) #[] #[]] ++ cs).toArray := by simp
          simp only [invoke, e]
          exact g1
        · refine CallsIn.mono g2 (fun e w3 hp => ?_)
          obtain ⟨vv, rfl, ι3, hx3, _, _⟩ := hp
          have hL3 : ι3 st.s.nx = some ⟨w.heap.size + 1, 0, 0⟩ := hx3.le _ _ (IM.set_same _ _ _)
          have hTm : TR ι3 st.t st.n a.tmps := hT.mono (hx.le.trans hx3.le)
          have main : ∀ (lst : LSt) (o2 : Out) (n2 : Nat) (tm2 : T AV) (ps2 : List Nat) (asg2 body2 : ACode), s2.h.get st.s.nx = some (.lp lst o2 n2 tm2 ps2 asg2 body2) → (∀ ls, lstR lst ls → ls ≠ .busy) →
              o2 = o → st' = ⟨st.t, st.n, s2.write st.s.nx (.lp .over o2 n2 tm2 ps2 asg2 body2)⟩ →
              rangePost (FR none) n P (w.heap.size + 1) (CPost P ι st.s w a.defers o st') { a with defers := [markOf w.heap.size] ++ a.defers } (.returned vv) w3 := by
            intro lst o2 n2 tm2 ps2 asg2 body2 hb hnb ho hst
            subst ho; subst hst
            obtain ⟨rl, d1, d2, d3, d4, d5, d6, d7, d8, d9⟩ := hx3.rel.loopOf hb hL3
            have hx4 := setLoop (st2 := .over) (pd2 := o2) (r2 := { rl with state := .exhausted }) hx3.rel hb hL3 d1 trivial d3 rfl rfl rfl rfl
            have hmk4 := (hmk1.ext hx3).ext hx4
            have hpost : ∀ e, e = o2.exitOf → CPost P ι st.s w a.defers o2 ⟨st.t, st.n, s2.write st.s.nx (.lp .over o2 n2 tm2 ps2 asg2 body2)⟩ e { a with defers := [markOf w.heap.size] ++ a.defers } (w3.putObj (w.heap.size + 1) (.loop { rl with state := .exhausted })) :=
              fun e he => ⟨he, ι3, [w.heap.size], (hx.trans hx3).trans hx4, hTm, rfl, hmk4⟩
            refine ⟨rl.pending, _, run_endLoop d1 (hnb _ d2), ?_⟩
            rw [d3] at hpost ⊢
            cases o2 with
            | nrm => exact hpost _ rfl
            | ret => exact wpIn_ret (hpost _ rfl)
            | exit id => exact wpIn_exit (hpost _ rfl)
          split at h <;> (try (simp only [reduceCtorEq] at h; done))
          · rename_i o2 n2 tm2 ps2 asg2 body2 hb
            simp only [Option.some.injEq, Prod.mk.injEq] at h
            exact main _ _ _ _ _ _ _ hb (fun ls hls => by cases ls <;> simp_all [lstR]) h.1 h.2.symm
          · rename_i o2 n2 tm2 ps2 asg2 body2 hb
            simp only [Option.some.injEq, Prod.mk.injEq] at h
            exact main _ _ _ _ _ _ _ hb (fun ls hls => by cases ls <;> simp_all [lstR]) h.1 h.2.symm
    | scope x => simp [cCode] at hc
    | label l => simp [cCode] at hc
    | goto l => simp [cCode] at hc
    | refuse y => simp [cCode] at hc

end Go.AM
