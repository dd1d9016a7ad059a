/- The abstract machine is sound: code, second part. -/
import Derived.Test.YthdkiocnbbeigaaAmCode
namespace Go.AM
set_option linter.unusedVariables false
set_option linter.unusedSimpArgs false

variable {P : Program} {ft : Nat → Option AFunc} {sm : Nat → Option Summ}

/-- What a table of functions must be. -/
def FtOk (P : Program) (ft : Nat → Option AFunc) : Prop := ∀ f fn, ft f = some fn → ∃ cf, P.funcs[f]? = some cf ∧ cFunc P cf = some fn ∧ (cf.name == "runtime.NumGoroutine") = false

/-- A summary: what it tells is what the function comes to. -/
def SumOk (P : Program) (f : FuncId) (g : Summ) : Prop :=
  ∀ (ι : IM) (s : AS) (w : World) (args : List AV) (vs : List Value) (v : AV) (s' : AS), R P ι s w → VRs ι args vs → g args s = some (v, s') →
    ∀ (r : Option Nat) (n : Nat), CallRes P r n (callFunc f vs.toArray) w (fun vv w' => ∃ ι', Ext P ι s w ι' s' w' ∧ VR ι' v vv)

def SmOk (P : Program) (sm : Nat → Option Summ) : Prop := ∀ f g, sm f = some g → SumOk P f g

def CodeOk (P : Program) (ex : Exec) : Prop :=
  ∀ (c : Code) (ac : ACode), cCode P c = some ac → ∀ (st : St) (o : Out) (st' : St), ex ac st = some (o, st') → ∀ (ι : IM) (w : World) (a : Act) (r : Option Nat) (n : Nat), (r = none ∨ noRf ac = true) →
    TR ι st.t st.n a.tmps → R P ι st.s w → c.wpIn (FR r) n P (CPost P ι st.s w a.defers o st') a w

/-! ### Arguments, results -/

theorem argsT_get : ∀ (l : List AV) (k : Nat) (t : T AV) (j : Nat), (argsT l k t).get j = if k ≤ j ∧ j < k + l.length then l[j - k]? else t.get j
  | [], k, t, j => by
    simp only [argsT, List.length_nil]
    rw [if_neg (by omega)]
  | v :: l, k, t, j => by
    simp only [argsT, List.length_cons]
    rw [argsT_get l (k + 1) _ j, T.get_put]
    by_cases h : k + 1 ≤ j ∧ j < k + 1 + l.length
    · rw [if_pos h, if_pos (by omega), show j - k = (j - (k + 1)) + 1 by omega]; simp
    · rw [if_neg h]
      by_cases e : j = k
      · subst e; rw [if_pos rfl, if_pos (by omega)]; simp
      · rw [if_neg e, if_neg (by omega)]

theorem TR.enter {ι : IM} {l : List AV} {vs : List Value} (h : VRs ι l vs) {n : Nat} (hn : l.length ≤ n) : TR ι (argsT l 0 .e) n (vs.toArray ++ Array.replicate (n - vs.toArray.size) undef) where
  sz := by have := h.length; simp; omega
  get k v hk := by
    rw [argsT_get] at hk
    by_cases e : 0 ≤ k ∧ k < 0 + l.length
    · rw [if_pos e] at hk
      obtain ⟨u, hu, hr⟩ := h.get hk
      rw [Nat.sub_zero] at hu
      have hl := h.length
      have : (vs.toArray ++ Array.replicate (n - vs.toArray.size) undef).getD k undef = u := by
        rw [Array.getD_eq_getD_getElem?, Array.getElem?_append_left (by simp; omega)]
        simp [hu]
      rw [this]; exact hr
    · rw [if_neg e] at hk
      simp [T.get] at hk

theorem ev_ok {ι : IM} {t : T AV} {n : Nat} {tmps : Array Value} (h : TR ι t n tmps) (k : Nat) : VR ι (ev t (.t k)) (tmps.getD k undef) := by
  simp only [ev]
  cases hk : t.get k with
  | none => exact .un _
  | some v => exact h.get k v hk

theorem results_ok {ι : IM} {st : St} {w : World} {tmps : Array Value} (hT : TR ι st.t st.n tmps) (hR : R P ι st.s w) : ∀ (l : List ResultVar) (al : List ARes) (vs : List AV), cRes P l = some al → aress st al = some vs →
    ∃ us, (l.mapM (m := Sem) fun
      | .tmp t => pure (tmps.getD t undef)
      | .cell a t => do loadVar t (← asAddr (tmps.getD a undef))).run P w = .ok us w ∧ VRs ι vs us
  | [], al, vs, h1, h2 => by
    simp [cRes] at h1; subst h1
    simp [aress] at h2; subst h2
    exact ⟨[], rfl, .nil⟩
  | .tmp t :: l, al, vs, h1, h2 => by
    simp only [cRes, Option.map_eq_some_iff] at h1
    obtain ⟨al', h1, rfl⟩ := h1
    simp only [aress] at h2
    split at h2 <;> (try (simp at h2; done))
    rename_i v vs' h3 h4
    simp at h2; subst h2
    simp [ares] at h3; subst h3
    obtain ⟨us, g1, g2⟩ := results_ok hT hR l al' vs' h1 h4
    refine ⟨_ :: us, ?_, .cons (ev_ok hT t) g2⟩
    simp only [List.mapM_cons, Sem.run_bind, Sem.run_pure, Result.andThen_ok]
    simp only [g1, Result.andThen_ok]
  | .cell a t :: l, al, vs, h1, h2 => by
    simp only [cRes] at h1
    split at h1 <;> (try (simp at h1; done))
    rename_i g z al' hg hz h1'
    simp at h1; subst h1
    simp only [aress] at h2
    split at h2 <;> (try (simp at h2; done))
    rename_i v vs' h3 h4
    simp at h2; subst h2
    obtain ⟨us, g1, g2⟩ := results_ok hT hR l al' vs' h1' h4
    have hv := ev_ok hT a
    simp only [ares] at h3
    split at h3 <;> (try (simp at h3; done))
    rename_i q off e
    rw [e] at hv
    generalize hq : tmps.getD a undef = u at hv
    cases hv with
    | p hL =>
      rename_i L
      split at h3 <;> (try (simp at h3; done))
      rename_i wr cs hb
      have hrun : ∃ u, (do loadVar t (← asAddr (.pointer (some ⟨L.r, L.d + off, none⟩)))).run P w = .ok u w ∧ VR ι v u := by
        cases g with
        | true =>
          simp only [cond_true] at h3
          split at h3 <;> (try (simp at h3; done))
          rename_i r hcut
          simp at h3; subst h3
          obtain ⟨us, k1, k2, _⟩ := readRow hR hb hcut hL
          exact ⟨.agg us.toArray, by simp [asAddr, loadVar, aggOf_run hg, szOf_run hz, k1], .ag k2⟩
        | false =>
          simp only [cond_false] at h3
          obtain ⟨u, k1, k2⟩ := readCell hR hb h3 hL
          exact ⟨u, by simp only [asAddr, loadVar, Sem.run_bind, Sem.run_pure, Result.andThen_ok, aggOf_run hg, Bool.false_eq_true, if_false, k1], k2⟩
      obtain ⟨u, k1, k2⟩ := hrun
      refine ⟨u :: us, ?_, .cons k2 g2⟩
      simp only [List.mapM_cons, Sem.run_bind, hq]
      simp only [Sem.run_bind] at k1
      rw [k1]
      simp only [Result.andThen_ok, g1, Sem.run_pure]

theorem pack_ok {ι : IM} {vs : List AV} {us : List Value} (h : VRs ι vs us) : VR ι (pack vs) (if h : us.toArray.size = 1 then us.toArray[0] else .tuple us.toArray) := by
  have hl := h.length
  match vs, us, h with
  | [], [], .nil => exact VR.tu .nil
  | [a], [u], .cons h .nil => exact h
  | a :: b :: l, x :: y :: r, h =>
    simp only [pack]
    rw [dif_neg (by simp)]
    exact VR.tu h

theorem results_run {ι : IM} {st : St} {w : World} {tmps : Array Value} (hT : TR ι st.t st.n tmps) (hR : R P ι st.s w) {fn : Func} {al : List ARes} {vs : List AV} (h1 : cRes P fn.results.toList = some al) (h2 : aress st al = some vs) :
    ∃ u, (results fn tmps).run P w = .ok u w ∧ VR ι (pack vs) u := by
  obtain ⟨us, g1, g2⟩ := results_ok hT hR _ _ _ h1 h2
  refine ⟨_, ?_, pack_ok g2⟩
  simp only [results, Sem.run_bind, Array.mapM_eq_mapM_toList, Sem.run_map]
  refine (congrArg (fun r => Result.andThen (Result.andThen r _) _) g1).trans ?_
  rfl

/-! ### Leaving a function -/

theorem leaves_ok {ι ι' : IM} {s : AS} {st' : St} {w0 : World} {fn : Func} {tmps : Array Value} {n : Nat} {Rr : Ending → World → Prop}
    (hfin : ∀ w'', Ext P ι s w0 ι' st'.s w'' → ∃ v, (results fn tmps).run P w'' = .ok v w'' ∧ Rr (.returned v) w'') :
    ∀ (rs : List Nat) (w' : World), Ext P ι s w0 ι' st'.s w' → Marks ι' w0 w' rs → LeavesInM (FR none) n P fn tmps Rr (rs.map markOf) .returning w'
  | [], w', hx, _ => hfin w' hx
  | r :: rs, w', hx, hm => by
    obtain ⟨h1, h2, h3⟩ := hm.here r (by simp)
    have hnd := List.nodup_cons.1 hm.nodup
    have hx2 : Ext P ι s w0 ι' st'.s (w'.putObj r (.deferred none)) := Ext.side hx h1 h3 rfl rfl rfl rfl
    refine ⟨by simp, .inl ⟨r, _, rfl, run_takeDeferred h2, leaves_ok hfin rs _ hx2 ⟨hnd.2, fun r' hr' => ?_⟩⟩⟩
    obtain ⟨g1, g2, g3⟩ := hm.here r' (by simp [hr'])
    refine ⟨g1, ?_, g3⟩
    have hne : r' ≠ r := fun e => hnd.1 (by rw [← e]; exact hr')
    rw [World.putObj_heap_other hne]; exact g2

/-- A function of the table. -/
theorem func_ok {ex : Exec} (hex : CodeOk P ex) (hft : FtOk P ft) {f : Nat} {fn : AFunc} (hf : ft f = some fn) {args : List AV} {s : AS} {o : Out} {st : St} {rv : List AV} (hlen : args.length ≤ fn.nt)
    (hrun : ex fn.body ⟨argsT args 0 .e, fn.nt, ⟨s.h, s.nx, s.nx⟩⟩ = some (o, st)) (ho : ∀ id, o ≠ .exit id) (hres : aress st fn.res = some rv) {v : AV} {s' : AS} {q : Bool} (hfin : fin s st.s (pack rv) = (v, s', q))
    {ι : IM} {w : World} {vs : List Value} (hvs : VRs ι args vs) (hR : R P ι s w) (r : Option Nat) (n : Nat) :
    (callFunc f vs.toArray).run P w = .ok (.enter f vs.toArray) w ∧ CallsIn (FR r) n P f vs.toArray w (fun e w' => ∃ vv, e = .returned vv ∧ ∃ ι', Ext P ι s w ι' s' w' ∧ VR ι' v vv ∧ (q = true → s' = s ∧ ι' = ι)) := by
  obtain ⟨cf, h1, h2, h3⟩ := hft f fn hf
  unfold cFunc at h2
  split at h2 <;> (try (simp at h2; done))
  rename_i c hb
  split at h2 <;> (try (simp at h2; done))
  rename_i body res hbody hresc
  simp at h2; subst h2
  have h3' : ¬ cf.name = "runtime.NumGoroutine" := by simpa using h3
  refine ⟨by simp [callFunc, h1, h3', hb], ?_⟩
  refine (callsIn_of_wp_marks (F := FR none) (n := n) h1 hb trivial ?_ : CallsIn (FR none) n P f vs.toArray w _)
  have hT := TR.enter hvs hlen
  refine wpIn_mono (hex c body hbody _ _ _ hrun ι w { tmps := vs.toArray ++ Array.replicate (cf.ntmps - vs.toArray.size) undef, defers := [] } none n (.inl rfl) hT hR.mark) (fun e a' w' h => ?_)
  obtain ⟨he, ι', rs, hx, hT', hd, hm⟩ := h
  have hleave : LeavesInM (FR none) n P cf a'.tmps (fun e w' => ∃ vv, e = .returned vv ∧ ∃ ι', Ext P ι s w ι' s' w' ∧ VR ι' v vv ∧ (q = true → s' = s ∧ ι' = ι)) a'.defers .returning w' := by
    rw [hd, List.append_nil]
    refine leaves_ok (st' := st) (fun w'' hx'' => ?_) rs w' hx hm
    obtain ⟨u, g1, g2⟩ := results_run hT' hx''.rel hresc hres
    refine ⟨u, g1, u, rfl, ?_⟩
    unfold fin at hfin
    cases hq : Nat.ble s.nx st.s.lo && (pack rv).old s.nx
    · simp only [hq, cond_false, Prod.mk.injEq] at hfin
      obtain ⟨rfl, rfl, rfl⟩ := hfin
      exact ⟨ι', Ext.called hR hx'', g2, by simp⟩
    · simp only [hq, cond_true, Prod.mk.injEq] at hfin
      obtain ⟨rfl, rfl, rfl⟩ := hfin
      simp only [Bool.and_eq_true] at hq
      exact ⟨ι, Ext.restore hR hx'' (Nat.le_of_ble_eq_true hq.1), VR.old hx.le hR.dom hq.2 g2, fun _ => ⟨rfl, rfl⟩⟩
  subst he
  cases o with
  | nrm => exact hleave
  | ret => exact hleave
  | exit id => exact absurd rfl (ho id)

/-! ### Rounds -/

theorem putAll_ok {ι : IM} : ∀ (ps : List Nat) (vs : List AV) (us : List Value) (t t' : T AV) (n : Nat) (tmps : Array Value), VRs ι vs us → TR ι t n tmps → putAll t ps vs n = some t' →
    TR ι t' n ((ps.zip us).foldl (fun tmps (p : Nat × Value) => tmps.setIfInBounds p.1 p.2) tmps) ∧ ps.length = vs.length
  | [], [], us, t, t', n, tmps, h, hT, hp => by
    cases h
    simp [putAll] at hp; subst hp
    exact ⟨hT, rfl⟩
  | k :: ks, v :: vs, us, t, t', n, tmps, h, hT, hp => by
    cases h with
    | cons h r =>
      rename_i u us
      simp only [putAll] at hp
      cases hk : Nat.blt k n <;> simp only [hk, cond_true, cond_false, reduceCtorEq] at hp
      obtain ⟨g1, g2⟩ := putAll_ok ks vs us _ t' n _ r (hT.put (by simpa using hk) h) hp
      exact ⟨by simpa using g1, by simp [g2]⟩
  | [], _ :: _, _, _, _, _, _, _, _, hp => by simp [putAll] at hp
  | _ :: _, [], _, _, _, _, _, _, _, hp => by simp [putAll] at hp

theorem R.loopOf {ι : IM} {s : AS} {w : World} (hR : R P ι s w) {q : Nat} {st : LSt} {pd : Out} {n : Nat} {tm : T AV} {ps : List Nat} {asg body : ACode} (h : s.h.get q = some (.lp st pd n tm ps asg body)) {L : Loc} (hL : ι q = some L) :
    ∃ r : Loop, w.heap[L.r]? = some (.loop r) ∧ lstR st r.state ∧ r.pending = pd.code ∧ r.params.toList = ps ∧ TR ι tm n r.tmps ∧ cCode P r.assign = some asg ∧ cCode P r.body = some body ∧ noRf asg = true ∧ noRf body = true := by
  obtain ⟨L', hL', hb⟩ := hR.blk _ _ h
  obtain rfl := Option.some.inj (hL.symm.trans hL')
  exact hb

/-- The record of a loop is written. -/
theorem setLoop {ι : IM} {s : AS} {w : World} (hR : R P ι s w) {q : Nat} {st st2 : LSt} {pd pd2 : Out} {n : Nat} {tm : T AV} {ps : List Nat} {asg body : ACode} (h : s.h.get q = some (.lp st pd n tm ps asg body)) {L : Loc} (hL : ι q = some L)
    {r r2 : Loop} (hr : w.heap[L.r]? = some (.loop r)) (e1 : lstR st2 r2.state) (e2 : r2.pending = pd2.code) (e3 : r2.params = r.params) (e4 : r2.tmps = r.tmps) (e5 : r2.assign = r.assign) (e6 : r2.body = r.body) :
    Ext P ι s w ι (s.write q (.lp st2 pd2 n tm ps asg body)) (w.putObj L.r (.loop r2)) := by
  obtain ⟨r', g1, g2, g3, g4, g5, g6, g7, g8, g9⟩ := hR.loopOf h hL
  have : r' = r := by have := g1.symm.trans hr; simpa using this
  subst this
  exact Ext.set hR h rfl hL ⟨r2, rfl, e1, e2, by rw [e3]; exact g4, by rw [e4]; exact g5, by rw [e5]; exact g6, by rw [e6]; exact g7, g8, g9⟩ rfl rfl rfl rfl

theorem round_ok {ex : Exec} (hex : CodeOk P ex) {l : Nat} {args : List AV} {s s' : AS} {v : AV} {q : Bool} (h : round ex l args s = some (v, s', q)) {ι : IM} {w : World} {vs : List Value} {L : Loc} (hL : ι l = some L)
    (hvs : VRs ι args vs) (hR : R P ι s w) (r : Option Nat) (n : Nat) :
    CallRes P r n (Instr.yield L.r vs.toArray) w (fun vv w' => ∃ ι', Ext P ι s w ι' s' w' ∧ VR ι' v vv ∧ (q = true → s' = s ∧ ι' = ι)) := by
  unfold round at h
  split at h <;> (try (simp only [reduceCtorEq] at h; done))
  rename_i st0 pd0 n0 tm ps asg body hb
  split at h <;> (try (simp only [reduceCtorEq] at h; done))
  rename_i t hpa
  split at h <;> (try (simp only [reduceCtorEq] at h; done))
  rename_i st1 hasg
  split at h <;> (try (simp only [reduceCtorEq] at h; done))
  rename_i pd1 n1 tm1 ps1 asg1 body1 hb1
  split at h <;> (try (simp only [reduceCtorEq] at h; done))
  rename_i o st2 hbody
  split at h <;> (try (simp only [reduceCtorEq] at h; done))
  rename_i pd2 n2 tm2 ps2 asg2 body2 hb2
  obtain ⟨rl, a1, a2, a3, a4, a5, a6, a7, a8, a9⟩ := hR.loopOf hb hL
  obtain ⟨b1, b2⟩ := putAll_ok ps args vs tm t n0 rl.tmps hvs a5 hpa
  have hlen := hvs.length
  have hsz : vs.toArray.size = rl.params.size := by rw [List.size_toArray, ← hlen, ← b2, ← a4, Array.length_toList]
  refine ⟨_, w, run_yield a1 hsz, ?_⟩
  have htm : (rl.params.zip vs.toArray).foldl (fun tmps (x : Nat × Value) => tmps.setIfInBounds x.1 x.2) rl.tmps = (ps.zip vs).foldl (fun tmps (p : Nat × Value) => tmps.setIfInBounds p.1 p.2) rl.tmps := by
    rw [← Array.foldl_toList, Array.toList_zip, a4]
  have htm' : (rl.params.zip vs.toArray).foldl (fun tmps (t, a) => tmps.setIfInBounds t a) rl.tmps = (ps.zip vs).foldl (fun tmps (p : Nat × Value) => tmps.setIfInBounds p.1 p.2) rl.tmps := htm
  show RoundIn (FR r) n P L.r rl.fn _ rl.assign rl.body w _
  rw [htm']
  refine roundIn_of_wpIn (F := FR r) trivial ?_
  show rl.assign.wpIn (FR (some L.r)) n P _ _ w
  refine wpIn_mono (hex rl.assign asg a6 ⟨t, n0, s⟩ _ _ hasg ι w _ (some L.r) n (.inr a8) b1 hR) (fun e a' w1 hp => ?_)
  obtain ⟨he, ι1, rs, hx1, hT1, _, _⟩ := hp
  subst he
  have hL1 := hx1.le _ _ hL
  obtain ⟨rl1, c1, c2, c3, c4, c5, c6, c7, c8, c9⟩ := hx1.rel.loopOf hb1 hL1
  have hready : rl1.state = .ready := by unfold lstR at c2; split at c2 <;> simp_all
  have hx2 := setLoop (st2 := .busy) (pd2 := pd1) (r2 := { rl1 with state := .busy }) hx1.rel hb1 hL1 c1 trivial c3 rfl rfl rfl rfl
  refine ⟨_, run_beginRound c1 hready, ?_⟩
  show rl.body.wpIn (FR (some L.r)) n P _ _ _
  refine wpIn_mono (hex rl.body body a7 _ _ _ hbody ι1 _ _ (some L.r) n (.inr a9) hT1 hx2.rel) (fun e a2 w2 hp => ?_)
  obtain ⟨he, ι2, rs2, hx3, hT2, _, _⟩ := hp
  subst he
  have hL2 := hx3.le _ _ hL1
  obtain ⟨rl2, d1, d2, d3, d4, d5, d6, d7, d8, d9⟩ := hx3.rel.loopOf hb2 hL2
  have hxx := (hx1.trans hx2).trans hx3
  cases o with
  | nrm =>
    simp only [Option.some.injEq, Prod.mk.injEq] at h
    obtain ⟨rfl, rfl, rfl⟩ := h
    have hx4 := setLoop (st2 := .ready) (pd2 := .nrm) (r2 := { rl2 with state := .ready, pending := none }) hx3.rel hb2 hL2 d1 trivial rfl rfl rfl rfl rfl
    exact ⟨_, _, run_endRound none d1, .bool true, rfl, ι2, hxx.trans hx4, .b _, by simp⟩
  | ret =>
    simp only [Option.some.injEq, Prod.mk.injEq] at h
    obtain ⟨rfl, rfl, rfl⟩ := h
    have hx4 := setLoop (st2 := .done) (pd2 := .ret) (r2 := { rl2 with state := .done, pending := some .ret }) hx3.rel hb2 hL2 d1 trivial rfl rfl rfl rfl rfl
    exact ⟨_, _, run_endRound (some .ret) d1, .bool false, rfl, ι2, hxx.trans hx4, .b _, by simp⟩
  | exit id =>
    simp only [Option.some.injEq, Prod.mk.injEq] at h
    obtain ⟨rfl, rfl, rfl⟩ := h
    have hx4 := setLoop (st2 := .done) (pd2 := .exit id) (r2 := { rl2 with state := .done, pending := some (.exit id) }) hx3.rel hb2 hL2 d1 trivial rfl rfl rfl rfl rfl
    exact ⟨_, _, run_endRound (some (.exit id)) d1, .bool false, rfl, ι2, hxx.trans hx4, .b _, by simp⟩

/-! ### Calls -/

theorem caller_ok {ex : Exec} (hex : CodeOk P ex) (hft : FtOk P ft) (hsm : SmOk P sm) : CallerOk P (callWith ft sm ex) := by
  intro fv args s v s' q h ι w f vs hf hvs hR r n ty
  unfold callWith at h
  split at h <;> (try (simp only [reduceCtorEq] at h; done))
  · rename_i g c
    cases hf with
    | fn hc =>
      rename_i cs
      have hall := hvs.append hc
      have hx : (do let d ← Deferred.ofValue (.func (.func g) #[] cs.toArray) vs.toArray; invoke d.target d.args : Sem Next) = callFunc g (vs ++ cs).toArray := by
        simp [Deferred.ofValue, invoke]
      rw [hx]
      split at h
      · rename_i sg hsg
        split at h <;> (try (simp only [reduceCtorEq] at h; done))
        rename_i v1 s1 hg
        simp only [Option.some.injEq, Prod.mk.injEq] at h
        obtain ⟨rfl, rfl, rfl⟩ := h
        obtain ⟨nx, w1, g1, g2⟩ := hsm g sg hsg ι s w _ _ _ _ hR hall hg r n
        refine ⟨nx, w1, g1, ?_⟩
        cases nx with
        | value u => obtain ⟨ι', k1, k2⟩ := g2; exact ⟨ι', k1, k2, by simp⟩
        | enter fe as => exact CallsIn.mono g2 (fun e w' ⟨u, he, ι', k1, k2⟩ => ⟨u, he, ι', k1, k2, by simp⟩)
        | round l fe tmps asg body => exact RoundIn.mono g2 (fun e w' ⟨u, he, ι', k1, k2⟩ => ⟨u, he, ι', k1, k2, by simp⟩)
        | _ => exact g2.elim
      · split at h <;> (try (simp only [reduceCtorEq] at h; done))
        rename_i fn hfn
        cases hle : Nat.ble (args ++ c).length fn.nt <;> simp only [hle, cond_true, cond_false, reduceCtorEq] at h
        split at h <;> (try (simp only [reduceCtorEq] at h; done))
        rename_i o st hne hrun
        split at h <;> (try (simp only [reduceCtorEq] at h; done))
        rename_i rv hres
        simp only [Option.some.injEq] at h
        obtain ⟨g1, g2⟩ := func_ok hex hft hfn (Nat.le_of_ble_eq_true hle) hrun (fun id e => hne id e) hres h hall hR r n
        exact ⟨_, w, g1, g2⟩
  · rename_i l
    cases hf with
    | yl hL =>
      rename_i L
      have hx : (do let d ← Deferred.ofValue (.func (.yield L.r) #[] #[]) vs.toArray; invoke d.target d.args : Sem Next) = Instr.yield L.r vs.toArray := by
        simp [Deferred.ofValue, invoke]
      rw [hx]
      exact round_ok hex h hL hvs hR r n

end Go.AM
