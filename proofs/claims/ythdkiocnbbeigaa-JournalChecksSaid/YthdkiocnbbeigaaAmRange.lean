/- A range over a map: whichever way it goes. -/
import Derived.Test.YthdkiocnbbeigaaAmTop
import Derived.Test.YthdkiocnbbeigaaAmSum
import Derived.Test.YthdkiocnbbeigaaAmY
import Derived.Maps.RangeRun
open Go.ChangeMaps (setBlock)
namespace Go.AM
set_option linter.unusedVariables false
set_option linter.unusedSimpArgs false

section
variable {P : Program} {ι ι' : IM} {s s' : AS} {w w' w'' : World}

/-- An object of the model's own is turned, of which no block of the heap tells. -/
theorem Ext.turn (hx : Ext P ι s w ι' s' w') {r : Nat} {o : Obj} (hr : w.heap.size ≤ r) (hn : ∀ q B L, s'.h.get q = some B → ι' q = some L → L.r ≠ r)
    (hh : w''.heap = w'.heap.setIfInBounds r o) (ho : w''.os = w'.os) (ht : w''.tape = w'.tape) (hp : w''.output = w'.output) : Ext P ι s w ι' s' w'' where
  rel := by
    refine ⟨hx.rel.dom, hx.rel.top, fun q L a => by rw [hh]; simpa using hx.rel.lt q L a, fun q B a => ?_, hx.rel.inj, hx.rel.low⟩
    obtain ⟨L, hL, hb⟩ := hx.rel.blk q B a
    exact ⟨L, hL, by rw [hh, Array.getElem?_setIfInBounds_ne (Ne.symm (hn q B L a hL))]; exact hb⟩
  le := hx.le
  nx := hx.nx
  sz := by rw [hh]; simpa using hx.sz
  os := ho.trans hx.os
  tape := ht.trans hx.tape
  output := hp.trans hx.output
  keep r' hr' hn' := by rw [hh, Array.getElem?_setIfInBounds_ne (by omega)]; exact hx.keep r' hr' hn'
  own := hx.own
  img := hx.img
  lo := hx.lo
  same := hx.same

/-- An object of the model's own gets a number, and no block. -/
theorem Ext.name (h : R P ι s w) (o : Obj) (hh : w'.heap = w.heap.push o) (ho : w'.os = w.os) (ht : w'.tape = w.tape) (hp : w'.output = w.output) :
    Ext P ι s w (ι.set s.nx ⟨w.heap.size, 0, 0⟩) ⟨s.h, s.nx + 1, s.lo⟩ w' where
  rel := by
    have hlt : ∀ q B, s.h.get q = some B → q ≠ s.nx := fun q B a e => by have := h.get_lt a; omega
    have hobj : ∀ r, r < w.heap.size → w'.heap[r]? = w.heap[r]? := fun r hr => by rw [hh, Array.getElem?_push, if_neg (by omega)]
    refine ⟨fun q hq => ?_, fun q L a => ?_, fun q L a => ?_, fun q B a => ?_, fun q1 q2 B1 B2 L1 L2 a b c d' e f => ?_, ?_⟩
    · by_cases e : q = s.nx
      · exact ⟨_, by rw [e, IM.set_same]⟩
      · obtain ⟨L, hL⟩ := h.dom q (by simp only at hq; omega)
        exact ⟨L, by rw [IM.set_ne _ _ e]; exact hL⟩
    · simp only
      by_cases e : q = s.nx
      · omega
      · rw [IM.set_ne _ _ e] at a; have := h.top q L a; omega
    · rw [hh, Array.size_push]
      by_cases e : q = s.nx
      · rw [e, IM.set_same] at a; obtain rfl := Option.some.inj a; simp
      · rw [IM.set_ne _ _ e] at a; have := h.lt q L a; omega
    · obtain ⟨L, hL, g⟩ := h.blk q B a
      refine ⟨L, by rw [IM.set_ne _ _ (hlt q B a)]; exact hL, ?_⟩
      rw [hobj _ (h.lt q L hL)]; exact g.mono (h.le_set _)
    · rw [IM.set_ne _ _ (hlt q1 B1 a)] at d'
      rw [IM.set_ne _ _ (hlt q2 B2 b)] at e
      exact h.inj q1 q2 B1 B2 L1 L2 a b c d' e f
    · have := h.low; simp only; omega
  le := h.le_set _
  nx := Nat.le_succ _
  sz := by rw [hh, Array.size_push]; omega
  os := ho
  tape := ht
  output := hp
  keep r hr _ := by rw [hh, Array.getElem?_push, if_neg (by omega)]
  own q B L a b c := by
    have hq : q ≠ s.nx := fun e => by have := h.get_lt a; omega
    rw [IM.set_ne _ _ hq] at c
    exact .inr ⟨q, B, L, a, b, c, rfl⟩
  img q L a := by
    by_cases e : q = s.nx
    · rw [e, IM.set_same] at a; obtain rfl := Option.some.inj a; exact .inl (Nat.le_refl _)
    · rw [IM.set_ne _ _ e] at a; exact .inr ⟨q, L, a, rfl⟩
  lo := Nat.le_refl _
  same _ _ := rfl
end

/-- What is run for each entry. -/
structure MR where
  tN : Nat
  tB : Nat
  tE : Nat
  tI : Nat
  id2 : Nat
  al : List AOper
  bodyc : ACode
  es : List (AV × AV)

def MR.step (m : MR) (st : St) (k v : AV) : St := ⟨((st.t.put m.tN (some (.tu [.b true, k, v]))).put m.tB (some (.b true))).put m.tE (some (.tu [k, v])), st.n, st.s⟩
def MR.fin (m : MR) (st : St) : St := ⟨(st.t.put m.tN (some (.tu [.b false]))).put m.tB (some (.b false)), st.n, st.s⟩

/-- Whichever entry comes next, the rest comes to something of which Φ holds. -/
def MRun (ft : Nat → Option AFunc) (sm : Nat → Option Summ) (m : MR) (Φ : St → Prop) : Nat → List Nat → St → Prop
  | 0, _, _ => False
  | f + 1, rem, st => (rem = [] → Φ (m.fin st)) ∧ (∃ q, ev st.t (.t m.tI) = .p q 0) ∧ m.tN < st.n ∧ m.tB < st.n ∧ m.tE < st.n ∧
    ∀ j ∈ rem, ∃ k v, m.es[j]? = some (k, v) ∧ ∃ K st2, aexec ft sm K (.block m.id2 (.seq (.ops m.al) m.bodyc)) (m.step st k v) = some (.nrm, st2) ∧ ev st2.t (.t m.tI) = ev st.t (.t m.tI) ∧ MRun ft sm m Φ f (rem.erase j) st2

section
variable {P : Program} {ft : Nat → Option AFunc} {sm : Nat → Option Summ}

def plainObj : Obj → Bool
  | .cells _ _ _ => true
  | _ => false

/-- An object that no block tells of stays, and none comes to tell of it. -/
theorem kept {ι ι' : IM} {s s' : AS} {w w' : World} (hx : Ext P ι s w ι' s' w') {r : Nat} {o : Obj} (ho : w.heap[r]? = some o) (hp : plainObj o = false) (hn : ∀ q B L, s.h.get q = some B → ι q = some L → L.r ≠ r) :
    w'.heap[r]? = some o ∧ ∀ q B L, s'.h.get q = some B → ι' q = some L → L.r ≠ r := by
  have hr := lt_of_get ho
  have hk : w'.heap[r]? = some o := (hx.keep r hr (fun q B L a _ c => hn q B L a c)).trans ho
  refine ⟨hk, fun q B L a c e => ?_⟩
  cases hb : B.wr
  · obtain ⟨L', hL', g⟩ := hx.rel.blk q B a
    obtain rfl := Option.some.inj (hL'.symm.trans c)
    cases B with
    | row wr cs =>
      obtain ⟨cc, el, fr, h1, _⟩ := g
      rw [e, hk] at h1
      obtain rfl := Option.some.inj h1
      simp [plainObj] at hp
    | mp es => simp [Blk.wr] at hb
    | lp _ _ _ _ _ _ _ => simp [Blk.wr] at hb
  · rcases hx.own q B L a hb c with g | ⟨q', B', L', g1, _, g3, g4⟩
    · omega
    · exact hn q' B' L' g1 g3 (g4.trans e)

theorem ERs.get {ι : IM} : ∀ {l : List (AV × AV)} {es : List MapEntry}, ERs ι l es → ∀ {j : Nat} {k v : AV}, l[j]? = some (k, v) → ∃ e, es[j]? = some e ∧ VR ι k e.key ∧ VR ι v e.val
  | _, _, .nil, j, k, v, h => by simp at h
  | _, _, .cons hk hv hr, 0, k, v, h => by
    simp only [List.getElem?_cons_zero, Option.some.injEq, Prod.mk.injEq] at h
    obtain ⟨rfl, rfl⟩ := h
    exact ⟨_, rfl, hk, hv⟩
  | _, _, .cons hk hv hr, j + 1, k, v, h => by
    obtain ⟨e, h1, h2⟩ := hr.get (j := j) (by simpa using h)
    exact ⟨e, by simpa using h1, h2⟩

theorem oper_val {o : Oper} {a : Act} {w w' : World} {v : Value} {r : Option Nat} {n : Nat} {next : Act → World → Prop} {Q : Exit → Act → World → Prop} (hnd : ∀ c, o.op ≠ .defer c)
    (hrun : (execOp a.eval o).run P w = .ok (.value v) w') (hk : next (a.put o.dst v) w') : o.wpIn (FR r) n P a w next Q :=
  ⟨fr_about r, by rw [Oper.semAt_eq _ _ _ hnd, hrun]; exact hk⟩

theorem nbeq {a b : Nat} (h : a ≠ b) : Nat.beq a b = false := by
  cases hb : Nat.beq a b
  · rfl
  · exact absurd (Nat.eq_of_beq_eq_true hb) h

/-- A block of operations and code, taken apart. -/
theorem block_parts {K id2 : Nat} {al : List AOper} {bodyc : ACode} {st st2 : St} (h : aexec ft sm K (.block id2 (.seq (.ops al) bodyc)) st = some (.nrm, st2)) :
    ∃ K3 stm o, aops (callWith ft sm (aexec ft sm K3)) al st = some stm ∧ aexec ft sm (K3 + 1) bodyc stm = some (o, st2) ∧ (o = .nrm ∨ o = .exit id2) := by
  cases K with
  | zero => simp [aexec] at h
  | succ K1 =>
    simp only [aexec] at h
    have h2 : ∃ o, aexec ft sm K1 (.seq (.ops al) bodyc) st = some (o, st2) ∧ (o = .nrm ∨ o = .exit id2) := by
      split at h
      · rename_i j st1 hj
        cases hb : j == id2
        · simp [hb] at h
        · simp only [hb, cond_true, Option.some.injEq, Prod.mk.injEq, true_and] at h
          subst h
          obtain rfl : j = id2 := by simpa using hb
          exact ⟨_, hj, .inr rfl⟩
      · exact ⟨_, h, .inl rfl⟩
    obtain ⟨o, h2, ho⟩ := h2
    cases K1 with
    | zero => simp [aexec] at h2
    | succ K2 =>
      simp only [aexec] at h2
      cases K2 with
      | zero => simp [aexec] at h2
      | succ K3 =>
        rw [show aexec ft sm (K3 + 1) (.ops al) st = (match aops (callWith ft sm (aexec ft sm K3)) al st with | some st' => some (.nrm, st') | none => none) from rfl] at h2
        cases ha : aops (callWith ft sm (aexec ft sm K3)) al st with
        | none => simp [ha] at h2
        | some stm => simp only [ha] at h2; exact ⟨K3, stm, o, ha, h2, ho⟩

/-- At the loop's head. -/
structure MI (P : Program) (m : MR) (ι0 : IM) (s0 : AS) (w0 : World) (ds : List Deferred) (rI bm since clk : Nat) (ents : Array MapEntry) (rem : List Nat) (st : St) (ι : IM) (w : World) (a : Act) (seen : Array Nat) (c0 : Nat) : Prop where
  T : TR ι st.t st.n a.tmps
  X : Ext P ι0 s0 w0 ι st.s w
  it : ∃ q, ev st.t (.t m.tI) = .p q 0 ∧ ι q = some ⟨rI, 0, 0⟩
  iter : w.heap[rI]? = some (.mapIter (some bm) since seen c0)
  map : w.heap[bm]? = some (.map ents clk)
  fI : ∀ q B L, st.s.h.get q = some B → ι q = some L → L.r ≠ rI
  fM : ∀ q B L, st.s.h.get q = some B → ι q = some L → L.r ≠ bm
  sc : since ≤ c0
  ck : since ≤ clk
  vis : ∀ j e, ents[j]? = some e → (j ∈ rem ↔ seen.contains e.born = false)
  rnd : rem.Nodup
  es : ERs ι m.es ents.toList
  mrk : ∃ rs, a.defers = rs.map markOf ++ ds ∧ Marks ι w0 w rs

theorem erase_mem {l : List Nat} (h : l.Nodup) {j x : Nat} : x ∈ l.erase j ↔ x ∈ l ∧ x ≠ j := by
  rw [h.mem_erase_iff]; exact And.comm

theorem born_inj {ents : Array MapEntry} (h : (ents.toList.map (·.born)).Nodup) {i j : Nat} {x y : MapEntry} (hi : ents[i]? = some x) (hj : ents[j]? = some y) (e : x.born = y.born) : i = j := by
  have h1 : (ents.toList.map (·.born))[i]? = some x.born := by rw [List.getElem?_map, Array.getElem?_toList, hi]; rfl
  have h2 : (ents.toList.map (·.born))[j]? = some x.born := by rw [List.getElem?_map, Array.getElem?_toList, hj, e]; rfl
  exact (List.getElem_inj h).1 ((List.getElem?_eq_some_iff.1 h1).2.trans (List.getElem?_eq_some_iff.1 h2).2.symm)

set_option maxHeartbeats 1000000 in
theorem mrange_ok (hmx : P.follows .mixedOrders = true) (hft : FtOk P ft) (hsm : SmOk P sm) {m : MR} {Φ : St → Prop} {id r1 r2 : Nat} {opN opX opE : Oper} {ops2 : Array Oper} {body : Code} {n : Nat}
    (hN : opN.op = .next (.tmp m.tI) false) (hNd : opN.dst = some m.tN) (hNg : opN.guard = none)
    (hX : opX.op = .extract (.tmp m.tN) 0) (hXd : opX.dst = some m.tB) (hXg : opX.guard = none)
    (hE0 : ops2[0]? = some opE) (hE : opE.op = .entry (.tmp m.tI)) (hEd : opE.dst = some m.tE) (hEg : opE.guard = none)
    (hal : ∀ (i : Nat) (ao : AOper), m.al[i]? = some ao → ∃ o, ops2[1 + i]? = some o ∧ cOper P ops2 o = some ao) (hsz : 1 + m.al.length = ops2.size) (hbody : cCode P body = some m.bodyc)
    (n1 : m.tI ≠ m.tN) (n2 : m.tI ≠ m.tB) (n3 : m.tI ≠ m.tE) (n4 : m.tB ≠ m.tN)
    {ι0 : IM} {s0 : AS} {w0 : World} {ds : List Deferred} {rI bm since clk : Nat} {ents : Array MapEntry} (hrI : w0.heap.size ≤ rI) (hnd : (ents.toList.map (·.born)).Nodup) (hold : ∀ x ∈ ents.toList, x.born < since) :
    ∀ (f : Nat) (rem : List Nat) (st : St), MRun ft sm m Φ f rem st → ∀ (ι : IM) (w : World) (a : Act) (seen : Array Nat) (c0 : Nat), MI P m ι0 s0 w0 ds rI bm since clk ents rem st ι w a seen c0 →
      Code.roundsIn (FR none) n P (.seq (.region r1 #[opN, opX] false) (.seq (.cond (.tmp m.tB) .skip (.exit id)) (.block m.id2 (.seq (.region r2 ops2 false) body))))
        (fun e a' w' => ∃ st', Φ st' ∧ CPost P ι0 s0 w0 ds (.exit id) st' e a' w') f a w
  | 0, rem, st, h, ι, w, a, seen, c0, _ => h.elim
  | f + 1, rem, st, h, ι, w, a, seen, c0, H => by
    obtain ⟨h0, ⟨q0, hq0⟩, b1, b2, b3, hstep⟩ := h
    obtain ⟨q, hq, hqL⟩ := H.it
    have hval : a.eval (.tmp m.tI) = .pointer (some ⟨rI, 0, none⟩) := by
      have := ev_ok H.T m.tI
      rw [hq] at this
      show a.tmps.getD m.tI undef = _
      generalize a.tmps.getD m.tI undef = u at this
      cases this with
      | p hL =>
        obtain rfl := Option.some.inj (hL.symm.trans hqL)
        rfl
    have hdN : ∀ c, opN.op ≠ .defer c := fun c e => by rw [hN] at e; cases e
    have hdX : ∀ c, opX.op ≠ .defer c := fun c e => by rw [hX] at e; cases e
    have hdE : ∀ c, opE.op ≠ .defer c := fun c e => by rw [hE] at e; cases e
    have want : ∀ (o : Oper) (ops : Array Oper) (t : Array Value), o.guard = none → Region.wanted o (yielded ops t) = true := fun o ops t hg => by simp [Region.wanted, hg]
    refine wpIn_seq (wpIn_region ?_)
    show wpOpsIn (FR none) n P #[opN, opX] _ [0, 1] a w
    show (if Region.wanted opN _ then opN.wpIn _ _ _ _ _ _ _ else _)
    rw [if_pos (want _ _ _ hNg)]
    have second : ∀ (vs : Array Value) (b : Bool) (w1 : World) (Q : Exit → Act → World → Prop), vs[0]? = some (.bool b) → Q .normal ((a.put opN.dst (.tuple vs)).put opX.dst (.bool b)) w1 →
        wpOpsIn (FR none) n P #[opN, opX] Q [1] (a.put opN.dst (.tuple vs)) w1 := fun vs b w1 Q hv hQ => by
      show (if Region.wanted opX _ then opX.wpIn _ _ _ _ _ _ _ else _)
      rw [if_pos (want _ _ _ hXg)]
      have hev : (a.put opN.dst (.tuple vs)).eval (.tmp m.tN) = .tuple vs := by
        rw [hNd]
        show (a.tmps.setIfInBounds m.tN _).getD m.tN undef = _
        have := H.T.sz
        rw [Array.getD_eq_getD_getElem?, Array.getElem?_setIfInBounds_self_of_lt (by omega)]; rfl
      refine oper_val hdX (v := .bool b) (w' := w1) ?_ hQ
      simp [execOp, hX, hev, Instr.extract, hv]
    rcases run_next_at (P := P) w opN.type rI bm since c0 seen ents clk H.iter H.map hold H.sc with ⟨hl, hrun⟩ | ⟨e, he, w1, hw1, hrun⟩
    · have hrem : rem = [] := by
        cases rem with
        | nil => rfl
        | cons j r =>
          exfalso
          obtain ⟨k, v, hk, _⟩ := hstep j (by simp)
          obtain ⟨x, hx, _⟩ := H.es.get hk
          have hx' : ents[j]? = some x := by rw [← Array.getElem?_toList]; exact hx
          have hs := (H.vis j x hx').1 (by simp)
          have hm : x ∈ leftOf ents seen := by
            unfold leftOf
            rw [Array.mem_filter]
            exact ⟨Array.mem_of_getElem? hx', by simp only [hs, Bool.not_false]⟩
          have := Array.size_pos_of_mem hm
          omega
      refine oper_val hdN (v := .tuple #[.bool false]) (w' := w) (by simp [execOp, hN, hval, hrun]) ?_
      refine second _ false w _ rfl ?_
      refine wpIn_seq ?_
      have hT1 : TR ι ((st.t.put m.tN (some (.tu [.b false]))).put m.tB (some (.b false))) st.n ((a.put opN.dst (.tuple #[.bool false])).put opX.dst (.bool false)).tmps := by
        rw [hNd, hXd]
        exact (H.T.put b1 (u := .tuple #[.bool false]) (VR.tu (.cons (.b _) .nil))).put b2 (VR.b false)
      have hcond : ((a.put opN.dst (.tuple #[.bool false])).put opX.dst (.bool false)).eval (.tmp m.tB) = .bool false := by
        have := ev_ok hT1 m.tB
        rw [ev_put] at this
        simp only [Nat.beq_refl, cond_true] at this
        show Array.getD _ m.tB undef = _
        generalize Array.getD _ m.tB undef = u at this
        cases this; rfl
      refine wpIn_cond_false hcond (wpIn_exit ?_)
      obtain ⟨rs, hd, hm⟩ := H.mrk
      exact ⟨m.fin st, h0 hrem, rfl, ι, rs, H.X, hT1, by rw [hNd, hXd]; exact hd, hm⟩
    · have hmem : e ∈ ents ∧ seen.contains e.born = false := by
        unfold leftOf at he
        rw [Array.mem_toList_iff, Array.mem_filter] at he
        exact ⟨he.1, by simpa using he.2⟩
      obtain ⟨j, hj, hje⟩ := Array.getElem_of_mem hmem.1
      have hj' : ents[j]? = some e := by rw [Array.getElem?_eq_getElem hj, hje]
      have hjr : j ∈ rem := (H.vis j e hj').2 hmem.2
      obtain ⟨k, v, hk, K, st2, hrunB, hq2, hrest⟩ := hstep j hjr
      obtain ⟨x, hx, vk, vv⟩ := H.es.get hk
      rw [Array.getElem?_toList, hj'] at hx
      obtain rfl := Option.some.inj hx
      have hw1h : w1.heap = w.heap ∧ w1.os = w.os ∧ w1.tape = w.tape ∧ w1.output = w.output := by
        rcases hw1 with rfl | rfl <;> exact ⟨rfl, rfl, rfl, rfl⟩
      obtain ⟨g1, g2, g3, g4⟩ := hw1h
      let w2 := setBlock w1 rI (.mapIter (some bm) since (seen.push e.born) clk)
      have hX2 : Ext P ι0 s0 w0 ι st.s w2 := H.X.turn hrI H.fI (by show w1.heap.setIfInBounds _ _ = _; rw [g1]) g2 g3 g4
      have hiter2 : w2.heap[rI]? = some (.mapIter (some bm) since (seen.push e.born) clk) := by
        show (w1.heap.setIfInBounds rI _)[rI]? = _
        rw [g1, Array.getElem?_setIfInBounds_self_of_lt (lt_of_get H.iter)]
      have hne : bm ≠ rI := fun e' => by
        have := H.map; rw [e', H.iter] at this; cases this
      have hmap2 : w2.heap[bm]? = some (.map ents clk) := by
        show (w1.heap.setIfInBounds rI _)[bm]? = _
        rw [g1, Array.getElem?_setIfInBounds_ne (Ne.symm hne)]; exact H.map
      refine oper_val hdN (v := .tuple #[.bool true, e.key, e.val]) (w' := w2) (by simp [execOp, hN, hval, hrun]; rfl) ?_
      refine second _ true w2 _ rfl ?_
      refine wpIn_seq ?_
      have hT1 : TR ι ((st.t.put m.tN (some (.tu [.b true, k, v]))).put m.tB (some (.b true))) st.n ((a.put opN.dst (.tuple #[.bool true, e.key, e.val])).put opX.dst (.bool true)).tmps := by
        rw [hNd, hXd]
        exact (H.T.put b1 (u := .tuple #[.bool true, e.key, e.val]) (VR.tu (.cons (.b _) (.cons vk (.cons vv .nil))))).put b2 (VR.b true)
      generalize ha1 : (a.put opN.dst (.tuple #[.bool true, e.key, e.val])).put opX.dst (.bool true) = a1 at hT1
      have hd1 : a1.defers = a.defers := by rw [← ha1, hNd, hXd]; rfl
      have hcond : a1.eval (.tmp m.tB) = .bool true := by
        have := ev_ok hT1 m.tB
        rw [ev_put] at this
        simp only [Nat.beq_refl, cond_true] at this
        show Array.getD _ m.tB undef = _
        generalize Array.getD _ m.tB undef = u at this
        cases this; rfl
      refine wpIn_cond_true hcond (wpIn_skip ?_)
      show (Code.block m.id2 _).wpIn _ _ _ _ _ _
      have hval1 : a1.eval (.tmp m.tI) = .pointer (some ⟨rI, 0, none⟩) := by
        have := ev_ok hT1 m.tI
        rw [ev_put, ev_put] at this
        have e1 : Nat.beq m.tI m.tB = false := nbeq n2
        have e2 : Nat.beq m.tI m.tN = false := nbeq n1
        rw [e1, e2, cond_false, cond_false, hq] at this
        show a1.tmps.getD m.tI undef = _
        generalize a1.tmps.getD m.tI undef = u at this
        cases this with
        | p hL =>
          obtain rfl := Option.some.inj (hL.symm.trans hqL)
          rfl
      -- the body, by the machine
      have hT2 : TR ι (m.step st k v).t (m.step st k v).n (a1.put opE.dst (.tuple #[e.key, e.val])).tmps := by
        rw [hEd]
        exact hT1.put b3 (u := .tuple #[e.key, e.val]) (VR.tu (.cons vk (.cons vv .nil)))
      obtain ⟨K3, stm, o, hops, hb, ho⟩ := block_parts hrunB
      have hcall : CallerOk P (callWith ft sm (aexec ft sm K3)) := caller_ok (code_ok hmx hft hsm K3).1 hft hsm
      refine wpIn_block (wpIn_seq (wpIn_region ?_))
      rw [← hsz, Nat.add_comm, List.range_succ_eq_map]
      show wpOpsIn _ _ _ _ _ (0 :: _) _ _
      simp only [wpOpsIn, hE0]
      rw [if_pos (want _ _ _ hEg)]
      refine oper_val hdE (v := .tuple #[e.key, e.val]) (w' := w2) (by
        have := run_entry_at (P := P) w2 rI bm since seen ents clk e hiter2 hmap2 (by simpa using hmem.1) hnd
        simp [execOp, hE, hval1, this]) ?_
      have hrange : (List.range m.al.length).map Nat.succ = List.range' 1 m.al.length := by
        rw [List.range_eq_range', List.map_add_range' (a := 1) 0 m.al.length 1 |> fun h => (by simpa [Nat.add_comm] using h : (List.range' 0 m.al.length).map Nat.succ = List.range' 1 m.al.length)]
      rw [hrange]
      refine aops_ok (r := none) (n := n) hcall m.al 1 (m.step st k v) stm (fun i ao hi => hal i ao hi) hsz hops ι w2 _ hT2 hX2.rel (fun ι3 w3 a3 hx3 hT3 hd3 => ?_)
      refine wpIn_mono ((code_ok hmx hft hsm (K3 + 1)).1 body m.bodyc hbody stm o st2 hb ι3 w3 a3 none n (.inl rfl) hT3 hx3.rel) (fun e4 a4 w4 hp => ?_)
      obtain ⟨he4, ι4, rs4, hx4, hT4, hd4, hm4⟩ := hp
      have hin : ∀ Q' : Exit → Act → World → Prop, Q' .normal a4 w4 → Exit.inBlock m.id2 Q' e4 a4 w4 := fun Q' hQ => by
        rw [he4]
        rcases ho with rfl | rfl
        · exact hQ
        · show (if m.id2 = m.id2 then _ else _)
          rw [if_pos rfl]; exact hQ
      refine hin _ ?_
      show Code.roundsIn _ _ _ _ _ f a4 w4
      have hx : Ext P ι st.s w2 ι4 st2.s w4 := hx3.trans hx4
      obtain ⟨k1, k2⟩ := kept hx hiter2 rfl H.fI
      obtain ⟨k3, k4⟩ := kept hx hmap2 rfl H.fM
      obtain ⟨rs, hd, hm⟩ := H.mrk
      have hm2 : Marks ι w0 w2 rs := by
        refine ⟨hm.nodup, fun r' hr' => ?_⟩
        obtain ⟨p1, p2, p3⟩ := hm.here r' hr'
        refine ⟨p1, ?_, p3⟩
        have hne' : r' ≠ rI := fun e' => by rw [e', H.iter] at p2; cases p2
        show (w1.heap.setIfInBounds rI _)[r']? = _
        rw [g1, Array.getElem?_setIfInBounds_ne (Ne.symm hne')]; exact p2
      refine mrange_ok (bm := bm) (clk := clk) hmx hft hsm hN hNd hNg hX hXd hXg hE0 hE hEd hEg hal hsz hbody n1 n2 n3 n4 hrI hnd hold f (rem.erase j) st2 hrest ι4 w4 a4 (seen.push e.born) clk ?_
      refine ⟨hT4, hX2.trans hx, ⟨q, by rw [hq2]; exact hq, hx.le _ _ hqL⟩, k1, k3, k2, k4, H.ck, H.ck, fun j' x hx' => ?_, H.rnd.erase j, H.es.mono hx.le, ?_⟩
      · rw [erase_mem H.rnd, H.vis j' x hx', Array.contains_push]
        constructor
        · rintro ⟨p1, p2⟩
          rw [p1]
          simp only [Bool.false_or, beq_eq_false_iff_ne]
          exact fun e' => p2 (born_inj hnd hx' hj' e')
        · intro p1
          simp only [Bool.or_eq_false_iff, beq_eq_false_iff_ne] at p1
          exact ⟨p1.1, fun e' => p1.2 (by subst e'; rw [hj'] at hx'; rw [Option.some.inj hx'])⟩
      · refine ⟨rs4 ++ rs, by rw [hd4, hd3]; show rs4.map markOf ++ (a1.put opE.dst _).defers = _; rw [hEd]; show rs4.map markOf ++ a1.defers = _; rw [hd1, hd]; simp, ?_⟩
        have hlt : ∀ r ∈ rs, r < w3.heap.size := fun r hr => Nat.lt_of_lt_of_le (lt_of_get (hm2.here r hr).2.1) hx3.sz
        exact Marks.append ((hm2.ext hx3).ext hx4) hlt hm4 (Nat.le_trans hX2.sz hx3.sz)
end

/-! ### Asked of a machine that runs -/

def mrunB (ft : Nat → Option AFunc) (sm : Nat → Option Summ) (K : Nat) (m : MR) (φ : St → Bool) : Nat → List Nat → St → Bool
  | 0, _, _ => false
  | f + 1, rem, st => (match rem with | [] => φ (m.fin st) | _ => true) && (match ev st.t (.t m.tI) with | .p _ 0 => true | _ => false) && Nat.blt m.tN st.n && Nat.blt m.tB st.n && Nat.blt m.tE st.n &&
    rem.all fun j => match m.es[j]? with
      | some (k, v) => match aexec ft sm K (.block m.id2 (.seq (.ops m.al) m.bodyc)) (m.step st k v) with
        | some (.nrm, st2) => (match ev st2.t (.t m.tI), ev st.t (.t m.tI) with | .p q 0, .p q' 0 => q == q' | _, _ => false) && mrunB ft sm K m φ f (rem.erase j) st2
        | _ => false
      | none => false

theorem mrunB_ok {ft : Nat → Option AFunc} {sm : Nat → Option Summ} {K : Nat} {m : MR} {φ : St → Bool} : ∀ (f : Nat) (rem : List Nat) (st : St), mrunB ft sm K m φ f rem st = true → MRun ft sm m (fun st => φ st = true) f rem st
  | 0, rem, st, h => by cases h
  | f + 1, rem, st, h => by
    simp only [mrunB, Bool.and_eq_true, Nat.blt_eq] at h
    obtain ⟨⟨⟨⟨⟨h1, h2⟩, h3⟩, h4⟩, h5⟩, h6⟩ := h
    refine ⟨fun e => by subst e; exact h1, ?_, h3, h4, h5, fun j hj => ?_⟩
    · split at h2
      · exact ⟨_, by assumption⟩
      · cases h2
    · have := List.all_eq_true.1 h6 j hj
      split at this <;> (try (simp only [Bool.false_eq_true] at this; done))
      rename_i k v hk
      split at this <;> (try (simp only [Bool.false_eq_true] at this; done))
      rename_i st2 hst
      simp only [Bool.and_eq_true] at this
      refine ⟨k, v, hk, K, st2, hst, ?_, mrunB_ok f _ st2 this.2⟩
      have t1 := this.1
      split at t1 <;> (try (simp only [Bool.false_eq_true] at t1; done))
      rename_i q q' e1 e2
      rw [e1, e2]
      simp only [beq_iff_eq] at t1
      rw [t1]

theorem region_two {P : Program} {F : Fence} {n id : Nat} {o1 o2 : Oper} {Q : Exit → Act → World → Prop} {a : Act} {w : World} (g1 : o1.guard = none) (g2 : o2.guard = none)
    (h : o1.wpIn F n P a w (fun a' w' => o2.wpIn F n P a' w' (fun a'' w'' => Q .normal a'' w'') Q) Q) : (Code.region id #[o1, o2] false).wpIn F n P Q a w := by
  refine wpIn_region ?_
  show wpOpsIn F n P #[o1, o2] Q [0, 1] a w
  have want : ∀ (o : Oper) (t : Nat → Option Bool), o.guard = none → Region.wanted o t = true := fun o t hg => by simp [Region.wanted, hg]
  have e1 : ∀ a w, wpOpsIn F n P #[o1, o2] Q [1] a w = o2.wpIn F n P a w (fun a'' w'' => Q .normal a'' w'') Q := fun a w => by
    show (if Region.wanted o2 (yielded #[o1, o2] a.tmps) = true then _ else _) = _
    rw [if_pos (want _ _ g2)]; rfl
  show (if Region.wanted o1 (yielded #[o1, o2] a.tmps) = true then o1.wpIn F n P a w (wpOpsIn F n P #[o1, o2] Q [1]) Q else _)
  rw [if_pos (want _ _ g1)]
  have : wpOpsIn F n P #[o1, o2] Q [1] = fun a' w' => o2.wpIn F n P a' w' (fun a'' w'' => Q .normal a'' w'') Q := by funext a w; exact e1 a w
  rw [this]; exact h

theorem tail_ok {P : Program} {ops : Array Oper} {al : List AOper} (h : cOpers P ops (ops.toList.drop 1) = some al) {o : Oper} (h0 : ops[0]? = some o) :
    (∀ (i : Nat) (ao : AOper), al[i]? = some ao → ∃ o, ops[1 + i]? = some o ∧ cOper P ops o = some ao) ∧ 1 + al.length = ops.size := by
  obtain ⟨g1, g2⟩ := cOpers_get _ _ h
  refine ⟨fun i ao hi => ?_, ?_⟩
  · have hlt : i < (ops.toList.drop 1).length := by rw [g1]; exact (List.getElem?_eq_some_iff.1 hi).1
    refine ⟨(ops.toList.drop 1)[i], ?_, g2 i _ _ (by rw [List.getElem?_eq_getElem hlt]) hi⟩
    rw [← Array.getElem?_toList, ← List.getElem?_drop, List.getElem?_eq_getElem hlt]
  · have := (Array.getElem?_eq_some_iff.1 h0).1
    rw [List.length_drop, Array.length_toList] at g1
    omega

/-! ### Pieces of a function, one behind the other -/

section
variable {P : Program} {ft : Nat → Option AFunc} {sm : Nat → Option Summ}

/-- Where a function stands. -/
def Here (P : Program) (ι0 : IM) (s0 : AS) (w0 : World) (st : St) (a : Act) (w : World) : Prop :=
  ∃ ι rs, Ext P ι0 s0 w0 ι st.s w ∧ TR ι st.t st.n a.tmps ∧ a.defers = rs.map markOf ∧ Marks ι w0 w rs

theorem piece_ok (hmx : P.follows .mixedOrders = true) (hft : FtOk P ft) (hsm : SmOk P sm) {ι0 : IM} {s0 : AS} {w0 : World} {c : Code} {ac : ACode} {K : Nat} {st st' : St} {o : Out} {a : Act} {w : World} {n : Nat}
    (hc : cCode P c = some ac) (hrun : aexec ft sm K ac st = some (o, st')) (h : Here P ι0 s0 w0 st a w) {Q : Exit → Act → World → Prop} (hq : ∀ a' w', Here P ι0 s0 w0 st' a' w' → Q o.exitOf a' w') : c.wpIn (FR none) n P Q a w := by
  obtain ⟨ι, rs, hx, hT, hd, hm⟩ := h
  refine wpIn_mono ((code_ok hmx hft hsm K).1 c ac hc st o st' hrun ι w a none n (.inl rfl) hT hx.rel) (fun e a' w' hp => ?_)
  obtain ⟨he, ι1, rs1, hx1, hT1, hd1, hm1⟩ := hp
  subst he
  refine hq a' w' ⟨ι1, rs1 ++ rs, hx.trans hx1, hT1, by rw [hd1, hd]; simp, ?_⟩
  exact Marks.append (hm.ext hx1) (fun r hr => lt_of_get (hm.here r hr).2.1) hm1 hx.sz
end

end Go.AM
