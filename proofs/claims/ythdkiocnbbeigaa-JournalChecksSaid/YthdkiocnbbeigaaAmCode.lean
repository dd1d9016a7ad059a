/- The abstract machine is sound: code, calls, ranges over functions. -/
import Derived.Test.YthdkiocnbbeigaaAmOp10
import Derived.LoopNIn
import Derived.Laws.Externs
namespace Go.AM
set_option linter.unusedVariables false
set_option linter.unusedSimpArgs false

variable {P : Program}

/-- The wide fence, in a round or not. -/
abbrev FR (r : Option Nat) : Fence := { Fence.wide with round := r }

theorem fr_fn (r : Option Nat) (f : FuncId) : (FR r).fn f := trivial
theorem fr_depth (r : Option Nat) (n : Nat) : (FR r).depth.isSome = true → 1 ≤ n := by intro h; simp [FR, Fence.wide] at h

def Out.exitOf : Out → Exit
  | .nrm => .normal
  | .ret => .ret
  | .exit id => .exit id

def markOf (r : Nat) : Deferred := { target := .collected r, args := #[] }

/-- The marks that ranges over functions have left. -/
structure Marks (ι : IM) (w0 w : World) (rs : List Nat) : Prop where
  nodup : rs.Nodup
  here : ∀ r, r ∈ rs → w0.heap.size ≤ r ∧ w.heap[r]? = some (.deferred (some [])) ∧ ∀ q L, ι q = some L → L.r ≠ r

theorem lt_of_get {w : World} {r : Nat} {o : Obj} (h : w.heap[r]? = some o) : r < w.heap.size := (Array.getElem?_eq_some_iff.1 h).1

theorem Marks.nil (ι : IM) (w0 w : World) : Marks ι w0 w [] := ⟨List.nodup_nil, by simp⟩

theorem Marks.ext {ι ι' : IM} {s s' : AS} {w0 w w' : World} {rs : List Nat} (h : Marks ι w0 w rs) (he : Ext P ι s w ι' s' w') : Marks ι' w0 w' rs where
  nodup := h.nodup
  here r hr := by
    obtain ⟨h1, h2, h3⟩ := h.here r hr
    refine ⟨h1, ?_, fun q L hq e => ?_⟩
    · rw [he.keep r (lt_of_get h2) (fun q B L _ _ hq => h3 q L hq)]; exact h2
    · rcases he.img q L hq with g | ⟨q', L', g1, g2⟩
      · have := lt_of_get h2; omega
      · exact h3 q' L' g1 (g2.trans e)

theorem Marks.append {ι' : IM} {w0 w1 w' : World} {rs rs' : List Nat} (h : Marks ι' w0 w' rs) (hlt : ∀ r ∈ rs, r < w1.heap.size) (h' : Marks ι' w1 w' rs') (hs : w0.heap.size ≤ w1.heap.size) : Marks ι' w0 w' (rs' ++ rs) where
  nodup := by
    rw [List.nodup_append]
    refine ⟨h'.nodup, h.nodup, fun a ha b hb e => ?_⟩
    have := (h'.here a ha).1
    have := hlt b hb
    omega
  here r hr := by
    rcases List.mem_append.1 hr with hr | hr
    · obtain ⟨a, b⟩ := h'.here r hr; exact ⟨by omega, b⟩
    · exact h.here r hr

/-- What a piece of code comes to. -/
def CPost (P : Program) (ι : IM) (s : AS) (w : World) (ds : List Deferred) (o : Out) (st' : St) (e : Exit) (a' : Act) (w' : World) : Prop :=
  e = o.exitOf ∧ ∃ ι' rs, Ext P ι s w ι' st'.s w' ∧ TR ι' st'.t st'.n a'.tmps ∧ a'.defers = rs.map markOf ++ ds ∧ Marks ι' w w' rs

theorem CPost.trans {ι ι1 : IM} {s : AS} {w w1 : World} {ds : List Deferred} {st1 st' : St} {o : Out} {rs : List Nat} {e : Exit} {a1 a' : Act} {w' : World}
    (hx : Ext P ι s w ι1 st1.s w1) (hm : Marks ι1 w w1 rs) (hd : a1.defers = rs.map markOf ++ ds) (h : CPost P ι1 st1.s w1 a1.defers o st' e a' w') : CPost P ι s w ds o st' e a' w' := by
  obtain ⟨he, ι', rs', h1, h2, h3, h4⟩ := h
  refine ⟨he, ι', rs' ++ rs, hx.trans h1, h2, ?_, ?_⟩
  · rw [h3, hd, List.map_append, List.append_assoc]
  · exact (hm.ext h1).append (fun r hr => lt_of_get (hm.here r hr).2.1) h4 hx.sz

/-- What a call comes to, from the operation on. -/
def CallRes (P : Program) (r : Option Nat) (n : Nat) (x : Sem Next) (w : World) (Q : Value → World → Prop) : Prop :=
  ∃ nx w1, x.run P w = .ok nx w1 ∧ match nx with
    | .value v => Q v w1
    | .enter f args => CallsIn (FR r) n P f args w1 (fun e w' => ∃ v, e = .returned v ∧ Q v w')
    | .round l f tmps asg body => RoundIn (FR r) n P l f tmps asg body w1 (fun e w' => ∃ v, e = .returned v ∧ Q v w')
    | _ => False

theorem TR.put {ι : IM} {t : T AV} {n : Nat} {tmps : Array Value} (h : TR ι t n tmps) {k : Nat} (hk : k < n) {v : AV} {u : Value} (hv : VR ι v u) : TR ι (t.put k (some v)) n (tmps.setIfInBounds k u) where
  sz := by simpa using h.sz
  get j x hj := by
    rw [T.get_put] at hj
    have hs := h.sz
    by_cases e : j = k
    · subst e
      rw [if_pos rfl] at hj
      obtain rfl := Option.some.inj hj
      rw [Array.getD_eq_getD_getElem?, Array.getElem?_setIfInBounds_self, if_pos (by omega)]
      exact hv
    · rw [if_neg e] at hj
      rw [Array.getD_eq_getD_getElem?, Array.getElem?_setIfInBounds_ne (Ne.symm e), ← Array.getD_eq_getD_getElem?]
      exact h.get j x hj

theorem OR_of {ι : IM} {t : T AV} {n : Nat} {a : Act} (h : TR ι t n a.tmps) : OR ι (ev t) a.eval := fun x y hx => cOpd_ok hx h

theorem put_tmps {ι : IM} {st st' : St} {a : Act} {d : Option Nat} {v : AV} {u : Value} {s' : AS} (h : TR ι st.t st.n a.tmps) (hv : VR ι v u) (hp : putT st d v s' = some st') :
    TR ι st'.t st'.n (a.put d u).tmps ∧ st'.s = s' ∧ (a.put d u).defers = a.defers ∧ st'.n = st.n := by
  unfold putT at hp
  cases d with
  | none => simp at hp; subst hp; exact ⟨h, rfl, rfl, rfl⟩
  | some k =>
    simp only at hp
    cases hk : Nat.blt k st.n <;> simp only [hk, cond_true, cond_false, reduceCtorEq, Option.some.injEq] at hp
    subst hp
    exact ⟨h.put (by simpa using hk) hv, rfl, rfl, rfl⟩

/-- Whether an operation is wanted. -/
theorem wanted_ok {ι : IM} {t : T AV} {n : Nat} {a : Act} (h : TR ι t n a.tmps) {ops : Array Oper} {o : Oper} {g : Option (Nat × Bool)} (hg : cGuard ops o.guard = some g) {b : Bool} (hw : wanted t g = some b) :
    Region.wanted o (yielded ops a.tmps) = b := by
  unfold cGuard at hg
  split at hg
  · rename_i e
    simp at hg; subst hg
    simp [wanted] at hw; subst hw
    simp [Region.wanted, e]
  · rename_i j want e
    split at hg <;> (try (simp at hg; done))
    rename_i oj hj
    split at hg <;> (try (simp at hg; done))
    rename_i d hd
    simp at hg; subst hg
    simp only [wanted] at hw
    have hv : VR ι (ev t (.t d)) (a.tmps.getD d undef) := by
      simp only [ev]
      cases hk : t.get d with
      | none => exact .un _
      | some v => exact h.get d v hk
    have hy : yielded ops a.tmps j = match a.tmps[d]? with | some (.bool b) => some b | _ => none := by
      simp only [yielded, hj, hd, Option.bind_some]
      rfl
    simp only [Region.wanted, e, hy]
    rw [Array.getD_eq_getD_getElem?] at hv
    split at hw <;> (try (simp only [reduceCtorEq] at hw; done)) <;> rename_i he <;> rw [he] at hv
    · rename_i v
      cases hq : a.tmps[d]? with
      | none => rw [hq] at hv; cases hv
      | some u =>
        rw [hq] at hv
        simp only [Option.getD_some] at hv
        cases hv
        simp at hw
        simp [← hw]
    · simp at hw; subst hw
      cases hq : a.tmps[d]? with
      | none => simp
      | some u =>
        rw [hq] at hv
        simp only [Option.getD_some] at hv
        cases hv
        simp

/-- A caller of the abstract machine is sound. -/
def CallerOk (P : Program) (call : Caller) : Prop :=
  ∀ (fv : AV) (args : List AV) (s : AS) (v : AV) (s' : AS) (q : Bool), call fv args s = some (v, s', q) → ∀ (ι : IM) (w : World) (f : Value) (vs : List Value), VR ι fv f → VRs ι args vs → R P ι s w →
    ∀ (r : Option Nat) (n : Nat) (ty : TypeId), CallRes P r n (do let d ← Deferred.ofValue f vs.toArray; invoke d.target d.args) w
      (fun vv w' => ∃ ι', Ext P ι s w ι' s' w' ∧ VR ι' v vv ∧ (q = true → s' = s ∧ ι' = ι))

theorem fr_about {o : Oper} {w : World} {a : Act} (r : Option Nat) : ∀ f, o.about P w a.eval = some f → (FR r).fn f := fun f _ => trivial

set_option maxHeartbeats 1000000 in
theorem cOp_call {op : Op} {f : Opd} {as : List Opd} (h : cOp P op = some (.call f as)) : ∃ c fo, op = .call c ∧ c.callee = .value fo ∧ cOpd fo = some f ∧ cOpds c.args.toList = some as := by
  cases op
  case call c =>
    cases hb : c.callee with
    | value fo =>
      simp only [cOp, hb] at h
      split at h <;> (try (simp at h; done))
      simp at h
      obtain ⟨rfl, rfl⟩ := h
      exact ⟨c, fo, rfl, hb, by assumption, by assumption⟩
    | builtin b =>
      exfalso
      simp only [cOp, hb, Bool.cond_eq_ite] at h
      cases b <;> (try (simp at h; done)) <;> (repeat' (split at h <;> (try (simp at h; done)))) <;> contradiction
    | invoke x m => simp [cOp, hb] at h
  all_goals
    exfalso
    simp only [cOp, Bool.cond_eq_ite] at h
    first
      | (simp at h; done)
      | ((repeat' (split at h <;> (try (simp at h; done)))) <;> contradiction)

theorem oper_ok {call : Caller} (hcall : CallerOk P call) {o : Oper} {ao : AOp} (hc : cOp P o.op = some ao) {ι : IM} {t : T AV} {nt : Nat} {s s' : AS} {w : World} {a : Act} {v : AV} {q : Bool}
    (hT : TR ι t nt a.tmps) (hR : R P ι s w) (ha : aoper call (ev t) ao s = some (v, s', q)) (r : Option Nat) (n : Nat) {next : Act → World → Prop} {Q : Exit → Act → World → Prop}
    (hn : ∀ vv ι' w', Ext P ι s w ι' s' w' → VR ι' v vv → (q = true → s' = s ∧ ι' = ι) → next (a.put o.dst vv) w') : o.wpIn (FR r) n P a w next Q := by
  have hO := OR_of hT
  have hnd : ∀ c, o.op ≠ .defer c := by intro c e; rw [e] at hc; simp [cOp] at hc
  have other : ∀ (hnc : ∀ f as, ao ≠ .call f as), o.wpIn (FR r) n P a w next Q := by
    intro hnc
    have ha' : ∃ sv, aop (ev t) ao s = some (v, sv) ∧ sv = s' ∧ ao.quiet = q := by
      unfold aoper at ha
      split at ha
      · exact absurd rfl (hnc _ _)
      · split at ha <;> simp at ha
        obtain ⟨rfl, rfl, rfl⟩ := ha
        exact ⟨_, by assumption, rfl, rfl⟩
    obtain ⟨sv, ha', rfl, rfl⟩ := ha'
    obtain ⟨nx, vv, ι', w', g1, g2, g3, g4, g5⟩ := aop_ok hc hO hR ha'
    refine ⟨fr_about r, ?_⟩
    rw [Oper.semAt_eq _ _ _ hnd, g1]
    have := hn vv ι' w' g4 g3 (fun h => ⟨(g5 h).1, (g5 h).2.1⟩)
    rcases g2 with rfl | ⟨rfl, rfl⟩
    · exact this
    · exact this
  cases ao with
  | call f as =>
    obtain ⟨c, fo, ho, hb, h1, h2⟩ := cOp_call hc
    simp only [aoper] at ha
    have hvs := cOpds_ok hO h2
    obtain ⟨nx, w1, g1, g2⟩ := hcall _ _ _ _ _ _ ha ι w _ _ (hO _ _ h1) hvs hR r (n - 1) o.type
    refine ⟨fr_about r, ?_⟩
    rw [Oper.semAt_eq _ _ _ hnd]
    have hx : execOp a.eval o = (do let d ← Deferred.ofValue (a.eval fo) (c.args.toList.map a.eval).toArray; invoke d.target d.args) := by
      have e : (c.args.toList.map a.eval).toArray = c.args.map a.eval := by rw [← Array.toList_inj]; simp
      simp [execOp, ho, resolve, hb, e]
    rw [hx, g1]
    cases nx with
    | value u =>
      obtain ⟨ι', k1, k2, k3⟩ := g2
      exact hn u ι' w1 k1 k2 k3
    | enter fe args =>
      refine ⟨fr_depth r n, CallsIn.mono g2 (fun e w' h => ?_)⟩
      obtain ⟨u, rfl, ι', k1, k2, k3⟩ := h
      exact hn u ι' w' k1 k2 k3
    | round l fe tmps asg body =>
      refine ⟨fr_depth r n, RoundIn.mono g2 (fun e w' h => ?_)⟩
      obtain ⟨u, rfl, ι', k1, k2, k3⟩ := h
      exact hn u ι' w' k1 k2 k3
    | _ => exact g2.elim
  | _ => exact other (by intro f as e; cases e)

/-! ### Regions in the order of the text -/

theorem cOpers_get {ops : Array Oper} : ∀ (l : List Oper) (al : List AOper), cOpers P ops l = some al → l.length = al.length ∧ ∀ (i : Nat) (o : Oper) (ao : AOper), l[i]? = some o → al[i]? = some ao → cOper P ops o = some ao
  | [], al, h => by simp [cOpers] at h; subst h; simp
  | o :: l, al, h => by
    simp only [cOpers] at h
    split at h <;> (try (simp at h; done))
    rename_i a r h1 h2
    simp at h; subst h
    obtain ⟨g1, g2⟩ := cOpers_get l r h2
    refine ⟨by simp [g1], fun i o' ao' e1 e2 => ?_⟩
    cases i with
    | zero => simp at e1 e2; subst e1; subst e2; exact h1
    | succ i => exact g2 i o' ao' (by simpa using e1) (by simpa using e2)

theorem cOper_parts {ops : Array Oper} {o : Oper} {ao : AOper} (h : cOper P ops o = some ao) : cGuard ops o.guard = some ao.g ∧ cOp P o.op = some ao.op ∧ ao.dst = o.dst := by
  unfold cOper at h
  split at h <;> simp at h
  subst h
  exact ⟨by assumption, by assumption, rfl⟩

theorem aops_ok {call : Caller} (hcall : CallerOk P call) {ops : Array Oper} {r : Option Nat} {n : Nat} {Q : Exit → Act → World → Prop} : ∀ (al : List AOper) (k : Nat) (st st' : St),
    (∀ (i : Nat) (ao : AOper), al[i]? = some ao → ∃ o, ops[k + i]? = some o ∧ cOper P ops o = some ao) → k + al.length = ops.size → aops call al st = some st' →
    ∀ (ι : IM) (w : World) (a : Act), TR ι st.t st.n a.tmps → R P ι st.s w →
    (∀ ι' w' a', Ext P ι st.s w ι' st'.s w' → TR ι' st'.t st'.n a'.tmps → a'.defers = a.defers → Q .normal a' w') → wpOpsIn (FR r) n P ops Q (List.range' k al.length) a w
  | [], k, st, st', _, _, h, ι, w, a, hT, hR, hQ => by
    simp [aops] at h; subst h
    exact hQ ι w a (.refl hR) hT rfl
  | ao :: al, k, st, st', hget, hlen, h, ι, w, a, hT, hR, hQ => by
    obtain ⟨o, ho, hc⟩ := hget 0 ao rfl
    rw [Nat.add_zero] at ho
    obtain ⟨c1, c2, c3⟩ := cOper_parts hc
    have hget' : ∀ (i : Nat) (ao : AOper), al[i]? = some ao → ∃ o, ops[k + 1 + i]? = some o ∧ cOper P ops o = some ao := fun i ao' hi => by
      obtain ⟨o', g1, g2⟩ := hget (i + 1) ao' (by simpa using hi)
      exact ⟨o', by rw [show k + 1 + i = k + (i + 1) by omega]; exact g1, g2⟩
    have hlen' : k + 1 + al.length = ops.size := by simp only [List.length_cons] at hlen; omega
    simp only [List.length_cons, List.range'_succ, wpOpsIn, ho]
    simp only [aops] at h
    cases hw : wanted st.t ao.g with
    | none => simp [hw] at h
    | some b =>
      have hwant := wanted_ok hT c1 hw
      cases b with
      | true =>
        simp only [hw] at h
        rw [if_pos hwant]
        cases hop : aoper call (ev st.t) ao.op st.s with
        | none => simp [hop] at h
        | some p =>
          obtain ⟨v, s1, q⟩ := p
          simp only [hop] at h
          cases hp : putT st ao.dst v s1 with
          | none => simp [hp] at h
          | some st1 =>
            simp only [hp] at h
            refine oper_ok hcall c2 hT hR hop r n (fun vv ι1 w1 hx hv _ => ?_)
            have hT1 : TR ι1 st.t st.n a.tmps := hT.mono hx.le
            rw [c3] at hp
            obtain ⟨p1, p2, p3, p4⟩ := put_tmps hT1 hv hp
            refine aops_ok hcall al (k + 1) st1 st' hget' hlen' h ι1 w1 _ p1 (by rw [p2]; exact hx.rel) (fun ι' w' a' hx' hT' hd' => ?_)
            rw [p2] at hx'
            exact hQ ι' w' a' (hx.trans hx') hT' (hd'.trans p3)
      | false =>
        simp only [hw] at h
        rw [if_neg (by rw [hwant]; simp)]
        cases hp : putT st ao.dst (.tu []) st.s with
        | none => simp [hp] at h
        | some st1 =>
          simp only [hp] at h
          rw [c3] at hp
          obtain ⟨p1, p2, p3, p4⟩ := put_tmps hT (u := undef) (VR.tu .nil) hp
          refine ⟨fr_about r, aops_ok hcall al (k + 1) st1 st' hget' hlen' h ι w _ p1 (by rw [p2]; exact hR) (fun ι' w' a' hx' hT' hd' => ?_)⟩
          rw [p2] at hx'
          exact hQ ι' w' a' hx' hT' (hd'.trans p3)

end Go.AM
