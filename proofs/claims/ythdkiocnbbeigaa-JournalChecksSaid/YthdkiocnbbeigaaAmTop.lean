/- From the abstract machine to a law's statement. -/
import Derived.Test.YthdkiocnbbeigaaAmRead
import Derived.ChangeSame
import Derived.OpenShut
import Derived.ProofKit
import Derived.JoinedCond
open Go.ChangeShapes Go.WideShapes Go.ChangeAt Go.RowKit
namespace Go.AM
set_option linter.unusedVariables false
set_option linter.unusedSimpArgs false

/-- How a parameter is handed: of a struct the cells. -/
def argOf (P : Program) (d : Nat) (t : TypeId) : Option (Bool × List Ty) :=
  match P.underlying t with
  | some (.struct _) => (tyOf P d t).map fun l => (true, l)
  | some (.array _ _) => none
  | _ => (tyOf P d t).map fun l => (false, l)

def HasArg (s : AS) (a : Bool × List Ty) (v : AV) : Prop :=
  match a.1 with
  | true => ∃ l, v = .ag l ∧ Hass s a.2 l
  | false => Hass s a.2 [v]

def HasArgs (s : AS) : List (Bool × List Ty) → List AV → Prop
  | [], l => l = []
  | a :: as, l => ∃ v r, l = v :: r ∧ HasArg s a v ∧ HasArgs s as r

theorem HasArg.mono {s s' : AS} (hs : Sub s s') {a : Bool × List Ty} {v : AV} (h : HasArg s a v) : HasArg s' a v := by
  unfold HasArg at *
  split at h
  · obtain ⟨l, h1, h2⟩ := h; exact ⟨l, h1, h2.mono hs⟩
  · exact h.mono hs

section
variable {H : Type} {enc : TypeId × Value → H} {P : Program} {w : World}

theorem read_arg (hne : ∃ (r : Nat) (c : Array Value) (el : TypeId) (fr : Nat × Nat), w.heap[r]? = some (Obj.cells c el fr)) {d : Nat} {t : TypeId} {a : Bool × List Ty} (ha : argOf P d t = some a) {r : Reach} {base : Nat} {v : Value}
    (hval : Value.okWide P w r base t v) {x : DataW H} {ps : List MemPlace} (hx : DataW.Trod enc P w 0 (fun _ => true) true t v x ps) :
    ∀ ι s, St0 P ι s w → ∃ ι' s' av, St0 P ι' s' w ∧ IM.le ι ι' ∧ Sub s s' ∧ VR ι' av v ∧ HasArg s' a av := by
  intro ι s h0
  obtain ⟨fuel, hx⟩ := hx
  unfold argOf at ha
  split at ha
  · rename_i fs hu
    cases hty : tyOf P d t with
    | none => simp [hty] at ha
    | some ts =>
      simp only [hty, Option.map_some, Option.some.injEq] at ha
      subst ha
      simp only [Value.okWide, hu] at hval
      obtain ⟨cs, rfl, _, _⟩ := hval
      obtain ⟨ι', s', l, a1, a2, a3, a4, a5⟩ := read_type hne d t ts hty fuel _ _ hx ι s h0
      refine ⟨ι', s', .ag l, a1, a2, a3, ?_, l, rfl, a5⟩
      have := VR.ag a4
      simpa [Value.cells] using this
  · simp at ha
  · rename_i hn1 hn2
    cases hty : tyOf P d t with
    | none => simp [hty] at ha
    | some ts =>
      simp only [hty, Option.map_some, Option.some.injEq] at ha
      subst ha
      obtain ⟨ι', s', l, a1, a2, a3, a4, a5⟩ := read_type hne d t ts hty fuel _ _ hx ι s h0
      have hnag : ∀ cs, v ≠ .agg cs := by
        intro cs e
        subst e
        unfold Value.okWide at hval
        split at hval
        · rename_i fs hu; exact hn1 fs hu
        · rename_i n e hu; exact hn2 n e hu
        · unfold Cell.okWide at hval
          split at hval <;> simp_all [Cell.ok]
      have hcl : v.cells.toList = [v] := by cases v <;> first | rfl | exact absurd rfl (hnag _)
      rw [hcl] at a4
      cases a4 with
      | cons h1 h2 =>
        cases h2
        exact ⟨ι', s', _, a1, a2, a3, h1, a5⟩

theorem read_args (hne : ∃ (r : Nat) (c : Array Value) (el : TypeId) (fr : Nat × Nat), w.heap[r]? = some (Obj.cells c el fr)) {d : Nat} {r : Reach} {base : Nat} : ∀ (ts : List TypeId) (as : List (Bool × List Ty)), ts.mapM (argOf P d) = some as →
    ∀ (vs : List Value) (ds : List (DataW H)) (ps : List MemPlace), (∀ (j : Nat) t v, ts[j]? = some t → vs[j]? = some v → Value.okWide P w r base t v) → DataW.TrodAll enc P w 0 (fun _ => true) true ts vs ds ps →
    ∀ ι s, St0 P ι s w → ∃ ι' s' avs, St0 P ι' s' w ∧ IM.le ι ι' ∧ Sub s s' ∧ VRs ι' avs vs ∧ HasArgs s' as avs
  | [], as, has, vs, ds, ps, _, h, ι, s, h0 => by
    simp at has; subst has
    obtain ⟨rfl, _, _⟩ := trodAll_nil h
    exact ⟨ι, s, [], h0, .refl _, fun _ _ h => h, .nil, rfl⟩
  | t :: ts, as, has, vs, ds, ps, hval, h, ι, s, h0 => by
    rw [List.mapM_cons] at has
    cases ha : argOf P d t with
    | none => simp [ha] at has
    | some a =>
      cases hr : ts.mapM (argOf P d) with
      | none => simp [ha, hr] at has
      | some rs =>
        simp [ha, hr] at has
        subst has
        obtain ⟨v, vs', x, ds', p, q, rfl, rfl, rfl, hx, hrest⟩ := trodAll_cons h
        obtain ⟨ι1, s1, av, a1, a2, a3, a4, a5⟩ := read_arg hne ha (hval 0 t v rfl rfl) hx ι s h0
        obtain ⟨ι2, s2, avs, b1, b2, b3, b4, b5⟩ := read_args hne ts rs hr vs' ds' q (fun j t' v' h1 h2 => hval (j + 1) t' v' (by simpa using h1) (by simpa using h2)) hrest ι1 s1 a1
        exact ⟨ι2, s2, av :: avs, b1, a2.trans b2, fun q B hq => b3 _ _ (a3 _ _ hq), .cons (a4.mono b2) b4, av, avs, rfl, a5.mono b3, b5⟩

/-- Arguments that lead into memory that stays read as they did. -/
theorem trodAll_stays {W W' : World} {sp : Nat → Bool} (hl : laidOutB P = true) (hb : Below W.heap.size W W') : ∀ {ts : List TypeId} {vs : List Value} {ds : List (DataW H)} {ps : List MemPlace}, (ts.all fun t => P.readableRec t && Nat.blt t P.types.size) = true →
    DataW.TrodAll enc P W 0 (fun _ => true) true ts vs ds ps → (∀ p ∈ ps, p.block < W.heap.size ∧ sp p.block = true) → DataW.TrodAll enc P W' 0 sp true ts vs ds ps
  | [], vs, ds, ps, _, h, _ => by
    obtain ⟨rfl, rfl, rfl⟩ := trodAll_nil h
    rfl
  | t :: ts, vs, ds, ps, hts, h, hp => by
    simp only [List.all_cons, Bool.and_eq_true, Nat.blt_eq] at hts
    obtain ⟨v, vs', x, ds', p, q, rfl, rfl, rfl, hx, hrest⟩ := trodAll_cons h
    exact ⟨p, q, WideElems.Trod_stays hl hts.1.1 hts.1.2 hx (fun y hy => hb.same (hp y (by simp [hy])).1) (fun y hy => (hp y (by simp [hy])).2),
      trodAll_stays hl hb hts.2 hrest (fun y hy => hp y (by simp [hy])), rfl⟩
end

theorem Ext.below {P : Program} {ι ι' : IM} {s s' : AS} {w w' : World} (h : Ext P ι s w ι' s' w') (hro : ∀ q B, s.h.get q = some B → B.wr = false) : Below w.heap.size w w' :=
  ⟨h.os, h.tape, h.output, h.sz, fun k hk => h.keep k hk (fun q B L hb hw => by rw [hro q B hb] at hw; cases hw)⟩

/-- A function that answers true from whatever it reads. -/
def Answers (ft : Nat → Option AFunc) (sm : Nat → Option Summ) (fn : AFunc) (as : List (Bool × List Ty)) : Prop :=
  ∀ s l, (∀ q B, s.h.get q = some B → B.wr = false) → (∀ q B, s.h.get q = some B → q < s.nx) → HasArgs s as l → ∃ k o st, aexec ft sm k fn.body ⟨argsT l 0 T.e, fn.nt, ⟨s.h, s.nx, s.nx⟩⟩ = some (o, st) ∧ (∀ id, o ≠ .exit id) ∧ aress st fn.res = some [.b true]

theorem law_calls {P : Program} {ft : Nat → Option AFunc} {sm : Nat → Option Summ} (hm : P.follows .mixedOrders = true) (hft : FtOk P ft) (hsm : SmOk P sm) {f : Nat} {fn : AFunc} (hfn : ft f = some fn) {as : List (Bool × List Ty)}
    (hnt : as.length ≤ fn.nt) (hans : Answers ft sm fn as) {H : Type} {enc : TypeId × Value → H} {W : World} (hne : ∃ (r : Nat) (c : Array Value) (el : TypeId) (fr : Nat × Nat), W.heap[r]? = some (Obj.cells c el fr)) {d : Nat} {r : Reach} {base : Nat}
    {ts : List TypeId} (hts : ts.mapM (argOf P d) = some as) {args : Array Value} {ds : List (DataW H)} {ps : List MemPlace}
    (hval : ∀ (j : Nat) t v, ts[j]? = some t → args[j]? = some v → Value.okWide P W r base t v) (hx : DataW.TrodAll enc P W 0 (fun _ => true) true ts args.toList ds ps) :
    Calls P f args W fun e W' => e = .returned (.bool true) ∧ Below W.heap.size W W' := by
  obtain ⟨ι, s, avs, a1, _, _, a4, a5⟩ := read_args hne ts as hts args.toList ds ps (fun j t v h1 h2 => hval j t v h1 (by simpa using h2)) hx _ _ (St0.empty P W)
  have hlen : ∀ (as : List (Bool × List Ty)) (l : List AV), HasArgs s as l → l.length = as.length := by
    intro as
    induction as with
    | nil => intro l h; simp only [HasArgs] at h; simp [h]
    | cons a as ih => intro l h; obtain ⟨v, r, rfl, _, h2⟩ := h; simp [ih r h2]
  obtain ⟨k, o, st, e1, e2, e3⟩ := hans s avs a1.ro (fun q B h => a1.rel.get_lt h) a5
  obtain ⟨g1, g2⟩ := func_ok (code_ok hm hft hsm k).1 hft hfn (by rw [hlen _ _ a5]; exact hnt) e1 e2 e3 (v := (fin s st.s (pack [.b true])).1) (s' := (fin s st.s (pack [.b true])).2.1) (q := (fin s st.s (pack [.b true])).2.2) rfl a4 a1.rel none 0
  have e : args.toList.toArray = args := by simp
  rw [e] at g2
  refine (callsIn_wide (n := 0)).1 (CallsIn.mono g2 (fun e w' h => ?_))
  obtain ⟨vv, rfl, ι', hx', hv, _⟩ := h
  have hb := hx'.below a1.ro
  have hp : (fin s st.s (pack [.b true])).1 = .b true := by
    unfold fin
    cases (Nat.ble s.nx st.s.lo && (pack [AV.b true]).old s.nx) <;> rfl
  rw [hp] at hv
  cases hv
  exact ⟨rfl, hb⟩

/-- A law's contract, of whichever form. -/
theorem law_post {P : Program} {H : Type} {enc : TypeId × Value → H} {F : Func} {s : ChangeSpec} {apart fresh handsOn again : Bool} {f : Nat} {W : World} {args : Array Value} {ds gs : List (DataW H)} {before : List MemPlace}
    (hl : laidOutB P = true) (hts : (F.params.toList.all fun t => P.readableRec t && Nat.blt t P.types.size) = true) {tb : TypeId} (hrt : F.resultTypes = #[tb]) (htb : P.underlying tb = some .bool) (hvars : s.vars = [])
    (hW : DataW.Whole enc P F.params.toList s.vars apart W args.toList ds gs before) (hsp : s.fn H ds = { results := [.lit (.bool true)], args := ds })
    (hc : Calls P f args W fun e W' => e = .returned (.bool true) ∧ Below W.heap.size W W') :
    Calls P f args W fun e W' => ∃ v, e = .returned v ∧ s.post enc P F apart fresh handsOn again W args v W' := by
  have hW' := hW
  obtain ⟨p, q, hA, hV, rfl, hfz, hnd⟩ := hW
  rw [hvars] at hV
  obtain ⟨rfl, rfl⟩ := trodVars_none hV
  refine hc.mono fun e W' ⟨he, hb⟩ => ?_
  subst he
  have hlt : ∀ x ∈ p, x.block < W.heap.size := fun x hx => hW'.lt x (by simp [hx])
  have hres : ∀ (b : Nat) (sp : Nat → Bool) (hd : Bool), DataW.TrodAll enc P W' b sp hd F.resultTypes.toList ((Value.bool true).resultList F.resultTypes.size) (s.fn H (ds ++ [])).results [] := fun b sp hd => by
    rw [hrt, List.append_nil, hsp]
    exact trodAll_cons_mk (shut_bool htb _) trodAll_mk0
  have hargs : ∀ sp : Nat → Bool, (∀ x ∈ p, sp x.block = true) → DataW.TrodAll enc P W' 0 sp true F.params.toList args.toList (s.fn H (ds ++ [])).args p := fun sp hs => by
    rw [List.append_nil, hsp]
    exact trodAll_stays hl hb hts hA (fun x hx => ⟨hlt x hx, hs x hx⟩)
  have hvs : ∀ sp : Nat → Bool, DataW.TrodVars enc P W' sp s.vars (s.fn H (ds ++ [])).vars [] := fun sp => by
    rw [List.append_nil, hsp, hvars]
    rfl
  have hold : ∀ x ∈ p, (fun b => decide (b < W.heap.size)) x.block = true := fun x hx => by simpa using hlt x hx
  refine ⟨_, rfl, ds, [], p ++ [], [], p, [], hW', hres _ _ _, hargs _ hold, hvs _, hb.frame _, fun _ => ⟨ok_one hrt rfl (okWide_bool_mk htb _), _, _, ([] ++ p) ++ [], ⟨[] ++ p, [], trodAll_append (hargs _ (fun _ _ => rfl)) (hres _ _ _), hvs _, rfl, fun b off hp => ?_, fun ha => ?_⟩, fun x hx _ => ?_⟩⟩
  · have hp' : MemPlace.cell b off ∈ p := by simpa using hp
    rw [hb.frozen (hlt _ hp')]
    exact hfz b off (by simpa using hp')
  · have := hnd ha
    simpa using this
  · simpa using hx

end Go.AM
