/- book.keys, as the abstract machine takes it: the keys of a map, sorted, in a new slice. -/
import Derived.Test.YthdkiocnbbeigaaKeys
import Derived.Test.YthdkiocnbbeigaaAmSum
import Derived.Test.YthdkiocnbbeigaaAmSort
namespace Go.AMJ
open Go Go.AM Go.Proofs Go.RowKit Go.Maps Go.WideMaps

/-- The keys of a map of ints. -/
def intsOf : List (AV × AV) → Option (List Int)
  | [] => some []
  | (.i .i64 n, _) :: r => bif decide (IntKind.i64.min ≤ n) && decide (n ≤ IntKind.i64.max) then (match intsOf r with
    | some l => some (n :: l)
    | none => none) else none
  | _ => none

def apart : List Int → Bool
  | [] => true
  | x :: r => !r.contains x && apart r

def keysG : Summ := fun args s => match args with
  | [.m b] => match s.h.get b with
    | some (.mp es) => match intsOf es with
      | some ks => bif apart ks && Nat.ble ks.length 1000000 then (match ks with
        | [] => some (.sn, s)
        | _ => some (.sl s.nx 0 1 ks.length ks.length false, s.new (.row true ((sortI ks).map (.i .i64))))) else none
      | none => none
    | _ => none
  | _ => none

theorem apart_nodup : ∀ {l : List Int}, AMJ.apart l = true → l.Nodup
  | [], _ => List.nodup_nil
  | x :: r, h => by
    simp only [AMJ.apart, Bool.and_eq_true, Bool.not_eq_true', List.contains_eq_mem, decide_eq_false_iff_not] at h
    exact List.nodup_cons.2 ⟨h.1, apart_nodup h.2⟩

/-- The entries' keys are the ints. -/
theorem ents_keys {ι : IM} : ∀ {es : List (AV × AV)} {ents : List MapEntry} {ks : List Int}, ERs ι es ents → intsOf es = some ks → ents.map (·.key) = ks.map (Value.int .i64) ∧ ∀ k ∈ ks, IntKind.i64.min ≤ k ∧ k ≤ IntKind.i64.max
  | [], ents, ks, hE, h => by
    cases hE
    simp only [intsOf, Option.some.injEq] at h
    subst h
    exact ⟨rfl, fun _ h => by cases h⟩
  | (k, v) :: es, ents, ks, hE, h => by
    cases hE with
    | cons hk hv hr =>
      unfold intsOf at h
      split at h <;> (try (simp only [reduceCtorEq] at h; done))
      · rename_i e; cases e
      · rename_i n v' r' e
        obtain ⟨e1, rfl⟩ := List.cons.inj e
        obtain ⟨rfl, rfl⟩ := Prod.mk.inj e1
        cases hd : decide (IntKind.i64.min ≤ n) && decide (n ≤ IntKind.i64.max) <;> simp only [hd, cond_true, cond_false, reduceCtorEq] at h
        split at h <;> (try (simp only [reduceCtorEq] at h; done))
        rename_i l hl
        simp only [Option.some.injEq] at h
        subst h
        obtain ⟨g1, g2⟩ := ents_keys hr hl
        simp only [Bool.and_eq_true, decide_eq_true_eq] at hd
        generalize hu : MapEntry.key _ = u at hk
        cases hk
        refine ⟨by simp [hu, g1], fun k hk => ?_⟩
        rcases List.mem_cons.1 hk with rfl | hk
        · exact hd
        · exact g2 k hk

theorem under3 : Try.prog.underlying 3 = some (.int .i64) := Try.underlying3

theorem key_lit {n : Int} (h : IntKind.i64.min ≤ n ∧ n ≤ IntKind.i64.max) : keyOf Try.prog 3 (.int .i64 n) = some (.int .i64 n) := by
  have hw : (Lit.int .i64 n).wf = true := by simp only [Lit.wf, Bool.and_eq_true, decide_eq_true_eq]; exact h
  simp [keyOf, mapKey, hw]

abbrev Rd : Value → Option (DataW Unit × List MemPlace) := fun _ => some (.nil, [])

theorem rg_key {e : MapEntry} {n : Int} (hk : e.key = .int .i64 n) (h : IntKind.i64.min ≤ n ∧ n ≤ IntKind.i64.max) : WideElems.rg Try.prog 3 Rd e = (.int .i64 n, .nil) := by
  simp [WideElems.rg, WideElems.rd, hk, key_lit h]

theorem keys_sum : SumOk Try.prog 37 keysG := by
  intro ι s w args vs v s' hR hvs hg r n
  unfold keysG at hg
  split at hg <;> (try (simp only [reduceCtorEq] at hg; done))
  rename_i b
  split at hg <;> (try (simp only [reduceCtorEq] at hg; done))
  rename_i es hb
  split at hg <;> (try (simp only [reduceCtorEq] at hg; done))
  rename_i ks hks
  obtain ⟨hok, hg⟩ := (show (AMJ.apart ks && Nat.ble ks.length 1000000) = true ∧ _ = some (v, s') from by
    cases hc : (AMJ.apart ks && Nat.ble ks.length 1000000)
    · simp [hc] at hg
    · simp only [hc, cond_true] at hg
      exact ⟨rfl, hg⟩)
  simp only [Bool.and_eq_true] at hok
  obtain ⟨hap, hlen⟩ := hok
  have hlen := Nat.le_of_ble_eq_true hlen
  have hnd := apart_nodup hap
  cases hvs with
  | cons h1 h2 =>
    cases h2
    cases h1 with
    | m hL =>
      rename_i L
      obtain ⟨ents, clk, f1, f2, f3⟩ := hR.mapOf hb hL
      obtain ⟨k1, k2⟩ := ents_keys f2 hks
      have hsz : ents.size = ks.length := by
        have := congrArg List.length k1
        simpa using this
      have hkey : ∀ x ∈ ents.toList, ∃ n ∈ ks, x.key = .int .i64 n := fun x hx => by
        have : x.key ∈ ents.toList.map (·.key) := List.mem_map.2 ⟨x, hx, rfl⟩
        rw [k1] at this
        obtain ⟨n, hn, e⟩ := List.mem_map.1 this
        exact ⟨n, hn, e.symm⟩
      have hfit : WideElems.Fit Try.prog 3 Rd ents clk := by
        refine ⟨by rw [hsz]; exact Nat.le_trans hlen (by decide), ⟨f3.lt, f3.nodup, ?_⟩, fun x hx => ?_⟩
        · rw [k1]
          exact List.pairwise_map.2 (hnd.imp (fun hne e => hne (by cases e; rfl)))
        · obtain ⟨n, hn, e⟩ := hkey x hx
          exact ⟨(.int .i64 n, .nil), by simp [WideElems.rd, e, key_lit (k2 n hn)]⟩
      have hown : w.ownsMap Try.prog 3 Rd L.r ents.size (.map ((ents.toList.map (WideElems.rg Try.prog 3 Rd)).foldr DataW.insert [])) := ⟨ents, clk, f1, hfit, Nat.le_refl _, rfl⟩
      have hperm := WideShapes.sorted_perm (ents.toList.map (WideElems.rg Try.prog 3 Rd))
      have hsize : Maps.size (DataW.map ((ents.toList.map (WideElems.rg Try.prog 3 Rd)).foldr DataW.insert [])) = ks.length := by
        rw [Maps.size_eq, hperm.length_eq, List.length_map, Array.length_toList, hsz]
      have hint : (intKeys (DataW.map ((ents.toList.map (WideElems.rg Try.prog 3 Rd)).foldr DataW.insert []))).Perm ks := by
        refine (hperm.map _).trans ?_
        rw [List.map_map]
        have : ents.toList.map ((fun p : Lit × DataW Unit => intOf p.1) ∘ WideElems.rg Try.prog 3 Rd) = ks := by
          have e2 : ∀ x ∈ ents.toList, ((fun p : Lit × DataW Unit => intOf p.1) ∘ WideElems.rg Try.prog 3 Rd) x = (RowKit.intOf ∘ fun x : MapEntry => x.key) x := fun x hx => by
            obtain ⟨n, hn, e⟩ := hkey x hx
            simp only [Function.comp, rg_key e (k2 n hn), e]
            rfl
          rw [List.map_congr_left e2, ← List.map_map, k1, List.map_map]
          have e3 : (RowKit.intOf ∘ Value.int .i64) = id := rfl
          rw [e3, List.map_id]
        rw [this]
      have hc := keys_calls L.r ents.size _ Rd w hown (by rw [hsize]; exact Nat.le_trans hlen (by decide)) (by rw [hsize]; omega)
      refine ⟨_, _, enters_of Try.func37 (by kernel_rfl) rfl _ _, ?_⟩
      refine (callsIn_wide.2 (hc.mono ?_) : CallsIn (FR none) n Try.prog 37 _ w _)
      rintro e w' ⟨vv, ss, rfl, p1, ⟨q1, q2⟩, p3, p4⟩
      have hss : ss.Perm ks := p1.trans hint
      refine ⟨vv, rfl, ?_⟩
      cases ks with
      | nil =>
        simp only [Option.some.injEq, Prod.mk.injEq] at hg
        obtain ⟨rfl, rfl⟩ := hg
        have : ss = [] := by simpa using hss
        rw [p3.2 this]
        exact ⟨ι, Ext.grown hR p4, .sn⟩
      | cons k0 kr =>
        simp only [Option.some.injEq, Prod.mk.injEq] at hg
        obtain ⟨rfl, rfl⟩ := hg
        rcases q2 with ⟨e1, _⟩ | ⟨g, cap, cur, rfl, g1, g2, g3, g4, g5, g6⟩
        · have := p3.1 e1
          subst this
          have := hss.length_eq
          simp at this
        · rw [mergeSort_sortI hss] at g6
          have hl := hss.length_eq
          have hsl := (sortI_perm (k0 :: kr)).length_eq
          have hcl : ss.length * 1 ≤ cur.size := by rw [g5]; omega
          refine ⟨_, Ext.adopt (d := 0) (n := cur.size) hR p4 g1 (Array.getElem?_eq_some_iff.1 g2).1 ?_, ?_⟩
          · refine ⟨cur, 3, (0, 0), g2, rfl, by simp only [List.length_map]; omega, fun i x hx => ?_, fun _ off _ _ h => by simp at h⟩
            rw [List.getElem?_map, Option.map_eq_some_iff] at hx
            obtain ⟨z, hz, rfl⟩ := hx
            have : (cur.toList.take (ss.length * 1))[i]? = some (encZ z) := by rw [g6, List.getElem?_map, hz]; rfl
            rw [List.getElem?_take] at this
            split at this
            · exact ⟨encZ z, by simpa using this, VR.i _ _⟩
            · cases this
          · have hv := VR.sl (ι := ι.set s.nx ⟨g, 0, cur.size⟩) (q := s.nx) (o := 0) (z := 1) (len := ss.length) (cap := ss.length) (ex := false) (cap' := cap) (p := ⟨g, 0, none⟩) (IM.set_same _ _ _) g3 g3 (by simp) (.inr ⟨rfl, by simp [g5]⟩)
            rw [hl] at hv ⊢
            exact hv

end Go.AMJ
