/- slices.Sort of ints, as the abstract machine takes it. -/
import Derived.Test.YthdkiocnbbeigaaAmSum
import Derived.Test.YthdkiocnbbeigaaAmSort
import Derived.Sort.Grow
open Go.RowKit Go.Sort
namespace Go.AM
set_option linter.unusedVariables false
set_option linter.unusedSimpArgs false

def rowInts : List AV → Option (List Int)
  | [] => some []
  | .i .i64 n :: r => match rowInts r with
    | some l => some (n :: l)
    | none => none
  | _ => none

def sortG : Summ := fun args s => match args with
  | [.sn] => some (.tu [], s)
  | [.sl q o z len cap ex] => bif len == 0 then some (.tu [], s) else bif z == 1 && Nat.ble len 1000000 then (match s.h.get q with
    | some (.row true cs) => match cut cs o len with
      | some l => match rowInts l with
        | some zs => some (.tu [], s.write q (.row true (putAt cs o ((sortI zs).map (.i .i64)))))
        | none => none
      | none => none
    | _ => none) else none
  | _ => none

theorem rowInts_map : ∀ {l : List AV} {zs : List Int}, rowInts l = some zs → l = zs.map (.i .i64)
  | [], zs, h => by simp only [rowInts, Option.some.injEq] at h; subst h; rfl
  | v :: r, zs, h => by
    unfold rowInts at h
    split at h <;> (try (simp only [reduceCtorEq] at h; done))
    · rename_i e; cases e
    · rename_i n r' e
      obtain ⟨rfl, rfl⟩ := List.cons.inj e
      split at h <;> (try (simp only [reduceCtorEq] at h; done))
      rename_i l hl
      simp only [Option.some.injEq] at h
      subst h
      simp [rowInts_map hl]

theorem sort_sum {P : Program} {f : Nat} (enters : ∀ args w, (callFunc f args).run P w = .ok (.enter f args) w)
    (hcalls : ∀ (blk off cap : Nat) (zs : List Int) (w : World), Holds (Value.int .i64) w blk off zs.toArray → blk < w.heap.size → zs.length < 4611686018427387904 → Calls P f #[.slice (some ⟨blk, off, none⟩) zs.length cap] w fun e w' =>
      e = .returned (.tuple #[]) ∧ ∃ n os, w' = grow (putRow (Value.int .i64) (Sort.ahead w n) blk off (zs.mergeSort fun x y => decide (x ≤ y)).toArray) os)
    (hnone : ∀ (p : Option Addr) (cap : Nat) (w : World), Calls P f #[.slice p 0 cap] w fun e w' => e = .returned (.tuple #[]) ∧ w' = w) : SumOk P f sortG := by
  intro ι s w args vs v s' hR hvs hg r n
  unfold sortG at hg
  split at hg <;> (try (simp only [reduceCtorEq] at hg; done))
  · simp only [Option.some.injEq, Prod.mk.injEq] at hg
    obtain ⟨rfl, rfl⟩ := hg
    cases hvs with
    | cons h1 hr =>
      cases hr; cases h1
      refine ⟨_, _, enters _ _, (callsIn_wide.2 ((hnone none 0 w).mono ?_) : CallsIn (FR none) n P f _ w _)⟩
      rintro e w' ⟨rfl, rfl⟩
      exact ⟨_, rfl, ι, .refl hR, VR.tu .nil⟩
  · rename_i q o z len cap ex
    cases hvs with
    | cons h1 hr =>
      cases hr
      cases h1 with
      | sl hL hl hcc he hb0 =>
        rename_i L p cap'
        cases h0 : len == 0 <;> simp only [h0, cond_true, cond_false] at hg
        · have h0' : len ≠ 0 := by simpa using h0
          cases hz : z == 1 && Nat.ble len 1000000 <;> simp only [hz, cond_true, cond_false, reduceCtorEq] at hg
          simp only [Bool.and_eq_true, beq_iff_eq] at hz
          obtain ⟨rfl, hz2⟩ := hz
          have hz2 := Nat.le_of_ble_eq_true hz2
          split at hg <;> (try (simp only [reduceCtorEq] at hg; done))
          rename_i cs hbk
          split at hg <;> (try (simp only [reduceCtorEq] at hg; done))
          rename_i l hcut
          split at hg <;> (try (simp only [reduceCtorEq] at hg; done))
          rename_i zs hzs
          simp only [Option.some.injEq, Prod.mk.injEq] at hg
          obtain ⟨rfl, rfl⟩ := hg
          obtain ⟨rfl, ho2⟩ := hb0.resolve_left (by omega)
          obtain ⟨L', c, el, fr, hL', m1, m2, m3, m4, m5⟩ := hR.row hbk
          obtain rfl := Option.some.inj (hL.symm.trans hL')
          have hll := cut_length hcut
          have hlz := rowInts_map hzs
          have hzl : zs.length = len := by rw [← hll, hlz, List.length_map]
          obtain ⟨hcl, _⟩ := cut_some hcut
          have hget : ∀ (j : Nat) (z : Int), zs[j]? = some z → c[L.d + o + j]? = some (.int .i64 z) := fun j z hj => by
            have h1 : l[j]? = some (.i .i64 z) := by rw [hlz, List.getElem?_map, hj]; rfl
            have hjl : j < len := by rw [← hzl]; exact (List.getElem?_eq_some_iff.1 hj).1
            rw [cut_get hcut, if_pos (by omega)] at h1
            obtain ⟨u, q1, q2⟩ := m4 _ _ h1
            cases q2
            rw [Nat.add_assoc]; exact q1
          have hH : Holds (Value.int .i64) w L.r (L.d + o) zs.toArray := by
            intro j hj
            simp only [List.size_toArray] at hj
            have := hget j zs[j] (List.getElem?_eq_getElem hj)
            refine ⟨?_, ?_⟩
            · simp only [World.cell?, m1]
              rw [getElem!_pos _ j (by simpa using hj)]
              simpa using this
            · have hlt := (Array.getElem?_eq_some_iff.1 this).1
              have := m5 rfl (L.d + o + j) (by omega) (by omega)
              simp only [World.frozen?, m1]
              simpa using this
          have hc := hcalls L.r (L.d + o) cap' zs w hH (Array.getElem?_eq_some_iff.1 m1).1 (by omega)
          rw [hzl] at hc
          refine ⟨_, _, enters _ _, (callsIn_wide.2 (hc.mono ?_) : CallsIn (FR none) n P f _ w _)⟩
          rintro e w' ⟨rfl, nn, os, rfl⟩
          rw [mergeSort_sortI (.refl zs)]
          have hsl : (sortI zs).length = len := by rw [(sortI_perm zs).length_eq, hzl]
          have hext1 : Ext P ι s w ι (s.write q (.row true (putAt cs o ((sortI zs).map (.i .i64))))) (putRow (Value.int .i64) (Sort.ahead w nn) L.r (L.d + o) (sortI zs).toArray) := by
            refine Ext.set hR hbk rfl hL (o := .cells (putCells (Value.int .i64) (L.d + o) (sortI zs).toArray c) el fr) ⟨_, el, fr, rfl, by simp [putCells, m2], by rw [putAt_length]; exact m3, fun i v hi => ?_, m5⟩ ?_ rfl rfl rfl
            · simp only [putCells, Array.getElem?_mapIdx]
              rw [putAt_get] at hi
              split at hi
              · rename_i hin
                obtain ⟨i1, i2, i3⟩ := hin
                rw [List.getElem?_map, Option.map_eq_some_iff] at hi
                obtain ⟨z, hz, rfl⟩ := hi
                have hlt := (List.getElem?_eq_some_iff.1 hz).1
                obtain ⟨u0, q1, _⟩ := m4 i _ (List.getElem?_eq_getElem i3)
                refine ⟨.int .i64 z, ?_, VR.i _ _⟩
                rw [q1, Option.map_some, if_pos (by simp only [List.size_toArray]; omega)]
                have e1 : L.d + i - (L.d + o) = i - o := by omega
                rw [e1, getElem!_pos _ _ (by simpa using hlt)]
                have := (List.getElem?_eq_some_iff.1 hz).2
                simp [this]
              · rename_i hin
                obtain ⟨u0, q1, q2⟩ := m4 i v hi
                refine ⟨u0, ?_, q2⟩
                have hil := (List.getElem?_eq_some_iff.1 hi).1
                rw [List.length_map, hsl] at hin
                rw [q1, Option.map_some, if_neg (by simp only [List.size_toArray, hsl]; omega)]
            · show (mapBlock (Sort.ahead w nn) L.r _).heap = _
              apply Array.ext_getElem?
              intro k
              simp only [mapBlock, Sort.ahead, Array.getElem?_modify, Array.getElem?_setIfInBounds]
              by_cases hk : L.r = k
              · subst hk
                have hlt := (Array.getElem?_eq_some_iff.1 m1).1
                rw [if_pos rfl, if_pos rfl, if_pos (by first | exact hlt | simpa using hlt), m1]
                rfl
              · simp [hk]
          have hb : Below (putRow (Value.int .i64) (Sort.ahead w nn) L.r (L.d + o) (sortI zs).toArray).heap.size (putRow (Value.int .i64) (Sort.ahead w nn) L.r (L.d + o) (sortI zs).toArray) (grow (putRow (Value.int .i64) (Sort.ahead w nn) L.r (L.d + o) (sortI zs).toArray) os) :=
            ⟨rfl, rfl, rfl, by simp [grow], fun k hk => by simp only [grow]; rw [Array.getElem?_append_left hk]⟩
          exact ⟨_, rfl, ι, hext1.trans (Ext.grown hext1.rel hb), VR.tu .nil⟩
        · have h0' : len = 0 := by simpa using h0
          subst h0'
          simp only [Option.some.injEq, Prod.mk.injEq] at hg
          obtain ⟨rfl, rfl⟩ := hg
          refine ⟨_, _, enters _ _, (callsIn_wide.2 ((hnone (some p) cap' w).mono ?_) : CallsIn (FR none) n P f _ w _)⟩
          rintro e w' ⟨rfl, rfl⟩
          exact ⟨_, rfl, ι, .refl hR, VR.tu .nil⟩

end Go.AM
