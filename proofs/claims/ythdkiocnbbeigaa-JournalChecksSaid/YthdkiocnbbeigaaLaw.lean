/- JournalChecks returns true at every input, and leaves it as it was: the program's Check, On, Totals and Reverse answer as the document's. Conditions: none beyond the row's own. -/
import Derived.Test.YthdkiocnbbeigaaRows
import Derived.Test.YthdkiocnbbeigaaSpM
import Derived.HandedShaped
namespace Go.AM
theorem push5 {α : Type} (M : Array α) (a b c d e : α) (n : Nat) (h : M.size = n) : (((((M.push a).push b).push c).push d).push e)[n]? = some a ∧ n < (((((M.push a).push b).push c).push d).push e).size := by
  subst h
  refine ⟨?_, by simp; omega⟩
  simp only [Array.getElem?_push, Array.size_push]
  rw [if_neg (by omega), if_neg (by omega), if_neg (by omega), if_neg (by omega), if_pos trivial]
theorem shaped_cells {P : Program} {W : World} (h : W.ShapedOpen P) : ∃ (r : Nat) (c : Array Value) (el : TypeId) (fr : Nat × Nat), W.heap[r]? = some (Obj.cells c el fr) := by
  obtain ⟨_, h2⟩ := h
  have hb : (begin P (fun _ _ => 0) default).world.heap[P.globals.size]? = some (.cells ((Array.range P.types.size).map fun t => .int .u64 (Int.ofNat t)) 0) ∧ P.globals.size < (begin P (fun _ _ => 0) default).world.heap.size :=
    push5 _ _ _ _ _ _ _ (by simp)
  obtain ⟨o, o₀, e1, e2, e3⟩ := h2 P.globals.size (Nat.le_refl _) hb.2
  rw [Nat.sub_self] at e3
  have e3 : o = o₀ := e3
  subst e3
  rw [hb.1] at e2
  exact ⟨_, _, _, _, by rw [e1, ← e2]⟩
end Go.AM

namespace Go.Proofs.Ythdkiocnbbeigaa
open Go.ChangeShapes Go.WideShapes Go.ChangeAt Go.RowKit

theorem Try.own : ownKnob Try.prog.godebug = none := by kernel_rfl
theorem Try.laidOut : laidOutB Try.prog = true := by kernel_rfl

theorem argTy : Try.f3.params.toList.mapM (AM.argOf Try.prog 6) = some AMJ.askTy := by kernel_rfl

set_option maxRecDepth 100000 in
theorem f_lifted (os : Os) (started : os.Started) (H : Type) (enc : TypeId × Value → H) :
    ReturnsInHanded {} Try.checked os 3 .any (Rows.journalChecksSpec.pre6 enc Try.prog Try.f3 Rows.journalChecksRow.domain false) (Rows.journalChecksSpec.post enc Try.prog Try.f3 false true false false) := by
  refine returnsInHanded_of_change_shaped (C := Try.checked) Try.own started (by kernel_rfl) Try.func3
    (ChangeSpec.witness6 (enc := enc) (C := Try.checked) false ⟨#[], #[.agg #[.int .i64 0, .int .u8 0, .int .u64 0, .slice none 0 0, .slice none 0 0, .bool false, .int .i64 0]], []⟩ 8 (by kernel_rfl) (by kernel_rfl) (by kernel_rfl) (by kernel_rfl)) ?_
  intro W base args ds gs before hval hW hcnd _ hsh _
  have hW0 := hW
  obtain ⟨p, q, hA, hV, rfl, hfz, hnd⟩ := hW0
  have hne := AM.shaped_cells hsh
  have hA0 : DataW.TrodAll enc Try.prog W 0 (fun _ => true) true Try.f3.params.toList args.toList ds p := hA
  have hval0 : ∀ (j : Nat) t v, Try.f3.params.toList[j]? = some t → args[j]? = some v → Value.okWide Try.prog W .any base t v := fun j t v h1 h2 => hval j t v (by simpa using h1) h2
  have hc := AM.law_calls AMJ.mixed AMJ.tabOk AMJ.smJ_ok (show AMJ.tab.get 3 = some AMJ.af3 from rfl) (by decide) AMJ.law3 hne argTy hval0 hA0
  have hds : ∃ d, ds = [d] := by
    rw [Try.params3] at hA0
    obtain ⟨v0, d0, _, rfl, _⟩ := trodAll_one hA0
    exact ⟨d0, rfl⟩
  obtain ⟨d0, rfl⟩ := hds
  exact AM.law_post Try.laidOut (by kernel_rfl) (show Try.f3.resultTypes = #[4] by kernel_rfl) Try.underlying4 rfl hW rfl hc

theorem journalChecks_holds : Rows.JournalChecksSaid :=
  OpenClaim.holds_of_wide 3 Try.f3 rfl rfl rfl rfl rfl rfl rfl ⟨rfl, rfl, rfl, rfl, rfl⟩ rfl rfl rfl rfl rfl (by kernel_rfl) Try.func3 (by kernel_rfl)
    (of_decide_eq_true (by kernel_rfl)) (by unfold Func.isWrapper; first | (rw [if_pos (by decide +kernel)]; kernel_rfl) | (rw [if_neg (by decide +kernel)]; exact ⟨rfl, rfl⟩))
    (fun os started H enc _ => f_lifted os started H enc)

#print axioms journalChecks_holds
end Go.Proofs.Ythdkiocnbbeigaa
