/- The calls whose answers the document fixes: by running the machine. -/
import Derived.Test.YthdkiocnbbeigaaTidy
namespace Go.AMJ
open Go Go.AM Go.Proofs Go.RowKit Go.Maps Go.Sort Go.Shelf
set_option linter.unusedVariables false

theorem smH_ok : SmOk Try.prog smH := fun f g h => by
  unfold smH at h
  split at h <;> (try (simp only [reduceCtorEq] at h; done)) <;> (obtain rfl := Option.some.inj h)
  · exact tidy_sum
  · exact keys_sum
  · exact sort47
  · exact add64_sum

def goodB (x : Option (Out × St)) (res : List ARes) : Bool := match x with
  | some (.ret, st) => match aress st res with
    | some [.b true] => true
    | _ => false
  | _ => false
theorem goodB_of {x : Option (Out × St)} {res : List ARes} (h : goodB x res = true) : ∃ st, x = some (.ret, st) ∧ aress st res = some [.b true] := by
  unfold goodB at h
  split at h <;> (try (simp only [Bool.false_eq_true] at h; done))
  split at h <;> (try (simp only [Bool.false_eq_true] at h; done))
  exact ⟨_, rfl, by assumption⟩
theorem headB_true : goodB (aexec tab.get smH 200 af4.body ⟨.e, af4.nt, ⟨.e, 0, 0⟩⟩) af4.res = true := by kernel_rfl
theorem head_run : ∃ st, aexec tab.get smH 200 af4.body ⟨.e, af4.nt, ⟨.e, 0, 0⟩⟩ = some (.ret, st) ∧ aress st af4.res = some [.b true] := goodB_of headB_true

theorem head_sum : SumOk Try.prog 4 headG := by
  intro ι s w args vs v s' hR hvs hg r n
  unfold headG at hg
  split at hg <;> (try (simp only [reduceCtorEq] at hg; done))
  simp only [Option.some.injEq, Prod.mk.injEq] at hg
  obtain ⟨rfl, rfl⟩ := hg
  cases hvs
  have hE := St0.empty Try.prog w
  obtain ⟨headSt, hrun, hres⟩ := head_run
  obtain ⟨g1, g2⟩ := func_ok (code_ok mixed tabOk smH_ok 200).1 tabOk (show tab.get 4 = some af4 from rfl) (args := []) (s := ⟨.e, 0, 0⟩) (Nat.zero_le _) hrun (fun id e => nomatch e) hres
    (v := (fin ⟨.e, 0, 0⟩ headSt.s (pack [.b true])).1) (s' := (fin ⟨.e, 0, 0⟩ headSt.s (pack [.b true])).2.1) (q := (fin ⟨.e, 0, 0⟩ headSt.s (pack [.b true])).2.2) rfl .nil hE.rel r n
  refine ⟨_, _, g1, ?_⟩
  refine CallsIn.mono g2 (fun e w' h => ?_)
  obtain ⟨vv, rfl, ι', hx, hv, _⟩ := h
  have hb := hx.below hE.ro
  have hp : (fin ⟨.e, 0, 0⟩ headSt.s (pack [.b true])).1 = .b true := by
    unfold fin
    cases (Nat.ble (⟨.e, 0, 0⟩ : AS).nx headSt.s.lo && (pack [AV.b true]).old (⟨.e, 0, 0⟩ : AS).nx) <;> rfl
  rw [hp] at hv
  cases hv
  exact ⟨_, rfl, ι, Ext.grown hR hb, .b true⟩

theorem smJ_ok : SmOk Try.prog smJ := fun f g h => by
  unfold smJ at h
  split at h <;> (try (simp only [reduceCtorEq] at h; done)) <;> (obtain rfl := Option.some.inj h)
  · exact head_sum
  · exact tidy_sum
  · exact keys_sum
  · exact sort47
  · exact add64_sum

end Go.AMJ
