/- math/bits.Add64, as the abstract machine takes it. -/
import Derived.Test.YthdkiocnbbeigaaSumA
import Derived.Laws.Externs
namespace Go.AMJ
open Go Go.AM Go.Proofs

def add64G : Summ := fun args s => match args with
  | [.i .u64 (.ofNat x), .i .u64 (.ofNat y), .i .u64 (.ofNat c)] => bif Nat.ble c 1 then some (.tu [.i .u64 (Int.ofNat ((x + y + c) % 18446744073709551616)), .i .u64 (Int.ofNat ((x + y + c) / 18446744073709551616))], s) else none
  | _ => none

theorem add64_sum : SumOk Try.prog 53 add64G := by
  intro ι s w args vs v s' hR hvs hg r n
  unfold add64G at hg
  split at hg <;> (try (simp only [reduceCtorEq] at hg; done))
  rename_i x y c
  cases hc : Nat.ble c 1 <;> simp only [hc, cond_true, cond_false, reduceCtorEq, Option.some.injEq, Prod.mk.injEq] at hg
  obtain ⟨rfl, rfl⟩ := hg
  have hc := Nat.le_of_ble_eq_true hc
  cases hvs with
  | cons h1 hr => cases hr with
    | cons h2 hr => cases hr with
      | cons h3 hr =>
        cases hr; cases h1; cases h2; cases h3
        refine ⟨.value (.tuple #[.int .u64 (((x + y + c) % 18446744073709551616 : Nat) : Int), .int .u64 (((x + y + c) / 18446744073709551616 : Nat) : Int)]), w, ?_, ι, .refl hR, ?_⟩
        · rw [run_callFunc_extern Try.func53 (by kernel_rfl) (by kernel_rfl) (by kernel_rfl) (e := add64Entry) (by kernel_rfl)]
          show ((add64Entry #[.int .u64 (x : Int), .int .u64 (y : Int), .int .u64 (c : Int)]).run Try.prog w).andThen _ = _
          rw [run_add64 x y c (by omega) (by omega) (by omega) (by omega)]
          simp only [Result.andThen]
          congr 5 <;> omega
        · exact VR.tu (.cons (.i _ _) (.cons (.i _ _) .nil))

end Go.AMJ
