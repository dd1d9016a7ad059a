/- The functions that the machine takes by their contracts: what they answer. -/
import Derived.Test.YthdkiocnbbeigaaTab
import Derived.Test.YthdkiocnbbeigaaSumB
import Derived.Test.YthdkiocnbbeigaaAmSumSort
import Derived.Test.YthdkiocnbbeigaaAmY
namespace Go.AMJ
open Go Go.AM

/-- Numbers, and of which kinds. -/
def kis : List AV → Option (List (IntKind × Int))
  | [] => some []
  | .i k n :: r => match kis r with
    | some l => some ((k, n) :: l)
    | none => none
  | _ => none

theorem kis_eq : ∀ {cs : List AV} {l : List (IntKind × Int)}, kis cs = some l → cs = l.map fun p => .i p.1 p.2
  | [], l, h => by simp only [kis, Option.some.injEq] at h; subst h; rfl
  | v :: r, l, h => by
    unfold kis at h
    split at h <;> (try (simp only [reduceCtorEq] at h; done))
    · rename_i e; cases e
    · rename_i k n r' e
      obtain ⟨rfl, rfl⟩ := List.cons.inj e
      split at h <;> (try (simp only [reduceCtorEq] at h; done))
      rename_i l' hl
      simp only [Option.some.injEq] at h
      subst h
      rw [kis_eq hl]; rfl

def tidyK : List (IntKind × Int) := [(.i64, 1200), (.u64, 0), (.u64, 0), (.i64, 2), (.i64, 1100), (.u64, 0), (.u64, 0), (.i64, 3), (.i64, 1200), (.u64, 0), (.u64, 0), (.i64, -2)]
def outK : List (IntKind × Int) := [(.i64, 1100), (.u64, 0), (.u64, 0), (.i64, 3)]
def ofK (l : List (IntKind × Int)) : List AV := l.map fun p => .i p.1 p.2

/-- Tidy, of one list of lines. -/
def tidyG : Summ := fun args s => match args with
  | [.sl b 0 4 3 3 true] => match s.h.get b with
    | some (.row true cs) => bif decide (kis cs = some tidyK) then some (.tu [.sl s.nx 0 4 1 1 false, .i .i64 0], s.new (.row true (ofK outK))) else none
    | _ => none
  | _ => none

/-- The calls whose answers the document fixes. -/
def headG : Summ := fun args s => match args with
  | [] => some (.b true, s)
  | _ => none

def smB : Nat → Option Summ
  | 37 => some keysG
  | 47 => some sortG
  | 53 => some add64G
  | _ => none
def smH : Nat → Option Summ
  | 18 => some tidyG
  | 37 => some keysG
  | 47 => some sortG
  | 53 => some add64G
  | _ => none
def smJ : Nat → Option Summ
  | 4 => some headG
  | 18 => some tidyG
  | 37 => some keysG
  | 47 => some sortG
  | 53 => some add64G
  | _ => none

end Go.AMJ
