/- A table of compact functions is the program's, if each of its functions is. -/
import Derived.Test.YthdkiocnbbeigaaAmTop
import Derived.KernelRfl
namespace Go.AM

def T.allP {α : Type} (Q : Nat → α → Prop) : T α → (Nat → Nat) → Prop
  | .e, _ => True
  | .n v l r, f => (∀ x, v = some x → Q (f 0) x) ∧ l.allP Q (fun j => f (2 * j + 1)) ∧ r.allP Q (fun j => f (2 * j + 2))

theorem T.get_allP {α : Type} {Q : Nat → α → Prop} : ∀ {t : T α} {f : Nat → Nat}, t.allP Q f → ∀ {k : Nat} {x : α}, t.get k = some x → Q (f k) x
  | .e, f, _, k, x, h => by cases h
  | .n v l r, f, ha, k, x, h => by
    simp only [T.get] at h
    by_cases h0 : k = 0
    · subst h0
      exact ha.1 x (by simpa using h)
    · have h0' : (k == 0) = false := by simpa using h0
      by_cases h1 : k % 2 = 1
      · have h1' : (k % 2 == 1) = true := by simpa using h1
        simp only [h0', h1', cond_true, cond_false] at h
        have := T.get_allP ha.2.1 h
        rw [show k = 2 * (k / 2) + 1 by omega]
        exact this
      · have h1' : (k % 2 == 1) = false := by simpa using h1
        simp only [h0', h1', cond_false] at h
        have := T.get_allP ha.2.2 h
        rw [show k = 2 * (k / 2 - 1) + 2 by omega]
        exact this

def FOk (P : Program) (k : Nat) (fn : AFunc) : Prop := ∃ cf, P.funcs[k]? = some cf ∧ cFunc P cf = some fn ∧ (cf.name == "runtime.NumGoroutine") = false

theorem ftOk_of_tab {P : Program} {t : T AFunc} (h : t.allP (FOk P) id) : FtOk P t.get := fun _ _ hk => T.get_allP h hk

end Go.AM
