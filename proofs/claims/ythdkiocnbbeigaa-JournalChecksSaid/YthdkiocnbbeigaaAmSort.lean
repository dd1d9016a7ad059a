/- Sorted lists of integers. (plain) -/
import Derived.Test.YthdkiocnbbeigaaAmRun
namespace Go.AM

def insI (x : Int) : List Int → List Int
  | [] => [x]
  | y :: r => bif decide (x ≤ y) then x :: y :: r else y :: insI x r

def sortI : List Int → List Int
  | [] => []
  | x :: r => insI x (sortI r)

theorem insI_perm (x : Int) : ∀ l, (insI x l).Perm (x :: l)
  | [] => .refl _
  | y :: r => by
    unfold insI
    cases h : decide (x ≤ y)
    · simp only [cond_false]
      exact ((insI_perm x r).cons y).trans (.swap x y r)
    · exact .refl _

theorem sortI_perm : ∀ l, (sortI l).Perm l
  | [] => .refl _
  | x :: r => (insI_perm x _).trans ((sortI_perm r).cons x)

theorem insI_sorted (x : Int) : ∀ l : List Int, l.Pairwise (· ≤ ·) → (insI x l).Pairwise (· ≤ ·)
  | [], _ => by simp [insI]
  | y :: r, h => by
    unfold insI
    cases hd : decide (x ≤ y)
    · simp only [cond_false]
      rw [List.pairwise_cons] at h ⊢
      refine ⟨fun z hz => ?_, insI_sorted x r h.2⟩
      rcases List.mem_cons.1 ((insI_perm x r).mem_iff.1 hz) with rfl | hz
      · simp at hd; omega
      · exact h.1 z hz
    · simp only [cond_true]
      rw [List.pairwise_cons]
      refine ⟨fun z hz => ?_, h⟩
      simp at hd
      rcases List.mem_cons.1 hz with rfl | hz
      · exact hd
      · have := (List.pairwise_cons.1 h).1 z hz; omega

theorem sortI_sorted : ∀ l : List Int, (sortI l).Pairwise (· ≤ ·)
  | [] => .nil
  | x :: r => insI_sorted x _ (sortI_sorted r)

theorem sorted_unique : ∀ (a b : List Int), a.Pairwise (· ≤ ·) → b.Pairwise (· ≤ ·) → a.Perm b → a = b
  | [], b, _, _, h => by simpa using h.symm
  | x :: a, [], _, _, h => by simp at h
  | x :: a, y :: b, ha, hb, h => by
    have hx : x = y := by
      have h1 : y ∈ x :: a := h.mem_iff.2 (by simp)
      have h2 : x ∈ y :: b := h.mem_iff.1 (by simp)
      rcases List.mem_cons.1 h1 with e | e
      · exact e.symm
      · rcases List.mem_cons.1 h2 with e2 | e2
        · exact e2
        · have := (List.pairwise_cons.1 ha).1 y e
          have := (List.pairwise_cons.1 hb).1 x e2
          omega
    subst hx
    rw [sorted_unique a b (List.pairwise_cons.1 ha).2 (List.pairwise_cons.1 hb).2 (h.cons_inv)]

theorem mergeSort_sortI {ss ks : List Int} (h : ss.Perm ks) : (ss.mergeSort fun x y => decide (x ≤ y)) = sortI ks := by
  refine sorted_unique _ _ ?_ (sortI_sorted ks) (((List.mergeSort_perm ss _).trans h).trans (sortI_perm ks).symm)
  have := List.pairwise_mergeSort (le := fun x y : Int => decide (x ≤ y)) (fun a b c h1 h2 => by simp at *; omega) (fun a b => by simp; omega) ss
  exact this.imp (fun h => by simpa using h)

end Go.AM
