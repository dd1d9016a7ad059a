/- Worlds that have grown by what the machine does not see; a new block taken out of them. -/
import Derived.Test.YthdkiocnbbeigaaAmTop
open Go.RowKit
namespace Go.AM
set_option linter.unusedVariables false

variable {P : Program} {ι : IM} {s : AS} {w w' : World}

theorem R.grown (h : R P ι s w) (hb : Below w.heap.size w w') : R P ι s w' :=
  ⟨h.dom, h.top, fun q L a => Nat.lt_of_lt_of_le (h.lt q L a) hb.size, fun q B a => let ⟨L, hL, g⟩ := h.blk q B a; ⟨L, hL, by rw [hb.block L.r (h.lt q L hL)]; exact g⟩, h.inj, h.low⟩

theorem Ext.grown (h : R P ι s w) (hb : Below w.heap.size w w') : Ext P ι s w ι s w' where
  rel := h.grown hb
  le := .refl _
  nx := Nat.le_refl _
  sz := hb.size
  os := hb.os
  tape := hb.tape
  output := hb.output
  keep r hr _ := hb.block r hr
  own q B L a b c := .inr ⟨q, B, L, a, b, c, rfl⟩
  img q L a := .inr ⟨q, L, a, rfl⟩
  lo := Nat.le_refl _
  same _ _ := rfl

/-- A block that lies in what has grown is taken for a new one. -/
theorem Ext.adopt (h : R P ι s w) (hb : Below w.heap.size w w') {g d n : Nat} {B : Blk} (hg : w.heap.size ≤ g) (hg' : g < w'.heap.size) (hB : BR P (ι.set s.nx ⟨g, d, n⟩) B w'.heap[g]? ⟨g, d, n⟩) :
    Ext P ι s w (ι.set s.nx ⟨g, d, n⟩) (s.new B) w' where
  rel := by
    have h' := h.grown hb
    have hlt : ∀ q B, s.h.get q = some B → q ≠ s.nx := fun q B a e => by
      obtain ⟨L, hL, _⟩ := h.blk q B a
      have := h.top q L hL
      omega
    refine ⟨fun q hq => ?_, fun q L a => ?_, fun q L a => ?_, fun q B2 a => ?_, fun q1 q2 B1 B2 L1 L2 a b c d' e f => ?_, ?_⟩
    · by_cases e : q = s.nx
      · exact ⟨_, by rw [e, IM.set_same]⟩
      · obtain ⟨L, hL⟩ := h.dom q (by simp only [AS.new] at hq; omega)
        exact ⟨L, by rw [IM.set_ne _ _ e]; exact hL⟩
    · simp only [AS.new]
      by_cases e : q = s.nx
      · omega
      · rw [IM.set_ne _ _ e] at a; have := h.top q L a; omega
    · by_cases e : q = s.nx
      · rw [e, IM.set_same] at a; obtain rfl := Option.some.inj a; exact hg'
      · rw [IM.set_ne _ _ e] at a; exact h'.lt q L a
    · rw [get_new] at a
      by_cases e : q = s.nx
      · subst e
        rw [if_pos rfl] at a; obtain rfl := Option.some.inj a
        exact ⟨_, IM.set_same _ _ _, hB⟩
      · rw [if_neg e] at a
        obtain ⟨L, hL, hb2⟩ := h'.blk q B2 a
        exact ⟨L, by rw [IM.set_ne _ _ e]; exact hL, hb2.mono (h.le_set _)⟩
    · rw [get_new] at a b
      by_cases e1 : q1 = s.nx
      · subst e1
        rw [if_neg (Ne.symm f)] at b
        rw [IM.set_same] at d'; obtain rfl := Option.some.inj d'
        rw [IM.set_ne _ _ (Ne.symm f)] at e
        have := h.lt _ _ e
        simp only; omega
      · rw [if_neg e1] at a
        rw [IM.set_ne _ _ e1] at d'
        by_cases e2 : q2 = s.nx
        · subst e2
          rw [IM.set_same] at e; obtain rfl := Option.some.inj e
          have := h.lt _ _ d'
          simp only; omega
        · rw [if_neg e2] at b
          rw [IM.set_ne _ _ e2] at e
          exact h.inj q1 q2 B1 B2 L1 L2 a b c d' e f
    · have := h.low
      simp only [AS.new]; omega
  le := h.le_set _
  nx := by simp only [AS.new]; omega
  sz := hb.size
  os := hb.os
  tape := hb.tape
  output := hb.output
  keep r hr _ := hb.block r hr
  own q B' L a b c := by
    rw [get_new] at a
    by_cases e : q = s.nx
    · subst e
      rw [IM.set_same] at c; obtain rfl := Option.some.inj c
      exact .inl hg
    · rw [if_neg e] at a
      rw [IM.set_ne _ _ e] at c
      exact .inr ⟨q, B', L, a, b, c, rfl⟩
  img q L a := by
    by_cases e : q = s.nx
    · subst e
      rw [IM.set_same] at a; obtain rfl := Option.some.inj a
      exact .inl hg
    · rw [IM.set_ne _ _ e] at a
      exact .inr ⟨q, L, a, rfl⟩
  lo := Nat.le_refl _
  same q hq := by
    rw [get_new, if_neg]
    have := h.low
    simp only [AS.new] at hq
    omega

end Go.AM
