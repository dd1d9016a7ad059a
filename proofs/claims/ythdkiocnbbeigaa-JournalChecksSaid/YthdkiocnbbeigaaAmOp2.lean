/- The abstract machine is sound: the operations, second part: how memory is read, written, made. -/
import Derived.Test.YthdkiocnbbeigaaAmOp1
namespace Go.AM

variable {P : Program}

theorem putAt_length {α : Type} : ∀ (l : List α) (o : Nat) (vs : List α), (putAt l o vs).length = l.length
  | [], _, _ => by simp [putAt]
  | _ :: _, _, [] => by simp [putAt]
  | _ :: r, 0, _ :: xs => by simp [putAt, putAt_length r 0 xs]
  | _ :: r, k + 1, x :: xs => by simp [putAt, putAt_length r k (x :: xs)]

theorem putAt_get {α : Type} : ∀ (l : List α) (o : Nat) (vs : List α) (i : Nat), (putAt l o vs)[i]? = if o ≤ i ∧ i < o + vs.length ∧ i < l.length then vs[i - o]? else l[i]?
  | [], o, vs, i => by simp [putAt]
  | c :: r, o, [], i => by
    simp only [putAt, List.length_nil]
    rw [if_neg (by omega)]
  | c :: r, 0, x :: xs, i => by
    cases i with
    | zero => simp [putAt]
    | succ i =>
      have := putAt_get r 0 xs i
      simp only [putAt, List.getElem?_cons_succ, this, List.length_cons, Nat.zero_le, true_and, Nat.sub_zero, Nat.zero_add]
      by_cases h : i < xs.length ∧ i < r.length
      · rw [if_pos h, if_pos (by omega)]
      · rw [if_neg h, if_neg (by omega)]
  | c :: r, k + 1, x :: xs, i => by
    cases i with
    | zero => simp [putAt]
    | succ i =>
      have := putAt_get r k (x :: xs) i
      simp only [putAt, List.getElem?_cons_succ, this, List.length_cons]
      by_cases h : k ≤ i ∧ i < k + (xs.length + 1) ∧ i < r.length
      · rw [if_pos h, if_pos (by omega)]; congr 1; omega
      · rw [if_neg h, if_neg (by omega)]

theorem cut_some {α : Type} {l : List α} {o z : Nat} {r : List α} (h : cut l o z = some r) : o + z ≤ l.length ∧ r = (l.drop o).take z := by
  unfold cut at h
  cases hb : Nat.ble (o + z) l.length
  · simp [hb] at h
  · simp [hb] at h; exact ⟨Nat.le_of_ble_eq_true hb, h.symm⟩

theorem cut_length {α : Type} {l : List α} {o z : Nat} {r : List α} (h : cut l o z = some r) : r.length = z := by
  obtain ⟨h1, rfl⟩ := cut_some h
  simp; omega

theorem cut_get {α : Type} {l : List α} {o z : Nat} {r : List α} (h : cut l o z = some r) (i : Nat) : r[i]? = if i < z then l[o + i]? else none := by
  obtain ⟨h1, rfl⟩ := cut_some h
  rw [List.getElem?_take]
  split
  · rw [List.getElem?_drop]
  · rfl

/-! ### The model's memory -/

section
variable {w : World} {r : Nat} {c : Array Value} {el : TypeId} {fr : Nat × Nat}

theorem cell_of (h : w.heap[r]? = some (.cells c el fr)) (o : Nat) : w.cell? ⟨r, o, none⟩ = c[o]? := by simp [World.cell?, h]
theorem frozen_of (h : w.heap[r]? = some (.cells c el fr)) (o : Nat) : w.frozen? ⟨r, o, none⟩ = (decide (fr.1 ≤ o) && decide (o < fr.2)) := by simp [World.frozen?, h]
theorem add_of (r o j : Nat) : (⟨r, o, none⟩ : Addr).add j = ⟨r, o + j, none⟩ := by
  unfold Addr.add
  by_cases h : j = 0
  · subst h; simp
  · simp [h]

theorem load_run (h : w.heap[r]? = some (.cells c el fr)) {o : Nat} {v : Value} (hv : c[o]? = some v) : (load ⟨r, o, none⟩).run P w = .ok v w := by
  have : w.cell? ⟨r, o, none⟩ = some v := by rw [cell_of h]; exact hv
  simp [this]

theorem loadCells_run (h : w.heap[r]? = some (.cells c el fr)) (o n : Nat) (hn : o + n ≤ c.size) :
    (loadCells ⟨r, o, none⟩ n).run P w = .ok (((c.toList.drop o).take n).toArray) w := by
  have hl : ((c.toList.drop o).take n).length = n := by simp; omega
  have := run_loadCells_list (P := P) w ⟨r, o, none⟩ ((c.toList.drop o).take n) (fun j v hj => by
    rw [add_of, cell_of h]
    rw [List.getElem?_take] at hj
    split at hj
    · rw [List.getElem?_drop] at hj; simpa using hj
    · cases hj)
  rw [hl] at this
  exact this

theorem modify_set (a : Array Obj) (r : Nat) (f : Obj → Obj) (o : Obj) (h : a[r]? = some o) : a.modify r f = a.setIfInBounds r (f o) := by
  apply Array.ext_getElem?
  intro i
  rw [Array.getElem?_modify, Array.getElem?_setIfInBounds]
  by_cases e : r = i
  · subst e
    have : r < a.size := (Array.getElem?_eq_some_iff.1 h).1
    rw [if_pos rfl, if_pos rfl, if_pos this, h]; rfl
  · rw [if_neg e, if_neg e]

theorem storeCells_run : ∀ (vs : List Value) (o i : Nat) (w : World) (c : Array Value), w.heap[r]? = some (.cells c el fr) → (∀ v ∈ vs, v.oneCell' = true) → o + i + vs.length ≤ c.size →
    (∀ j, o + i ≤ j → j < o + i + vs.length → ¬ (fr.1 ≤ j ∧ j < fr.2)) →
    ∃ w' c', (storeCells ⟨r, o, none⟩ vs i).run P w = .ok () w' ∧ w'.heap = w.heap.setIfInBounds r (.cells c' el fr) ∧ c'.size = c.size ∧
      (∀ j : Nat, c'[j]? = if o + i ≤ j ∧ j < o + i + vs.length then vs[j - (o + i)]? else c[j]?) ∧ w'.os = w.os ∧ w'.tape = w.tape ∧ w'.output = w.output
  | [], o, i, w, c, h, _, _, _ => by
    have hr : r < w.heap.size := (Array.getElem?_eq_some_iff.1 h).1
    refine ⟨w, c, rfl, ?_, rfl, fun j => ?_, rfl, rfl, rfl⟩
    · apply Array.ext_getElem?
      intro k
      rw [Array.getElem?_setIfInBounds]
      split
      · rename_i e; subst e; exact h
      · rfl
    · rw [if_neg (by simp only [List.length_nil]; omega)]
  | v :: vs, o, i, w, c, h, ho, hs, hf => by
    have hr : r < w.heap.size := (Array.getElem?_eq_some_iff.1 h).1
    simp only [List.length_cons] at hs hf
    have hcell : w.cell? ⟨r, o + i, none⟩ = some (c[o + i]'(by omega)) := by rw [cell_of h]; simp
    have hfz : w.frozen? ⟨r, o + i, none⟩ = false := by
      rw [frozen_of h]
      have := hf (o + i) (Nat.le_refl _) (by omega)
      simp only [Bool.and_eq_false_iff, decide_eq_false_iff_not]
      omega
    have hset : (w.setCell ⟨r, o + i, none⟩ v).heap = w.heap.setIfInBounds r (.cells (c.setIfInBounds (o + i) v) el fr) := by
      simp only [World.setCell]
      rw [modify_set _ _ _ _ h]
      simp
    have h1 : (w.setCell ⟨r, o + i, none⟩ v).heap[r]? = some (.cells (c.setIfInBounds (o + i) v) el fr) := by
      rw [hset, Array.getElem?_setIfInBounds_self, if_pos hr]
    obtain ⟨w', c', g1, g2, g3, g4, g5, g6, g7⟩ := storeCells_run vs o (i + 1) (w.setCell ⟨r, o + i, none⟩ v) (c.setIfInBounds (o + i) v) h1 (fun v hv => ho v (by simp [hv])) (by simp; omega)
      (fun j h1 h2 => hf j (by omega) (by omega))
    refine ⟨w', c', ?_, ?_, by simpa using g3, fun j => ?_, g5, g6, g7⟩
    · simp only [storeCells, Sem.run_bind, add_of]
      rw [run_store P w _ v _ (ho v (by simp)), hcell]
      simp only [hfz, Bool.false_eq_true, if_false, Result.andThen_ok]
      exact g1
    · rw [g2, hset, Array.setIfInBounds_setIfInBounds]
    · rw [g4 j]
      by_cases e : j = o + i
      · subst e
        rw [if_neg (by omega), if_pos (by simp only [List.length_cons]; omega)]
        rw [Array.getElem?_setIfInBounds_self, if_pos (by omega)]
        simp
      · by_cases e2 : o + (i + 1) ≤ j ∧ j < o + (i + 1) + vs.length
        · rw [if_pos e2, if_pos (by simp only [List.length_cons]; omega)]
          rw [show j - (o + i) = (j - (o + (i + 1))) + 1 by omega]
          simp
        · rw [if_neg e2, if_neg (by simp only [List.length_cons]; omega)]
          rw [Array.getElem?_setIfInBounds_ne (by omega)]
end

/-! ### Rows -/

variable {ι : IM} {s : AS} {w : World}

theorem R.row (hR : R P ι s w) {q : Nat} {wr : Bool} {cs : List AV} (h : s.h.get q = some (.row wr cs)) :
    ∃ L c el fr, ι q = some L ∧ w.heap[L.r]? = some (.cells c el fr) ∧ c.size = L.n ∧ L.d + cs.length ≤ L.n ∧ (∀ (i : Nat) (v : AV), cs[i]? = some v → ∃ u, c[L.d + i]? = some u ∧ VR ι v u) ∧
      (wr = true → ∀ off, L.d ≤ off → off < L.n → ¬ (fr.1 ≤ off ∧ off < fr.2)) := by
  obtain ⟨L, hL, c, el, fr, h1⟩ := hR.blk _ _ h
  exact ⟨L, c, el, fr, hL, h1⟩

theorem readRow (hR : R P ι s w) {q : Nat} {wr : Bool} {cs : List AV} (h : s.h.get q = some (.row wr cs)) {o n : Nat} {l : List AV} (hc : cut cs o n = some l) {L : Loc} (hL : ι q = some L) :
    ∃ us, (loadCells ⟨L.r, L.d + o, none⟩ n).run P w = .ok (us : List Value).toArray w ∧ VRs ι l us ∧ us.length = n := by
  obtain ⟨L', c, el, fr, hL', h1, h2, h3, h4, _⟩ := hR.row h
  obtain rfl := Option.some.inj (hL.symm.trans hL')
  obtain ⟨hle, _⟩ := cut_some hc
  have hus : ((c.toList.drop (L.d + o)).take n).length = n := by simp; omega
  refine ⟨_, loadCells_run h1 (L.d + o) n (by omega), ?_, hus⟩
  refine VRs.ofGet (by rw [cut_length hc, hus]) (fun k a v ha hv => ?_)
  rw [cut_get hc] at ha
  rw [List.getElem?_take] at hv
  by_cases hk : k < n
  · rw [if_pos hk] at ha hv
    rw [List.getElem?_drop] at hv
    obtain ⟨u, hu, hr⟩ := h4 _ _ ha
    have : c[L.d + o + k]? = some v := by simpa using hv
    rw [Nat.add_assoc] at this
    obtain rfl := Option.some.inj (hu.symm.trans this)
    exact hr
  · rw [if_neg hk] at ha; cases ha

theorem readCell (hR : R P ι s w) {q : Nat} {wr : Bool} {cs : List AV} (h : s.h.get q = some (.row wr cs)) {o : Nat} {a : AV} (ho : cs[o]? = some a) {L : Loc} (hL : ι q = some L) :
    ∃ u, (load ⟨L.r, L.d + o, none⟩).run P w = .ok u w ∧ VR ι a u := by
  obtain ⟨L', c, el, fr, hL', h1, h2, h3, h4, _⟩ := hR.row h
  obtain rfl := Option.some.inj (hL.symm.trans hL')
  obtain ⟨u, hu, hr⟩ := h4 _ _ ho
  exact ⟨u, load_run h1 hu, hr⟩

theorem writeRow (hR : R P ι s w) {q : Nat} {cs : List AV} (h : s.h.get q = some (.row true cs)) {o : Nat} {xs : List AV} {vs : List Value} (hx : VRs ι xs vs) (h1 : xs.all AV.one = true)
    (ho : o + xs.length ≤ cs.length) {L : Loc} (hL : ι q = some L) :
    ∃ w', (storeCells ⟨L.r, L.d + o, none⟩ vs).run P w = .ok () w' ∧ Ext P ι s w ι (s.write q (.row true (putAt cs o xs))) w' := by
  obtain ⟨L', c, el, fr, hL', g1, g2, g3, g4, g5⟩ := hR.row h
  obtain rfl := Option.some.inj (hL.symm.trans hL')
  have hlen := hx.length
  obtain ⟨w', c', k1, k2, k3, k4, k5, k6, k7⟩ := storeCells_run (P := P) vs (L.d + o) 0 w c g1 (hx.oneCells h1) (by omega) (fun j h1 h2 => g5 rfl j (by omega) (by omega))
  refine ⟨w', k1, Ext.set hR h rfl hL ?_ k2 k5 k6 k7⟩
  refine ⟨c', el, fr, rfl, by omega, by rw [putAt_length]; exact g3, fun i v hv => ?_, fun _ => g5 rfl⟩
  rw [putAt_get] at hv
  rw [k4]
  by_cases e : o ≤ i ∧ i < o + xs.length ∧ i < cs.length
  · rw [if_pos e] at hv
    rw [if_pos (by omega)]
    obtain ⟨u, hu, hr⟩ := hx.get hv
    refine ⟨u, ?_, hr⟩
    rw [show L.d + i - (L.d + o + 0) = i - o by omega]; exact hu
  · rw [if_neg e] at hv
    have hi : i < cs.length := by
      rcases Nat.lt_or_ge i cs.length with h | h
      · exact h
      · rw [List.getElem?_eq_none h] at hv; cases hv
    rw [if_neg (by omega)]
    exact g4 i v hv

/-- A new row, whose first cells are known. -/
theorem newRow_ok (hR : R P ι s w) (el : TypeId) {cs : List AV} {c : Array Value} {us rest : List Value} (hc : c.toList = us ++ rest) (hx : VRs ι cs us) {w' : World}
    (hh : w'.heap = w.heap.push (.cells c el)) (ho : w'.os = w.os) (ht : w'.tape = w.tape) (hp : w'.output = w.output) :
    Ext P ι s w (ι.set s.nx ⟨w.heap.size, 0, c.size⟩) (s.new (.row true cs)) w' := by
  refine Ext.new hR ?_ hh ho ht hp
  have hlen := hx.length
  have hsz : c.size = us.length + rest.length := by rw [← Array.length_toList, hc]; simp
  refine ⟨c, el, (0, 0), rfl, rfl, by simp only; omega, fun i v hv => ?_, fun _ off _ _ => by simp⟩
  obtain ⟨u, hu, hr⟩ := hx.get hv
  refine ⟨u, ?_, hr.mono (hR.le_set _)⟩
  rw [Nat.zero_add, ← Array.getElem?_toList, hc, List.getElem?_append_left]
  · exact hu
  · rcases Nat.lt_or_ge i us.length with h | h
    · exact h
    · rw [List.getElem?_eq_none h] at hu; cases hu

end Go.AM
