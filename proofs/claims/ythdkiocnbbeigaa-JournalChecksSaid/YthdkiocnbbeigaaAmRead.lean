/- What the arguments read as, the abstract machine may begin with. -/
import Derived.Test.YthdkiocnbbeigaaAmCode3
import Derived.Deep.Slices
import Derived.Carry
namespace Go.AM
set_option linter.unusedVariables false
set_option linter.unusedSimpArgs false

/-- Types of cells. -/
inductive Ty where
  | bool
  | int (k : IntKind)
  | str
  | slice (e : List Ty)

mutual
/-- A cell of a type, in a state. -/
def Has (s : AS) : Ty → AV → Prop
  | .bool, v => ∃ b, v = .b b
  | .int k, v => ∃ n, v = .i k n ∧ k.min ≤ n ∧ n ≤ k.max
  | .str, v => ∃ l, v = .s l ∧ l.length ≤ maxLen
  | .slice e, v => v = .sn ∨ ∃ q len cap els, v = .sl q 0 (size e) len cap true ∧ len ≤ cap ∧ cap ≤ maxLen ∧ s.h.get q = some (.row false (List.flatten els)) ∧ els.length = len ∧ ∀ x ∈ els, Hass s e x
/-- Cells. -/
def Hass (s : AS) : List Ty → List AV → Prop
  | [], l => l = []
  | t :: ts, l => ∃ v r, l = v :: r ∧ Has s t v ∧ Hass s ts r
def size : List Ty → Nat
  | [] => 0
  | _ :: r => size r + 1
end

theorem size_eq : ∀ l : List Ty, size l = l.length
  | [] => rfl
  | _ :: r => by simp [size, size_eq r]

theorem Hass.length {s : AS} : ∀ {ts : List Ty} {l : List AV}, Hass s ts l → l.length = ts.length
  | [], l, h => by simp only [Hass] at h; simp [h]
  | t :: ts, l, h => by
    simp only [Hass] at h
    obtain ⟨v, r, rfl, _, h2⟩ := h
    simp [Hass.length h2]

def Sub (s s' : AS) : Prop := ∀ q B, s.h.get q = some B → s'.h.get q = some B

mutual
theorem Has.mono {s s' : AS} (hs : Sub s s') : ∀ {t : Ty} {v : AV}, Has s t v → Has s' t v
  | .bool, _, h => by simpa only [Has] using h
  | .int k, _, h => by simpa only [Has] using h
  | .str, _, h => by simpa only [Has] using h
  | .slice e, v, h => by
    simp only [Has] at h ⊢
    rcases h with h | ⟨q, len, cap, els, h1, h2, h3, h4, h5, h6⟩
    · exact .inl h
    · exact .inr ⟨q, len, cap, els, h1, h2, h3, hs _ _ h4, h5, fun x hx => Hass.mono hs (h6 x hx)⟩
theorem Hass.mono {s s' : AS} (hs : Sub s s') : ∀ {ts : List Ty} {l : List AV}, Hass s ts l → Hass s' ts l
  | [], _, h => by simpa only [Hass] using h
  | t :: ts, l, h => by
    simp only [Hass] at h ⊢
    obtain ⟨v, r, h1, h2, h3⟩ := h
    exact ⟨v, r, h1, Has.mono hs h2, Hass.mono hs h3⟩
end

theorem Hass.append {s : AS} : ∀ {t1 t2 : List Ty} {l1 l2 : List AV}, Hass s t1 l1 → Hass s t2 l2 → Hass s (t1 ++ t2) (l1 ++ l2)
  | [], t2, l1, l2, h1, h2 => by simp only [Hass] at h1; subst h1; exact h2
  | t :: ts, t2, l1, l2, h1, h2 => by
    simp only [Hass] at h1
    obtain ⟨v, r, rfl, a, b⟩ := h1
    simp only [List.cons_append, Hass]
    exact ⟨v, r ++ l2, rfl, a, Hass.append b h2⟩

/-- What the machine begins with: rows that are read alone. -/
structure St0 (P : Program) (ι : IM) (s : AS) (w : World) : Prop where
  rel : R P ι s w
  ro : ∀ q B, s.h.get q = some B → B.wr = false

theorem St0.empty (P : Program) (w : World) : St0 P (fun _ => none) ⟨.e, 0, 0⟩ w where
  rel := ⟨fun q h => absurd h (Nat.not_lt_zero _), fun q L h => (by cases h), fun q L h => (by cases h), fun q B h => (by cases h), fun q q' B B' L L' h => (by cases h), Nat.le_refl _⟩
  ro q B h := by cases h

theorem St0.add {P : Program} {ι : IM} {s : AS} {w : World} (h : St0 P ι s w) {r d : Nat} {cs : List AV} {c : Array Value} {el : TypeId} {fr : Nat × Nat} (hr : w.heap[r]? = some (.cells c el fr))
    (hl : d + cs.length ≤ c.size) (hv : ∀ (i : Nat) (v : AV), cs[i]? = some v → ∃ u, c[d + i]? = some u ∧ VR ι v u) : St0 P (ι.set s.nx ⟨r, d, c.size⟩) (s.new (.row false cs)) w := by
  have hle := h.rel.le_set ⟨r, d, c.size⟩
  have hlt : ∀ q B, s.h.get q = some B → q < s.nx := fun q B hb => by
    obtain ⟨L, hL, _⟩ := h.rel.blk q B hb
    exact h.rel.top q L hL
  have new : ∀ q B, (s.new (.row false cs)).h.get q = some B → (q = s.nx ∧ B = .row false cs) ∨ (q ≠ s.nx ∧ s.h.get q = some B) := fun q B hb => by
    rw [get_new] at hb
    by_cases e : q = s.nx
    · rw [if_pos e] at hb; exact .inl ⟨e, (Option.some.inj hb).symm⟩
    · rw [if_neg e] at hb; exact .inr ⟨e, hb⟩
  refine ⟨⟨fun q hq => ?_, fun q L hL => ?_, fun q L hL => ?_, fun q B hb => ?_, fun q q' B B' L L' hb hb' hw => ?_, ?_⟩, fun q B hb => ?_⟩
  · by_cases e : q = s.nx
    · exact ⟨_, by rw [e]; exact IM.set_same _ _ _⟩
    · obtain ⟨L, hL⟩ := h.rel.dom q (by simp only [AS.new] at hq; omega)
      exact ⟨L, hle _ _ hL⟩
  · by_cases e : q = s.nx
    · simp only [AS.new]; omega
    · rw [IM.set_ne _ _ e] at hL
      have := h.rel.top q L hL
      simp only [AS.new]; omega
  · by_cases e : q = s.nx
    · rw [e, IM.set_same] at hL
      obtain rfl := Option.some.inj hL
      exact (Array.getElem?_eq_some_iff.1 hr).1
    · rw [IM.set_ne _ _ e] at hL
      exact h.rel.lt q L hL
  · rcases new q B hb with ⟨e, rfl⟩ | ⟨e, hb⟩
    · refine ⟨⟨r, d, c.size⟩, by rw [e]; exact IM.set_same _ _ _, c, el, fr, hr, rfl, hl, fun i v hi => ?_, fun g => by cases g⟩
      obtain ⟨u, a, b⟩ := hv i v hi
      exact ⟨u, a, b.mono hle⟩
    · obtain ⟨L, hL, hB⟩ := h.rel.blk q B hb
      exact ⟨L, hle _ _ hL, hB.mono hle⟩
  · exfalso
    rcases new q B hb with ⟨e, rfl⟩ | ⟨e, hb⟩
    · cases hw
    · rw [h.ro q B hb] at hw; cases hw
  · have := h.rel.low
    simp only [AS.new]; omega
  · rcases new q B hb with ⟨e, rfl⟩ | ⟨e, hb⟩
    · rfl
    · exact h.ro q B hb

theorem Sub.new {P : Program} {ι : IM} {s : AS} {w : World} (h : R P ι s w) (B : Blk) : Sub s (s.new B) := fun q B' hb => by
  obtain ⟨L, hL, _⟩ := h.blk q B' hb
  have := h.top q L hL
  rw [get_new, if_neg (by omega)]
  exact hb

/-- Cells can be read, from whatever was read already. -/
def Readable (P : Program) (w : World) (ts : List Ty) (cs : List Value) : Prop :=
  ∀ ι s, St0 P ι s w → ∃ ι' s' l, St0 P ι' s' w ∧ IM.le ι ι' ∧ Sub s s' ∧ VRs ι' l cs ∧ Hass s' ts l

theorem Readable.nil {P : Program} {w : World} : Readable P w [] [] := fun ι s h => ⟨ι, s, [], h, .refl _, fun _ _ h => h, .nil, rfl⟩

theorem Readable.append {P : Program} {w : World} {t1 t2 : List Ty} {c1 c2 : List Value} (h1 : Readable P w t1 c1) (h2 : Readable P w t2 c2) : Readable P w (t1 ++ t2) (c1 ++ c2) := fun ι s h => by
  obtain ⟨ι1, s1, l1, a1, a2, a3, a4, a5⟩ := h1 ι s h
  obtain ⟨ι2, s2, l2, b1, b2, b3, b4, b5⟩ := h2 ι1 s1 a1
  exact ⟨ι2, s2, l1 ++ l2, b1, a2.trans b2, fun q B hq => b3 _ _ (a3 _ _ hq), (a4.mono b2).append b4, (a5.mono b3).append b5⟩

theorem Readable.many {P : Program} {w : World} {ts : List Ty} : ∀ {css : List (List Value)}, (∀ x ∈ css, Readable P w ts x) → ∀ ι s, St0 P ι s w →
    ∃ ι' s' els, St0 P ι' s' w ∧ IM.le ι ι' ∧ Sub s s' ∧ VRs ι' (List.flatten els) (List.flatten css) ∧ els.length = css.length ∧ ∀ x ∈ els, Hass s' ts x
  | [], _, ι, s, h => ⟨ι, s, [], h, .refl _, fun _ _ h => h, .nil, rfl, fun _ hx => by cases hx⟩
  | c :: css, hr, ι, s, h => by
    obtain ⟨ι1, s1, l1, a1, a2, a3, a4, a5⟩ := hr c (by simp) ι s h
    obtain ⟨ι2, s2, els, b1, b2, b3, b4, b5, b6⟩ := Readable.many (css := css) (fun x hx => hr x (by simp [hx])) ι1 s1 a1
    refine ⟨ι2, s2, l1 :: els, b1, a2.trans b2, fun q B hq => b3 _ _ (a3 _ _ hq), ?_, by simp [b5], fun x hx => ?_⟩
    · simp only [List.flatten_cons]
      exact (a4.mono b2).append b4
    · rcases List.mem_cons.1 hx with rfl | hx
      · exact a5.mono b3
      · exact b6 x hx

/-- The cells of a row, taken together. -/
theorem row_of_reads {w : World} {a : Addr} {z n : Nat} {Q : List Value → Prop} (h : ∀ i, i < n → ∃ cs', w.cells? 0 (a.add (i * z)) z = some cs' ∧ Q cs') :
    ∃ css : List (List Value), css.length = n ∧ (∀ x ∈ css, Q x ∧ x.length = z) ∧ (List.flatten css).length = n * z ∧ ∀ (k : Nat) (v : Value), (List.flatten css)[k]? = some v → w.cell? (a.add k) = some v := by
  induction n with
  | zero => exact ⟨[], rfl, by simp, by simp, by simp⟩
  | succ n ih =>
    obtain ⟨css, c1, c2, c3, c4⟩ := ih (fun i hi => h i (by omega))
    obtain ⟨cs', d1, d2⟩ := h n (by omega)
    obtain ⟨_, e1, e2⟩ := World.cells?_some d1
    refine ⟨css ++ [cs'], by simp [c1], fun x hx => ?_, by simp [c3, e1, Nat.succ_mul], fun k v hk => ?_⟩
    · rcases List.mem_append.1 hx with hx | hx
      · exact c2 x hx
      · simp only [List.mem_singleton] at hx; subst hx; exact ⟨d2, e1⟩
    · simp only [List.flatten_append, List.flatten_cons, List.flatten_nil, List.append_nil] at hk
      by_cases hlt : k < n * z
      · rw [List.getElem?_append_left (by omega)] at hk
        exact c4 k v hk
      · rw [List.getElem?_append_right (by omega), c3] at hk
        have hk2 : k - n * z < z := by
          have := (List.getElem?_eq_some_iff.1 hk).1
          omega
        have := e2 (k - n * z) hk2
        rw [hk, Deep.add_add] at this
        rw [show k = n * z + (k - n * z) by omega]
        exact this

def tyFields (g : TypeId → Option (List Ty)) (P : Program) : List Field → Nat → Option (List Ty)
  | [], _ => some []
  | f :: r, n => bif f.offset == n then (match g f.type with
      | some ts => bif ts.length == P.cellsOf f.type then (match tyFields g P r (n + ts.length) with
        | some rs => some (ts ++ rs)
        | none => none) else none
      | none => none) else none

def tyOf (P : Program) : Nat → TypeId → Option (List Ty)
  | 0, _ => none
  | d + 1, t => match P.underlying t with
    | some .bool => some [.bool]
    | some (.int k) => some [.int k]
    | some .string => some [.str]
    | some (.slice e) => match tyOf P d e with
      | some te => bif te.length == P.cellsOf e && Nat.blt 0 te.length then some [.slice te] else none
      | none => none
    | some (.struct fs) => match tyFields (tyOf P d) P fs.toList 0 with
      | some ts => bif ts.length == P.cellsOf t then some ts else none
      | none => none
    | _ => none

section
variable {H : Type} {enc : TypeId × Value → H} {P : Program} {w : World}

theorem read_fields {g : TypeId → Option (List Ty)} {held : Bool} {n : Nat} (hg : ∀ t ts cs x, g t = some ts → DataW.trod enc P w 0 (fun _ => true) held n t cs = some x → Readable P w ts cs) {cs : List Value} :
    ∀ (fs : List Field) (k : Nat) (ts : List Ty), tyFields g P fs k = some ts → (∀ f ∈ fs, ∃ x, DataW.trod enc P w 0 (fun _ => true) held n f.type ((cs.drop f.offset).take (P.cellsOf f.type)) = some x) →
      k + ts.length = cs.length → Readable P w ts (cs.drop k)
  | [], k, ts, h, _, hl => by
    simp only [tyFields, Option.some.injEq] at h
    subst h
    rw [List.drop_eq_nil_of_le (by simp at hl; omega)]
    exact .nil
  | f :: r, k, ts, h, hx, hl => by
    simp only [tyFields] at h
    cases ho : f.offset == k <;> simp only [ho, cond_true, cond_false, reduceCtorEq] at h
    have ho' : f.offset = k := by simpa using ho
    split at h <;> (try (simp only [reduceCtorEq] at h; done))
    rename_i t1 h1
    cases hz : t1.length == P.cellsOf f.type <;> simp only [hz, cond_true, cond_false, reduceCtorEq] at h
    have hz' : t1.length = P.cellsOf f.type := by simpa using hz
    split at h <;> (try (simp only [reduceCtorEq] at h; done))
    rename_i rs h2
    simp only [Option.some.injEq] at h
    subst h
    obtain ⟨x, hx1⟩ := hx f (by simp)
    have r1 := hg _ _ _ _ h1 hx1
    simp only [List.length_append] at hl
    have r2 := read_fields hg r (k + t1.length) rs h2 (fun f' hf => hx f' (by simp [hf])) (by omega)
    have := r1.append r2
    rw [ho', ← hz'] at this
    have e : (cs.drop k).take t1.length ++ cs.drop (k + t1.length) = cs.drop k := by
      rw [← List.drop_drop]
      exact List.take_append_drop _ _
    rw [e] at this
    exact this

theorem read_type {held : Bool} (hne : ∃ (r : Nat) (c : Array Value) (el : TypeId) (fr : Nat × Nat), w.heap[r]? = some (Obj.cells c el fr)) : ∀ (d : Nat) (t : TypeId) (ts : List Ty), tyOf P d t = some ts → ∀ (fuel : Nat) (cs : List Value) (x : DataW H × List MemPlace), DataW.trod enc P w 0 (fun _ => true) held fuel t cs = some x → Readable P w ts cs
  | 0, t, ts, h, _, _, _, _ => by simp [tyOf] at h
  | d + 1, t, ts, h, fuel, cs, x, hx => by
    simp only [tyOf] at h
    split at h <;> (try (simp only [reduceCtorEq] at h; done))
    · rename_i hu
      simp only [Option.some.injEq] at h; subst h
      obtain ⟨b, rfl, _⟩ := DataW.trod_bool hu hx
      exact fun ι s h0 => ⟨ι, s, [.b b], h0, .refl _, fun _ _ h => h, .cons (.b b) .nil, ⟨_, _, rfl, ⟨b, rfl⟩, rfl⟩⟩
    · rename_i k hu
      simp only [Option.some.injEq] at h; subst h
      obtain ⟨n, rfl, _, hw⟩ := DataW.trod_int hu hx
      simp only [Lit.wf, Bool.and_eq_true, decide_eq_true_eq] at hw
      exact fun ι s h0 => ⟨ι, s, [.i k n], h0, .refl _, fun _ _ h => h, .cons (.i k n) .nil, ⟨_, _, rfl, ⟨n, rfl, hw⟩, rfl⟩⟩
    · rename_i hu
      simp only [Option.some.injEq] at h; subst h
      obtain ⟨b, rfl, _, hm⟩ := DataW.trod_string hu hx
      refine fun ι s h0 => ⟨ι, s, [.s b.data.toList], h0, .refl _, fun _ _ h => h, .cons ?_ .nil, ⟨_, _, rfl, ⟨_, rfl, (show b.data.toList.length ≤ maxLen by rw [Array.length_toList]; exact hm)⟩, rfl⟩⟩
      have := VR.s (ι := ι) b.data.toList
      rw [Array.toArray_toList] at this
      exact this
    · rename_i e hu
      split at h <;> (try (simp only [reduceCtorEq] at h; done))
      rename_i te hte
      cases hz : te.length == P.cellsOf e && Nat.blt 0 te.length <;> simp only [hz, cond_true, cond_false, reduceCtorEq, Option.some.injEq] at h
      subst h
      simp only [Bool.and_eq_true, beq_iff_eq, Nat.blt_eq] at hz
      obtain ⟨hz1, hz2⟩ := hz
      rcases Deep.open_slice hu hx with ⟨rfl, _⟩ | ⟨a, len, cap, m, n, D, Pl, rfl, _, hlc, hcm, hm, _, hread⟩
      · exact fun ι s h0 => ⟨ι, s, [.sn], h0, .refl _, fun _ _ h => h, .cons .sn .nil, ⟨_, _, rfl, .inl rfl, rfl⟩⟩
      · simp only [if_true] at hm
        subst hm
        rw [← hz1] at hread
        obtain ⟨css, c1, c2, c3, c4⟩ := row_of_reads (Q := fun cs' => Readable P w te cs') (fun i hi => by
          obtain ⟨cs', h1, h2⟩ := hread i hi
          exact ⟨cs', h1, read_type hne d e te hte n cs' _ h2⟩)
        intro ι s h0
        have htk : ∀ y ∈ css.take len, Readable P w te y := fun y hy => (c2 y (List.mem_of_mem_take hy)).1
        obtain ⟨ι1, s1, els, b1, b2, b3, b4, b5, b6⟩ := Readable.many htk ι s h0
        have hel : els.length = len := by rw [b5, List.length_take]; omega
        have hpre : ∀ (i : Nat) (v : Value), (List.flatten (css.take len))[i]? = some v → w.cell? (a.add i) = some v := fun i v hi => by
          refine c4 i v ?_
          have e1 : css.flatten = (css.take len).flatten ++ (css.drop len).flatten := by rw [← List.flatten_append, List.take_append_drop]
          rw [e1, List.getElem?_append_left (List.getElem?_eq_some_iff.1 hi).1]
          exact hi
        by_cases hc0 : m = 0
        · obtain ⟨r0, c0, el0, fr0, hr0⟩ := hne
          have hl0 : len = 0 := by omega
          have hels : els = [] := List.length_eq_zero_iff.1 (by omega)
          subst hels
          have hadd := St0.add (cs := []) (d := 0) b1 hr0 (by simp) (by simp)
          refine ⟨_, _, [.sl s1.nx 0 (size te) len m true], hadd, b2.trans (b1.rel.le_set _), fun q B hq => Sub.new b1.rel _ _ _ (b3 _ _ hq), .cons (VR.sl (IM.set_same _ _ _) (by omega) (Nat.le_refl _) (fun _ => rfl) (.inl hc0)) .nil, ?_⟩
          refine ⟨_, _, rfl, .inr ⟨s1.nx, len, m, [], rfl, hlc, hcm, ?_, by simp [hl0], by simp⟩, rfl⟩
          rw [get_new, if_pos rfl]; rfl
        · have hlast : m * te.length - 1 < (List.flatten css).length := by
            rw [c3]
            have : 0 < m * te.length := Nat.mul_pos (by omega) hz2
            omega
          have g := c4 _ _ (List.getElem?_eq_getElem hlast)
          have hpos : 0 < m * te.length := Nat.mul_pos (by omega) hz2
          have g0 := c4 0 _ (List.getElem?_eq_getElem (by omega))
          have hspot : a.spot = none := by
            have := World.cell?_spot g0
            simpa [Addr.add] using this
          obtain ⟨ab, ao, asp⟩ := a
          simp only at hspot
          subst hspot
          have hadd' : ∀ k, ((⟨ab, ao, none⟩ : Addr).add k) = ⟨ab, ao + k, none⟩ := fun k => add_of ab ao k
          rw [hadd'] at g
          have hcell : ∃ c el fr, w.heap[ab]? = some (.cells c el fr) := by
            unfold World.cell? at g
            simp only at g
            split at g
            · rename_i c el fr hb; exact ⟨c, el, fr, hb⟩
            · cases g
          obtain ⟨c, el, fr, hb⟩ := hcell
          have hcget : ∀ k v, w.cell? ⟨ab, ao + k, none⟩ = some v → c[ao + k]? = some v := fun k v hk => by
            unfold World.cell? at hk
            simpa [hb] using hk
          have hsz : ao + m * te.length ≤ c.size := by
            have := (Array.getElem?_eq_some_iff.1 (hcget _ _ g)).1
            omega
          have hfl : (List.flatten els).length = len * te.length := by
            have : ∀ (l : List (List AV)), (∀ x ∈ l, Hass s1 te x) → (List.flatten l).length = l.length * te.length := by
              intro l hl
              induction l with
              | nil => simp
              | cons y r ih =>
                simp only [List.flatten_cons, List.length_append, List.length_cons, ih (fun x hx => hl x (by simp [hx])), (hl y (by simp)).length, Nat.succ_mul]
                omega
            rw [this els b6, hel]
          have hle : len * te.length ≤ m * te.length := Nat.mul_le_mul_right _ hlc
          have hadd := St0.add (cs := List.flatten els) (d := ao) b1 hb (by omega) (fun i v hi => by
            obtain ⟨u, hu1, hu2⟩ := b4.get hi
            have := hpre i u hu1
            rw [hadd'] at this
            exact ⟨u, hcget _ _ this, hu2⟩)
          refine ⟨_, _, [.sl s1.nx 0 (size te) len m true], hadd, b2.trans (b1.rel.le_set _), fun q B hq => Sub.new b1.rel _ _ _ (b3 _ _ hq),
            .cons (VR.sl (IM.set_same _ _ _) hlc (Nat.le_refl _) (fun _ => rfl) (.inr ⟨rfl, by rw [size_eq]; simpa using hsz⟩)) .nil, ?_⟩
          refine ⟨_, _, rfl, .inr ⟨s1.nx, len, m, els, rfl, hlc, hcm, ?_, hel, fun y hy => (b6 y hy).mono (Sub.new b1.rel _)⟩, rfl⟩
          rw [get_new, if_pos rfl]
    · rename_i fs hu
      split at h <;> (try (simp only [reduceCtorEq] at h; done))
      rename_i ts' hts
      cases hz : ts'.length == P.cellsOf t <;> simp only [hz, cond_true, cond_false, reduceCtorEq, Option.some.injEq] at h
      subst h
      have hz' : ts'.length = P.cellsOf t := by simpa using hz
      obtain ⟨xs, n, rfl, _, hlen, hxl, hf⟩ := DataW.trod_struct hu hx
      have := read_fields (held := held) (n := n) (cs := cs) (fun t ts cs x h1 h2 => read_type hne d t ts h1 n cs x h2) fs.toList 0 ts' hts (fun f hfm => by
        obtain ⟨i, hi⟩ := List.getElem?_of_mem hfm
        have hi' : fs[i]? = some f := by simpa using hi
        have := hf i f hi'
        have hlt : i < xs.length := by rw [hxl]; exact (Array.getElem?_eq_some_iff.1 hi').1
        exact ⟨xs[i], by rw [this, List.getElem?_eq_getElem hlt]⟩) (by omega)
      simpa using this
end

end Go.AM
