/- The abstract machine and the model: how the heaps stand to each other, and what a step may do to both. -/
import Derived.Test.YthdkiocnbbeigaaAmRel
namespace Go.AM

variable (P : Program)

def lstR : LSt → LoopState → Prop
  | .ready, .ready | .busy, .busy | .done, .done | .over, .exhausted => True
  | _, _ => False

def Out.code : Out → Option Code
  | .nrm => none
  | .ret => some .ret
  | .exit id => some (.exit id)

/-- Temporaries. -/
structure TR (ι : IM) (t : T AV) (n : Nat) (tmps : Array Value) : Prop where
  sz : n ≤ tmps.size
  get : ∀ (k : Nat) (v : AV), t.get k = some v → VR ι v (tmps.getD k undef)

def Blk.wr : Blk → Bool
  | .row w _ => w
  | _ => true

/-- Entries of a map. -/
inductive ERs (ι : IM) : List (AV × AV) → List MapEntry → Prop
  | nil : ERs ι [] []
  | cons {k v : AV} {e : MapEntry} {l : List (AV × AV)} {es : List MapEntry} (hk : VR ι k e.key) (hv : VR ι v e.val) (r : ERs ι l es) : ERs ι ((k, v) :: l) (e :: es)

/-- When the entries of a map were born. -/
structure Born (l : List MapEntry) (clk : Nat) : Prop where
  lt : ∀ e ∈ l, e.born < clk
  nodup : (l.map (·.born)).Nodup

theorem Born.nil (clk : Nat) : Born [] clk := ⟨fun _ h => absurd h List.not_mem_nil, List.nodup_nil⟩

theorem Born.push {l : List MapEntry} {clk : Nat} (h : Born l clk) (k v : Value) : Born (l ++ [{ key := k, val := v, born := clk }]) (clk + 1) := by
  refine ⟨fun e he => ?_, ?_⟩
  · rcases List.mem_append.1 he with g | g
    · have := h.lt e g; omega
    · simp only [List.mem_singleton] at g; subst g; exact Nat.lt_succ_self _
  · rw [List.map_append, List.nodup_append]
    refine ⟨h.nodup, by simp, fun a ha b hb => ?_⟩
    simp only [List.map_cons, List.map_nil, List.mem_singleton] at hb
    subst hb
    obtain ⟨e, he, rfl⟩ := List.mem_map.1 ha
    have := h.lt e he
    omega

theorem Born.modify {l : List MapEntry} {clk : Nat} (h : Born l clk) (i : Nat) (k v : Value) : Born (l.modify i fun e => { e with key := k, val := v }) clk := by
  have e1 : ∀ (l : List MapEntry) (i : Nat), (l.modify i fun e => { e with key := k, val := v }).map (·.born) = l.map (·.born) := by
    intro l
    induction l with
    | nil => intro i; cases i <;> rfl
    | cons a r ih =>
      intro i
      cases i with
      | zero => rfl
      | succ i => simp only [List.modify_succ_cons, List.map_cons, ih]
  refine ⟨fun e he => ?_, by rw [e1]; exact h.nodup⟩
  have : e.born ∈ (l.modify i fun e => { e with key := k, val := v }).map (·.born) := List.mem_map.2 ⟨e, he, rfl⟩
  rw [e1] at this
  obtain ⟨e', he', hb⟩ := List.mem_map.1 this
  rw [← hb]
  exact h.lt e' he'

def BR (ι : IM) : Blk → Option Obj → Loc → Prop
  | .row wr cs, o, L => ∃ c el fr, o = some (.cells c el fr) ∧ c.size = L.n ∧ L.d + cs.length ≤ L.n ∧ (∀ (i : Nat) (v : AV), cs[i]? = some v → ∃ u, c[L.d + i]? = some u ∧ VR ι v u) ∧
      (wr = true → ∀ off, L.d ≤ off → off < L.n → ¬ (fr.1 ≤ off ∧ off < fr.2))
  | .mp es, o, _ => ∃ ents clk, o = some (.map ents clk) ∧ ERs ι es ents.toList ∧ Born ents.toList clk
  | .lp st pend n tm ps asg body, o, _ => ∃ r : Loop, o = some (.loop r) ∧ lstR st r.state ∧ r.pending = pend.code ∧ r.params.toList = ps ∧ TR ι tm n r.tmps ∧ cCode P r.assign = some asg ∧ cCode P r.body = some body ∧ noRf asg = true ∧ noRf body = true

structure R (ι : IM) (s : AS) (w : World) : Prop where
  dom : ∀ q, q < s.nx → ∃ L, ι q = some L
  top : ∀ q L, ι q = some L → q < s.nx
  lt : ∀ q L, ι q = some L → L.r < w.heap.size
  blk : ∀ q B, s.h.get q = some B → ∃ L, ι q = some L ∧ BR P ι B w.heap[L.r]? L
  inj : ∀ q q' B B' L L', s.h.get q = some B → s.h.get q' = some B' → B.wr = true → ι q = some L → ι q' = some L' → q ≠ q' → L.r ≠ L'.r
  low : s.lo ≤ s.nx

structure Ext (ι : IM) (s : AS) (w : World) (ι' : IM) (s' : AS) (w' : World) : Prop where
  rel : R P ι' s' w'
  le : IM.le ι ι'
  nx : s.nx ≤ s'.nx
  sz : w.heap.size ≤ w'.heap.size
  os : w'.os = w.os
  tape : w'.tape = w.tape
  output : w'.output = w.output
  keep : ∀ r, r < w.heap.size → (∀ q B L, s.h.get q = some B → B.wr = true → ι q = some L → L.r ≠ r) → w'.heap[r]? = w.heap[r]?
  own : ∀ q B L, s'.h.get q = some B → B.wr = true → ι' q = some L → w.heap.size ≤ L.r ∨ ∃ q' B' L', s.h.get q' = some B' ∧ B'.wr = true ∧ ι q' = some L' ∧ L'.r = L.r
  img : ∀ q L, ι' q = some L → w.heap.size ≤ L.r ∨ ∃ q' L', ι q' = some L' ∧ L'.r = L.r
  lo : s'.lo ≤ s.lo
  same : ∀ q, q < s'.lo → s'.h.get q = s.h.get q

variable {P}

theorem ERs.mono {ι ι' : IM} (hi : IM.le ι ι') {l : List (AV × AV)} {es : List MapEntry} (h : ERs ι l es) : ERs ι' l es := by
  induction h with
  | nil => exact .nil
  | cons hk hv _ ih => exact .cons (hk.mono hi) (hv.mono hi) ih

theorem ERs.back {ι ι' : IM} (hi : IM.le ι ι') : ∀ {l : List (AV × AV)} {us vs : List MapEntry}, ERs ι l us → ERs ι' l vs → ERs ι l vs
  | _, _, _, .nil, .nil => .nil
  | _, _, _, .cons a b r, .cons a' b' r' => .cons (a.back hi a') (b.back hi b') (ERs.back hi r r')

theorem TR.mono {ι ι' : IM} (hi : IM.le ι ι') {t : T AV} {n : Nat} {tmps : Array Value} (h : TR ι t n tmps) : TR ι' t n tmps :=
  ⟨h.sz, fun k v hk => (h.get k v hk).mono hi⟩

theorem BR.mono {ι ι' : IM} (hi : IM.le ι ι') {B : Blk} {o : Option Obj} {L : Loc} (h : BR P ι B o L) : BR P ι' B o L := by
  cases B with
  | row wr cs =>
    obtain ⟨c, el, fr, h1, h2, h3, h4, h5⟩ := h
    exact ⟨c, el, fr, h1, h2, h3, fun i v hv => let ⟨u, a, b⟩ := h4 i v hv; ⟨u, a, b.mono hi⟩, h5⟩
  | mp es =>
    obtain ⟨ents, clk, h1, h2, h3⟩ := h
    exact ⟨ents, clk, h1, h2.mono hi, h3⟩
  | lp st pend n tm ps asg body =>
    obtain ⟨r, h1, h2, h3, h4, h5, h6, h7⟩ := h
    exact ⟨r, h1, h2, h3, h4, h5.mono hi, h6, h7⟩

/-- A block that is the same, seen with the elder map. -/
theorem BR.back {ι ι' : IM} (hi : IM.le ι ι') {B : Blk} {o o' : Option Obj} {L : Loc} (h : BR P ι B o L) (h' : BR P ι' B o' L) : BR P ι B o' L := by
  cases B with
  | row wr cs =>
    obtain ⟨c, el, fr, h1, h2, h3, h4, h5⟩ := h
    obtain ⟨c', el', fr', g1, g2, g3, g4, g5⟩ := h'
    refine ⟨c', el', fr', g1, g2, g3, fun i v hv => ?_, g5⟩
    obtain ⟨u, a, b⟩ := h4 i v hv
    obtain ⟨u', a', b'⟩ := g4 i v hv
    exact ⟨u', a', b.back hi b'⟩
  | mp es =>
    obtain ⟨ents, clk, h1, h2, h3⟩ := h
    obtain ⟨ents', clk', g1, g2, g3⟩ := h'
    exact ⟨ents', clk', g1, h2.back hi g2, g3⟩
  | lp st pend n tm ps asg body =>
    obtain ⟨r, h1, h2, h3, h4, h5, h6, h7⟩ := h
    obtain ⟨r', g1, g2, g3, g4, g5, g6, g7⟩ := h'
    exact ⟨r', g1, g2, g3, g4, ⟨g5.sz, fun k v hk => (h5.get k v hk).back hi (g5.get k v hk)⟩, g6, g7⟩

variable {ι ι' ι'' : IM} {s s' s'' : AS} {w w' w'' : World}

theorem Ext.refl (h : R P ι s w) : Ext P ι s w ι s w :=
  ⟨h, .refl _, Nat.le_refl _, Nat.le_refl _, rfl, rfl, rfl, fun _ _ _ => rfl, fun q B L a b c => .inr ⟨q, B, L, a, b, c, rfl⟩, fun q L h => .inr ⟨q, L, h, rfl⟩, Nat.le_refl _, fun _ _ => rfl⟩

theorem Ext.trans (h : Ext P ι s w ι' s' w') (k : Ext P ι' s' w' ι'' s'' w'') : Ext P ι s w ι'' s'' w'' where
  rel := k.rel
  le := h.le.trans k.le
  nx := Nat.le_trans h.nx k.nx
  sz := Nat.le_trans h.sz k.sz
  os := k.os.trans h.os
  tape := k.tape.trans h.tape
  output := k.output.trans h.output
  keep r hr hn := by
    rw [k.keep r (Nat.lt_of_lt_of_le hr h.sz) ?_, h.keep r hr hn]
    intro q B L a b c e
    rcases h.own q B L a b c with g | ⟨q', B', L', a', b', c', e'⟩
    · omega
    · exact hn q' B' L' a' b' c' (e'.trans e)
  own q B L a b c := by
    rcases k.own q B L a b c with g | ⟨q', B', L', a', b', c', e'⟩
    · exact .inl (Nat.le_trans h.sz g)
    · rcases h.own q' B' L' a' b' c' with g | ⟨q2, B2, L2, a2, b2, c2, e2⟩
      · exact .inl (e' ▸ g)
      · exact .inr ⟨q2, B2, L2, a2, b2, c2, e2.trans e'⟩
  img q L a := by
    rcases k.img q L a with g | ⟨q', L', a', e'⟩
    · exact .inl (Nat.le_trans h.sz g)
    · rcases h.img q' L' a' with g | ⟨q2, L2, a2, e2⟩
      · exact .inl (e' ▸ g)
      · exact .inr ⟨q2, L2, a2, e2.trans e'⟩
  lo := Nat.le_trans k.lo h.lo
  same q hq := by rw [k.same q hq, h.same q (Nat.lt_of_lt_of_le hq k.lo)]

/-- Nothing but counts of the world has turned. -/
theorem Ext.world (h : R P ι s w) (hh : w'.heap = w.heap) (ho : w'.os = w.os) (ht : w'.tape = w.tape) (hp : w'.output = w.output) : Ext P ι s w ι s w' where
  rel := ⟨h.dom, h.top, fun q L a => by rw [hh]; exact h.lt q L a, fun q B a => by rw [hh]; exact h.blk q B a, h.inj, h.low⟩
  le := .refl _
  nx := Nat.le_refl _
  sz := by rw [hh]; exact Nat.le_refl _
  os := ho
  tape := ht
  output := hp
  keep _ _ _ := by rw [hh]
  own q B L a b c := .inr ⟨q, B, L, a, b, c, rfl⟩
  img q L a := .inr ⟨q, L, a, rfl⟩
  lo := Nat.le_refl _
  same _ _ := rfl

theorem get_write (s : AS) (k : Nat) (B : Blk) (q : Nat) : (s.write k B).h.get q = if q = k then some B else s.h.get q := T.get_put _ _ _ _
theorem get_kill (s : AS) (k q : Nat) : (s.kill k).h.get q = if q = k then none else s.h.get q := T.get_put _ _ _ _
theorem get_new (s : AS) (B : Blk) (q : Nat) : (s.new B).h.get q = if q = s.nx then some B else s.h.get q := T.get_put _ _ _ _

theorem lo_write_le (s : AS) (k : Nat) (B : Blk) : (s.write k B).lo ≤ s.lo ∧ (s.write k B).lo ≤ k := by
  simp only [AS.write]
  cases h : Nat.ble s.lo k
  · have : ¬ s.lo ≤ k := fun g => by rw [Nat.ble_eq_true_of_le g] at h; cases h
    simp only [cond_false]; omega
  · have := Nat.le_of_ble_eq_true h
    simp only [cond_true]; omega

theorem lo_kill_le (s : AS) (k : Nat) : (s.kill k).lo ≤ s.lo ∧ (s.kill k).lo ≤ k := lo_write_le s k (.mp [])

/-- An own block is written. -/
theorem Ext.set (h : R P ι s w) {q : Nat} {B : Blk} {L : Loc} (hq : s.h.get q = some B) (hw : B.wr = true) (hL : ι q = some L) {B' : Blk} {o : Obj} (hB' : BR P ι B' (some o) L)
    (hh : w'.heap = w.heap.setIfInBounds L.r o) (ho : w'.os = w.os) (ht : w'.tape = w.tape) (hp : w'.output = w.output) : Ext P ι s w ι (s.write q B') w' where
  rel := by
    refine ⟨h.dom, h.top, fun q L a => by rw [hh]; simpa using h.lt q L a, fun q' B2 a => ?_, fun q1 q2 B1 B2 L1 L2 a b c d e f => ?_, Nat.le_trans (lo_write_le _ _ _).1 h.low⟩
    · rw [get_write] at a
      by_cases e : q' = q
      · subst e
        rw [if_pos rfl] at a
        obtain rfl := Option.some.inj a
        refine ⟨L, hL, ?_⟩
        rw [hh, Array.getElem?_setIfInBounds_self, if_pos (h.lt _ _ hL)]; exact hB'
      · rw [if_neg e] at a
        obtain ⟨L', hL', hB⟩ := h.blk q' B2 a
        refine ⟨L', hL', ?_⟩
        have := h.inj q q' B B2 L L' hq a hw hL hL' (Ne.symm e)
        rw [hh, Array.getElem?_setIfInBounds_ne this]; exact hB
    · rw [get_write] at a b
      by_cases e1 : q1 = q
      · subst e1
        rw [if_neg (Ne.symm f)] at b
        exact h.inj q1 q2 B B2 L1 L2 hq b hw d e f
      · rw [if_neg e1] at a
        by_cases e2 : q2 = q
        · subst e2
          exact h.inj q1 q2 B1 B L1 L2 a hq c d e f
        · rw [if_neg e2] at b
          exact h.inj q1 q2 B1 B2 L1 L2 a b c d e f
  le := .refl _
  nx := Nat.le_refl _
  sz := by rw [hh]; simp
  os := ho
  tape := ht
  output := hp
  keep r hr hn := by rw [hh, Array.getElem?_setIfInBounds_ne (hn q B L hq hw hL)]
  own q' B2 L' a b c := by
    rw [get_write] at a
    by_cases e : q' = q
    · subst e; exact .inr ⟨q', B, L', hq, hw, c, rfl⟩
    · rw [if_neg e] at a; exact .inr ⟨q', B2, L', a, b, c, rfl⟩
  img q L a := .inr ⟨q, L, a, rfl⟩
  lo := (lo_write_le _ _ _).1
  same q' hq' := by
    have := (lo_write_le s q B').2
    rw [get_write, if_neg (by omega)]

def IM.set (ι : IM) (q : Nat) (L : Loc) : IM := fun j => if j = q then some L else ι j
theorem IM.set_same (ι : IM) (q : Nat) (L : Loc) : ι.set q L q = some L := by simp [IM.set]
theorem IM.set_ne (ι : IM) {q j : Nat} (L : Loc) (h : j ≠ q) : ι.set q L j = ι j := by simp [IM.set, h]

theorem R.none (h : R P ι s w) : ι s.nx = none := by
  cases e : ι s.nx with
  | none => rfl
  | some L => have := h.top _ _ e; omega

theorem R.le_set (h : R P ι s w) (L : Loc) : IM.le ι (ι.set s.nx L) := fun q L' a => by
  rw [IM.set_ne _ _ (fun e => by rw [e, h.none] at a; cases a)]; exact a

theorem R.get_lt (h : R P ι s w) {q : Nat} {B : Blk} (a : s.h.get q = some B) : q < s.nx := let ⟨L, b, _⟩ := h.blk q B a; h.top q L b

/-- A new block. -/
theorem Ext.new (h : R P ι s w) {d n : Nat} {B : Blk} {o : Obj} (hB : BR P (ι.set s.nx ⟨w.heap.size, d, n⟩) B (some o) ⟨w.heap.size, d, n⟩)
    (hh : w'.heap = w.heap.push o) (ho : w'.os = w.os) (ht : w'.tape = w.tape) (hp : w'.output = w.output) : Ext P ι s w (ι.set s.nx ⟨w.heap.size, d, n⟩) (s.new B) w' where
  rel := by
    refine ⟨fun q hq => ?_, fun q L a => ?_, fun q L a => ?_, fun q B2 a => ?_, fun q1 q2 B1 B2 L1 L2 a b c d' e f => ?_, ?_⟩
    · by_cases e : q = s.nx
      · exact ⟨_, by rw [e, IM.set_same]⟩
      · obtain ⟨L, hL⟩ := h.dom q (by simp only [AS.new] at hq; omega)
        exact ⟨L, by rw [IM.set_ne _ _ e]; exact hL⟩
    · simp only [AS.new]
      by_cases e : q = s.nx
      · omega
      · rw [IM.set_ne _ _ e] at a; have := h.top q L a; omega
    · rw [hh, Array.size_push]
      by_cases e : q = s.nx
      · rw [e, IM.set_same] at a; obtain rfl := Option.some.inj a; exact Nat.lt_succ_self _
      · rw [IM.set_ne _ _ e] at a; have := h.lt q L a; omega
    · rw [get_new] at a
      by_cases e : q = s.nx
      · subst e
        rw [if_pos rfl] at a; obtain rfl := Option.some.inj a
        refine ⟨_, IM.set_same _ _ _, ?_⟩
        rw [hh]; simpa using hB
      · rw [if_neg e] at a
        obtain ⟨L, hL, hb⟩ := h.blk q B2 a
        refine ⟨L, by rw [IM.set_ne _ _ e]; exact hL, ?_⟩
        have := h.lt q L hL
        rw [hh, Array.getElem?_push, if_neg (by omega)]; exact hb.mono (h.le_set _)
    · rw [get_new] at a b
      by_cases e1 : q1 = s.nx
      · subst e1
        rw [if_neg (Ne.symm f)] at b
        rw [IM.set_same] at d'; obtain rfl := Option.some.inj d'
        rw [IM.set_ne _ _ (Ne.symm f)] at e
        have := h.lt _ _ e
        simp only; omega
      · rw [if_neg e1] at a
        rw [IM.set_ne _ _ e1] at d'
        by_cases e2 : q2 = s.nx
        · subst e2
          rw [IM.set_same] at e; obtain rfl := Option.some.inj e
          have := h.lt _ _ d'
          simp only; omega
        · rw [if_neg e2] at b
          rw [IM.set_ne _ _ e2] at e
          exact h.inj q1 q2 B1 B2 L1 L2 a b c d' e f
    · have := h.low; simp only [AS.new]; omega
  le := h.le_set _
  nx := by simp only [AS.new]; omega
  sz := by rw [hh]; simp
  os := ho
  tape := ht
  output := hp
  keep r hr _ := by rw [hh, Array.getElem?_push, if_neg (by omega)]
  own q B2 L a b c := by
    rw [get_new] at a
    by_cases e : q = s.nx
    · rw [e, IM.set_same] at c; obtain rfl := Option.some.inj c; exact .inl (Nat.le_refl _)
    · rw [if_neg e] at a; rw [IM.set_ne _ _ e] at c; exact .inr ⟨q, B2, L, a, b, c, rfl⟩
  img q L a := by
    by_cases e : q = s.nx
    · rw [e, IM.set_same] at a; obtain rfl := Option.some.inj a; exact .inl (Nat.le_refl _)
    · rw [IM.set_ne _ _ e] at a; exact .inr ⟨q, L, a, rfl⟩
  lo := Nat.le_refl _
  same q hq := by
    have := h.low
    rw [get_new, if_neg (by simp only [AS.new] at hq; omega)]

/-- An own block is given up. -/
theorem Ext.kill (h : R P ι s w) (q : Nat) : Ext P ι s w ι (s.kill q) w where
  rel := by
    refine ⟨h.dom, h.top, h.lt, fun q' B a => ?_, fun q1 q2 B1 B2 L1 L2 a b c d e f => ?_, Nat.le_trans (lo_kill_le _ _).1 h.low⟩
    · rw [get_kill] at a
      by_cases e : q' = q
      · rw [if_pos e] at a; cases a
      · rw [if_neg e] at a; exact h.blk q' B a
    · rw [get_kill] at a b
      by_cases e1 : q1 = q
      · rw [if_pos e1] at a; cases a
      · rw [if_neg e1] at a
        by_cases e2 : q2 = q
        · rw [if_pos e2] at b; cases b
        · rw [if_neg e2] at b; exact h.inj q1 q2 B1 B2 L1 L2 a b c d e f
  le := .refl _
  nx := Nat.le_refl _
  sz := Nat.le_refl _
  os := rfl
  tape := rfl
  output := rfl
  keep _ _ _ := rfl
  own q' B L a b c := by
    rw [get_kill] at a
    by_cases e : q' = q
    · rw [if_pos e] at a; cases a
    · rw [if_neg e] at a; exact .inr ⟨q', B, L, a, b, c, rfl⟩
  img q L a := .inr ⟨q, L, a, rfl⟩
  lo := (lo_kill_le _ _).1
  same q' hq' := by
    have := (lo_kill_le s q).2
    rw [get_kill, if_neg (by omega)]

/-- An own row goes on under a new name, its cells from a place on written in place. -/
theorem Ext.move (h : R P ι s w) {q : Nat} {B : Blk} {L : Loc} (hq : s.h.get q = some B) (hw : B.wr = true) (hL : ι q = some L) {d : Nat} {B' : Blk} {o : Obj}
    (hB' : BR P (ι.set s.nx ⟨L.r, d, L.n⟩) B' (some o) ⟨L.r, d, L.n⟩)
    (hh : w'.heap = w.heap.setIfInBounds L.r o) (ho : w'.os = w.os) (ht : w'.tape = w.tape) (hp : w'.output = w.output) : Ext P ι s w (ι.set s.nx ⟨L.r, d, L.n⟩) ((s.kill q).new B') w' where
  rel := by
    have hqn : q ≠ s.nx := by have := h.get_lt hq; omega
    have hnx : (s.kill q).nx = s.nx := rfl
    refine ⟨fun q' hq' => ?_, fun q' L' a => ?_, fun q' L' a => ?_, fun q' B2 a => ?_, fun q1 q2 B1 B2 L1 L2 a b c d' e f => ?_, ?_⟩
    · by_cases e : q' = s.nx
      · exact ⟨_, by rw [e, IM.set_same]⟩
      · obtain ⟨L, hL⟩ := h.dom q' (by simp only [AS.new, AS.kill] at hq'; omega)
        exact ⟨L, by rw [IM.set_ne _ _ e]; exact hL⟩
    · simp only [AS.new, AS.kill]
      by_cases e : q' = s.nx
      · omega
      · rw [IM.set_ne _ _ e] at a; have := h.top q' L' a; omega
    · rw [hh, Array.size_setIfInBounds]
      by_cases e : q' = s.nx
      · rw [e, IM.set_same] at a; obtain rfl := Option.some.inj a; show L.r < _; exact h.lt q L hL
      · rw [IM.set_ne _ _ e] at a; exact h.lt q' L' a
    · rw [get_new, hnx, get_kill] at a
      by_cases e : q' = s.nx
      · subst e
        rw [if_pos rfl] at a; obtain rfl := Option.some.inj a
        refine ⟨_, IM.set_same _ _ _, ?_⟩
        rw [hh, Array.getElem?_setIfInBounds_self, if_pos (h.lt _ _ hL)]; exact hB'
      · rw [if_neg e] at a
        by_cases e2 : q' = q
        · rw [if_pos e2] at a; cases a
        · rw [if_neg e2] at a
          obtain ⟨L2, hL2, hb⟩ := h.blk q' B2 a
          refine ⟨L2, by rw [IM.set_ne _ _ e]; exact hL2, ?_⟩
          have := h.inj q q' B B2 L L2 hq a hw hL hL2 (Ne.symm e2)
          rw [hh, Array.getElem?_setIfInBounds_ne this]; exact hb.mono (h.le_set _)
    · rw [get_new, hnx, get_kill] at a b
      by_cases e1 : q1 = s.nx
      · subst e1
        rw [if_neg (Ne.symm f)] at b
        rw [IM.set_same] at d'; obtain rfl := Option.some.inj d'
        rw [IM.set_ne _ _ (Ne.symm f)] at e
        by_cases e2 : q2 = q
        · rw [if_pos e2] at b; cases b
        · rw [if_neg e2] at b
          exact h.inj q q2 B B2 L L2 hq b hw hL e (Ne.symm e2)
      · rw [if_neg e1] at a
        rw [IM.set_ne _ _ e1] at d'
        by_cases e3 : q1 = q
        · rw [if_pos e3] at a; cases a
        · rw [if_neg e3] at a
          by_cases e2 : q2 = s.nx
          · subst e2
            rw [IM.set_same] at e; obtain rfl := Option.some.inj e
            exact h.inj q1 q B1 B L1 L a hq c d' hL e3
          · rw [if_neg e2] at b
            rw [IM.set_ne _ _ e2] at e
            by_cases e4 : q2 = q
            · rw [if_pos e4] at b; cases b
            · rw [if_neg e4] at b
              exact h.inj q1 q2 B1 B2 L1 L2 a b c d' e f
    · have := h.low; have := (lo_kill_le s q).1; simp only [AS.new]; rw [hnx]; omega
  le := h.le_set _
  nx := by simp only [AS.new, AS.kill]; omega
  sz := by rw [hh]; simp
  os := ho
  tape := ht
  output := hp
  keep r hr hn := by rw [hh, Array.getElem?_setIfInBounds_ne (hn q B L hq hw hL)]
  own q' B2 L' a b c := by
    rw [get_new, show (s.kill q).nx = s.nx from rfl, get_kill] at a
    by_cases e : q' = s.nx
    · rw [e, IM.set_same] at c; obtain rfl := Option.some.inj c; exact .inr ⟨q, B, L, hq, hw, hL, rfl⟩
    · rw [if_neg e] at a; rw [IM.set_ne _ _ e] at c
      by_cases e2 : q' = q
      · rw [if_pos e2] at a; cases a
      · rw [if_neg e2] at a; exact .inr ⟨q', B2, L', a, b, c, rfl⟩
  img q' L' a := by
    by_cases e : q' = s.nx
    · rw [e, IM.set_same] at a; obtain rfl := Option.some.inj a; exact .inr ⟨q, L, hL, rfl⟩
    · rw [IM.set_ne _ _ e] at a; exact .inr ⟨q', L', a, rfl⟩
  lo := (lo_kill_le s q).1
  same q' hq' := by
    have h1 := (lo_kill_le s q).2
    have h2 := (lo_kill_le s q).1
    have h3 := h.low
    have h4 : q' < (s.kill q).lo := hq'
    rw [get_new, show (s.kill q).nx = s.nx from rfl, get_kill, if_neg (by omega), if_neg (by omega)]

/-- A call that has written no old block and hands back old values alone: the state as it was. -/
theorem Ext.restore (h : R P ι s w) (hx : Ext P ι ⟨s.h, s.nx, s.nx⟩ w ι' s' w') (hlo : s.nx ≤ s'.lo) : Ext P ι s w ι s w' where
  rel := by
    refine ⟨h.dom, h.top, fun q L a => Nat.lt_of_lt_of_le (h.lt q L a) hx.sz, fun q B a => ?_, h.inj, h.low⟩
    obtain ⟨L, hL, hb⟩ := h.blk q B a
    refine ⟨L, hL, ?_⟩
    have hq := h.top q L hL
    have a' : s'.h.get q = some B := (hx.same q (by omega)).trans a
    obtain ⟨L', hL', hb'⟩ := hx.rel.blk q B a'
    obtain rfl := Option.some.inj ((hx.le q L hL).symm.trans hL')
    exact hb.back hx.le hb'
  le := .refl _
  nx := Nat.le_refl _
  sz := hx.sz
  os := hx.os
  tape := hx.tape
  output := hx.output
  keep r hr hn := hx.keep r hr hn
  own q B L a b c := .inr ⟨q, B, L, a, b, c, rfl⟩
  img q L a := .inr ⟨q, L, a, rfl⟩
  lo := Nat.le_refl _
  same _ _ := rfl

/-- A call: what was below 'lo' before. -/
theorem Ext.called (h : R P ι s w) (hx : Ext P ι ⟨s.h, s.nx, s.nx⟩ w ι' s' w') : Ext P ι s w ι' ⟨s'.h, s'.nx, bif Nat.ble s.lo s'.lo then s.lo else s'.lo⟩ w' := by
  have hm : (bif Nat.ble s.lo s'.lo then s.lo else s'.lo) ≤ s.lo ∧ (bif Nat.ble s.lo s'.lo then s.lo else s'.lo) ≤ s'.lo := by
    cases e : Nat.ble s.lo s'.lo
    · have : ¬ s.lo ≤ s'.lo := fun g => by rw [Nat.ble_eq_true_of_le g] at e; cases e
      simp only [cond_false]; omega
    · have := Nat.le_of_ble_eq_true e
      simp only [cond_true]; omega
  have hnx := hx.nx
  have hl := h.low
  simp only at hnx
  exact ⟨⟨hx.rel.dom, hx.rel.top, hx.rel.lt, hx.rel.blk, hx.rel.inj, by simp only; omega⟩, hx.le, hx.nx, hx.sz, hx.os, hx.tape, hx.output, hx.keep, hx.own, hx.img, hm.1,
    fun q hq => hx.same q (Nat.lt_of_lt_of_le hq hm.2)⟩

/-- The mark 'lo' set anew. -/
theorem R.mark (h : R P ι s w) : R P ι ⟨s.h, s.nx, s.nx⟩ w := ⟨h.dom, h.top, h.lt, h.blk, h.inj, Nat.le_refl _⟩

/-- A block of the model's own that no abstract block stands for is turned, made since the call began. -/
theorem Ext.side (hx : Ext P ι s w ι' s' w') {r : Nat} {o : Obj} (hr : w.heap.size ≤ r) (hn : ∀ q L, ι' q = some L → L.r ≠ r)
    (hh : w''.heap = w'.heap.setIfInBounds r o) (ho : w''.os = w'.os) (ht : w''.tape = w'.tape) (hp : w''.output = w'.output) : Ext P ι s w ι' s' w'' where
  rel := by
    refine ⟨hx.rel.dom, hx.rel.top, fun q L a => by rw [hh]; simpa using hx.rel.lt q L a, fun q B a => ?_, hx.rel.inj, hx.rel.low⟩
    obtain ⟨L, hL, hb⟩ := hx.rel.blk q B a
    exact ⟨L, hL, by rw [hh, Array.getElem?_setIfInBounds_ne (Ne.symm (hn q L hL))]; exact hb⟩
  le := hx.le
  nx := hx.nx
  sz := by rw [hh]; simpa using hx.sz
  os := ho.trans hx.os
  tape := ht.trans hx.tape
  output := hp.trans hx.output
  keep r' hr' hn' := by rw [hh, Array.getElem?_setIfInBounds_ne (by omega)]; exact hx.keep r' hr' hn'
  own := hx.own
  img := hx.img
  lo := hx.lo
  same := hx.same

end Go.AM
