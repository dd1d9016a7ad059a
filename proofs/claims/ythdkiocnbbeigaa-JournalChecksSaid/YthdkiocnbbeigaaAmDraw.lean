/- The abstract machine is sound: regions that draw their order. -/
import Derived.Test.YthdkiocnbbeigaaAmDraw1
namespace Go.AM
set_option linter.unusedVariables false
set_option linter.unusedSimpArgs false

variable {P : Program}

/-- What the check of a region that draws its order says. -/
structure DrawSpec (ops : Array Oper) (befs : List Nat) (l : List AOper) : Prop where
  bef : ∀ j b oj, ops[j]? = some oj → b < ops.size → (befs.getD j 0).testBit b = true → b < j ∧ ∃ e ∈ oj.after, Region.binds .any e = true ∧ (e.on = b ∨ (befs.getD e.on 0).testBit b = true)
  back : ∀ j oj, ops[j]? = some oj → ∀ e ∈ oj.after, Region.binds .any e = true → e.on < j
  dst : ∀ i j ai aj d, i < j → j < ops.size → l[i]? = some ai → l[j]? = some aj → ai.dst = some d → (aj.dst = some d ∨ d ∈ tmpsOf aj) → (befs.getD j 0).testBit i = true
  use : ∀ i j ai aj d, i < j → j < ops.size → l[i]? = some ai → l[j]? = some aj → aj.dst = some d → d ∈ tmpsOf ai → (befs.getD j 0).testBit i = true

theorem drawOk_spec {ops : Array Oper} {befs : List Nat} {l : List AOper} (h : drawOk ops befs l = true) : DrawSpec ops befs l := by
  simp only [drawOk, List.all_eq_true, List.mem_range] at h
  have lrow : ∀ j oj, ops[j]? = some oj → ∃ aj, l[j]? = some aj := fun j oj h1 => by
    have := h j (Array.getElem?_eq_some_iff.1 h1).1
    simp only [h1] at this
    cases hl : l[j]? with
    | none => simp [hl] at this
    | some aj => exact ⟨aj, hl⟩
  have orow : ∀ j, j < ops.size → ∃ oj, ops[j]? = some oj := fun j h1 => ⟨ops[j], Array.getElem?_eq_getElem h1⟩
  refine ⟨fun j b oj h1 hb h2 => ?_, fun j oj h1 e he hbd => ?_, fun i j ai aj d hij hj h1 h2 h3 h4 => ?_, fun i j ai aj d hij hj h1 h2 h3 h4 => ?_⟩
  · obtain ⟨aj, ha⟩ := lrow j oj h1
    have := h j (Array.getElem?_eq_some_iff.1 h1).1
    simp only [h1, ha, Bool.and_eq_true, List.all_eq_true, List.mem_range, Bool.or_eq_true, Bool.not_eq_true', List.any_eq_true, beq_iff_eq, Array.mem_toList_iff] at this
    rcases this.1.1 b hb with g | ⟨g, e, he, g1, g2⟩
    · rw [g] at h2; cases h2
    · exact ⟨by simpa [Nat.blt_eq] using g, e, he, g1, g2⟩
  · obtain ⟨aj, ha⟩ := lrow j oj h1
    have := h j (Array.getElem?_eq_some_iff.1 h1).1
    simp only [h1, ha, Bool.and_eq_true, List.all_eq_true, List.mem_range, Bool.or_eq_true, Bool.not_eq_true', List.any_eq_true, beq_iff_eq, Array.mem_toList_iff] at this
    rcases this.1.2 e he with g | g
    · rw [hbd] at g; cases g
    · simpa [Nat.blt_eq] using g
  · obtain ⟨oj, ho⟩ := orow j hj
    have := h j hj
    simp only [ho, h2, Bool.and_eq_true, List.all_eq_true, List.mem_range] at this
    have := this.2 i hij
    simp only [h1, h3, Bool.and_eq_true, Bool.or_eq_true, Bool.not_eq_true', beq_eq_false_iff_ne] at this
    rcases this.1 with g | g
    · exfalso
      rcases h4 with e | e
      · exact g.1 e
      · have := g.2; rw [List.contains_eq_mem] at this; simp at this; exact this e
    · exact g
  · obtain ⟨oj, ho⟩ := orow j hj
    have := h j hj
    simp only [ho, h2, Bool.and_eq_true, List.all_eq_true, List.mem_range] at this
    have := this.2 i hij
    simp only [h1, h3, Bool.and_eq_true, Bool.or_eq_true, Bool.not_eq_true'] at this
    rcases this.2 with g | g
    · exfalso
      rw [List.contains_eq_mem] at g; simp at g; exact g h4
    · exact g

theorem cond_some {α : Type} {b : Bool} {x y : α} (h : (bif b then some x else none) = some y) : b = true ∧ x = y := by
  cases b <;> simp at h ⊢
  exact h

def Lis (listed : Array Bool) (i : Nat) : Prop := listed.getD i false = true

theorem lis_lt {listed : Array Bool} {i : Nat} (h : Lis listed i) : i < listed.size := by
  rcases Nat.lt_or_ge i listed.size with g | g
  · exact g
  · simp [Lis, Array.getElem?_eq_none g] at h

theorem lis_set {listed : Array Bool} {j : Nat} (hj : j < listed.size) (i : Nat) : Lis (listed.setIfInBounds j true) i ↔ Lis listed i ∨ i = j := by
  unfold Lis
  simp only [Array.getD_eq_getD_getElem?, Array.getElem?_setIfInBounds]
  by_cases e : j = i
  · subst e; simp [hj]
  · simp [e, Ne.symm e]

theorem unlis {listed : Array Bool} {i : Nat} : listed.getD i true = false ↔ i < listed.size ∧ ¬ Lis listed i := by
  unfold Lis
  rcases Nat.lt_or_ge i listed.size with g | g
  · simp [g]
  · simp [Array.getElem?_eq_none g, Nat.not_lt.2 g]

/-- How many are still to come. -/
def left (listed : Array Bool) (n : Nat) : Nat := ((List.range n).filter (fun i => !listed.getD i false)).length

theorem left_zero {listed : Array Bool} {n : Nat} (h : left listed n = 0) {i : Nat} (hi : i < n) : Lis listed i := by
  have := List.filter_eq_nil_iff.1 (List.length_eq_zero_iff.1 h) i (List.mem_range.2 hi)
  simpa [Lis] using this

theorem filter_lt {α : Type} (p q : α → Bool) : ∀ (l : List α), (∀ x ∈ l, q x = true → p x = true) → (∃ x ∈ l, p x = true ∧ q x = false) → (l.filter q).length < (l.filter p).length
  | [], _, h => by simp at h
  | x :: r, h1, h2 => by
    have hle : (r.filter q).length ≤ (r.filter p).length := by
      clear h2
      induction r with
      | nil => simp
      | cons y r ih =>
        have i1 := ih (fun z hz => h1 z (by simp only [List.mem_cons] at hz ⊢; rcases hz with g | g <;> simp [g]))
        have i2 := h1 y (by simp)
        cases hq : q y <;> cases hp : p y <;> simp [hq, hp] at i2 ⊢ <;> omega
    have h3 := h1 x (by simp)
    obtain ⟨z, hz, z1, z2⟩ := h2
    simp only [List.mem_cons] at hz
    rcases hz with rfl | hz
    · simp [z1, z2]; omega
    · have := filter_lt p q r (fun y hy => h1 y (by simp [hy])) ⟨z, hz, z1, z2⟩
      cases hq : q x <;> cases hp : p x <;> simp [hq, hp] at h3 ⊢ <;> omega

theorem left_set {listed : Array Bool} {n j : Nat} (hj : j < n) (hs : j < listed.size) (hn : ¬ Lis listed j) : left (listed.setIfInBounds j true) n < left listed n := by
  refine filter_lt _ _ _ (fun x _ hx => ?_) ⟨j, List.mem_range.2 hj, by simpa [Lis] using hn, ?_⟩
  · by_cases h : Lis listed x
    · have : Lis (listed.setIfInBounds j true) x := (lis_set hs x).2 (.inl h)
      simp only [Lis] at this
      simp only [this] at hx
      cases hx
    · simpa [Lis] using h
  · have : Lis (listed.setIfInBounds j true) j := (lis_set hs j).2 (.inr rfl)
    simp only [Lis] at this
    simp [this]

/-- Every place that must stand ahead of a place whose edges are listed is listed. -/
theorem closed_bef {ops : Array Oper} {befs : List Nat} {l : List AOper} (hd : DrawSpec ops befs l) {L : Nat → Prop}
    (hcl : ∀ j oj, ops[j]? = some oj → L j → ∀ e ∈ oj.after, Region.binds .any e = true → L e.on) :
    ∀ (j : Nat) (oj : Oper), ops[j]? = some oj → (∀ e ∈ oj.after, Region.binds .any e = true → L e.on) → ∀ b, b < ops.size → (befs.getD j 0).testBit b = true → L b := by
  intro j
  induction j using Nat.strongRecOn with
  | ind j ih =>
    intro oj ho hall b hb ht
    obtain ⟨_, e, he, hbd, hor⟩ := hd.bef j b oj ho hb ht
    have hl := hall e he hbd
    rcases hor with g | g
    · rw [← g]; exact hl
    · have hlt := hd.back j oj ho e he hbd
      have hsz : e.on < ops.size := Nat.lt_trans hlt (Array.getElem?_eq_some_iff.1 ho).1
      exact ih e.on hlt ops[e.on] (Array.getElem?_eq_getElem hsz) (hcl _ _ (Array.getElem?_eq_getElem hsz) hl) b hb g

structure Inv (P : Program) (ops : Array Oper) (l : List AOper) (vs : List (AV × Bool)) (ss : List AS) (nt : Nat) (t0 : T AV) (ι0 : IM) (s0 : AS) (w0 : World) (df : List Deferred)
    (listed : Array Bool) (a : Act) (w : World) (ι : IM) (m : Nat) (S : AS) (tc : T AV) : Prop where
  size : listed.size = ops.size
  closed : ∀ j oj, ops[j]? = some oj → Lis listed j → ∀ e ∈ oj.after, Region.binds .any e = true → Lis listed e.on
  st : ss[m]? = some S
  loudL : ∀ k i, (loud vs 0)[k]? = some i → (Lis listed i ↔ k < m)
  cur : Cur l vs t0 (Lis listed) tc
  tr : TR ι tc nt a.tmps
  ext : Ext P ι0 s0 w0 ι S w
  defs : a.defers = df

theorem adraw_ok {call : Caller} (hm : P.follows .mixedOrders = true) (hcall : CallerOk P call) {ops : Array Oper} {l : List AOper} {befs : List Nat} (hget : ∀ (i : Nat) (ao : AOper), l[i]? = some ao → ∃ o, ops[i]? = some o ∧ cOper P ops o = some ao)
    (hlen : l.length = ops.size) (hd : drawOk ops befs l = true) {st st' : St} (h : adraw call befs l st = some st') {ι : IM} {w : World} {a : Act} (hT : TR ι st.t st.n a.tmps) (hR : R P ι st.s w) {r : Option Nat} {n id : Nat} {Q : Exit → Act → World → Prop}
    (hQ : ∀ ι' w' a', Ext P ι st.s w ι' st'.s w' → TR ι' st'.t st'.n a'.tmps → a'.defers = a.defers → Q .normal a' w') : (Code.region id ops true).wpIn (FR r) n P Q a w := by
  have hD := drawOk_spec hd
  unfold adraw at h
  split at h <;> (try (simp only [reduceCtorEq] at h; done))
  rename_i vs ss fin hscan
  obtain ⟨hb, rfl⟩ := cond_some h
  simp only [Bool.and_eq_true] at hb
  obtain ⟨hord, hall⟩ := hb
  obtain ⟨hvl, hs0, hft, hfn, hfs, hsl, hat⟩ := dscan_spec l st vs ss fin hscan
  have hN := fun m i => loud_spec vs 0 m i
  have hNl : (loud vs 0).length = mAt vs l.length := by rw [loud_len, hvl]
  -- a quiet operation in whatever state of the list
  have quiet : ∀ j o v m S, l[j]? = some o → vs[j]? = some (v, true) → ss[m]? = some S → (m = mAt vs j ∨ meets befs (loud vs 0) j m = false ∨ sameThere call (tAt l vs st.t j) o v S = true) := by
    intro j o v m S h1 h2 h3
    have hm1 : m < ss.length := (List.getElem?_eq_some_iff.1 h3).1
    have hj : j < l.length := (List.getElem?_eq_some_iff.1 h1).1
    have hmj := mAt_le vs j
    rw [hvl] at hmj
    have one : ss.length = 1 → m = mAt vs j := fun e => by omega
    cases ss with
    | nil => simp at h3
    | cons x r =>
      cases r with
      | nil => exact .inl (one rfl)
      | cons y r =>
        have := statesOk_spec (dall_spec hall j o v h1 h2) m S h3
        simpa using this
  -- what the draw begins in
  refine wpIn_region_any hm ?_
  have hx0 : Ext P ι st.s w ι st.s { w with drawn := w.drawn + 1 } := Ext.world hR rfl rfl rfl rfl
  suffices main : ∀ (fuel : Nat) (listed : Array Bool) (a1 : Act) (w1 : World) (ι1 : IM) (m : Nat) (S : AS) (tc : T AV), left listed ops.size ≤ fuel →
      Inv P ops l vs ss st.n st.t ι st.s w a.defers listed a1 w1 ι1 m S tc → wpAnyIn (FR r) n P .any ops Q fuel listed a1 w1 by
    have hno : ∀ i, ¬ Lis (Array.replicate ops.size false) i := fun i hi => by
      have := lis_lt hi
      simp [Lis] at hi this
      simp [this] at hi
    refine main ops.size _ a _ ι 0 st.s st.t ?_ ⟨by simp, fun j oj _ hj => absurd hj (hno j), hs0, fun k i _ => ⟨fun hi => absurd hi (hno i), fun hk => by omega⟩, .start _ _ _ hno, hT, hx0, rfl⟩
    exact Nat.le_trans (List.length_filter_le _ _) (by simp)
  -- when nothing is ready all are listed
  have done : ∀ (listed : Array Bool) (a1 : Act) (w1 : World) (ι1 : IM) (m : Nat) (S : AS) (tc : T AV), Inv P ops l vs ss st.n st.t ι st.s w a.defers listed a1 w1 ι1 m S tc →
      Region.ready .any ops listed = [] → Q .normal a1 w1 := by
    intro listed a1 w1 ι1 m S tc hI hr
    have hallL : ∀ j, j < ops.size → Lis listed j := by
      intro j
      induction j using Nat.strongRecOn with
      | ind j ih =>
        intro hj
        refine Classical.byContradiction fun hn => ?_
        have : j ∈ Region.ready .any ops listed := mem_ready.2 ⟨unlis.2 ⟨by rw [hI.size]; exact hj, hn⟩, ops[j], Array.getElem?_eq_getElem hj, fun e he hbd => by
          have hlt := hD.back j _ (Array.getElem?_eq_getElem hj) e he hbd
          exact ih e.on hlt (by omega)⟩
        rw [hr] at this
        cases this
    have hm1 : m < ss.length := (List.getElem?_eq_some_iff.1 hI.st).1
    have hme : m = mAt vs l.length := by
      refine Classical.byContradiction fun hne => ?_
      have hlt : m < (loud vs 0).length := by omega
      have e := List.getElem?_eq_getElem hlt
      have hi := (hN m _).1 e
      obtain ⟨j, v, hj, h2, _⟩ := hi
      have hjl : j < vs.length := (List.getElem?_eq_some_iff.1 h2).1
      have := (hI.loudL m _ e).1 (hallL _ (by omega))
      omega
    have hSf : S = fin.s := by
      have := hI.st
      rw [hme, hfs] at this
      exact (Option.some.inj this).symm
    subst hSf
    refine hQ ι1 w1 a1 hI.ext ⟨by rw [hfn]; exact hI.tr.sz, fun k v hk => hI.tr.get k v ?_⟩ hI.defs
    rw [← hk, hft]
    refine hI.cur.agree (Cur.tAt l vs st.t hvl l.length (Nat.le_refl _)) (fun i o hi _ => ?_)
    have : i < l.length := (List.getElem?_eq_some_iff.1 hi).1
    exact ⟨fun _ => this, fun _ => hallL i (by omega)⟩
  intro fuel
  induction fuel with
  | zero =>
    intro listed a1 w1 ι1 m S tc hc hI
    have hr : Region.ready .any ops listed = [] := by
      refine List.eq_nil_iff_forall_not_mem.2 fun j hj => ?_
      obtain ⟨h0, o, ho, _⟩ := mem_ready.1 hj
      exact (unlis.1 h0).2 (left_zero (by omega) (Array.getElem?_eq_some_iff.1 ho).1)
    exact ⟨hr, done _ _ _ _ _ _ _ hI hr⟩
  | succ fuel ih =>
    intro listed a1 w1 ι1 m S tc hc hI
    refine ⟨done _ _ _ _ _ _ _ hI, fun j hj => ?_⟩
    obtain ⟨h0, oj, ho, hedge⟩ := mem_ready.1 hj
    obtain ⟨hjs, hjn⟩ := unlis.1 h0
    have hjo : j < ops.size := (Array.getElem?_eq_some_iff.1 ho).1
    obtain ⟨ao, v, q, sj, e1, e2, e3, e4, e5⟩ := hat j (by omega)
    obtain ⟨o', ho', hcp⟩ := hget j ao e1
    rw [ho] at ho'
    obtain rfl := Option.some.inj ho'
    obtain ⟨c1, c2, c3⟩ := cOper_parts hcp
    -- those ahead of it
    have hbefj : ∀ b, b < ops.size → (befs.getD j 0).testBit b = true → Lis listed b := closed_bef hD hI.closed j oj ho hedge
    have hbefL : ∀ i, i < ops.size → Lis listed i → (befs.getD i 0).testBit j = true → False := fun i hi hil ht =>
      hjn (closed_bef hD hI.closed i ops[i] (Array.getElem?_eq_getElem hi) (hI.closed i _ (Array.getElem?_eq_getElem hi) hil) j hjo ht)
    have hag : agree tc (tAt l vs st.t j) ao := fun d hdm => by
      refine hI.cur.agree (Cur.tAt l vs st.t hvl j (by omega)) (fun i oi hi hdi => ?_)
      have hil : i < l.length := (List.getElem?_eq_some_iff.1 hi).1
      constructor
      · intro hli
        rcases Nat.lt_trichotomy i j with g | g | g
        · exact g
        · subst g; exact absurd hli hjn
        · exact absurd (hD.use j i ao oi d g (by omega) e1 hi hdi hdm) (fun ht => hbefL i (by omega) hli ht)
      · intro hij
        exact hbefj i (by omega) (hD.dst i j oi ao d hij hjo hi e1 hdi (.inr hdm))
    -- the state it is met in
    have hloud : q = false → m = mAt vs j := by
      intro hq; subst hq
      have hNj : (loud vs 0)[mAt vs j]? = some j := (hN _ _).2 ⟨j, v, by omega, e2, rfl⟩
      have h1 : ¬ mAt vs j < m := fun hlt => hjn ((hI.loudL _ _ hNj).2 hlt)
      have hml : mAt vs j < (loud vs 0).length := (List.getElem?_eq_some_iff.1 hNj).1
      refine Classical.byContradiction fun hne => ?_
      have hlt : m < mAt vs j := by omega
      have em := List.getElem?_eq_getElem (l := loud vs 0) (i := m) (by omega)
      have hb := inOrder_spec hord m (mAt vs j) _ j hlt em hNj
      obtain ⟨i', u, hi', h2, _⟩ := (hN m _).1 em
      have hil : i' < vs.length := (List.getElem?_eq_some_iff.1 h2).1
      have := (hI.loudL m _ em).1 (hbefj _ (by omega) hb)
      omega
    have hmeets : meets befs (loud vs 0) j m = true := by
      simp only [meets, Bool.and_eq_true, List.all_eq_true, Bool.not_eq_true']
      constructor
      · intro i hi
        obtain ⟨k, hk⟩ := List.getElem?_of_mem hi
        rw [List.getElem?_take] at hk
        split at hk
        · rename_i hkm
          obtain ⟨i', u, hi', h2, _⟩ := (hN k i).1 hk
          have hil : i' < vs.length := (List.getElem?_eq_some_iff.1 h2).1
          have hli := (hI.loudL k i hk).2 hkm
          cases hbt : (befs.getD i 0).testBit j
          · rfl
          · exact (hbefL i (by omega) hli hbt).elim
        · cases hk
      · intro i hi
        obtain ⟨k, hk⟩ := List.getElem?_of_mem hi
        rw [List.getElem?_drop] at hk
        obtain ⟨i', u, hi', h2, _⟩ := (hN _ i).1 hk
        have hil : i' < vs.length := (List.getElem?_eq_some_iff.1 h2).1
        cases hbt : (befs.getD j 0).testBit i
        · rfl
        · have := (hI.loudL _ i hk).1 (hbefj i (by omega) hbt)
          omega
    -- what comes after
    have after : ∀ (ι2 : IM) (w2 : World) (S2 : AS) (m2 : Nat) (vv : Value), Ext P ι1 S w1 ι2 S2 w2 → VR ι2 v vv → ss[m2]? = some S2 → (q = true → m2 = m) → (q = false → m2 = m + 1) →
        wpAnyIn (FR r) n P .any ops Q fuel (listed.setIfInBounds j true) (a1.put oj.dst vv) w2 := by
      intro ι2 w2 S2 m2 vv hx hv hs2 hq1 hq2
      have hls := lis_set (listed := listed) hjs
      refine ih _ _ _ ι2 m2 S2 (putD tc ao.dst v) ?_ ⟨by simp [hI.size], fun k ok hok hk e he hbd => ?_, hs2, fun k i hki => ?_, ?_, ?_, hI.ext.trans hx, ?_⟩
      · have := left_set (n := ops.size) hjo hjs hjn
        omega
      · refine (hls _).2 (.inl ?_)
        rcases (hls k).1 hk with g | g
        · exact hI.closed k ok hok g e he hbd
        · subst g
          rw [ho] at hok
          obtain rfl := Option.some.inj hok
          exact hedge e he hbd
      · rw [hls]
        obtain ⟨i', u, hi', h2, h3⟩ := (hN k i).1 hki
        have hii : i' = i := by omega
        subst hii
        by_cases hij : i' = j
        · subst hij
          rw [e2] at h2
          obtain ⟨rfl, rfl⟩ := Prod.mk.inj (Option.some.inj h2)
          have := hloud rfl
          have := hq2 rfl
          exact ⟨fun _ => by omega, fun _ => .inr rfl⟩
        · have hl := hI.loudL k i' hki
          cases q with
          | true =>
            rw [hq1 rfl]
            exact ⟨fun g => hl.1 (g.resolve_right hij), fun g => .inl (hl.2 g)⟩
          | false =>
            rw [hq2 rfl]
            have hmj := hloud rfl
            have hkm : k ≠ m := fun e => by
              subst e
              have hNj : (loud vs 0)[mAt vs j]? = some j := (hN _ _).2 ⟨j, v, by omega, e2, rfl⟩
              rw [← hmj, hki] at hNj
              exact hij (Option.some.inj hNj)
            exact ⟨fun g => by have := hl.1 (g.resolve_right hij); omega, fun g => .inl (hl.2 (by omega))⟩
      · refine hI.cur.put e1 e2 hls (fun i o' hi ho' d hd1 hd2 => ?_)
        have hil : i < l.length := (List.getElem?_eq_some_iff.1 ho').1
        refine Classical.byContradiction fun hn => ?_
        have := hD.dst j i ao o' d (by omega) (by omega) e1 ho' hd1 (.inl hd2)
        exact hbefL i (by omega) hi this
      · have hT2 : TR ι2 tc st.n a1.tmps := hI.tr.mono hx.le
        rw [← c3]
        cases hdst : ao.dst with
        | none => exact hT2
        | some d => exact TR.put hT2 (e4 d hdst) hv
      · rw [← hI.defs]
        cases oj.dst <;> rfl
    unfold wpOpIn
    simp only [ho]
    have hTc : TR ι1 tc st.n a1.tmps := hI.tr
    rcases e5 with ⟨hw, s', hop, hnext⟩ | ⟨hw, hv0, hq0⟩
    · rw [← wanted_congr hag] at hw
      rw [← aoper_congr hag] at hop
      have hwant := wanted_ok hTc c1 hw
      rw [if_pos hwant]
      have use : ∀ S2, aoper call (ev tc) ao.op S = some (v, S2, q) → (q = false → ss[m + 1]? = some S2) → oj.wpIn (FR r) n P a1 w1 (wpAnyIn (FR r) n P .any ops Q fuel (listed.setIfInBounds j true)) Q := by
        intro S2 hop2 hn2
        refine oper_ok hcall c2 hTc hI.ext.rel hop2 r n (fun vv ι2 w2 hx hv hq => ?_)
        cases q with
        | true =>
          obtain ⟨rfl, _⟩ := hq rfl
          exact after ι2 w2 _ m vv hx hv hI.st (fun _ => rfl) (fun e => by cases e)
        | false => exact after ι2 w2 S2 (m + 1) vv hx hv (hn2 rfl) (fun e => by cases e) (fun _ => rfl)
      by_cases hmm : m = mAt vs j
      · have : S = sj := by
          have := hI.st
          rw [hmm, e3] at this
          exact (Option.some.inj this).symm
        subst this
        exact use s' hop (fun hq => by rw [hmm]; exact hnext hq)
      · cases q with
        | false => exact absurd (hloud rfl) hmm
        | true =>
          rcases quiet j ao v m S e1 e2 hI.st with g | g | g
          · exact absurd g hmm
          · rw [hmeets] at g; cases g
          · unfold sameThere at g
            rw [← wanted_congr hag, hw] at g
            simp only [← aoper_congr hag] at g
            split at g
            · rename_i v' S2 hop2
              have := AV.beq_eq _ _ g
              subst this
              exact use S2 hop2 (fun e => by cases e)
            · cases g
    · rw [← wanted_congr hag] at hw
      have hwant := wanted_ok hTc c1 hw
      rw [if_neg (by rw [hwant]; simp)]
      subst hv0; subst hq0
      exact ⟨fr_about r, after ι1 w1 S m undef (.refl hI.ext.rel) (VR.tu .nil) hI.st (fun _ => rfl) (fun e => by cases e)⟩

end Go.AM
