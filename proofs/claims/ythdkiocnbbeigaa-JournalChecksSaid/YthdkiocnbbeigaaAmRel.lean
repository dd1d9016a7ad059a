/- The abstract machine and the model: how values, blocks and worlds stand to each other. -/
import Derived.Test.YthdkiocnbbeigaaAmRun
import Derived.Laws.Sem
import Derived.Laws.World
namespace Go.AM

/-! ### The tree -/

theorem T.get_setF {α : Type} : ∀ (f : Nat) (t : T α) (k : Nat) (x : Option α) (j : Nat), k < f → (T.setF f t k x).get j = if j = k then x else t.get j := by
  intro f
  induction f with
  | zero => intro t k x j h; omega
  | succ f ih =>
    intro t k x j h
    have e0 : ∀ j : Nat, (T.e : T α).get j = none := fun _ => rfl
    have key : ∀ (v : Option α) (l r : T α), (bif k == 0 then T.n x l r else bif k % 2 == 1 then T.n v (T.setF f l (k / 2) x) r else T.n v l (T.setF f r (k / 2 - 1) x)).get j = if j = k then x else (T.n v l r).get j := by
      intro v l r
      by_cases hk : k = 0
      · subst hk
        by_cases hj : j = 0
        · subst hj; simp [T.get]
        · have : (j == 0) = false := by simpa using hj
          simp [T.get, this, hj]
      · have hk' : (k == 0) = false := by simpa using hk
        by_cases ho : k % 2 = 1
        · have ho' : (k % 2 == 1) = true := by simpa using ho
          simp only [hk', ho', cond_true, cond_false, T.get]
          by_cases hj : j = 0
          · have : j ≠ k := by omega
            simp [hj]; intro h; omega
          · have hj' : (j == 0) = false := by simpa using hj
            by_cases hjo : j % 2 = 1
            · have hjo' : (j % 2 == 1) = true := by simpa using hjo
              simp only [hj', hjo', cond_true, cond_false]
              rw [ih _ _ _ _ (by omega)]
              by_cases e : j = k
              · simp [e]
              · rw [if_neg (by omega), if_neg e]
            · have hjo' : (j % 2 == 1) = false := by simpa using hjo
              simp only [hj', hjo', cond_false]
              rw [if_neg (by omega)]
        · have ho' : (k % 2 == 1) = false := by simpa using ho
          simp only [hk', ho', cond_false, T.get]
          by_cases hj : j = 0
          · have : j ≠ k := by omega
            simp [hj]; intro h; omega
          · have hj' : (j == 0) = false := by simpa using hj
            by_cases hjo : j % 2 = 1
            · have hjo' : (j % 2 == 1) = true := by simpa using hjo
              simp only [hj', hjo', cond_true, cond_false]
              rw [if_neg (by omega)]
            · have hjo' : (j % 2 == 1) = false := by simpa using hjo
              simp only [hj', hjo', cond_false]
              rw [ih _ _ _ _ (by omega)]
              by_cases e : j = k
              · simp [e]
              · rw [if_neg (by omega), if_neg e]
    cases t with
    | e =>
      have h1 := key none .e .e
      simp only [T.setF]
      have h2 : (T.n none T.e T.e : T α).get j = (T.e : T α).get j := by
        simp only [T.get]; cases (j == 0) <;> cases (j % 2 == 1) <;> rfl
      rw [h2] at h1; exact h1
    | n v l r => exact key v l r

theorem T.get_put {α : Type} (t : T α) (k : Nat) (x : Option α) (j : Nat) : (t.put k x).get j = if j = k then x else t.get j :=
  T.get_setF (k + 1) t k x j (by omega)

theorem T.get_put_same {α : Type} (t : T α) (k : Nat) (x : Option α) : (t.put k x).get k = x := by rw [T.get_put, if_pos rfl]
theorem T.get_put_ne {α : Type} (t : T α) (k : Nat) (x : Option α) (j : Nat) (h : j ≠ k) : (t.put k x).get j = t.get j := by rw [T.get_put, if_neg h]

/-! ### Values -/

/-- Where an abstract block lies: the model's block, the first cell, how many cells the model's block has. -/
structure Loc where
  r : Nat
  d : Nat
  n : Nat

abbrev IM := Nat → Option Loc

mutual
inductive VR (ι : IM) : AV → Value → Prop
  | un (v : Value) : VR ι .un v
  | b (x : Bool) : VR ι (.b x) (.bool x)
  | i (k : IntKind) (n : Int) : VR ι (.i k n) (.int k n)
  | s (l : List UInt8) : VR ι (.s l) (.string ⟨l.toArray⟩)
  | pn : VR ι .pn (.pointer none)
  | p {q o : Nat} {L : Loc} (h : ι q = some L) : VR ι (.p q o) (.pointer (some ⟨L.r, L.d + o, none⟩))
  | sn : VR ι .sn (.slice none 0 0)
  | sl {q o z len cap : Nat} {ex : Bool} {L : Loc} {p : Addr} {cap' : Nat} (h : ι q = some L) (hl : len ≤ cap') (hc : cap ≤ cap') (he : ex = true → cap' = cap)
      (hb : cap' = 0 ∨ (p = ⟨L.r, L.d + o, none⟩ ∧ L.d + o + cap' * z ≤ L.n)) : VR ι (.sl q o z len cap ex) (.slice (some p) len cap')
  | mn : VR ι .mn (.map none)
  | m {q : Nat} {L : Loc} (h : ι q = some L) : VR ι (.m q) (.map (some L.r))
  | fn {f : Nat} {c : List AV} {cs : List Value} (h : VRs ι c cs) : VR ι (.fn f c) (.func (.func f) #[] cs.toArray)
  | yl {q : Nat} {L : Loc} (h : ι q = some L) : VR ι (.yl q) (.func (.yield L.r) #[] #[])
  | nf : VR ι .nf .nilFunc
  | nif : VR ι .nif .nilIface
  | ag {l : List AV} {vs : List Value} (h : VRs ι l vs) : VR ι (.ag l) (.agg vs.toArray)
  | tu {l : List AV} {vs : List Value} (h : VRs ι l vs) : VR ι (.tu l) (.tuple vs.toArray)
inductive VRs (ι : IM) : List AV → List Value → Prop
  | nil : VRs ι [] []
  | cons {a : AV} {v : Value} {l : List AV} {vs : List Value} (h : VR ι a v) (r : VRs ι l vs) : VRs ι (a :: l) (v :: vs)
end

def IM.le (ι ι' : IM) : Prop := ∀ q L, ι q = some L → ι' q = some L
theorem IM.le.refl (ι : IM) : IM.le ι ι := fun _ _ h => h
theorem IM.le.trans {a b c : IM} (h : IM.le a b) (k : IM.le b c) : IM.le a c := fun q L x => k q L (h q L x)

mutual
theorem VR.mono {ι ι' : IM} (hi : IM.le ι ι') : ∀ {a : AV} {v : Value}, VR ι a v → VR ι' a v
  | _, _, .un v => .un v
  | _, _, .b x => .b x
  | _, _, .i k n => .i k n
  | _, _, .s l => .s l
  | _, _, .pn => .pn
  | _, _, .p h => by exact VR.p (hi _ _ h)
  | _, _, .sn => .sn
  | _, _, .sl h hl hc he hb => .sl (hi _ _ h) hl hc he hb
  | _, _, .mn => .mn
  | _, _, .m h => .m (hi _ _ h)
  | _, _, .fn h => .fn (VRs.mono hi h)
  | _, _, .yl h => .yl (hi _ _ h)
  | _, _, .nf => .nf
  | _, _, .nif => .nif
  | _, _, .ag h => .ag (VRs.mono hi h)
  | _, _, .tu h => .tu (VRs.mono hi h)
theorem VRs.mono {ι ι' : IM} (hi : IM.le ι ι') : ∀ {l : List AV} {vs : List Value}, VRs ι l vs → VRs ι' l vs
  | _, _, .nil => .nil
  | _, _, .cons h r => .cons (VR.mono hi h) (VRs.mono hi r)
end

mutual
/-- What names old blocks alone stands as well under the elder map. -/
theorem VR.old {ι ι' : IM} {n : Nat} (hi : IM.le ι ι') (hd : ∀ q, q < n → ∃ L, ι q = some L) : ∀ {a : AV} {v : Value}, AV.old n a = true → VR ι' a v → VR ι a v
  | _, _, _, .un v => .un v
  | _, _, _, .b x => .b x
  | _, _, _, .i k n => .i k n
  | _, _, _, .s l => .s l
  | _, _, _, .pn => .pn
  | .p q o, _, ho, .p (L := L0) h => by
    obtain ⟨L, hL⟩ := hd q (by simpa [AV.old, Nat.blt_eq] using ho)
    obtain rfl := Option.some.inj ((hi _ _ hL).symm.trans h)
    exact .p hL
  | _, _, _, .sn => .sn
  | .sl q o z len cap ex, _, ho, .sl (L := L0) h hl hc he hb => by
    obtain ⟨L, hL⟩ := hd q (by simpa [AV.old, Nat.blt_eq] using ho)
    obtain rfl := Option.some.inj ((hi _ _ hL).symm.trans h)
    exact .sl hL hl hc he hb
  | _, _, _, .mn => .mn
  | .m q, _, ho, .m (L := L0) h => by
    obtain ⟨L, hL⟩ := hd q (by simpa [AV.old, Nat.blt_eq] using ho)
    obtain rfl := Option.some.inj ((hi _ _ hL).symm.trans h)
    exact .m hL
  | _, _, ho, .fn h => .fn (VRs.old hi hd (by simpa [AV.old] using ho) h)
  | .yl q, _, ho, .yl (L := L0) h => by
    obtain ⟨L, hL⟩ := hd q (by simpa [AV.old, Nat.blt_eq] using ho)
    obtain rfl := Option.some.inj ((hi _ _ hL).symm.trans h)
    exact .yl hL
  | _, _, _, .nf => .nf
  | _, _, _, .nif => .nif
  | _, _, ho, .ag h => .ag (VRs.old hi hd (by simpa [AV.old] using ho) h)
  | _, _, ho, .tu h => .tu (VRs.old hi hd (by simpa [AV.old] using ho) h)
theorem VRs.old {ι ι' : IM} {n : Nat} (hi : IM.le ι ι') (hd : ∀ q, q < n → ∃ L, ι q = some L) : ∀ {l : List AV} {vs : List Value}, AV.olds n l = true → VRs ι' l vs → VRs ι l vs
  | _, _, _, .nil => .nil
  | _, _, ho, .cons h r => by
    simp only [AV.olds, Bool.and_eq_true] at ho
    exact .cons (VR.old hi hd ho.1 h) (VRs.old hi hd ho.2 r)
end

mutual
/-- What stood under the elder map before stands under it with another value too. -/
theorem VR.back {ι ι' : IM} (hi : IM.le ι ι') : ∀ {a : AV} {u v : Value}, VR ι a u → VR ι' a v → VR ι a v
  | _, _, _, .un _, .un v => .un v
  | _, _, _, .b _, .b x => .b x
  | _, _, _, .i _ _, .i k n => .i k n
  | _, _, _, .s _, .s l => .s l
  | _, _, _, .pn, .pn => .pn
  | _, _, _, .p hL, .p h => by
    obtain rfl := Option.some.inj ((hi _ _ hL).symm.trans h)
    exact .p hL
  | _, _, _, .sn, .sn => .sn
  | _, _, _, .sl hL _ _ _ _, .sl h hl hc he hb => by
    obtain rfl := Option.some.inj ((hi _ _ hL).symm.trans h)
    exact .sl hL hl hc he hb
  | _, _, _, .mn, .mn => .mn
  | _, _, _, .m hL, .m h => by
    obtain rfl := Option.some.inj ((hi _ _ hL).symm.trans h)
    exact .m hL
  | _, _, _, .fn g, .fn h => .fn (VRs.back hi g h)
  | _, _, _, .yl hL, .yl h => by
    obtain rfl := Option.some.inj ((hi _ _ hL).symm.trans h)
    exact .yl hL
  | _, _, _, .nf, .nf => .nf
  | _, _, _, .nif, .nif => .nif
  | _, _, _, .ag g, .ag h => .ag (VRs.back hi g h)
  | _, _, _, .tu g, .tu h => .tu (VRs.back hi g h)
theorem VRs.back {ι ι' : IM} (hi : IM.le ι ι') : ∀ {l : List AV} {us vs : List Value}, VRs ι l us → VRs ι' l vs → VRs ι l vs
  | _, _, _, .nil, .nil => .nil
  | _, _, _, .cons g r, .cons h t => .cons (VR.back hi g h) (VRs.back hi r t)
end

theorem VRs.length {ι : IM} {l : List AV} {vs : List Value} (h : VRs ι l vs) : l.length = vs.length := by
  induction l generalizing vs with
  | nil => cases h; rfl
  | cons a l ih => cases h with | cons _ r => simp [ih r]

theorem VRs.get {ι : IM} {l : List AV} {vs : List Value} (h : VRs ι l vs) {k : Nat} {a : AV} (hk : l[k]? = some a) : ∃ v, vs[k]? = some v ∧ VR ι a v := by
  induction l generalizing vs k with
  | nil => simp at hk
  | cons b l ih =>
    cases h with
    | cons h r =>
      cases k with
      | zero => simp at hk; subst hk; exact ⟨_, rfl, h⟩
      | succ k => simp at hk; simpa using ih r hk

theorem VRs.append {ι : IM} {l l' : List AV} {vs vs' : List Value} (h : VRs ι l vs) (h' : VRs ι l' vs') : VRs ι (l ++ l') (vs ++ vs') := by
  induction l generalizing vs with
  | nil => cases h; exact h'
  | cons a l ih => cases h with | cons h r => exact .cons h (ih r)

theorem VRs.drop {ι : IM} {l : List AV} {vs : List Value} (h : VRs ι l vs) (k : Nat) : VRs ι (l.drop k) (vs.drop k) := by
  induction k generalizing l vs with
  | zero => simpa using h
  | succ k ih => cases h with
    | nil => simpa using VRs.nil
    | cons _ r => simpa using ih r

theorem VRs.take {ι : IM} {l : List AV} {vs : List Value} (h : VRs ι l vs) (k : Nat) : VRs ι (l.take k) (vs.take k) := by
  induction k generalizing l vs with
  | zero => simpa using VRs.nil
  | succ k ih => cases h with
    | nil => simpa using VRs.nil
    | cons h r => simpa using VRs.cons h (ih r)

theorem VRs.ofGet {ι : IM} : ∀ {l : List AV} {vs : List Value}, l.length = vs.length → (∀ (k : Nat) (a : AV) (v : Value), l[k]? = some a → vs[k]? = some v → VR ι a v) → VRs ι l vs
  | [], [], _, _ => .nil
  | [], _ :: _, h, _ => by simp at h
  | _ :: _, [], h, _ => by simp at h
  | a :: l, v :: vs, h, g => .cons (g 0 a v rfl rfl) (VRs.ofGet (by simpa using h) (fun (k : Nat) (a : AV) (v : Value) h1 h2 => g (k + 1) a v (by simpa using h1) (by simpa using h2)))

theorem VR.oneCell {ι : IM} {a : AV} {v : Value} (h : VR ι a v) (ho : a.one = true) : v.oneCell' = true := by
  cases h <;> first | rfl | simp [AV.one] at ho

theorem VR.cells {ι : IM} {a : AV} {v : Value} (h : VR ι a v) (ho : a.cells.all AV.one = true) : VRs ι a.cells v.cells.toList := by
  cases h <;> first
    | (simp only [AV.cells, Value.cells]; assumption)
    | (simp only [AV.cells, Value.cells]; exact .cons (by constructor <;> assumption) .nil)
    | (simp [AV.cells, AV.one] at ho)

theorem VRs.oneCells {ι : IM} {l : List AV} {vs : List Value} (h : VRs ι l vs) (ho : l.all AV.one = true) : ∀ v ∈ vs, v.oneCell' = true := by
  induction l generalizing vs with
  | nil => cases h; simp
  | cons a l ih =>
    cases h with
    | cons h r =>
      simp only [List.all_cons, Bool.and_eq_true] at ho
      intro v hv
      cases hv with
      | head => exact h.oneCell ho.1
      | tail _ hv => exact ih r ho.2 v hv

end Go.AM
