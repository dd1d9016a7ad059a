/- The abstract machine is sound: the operations, first part (no memory is touched). -/
import Derived.Test.YthdkiocnbbeigaaAmMem
import Derived.Laws.StructEq
import Derived.Laws.Strings2
import Derived.Laws.Slices
import Derived.Laws.Cells
import Derived.Laws.Entries
namespace Go.AM

variable {P : Program}

/-! ### Types -/

theorem run_typeInfo_of {t : TypeId} {i : TypeInfo} (h : P.info? t = some i) (w : World) : (typeInfo t).run P w = .ok i w := by
  simp [typeInfo, h]
theorem szOf_run {t : TypeId} {z : Nat} (h : szOf P t = some z) (w : World) : (sizeOf t).run P w = .ok z w := by
  simp only [szOf, Option.map_eq_some_iff] at h
  obtain ⟨i, hi, rfl⟩ := h
  simp [sizeOf, run_typeInfo_of hi]
theorem aggOf_run {t : TypeId} {g : Bool} (h : aggOf P t = some g) (w : World) : (isAgg t).run P w = .ok g w := by
  unfold aggOf at h
  cases hu : P.underlying t with
  | none => rw [hu] at h; cases h
  | some d => rw [hu] at h; cases d <;> simp at h <;> subst h <;> simp [isAgg, run_underlying hu]
theorem zsOf_run {t : TypeId} {zs : List AV} (h : zsOf P t = some zs) : ∃ z a, cVal z = some a ∧ zs = a.cells ∧ ∀ w, (zeroValue t).run P w = .ok z w := by
  unfold zsOf at h
  cases hi : P.info? t with
  | none => rw [hi] at h; cases h
  | some i =>
    rw [hi] at h
    simp only at h
    cases hz : i.zero with
    | none => rw [hz] at h; cases h
    | some z =>
      rw [hz] at h
      simp only [Option.map_eq_some_iff] at h
      obtain ⟨a, ha, rfl⟩ := h
      exact ⟨z, a, ha, rfl, fun w => by simp [zeroValue, run_typeInfo_of hi, hz]⟩
theorem zvOf_run {t : TypeId} {a : AV} (h : zvOf P t = some a) : ∃ z, cVal z = some a ∧ ∀ w, (zeroValue t).run P w = .ok z w := by
  unfold zvOf at h
  cases hi : P.info? t with
  | none => rw [hi] at h; cases h
  | some i =>
    rw [hi] at h
    simp only at h
    cases hz : i.zero with
    | none => rw [hz] at h; cases h
    | some z => rw [hz] at h; exact ⟨z, h, fun w => by simp [zeroValue, run_typeInfo_of hi, hz]⟩

/-! ### Constants and operands -/

theorem cVal1_ok {v : Value} {a : AV} (h : cVal1 v = some a) (ι : IM) : VR ι a v ∧ a.one = true := by
  unfold cVal1 at h
  split at h <;> simp at h <;> subst h <;> first
    | exact ⟨by constructor, rfl⟩
    | (rename_i s; obtain ⟨⟨l⟩⟩ := s; exact ⟨.s l, rfl⟩)

theorem cVals_ok {l : List Value} {as : List AV} (h : cVals l = some as) (ι : IM) : VRs ι as l ∧ as.all AV.one = true := by
  induction l generalizing as with
  | nil => simp [cVals] at h; subst h; exact ⟨.nil, rfl⟩
  | cons v r ih =>
    simp only [cVals] at h
    cases h1 : cVal1 v with
    | none => simp [h1] at h
    | some a =>
      cases h2 : cVals r with
      | none => simp [h1, h2] at h
      | some b =>
        simp [h1, h2] at h; subst h
        exact ⟨.cons (cVal1_ok h1 ι).1 (ih h2).1, by simp only [List.all_cons, Bool.and_eq_true]; exact ⟨(cVal1_ok h1 ι).2, (ih h2).2⟩⟩

theorem cVal_ok {v : Value} {a : AV} (h : cVal v = some a) (ι : IM) : VR ι a v ∧ VRs ι a.cells v.cells.toList ∧ a.cells.all AV.one = true := by
  unfold cVal at h
  split at h
  · rename_i cs
    simp only [Option.map_eq_some_iff] at h
    obtain ⟨l, hl, rfl⟩ := h
    obtain ⟨h1, h2⟩ := cVals_ok hl ι
    refine ⟨?_, h1, h2⟩
    have := VR.ag h1
    simpa using this
  · obtain ⟨h1, h2⟩ := cVal1_ok h ι
    have hc : a.cells = [a] := by cases a <;> first | rfl | simp [AV.one] at h2
    have hall : a.cells.all AV.one = true := by rw [hc]; simpa using h2
    exact ⟨h1, h1.cells hall, hall⟩

theorem cOpd_ok {x : Operand} {y : Opd} (h : cOpd x = some y) {ι : IM} {t : T AV} {n : Nat} {a : Act} (ht : TR ι t n a.tmps) : VR ι (ev t y) (a.eval x) := by
  cases x with
  | tmp k =>
    simp [cOpd] at h; subst h
    simp only [ev, Act.eval]
    cases hk : t.get k with
    | none => exact .un _
    | some v => exact ht.get k v hk
  | const v =>
    simp [cOpd] at h
    obtain ⟨b, hb, rfl⟩ := h
    exact (cVal_ok hb ι).1
  | func f =>
    simp [cOpd] at h; subst h
    exact .fn .nil
  | global g => simp [cOpd] at h

/-- Operands stand to their values. -/
def OR (ι : IM) (ρ : Opd → AV) (σ : Operand → Value) : Prop := ∀ x y, cOpd x = some y → VR ι (ρ y) (σ x)

theorem cOpds_ok {ι : IM} {ρ : Opd → AV} {σ : Operand → Value} (hO : OR ι ρ σ) {l : List Operand} {as : List Opd} (h : cOpds l = some as) : VRs ι (as.map ρ) (l.map σ) := by
  induction l generalizing as with
  | nil => simp [cOpds] at h; subst h; exact .nil
  | cons v r ih =>
    simp only [cOpds] at h
    cases h1 : cOpd v with
    | none => simp [h1] at h
    | some a =>
      cases h2 : cOpds r with
      | none => simp [h1, h2] at h
      | some b => simp [h1, h2] at h; subst h; exact .cons (hO _ _ h1) (ih h2)

/-! ### What an operation must come to -/

def OpOk (P : Program) (x : Sem Next) (ι : IM) (s : AS) (w : World) (v : AV) (s' : AS) (q : Bool) : Prop :=
  ∃ nx vv ι' w', x.run P w = .ok nx w' ∧ (nx = .value vv ∨ (nx = .skip ∧ vv = undef)) ∧ VR ι' v vv ∧ Ext P ι s w ι' s' w' ∧ (q = true → s' = s ∧ ι' = ι ∧ w' = w)

theorem OpOk.pure {x : Sem Value} {ι : IM} {s : AS} {w : World} {v : AV} {vv : Value} {q : Bool} (hR : R P ι s w) (hx : x.run P w = .ok vv w) (hv : VR ι v vv) :
    OpOk P (do pure (.value (← x))) ι s w v s q :=
  ⟨.value vv, vv, ι, w, by simp [hx], .inl rfl, hv, .refl hR, fun _ => ⟨rfl, rfl, rfl⟩⟩

/-! ### Whole numbers, texts, tests -/

theorem kEq_eq {k k' : IntKind} (h : kEq k k' = true) : k = k' := by cases k <;> cases k' <;> first | rfl | simp [kEq] at h

theorem bytesEq_eq : ∀ (a b : List UInt8), bytesEq a b = (a == b)
  | [], [] => rfl
  | [], _ :: _ => rfl
  | _ :: _, [] => rfl
  | x :: a, y :: b => by
    simp only [bytesEq, bytesEq_eq a b, List.cons_beq_cons]
    congr 1
    rw [Bool.eq_iff_iff]; simp [UInt8.toNat_inj]

theorem bytesLt_eq : ∀ (a b : List UInt8), bytesLt a b = Op.bytesLess a b
  | _, [] => by cases ‹List UInt8› <;> rfl
  | [], _ :: _ => rfl
  | x :: a, y :: b => by
    simp only [bytesLt, Op.bytesLess, bytesLt_eq a b]
    congr 1
    · rw [Bool.eq_iff_iff]; simp [Nat.blt_eq, UInt8.lt_iff_toNat_lt]
    · congr 1; rw [Bool.eq_iff_iff]; simp [UInt8.toNat_inj]

theorem intBin_ok {op : BinOp} {k : IntKind} {x y : Int} {v : AV} (h : intBin op k x y = some v) (w : World) (t : TypeId) (ι : IM) :
    ∃ vv, (binOp op t (.int k x) (.int k y)).run P w = .ok vv w ∧ VR ι v vv := by
  cases op <;> simp only [intBin, reduceCtorEq] at h
  case quo =>
    by_cases h0 : y = 0
    · simp [h0] at h
    · have : (y == 0) = false := by simpa using h0
      simp only [this, cond_false, Option.some.injEq] at h; subst h
      exact ⟨_, by simp [binOp, Op.intDiv, h0] <;> rfl, .i _ _⟩
  case rem =>
    by_cases h0 : y = 0
    · simp [h0] at h
    · have : (y == 0) = false := by simpa using h0
      simp only [this, cond_false, Option.some.injEq] at h; subst h
      exact ⟨_, by simp [binOp, Op.intDiv, h0] <;> rfl, .i _ _⟩
  case neq => simp only [Option.some.injEq] at h; subst h; exact ⟨.bool (x != y), by simp [binOp, Op.intCmp], .b _⟩
  all_goals (simp only [Option.some.injEq] at h; subst h; refine ⟨_, ?_, by constructor⟩; simp [binOp, Op.intArith, Op.intBits, Op.intCmp])

theorem strBin_ok {op : BinOp} {x y : List UInt8} {v : AV} (h : strBin op x y = some v) (w : World) (t : TypeId) (ι : IM) :
    ∃ vv, (binOp op t (.string ⟨x.toArray⟩) (.string ⟨y.toArray⟩)).run P w = .ok vv w ∧ VR ι v vv := by
  have hx : (⟨x.toArray⟩ : ByteArray).toList = x := by simp
  have hy : (⟨y.toArray⟩ : ByteArray).toList = y := by simp
  cases op <;> simp only [strBin, reduceCtorEq] at h
  case add =>
    cases h0 : (x.length + y.length).ble 4611686018427387904 <;> simp only [h0, cond_true, cond_false, reduceCtorEq, Option.some.injEq] at h
    subst h
    have h1 : x.length + y.length ≤ 4611686018427387904 := Nat.le_of_ble_eq_true h0
    refine ⟨.string ⟨(x ++ y).toArray⟩, ?_, .s _⟩
    have hsz : ¬ (((⟨x.toArray⟩ : ByteArray).size + (⟨y.toArray⟩ : ByteArray).size : Nat) : Int) > IntKind.i64.max := by
      simp only [ByteArray.size, List.size_toArray, IntKind.max, IntKind.signed, IntKind.bits, if_true]
      omega
    rw [binOp_string_add]
    simp only [Op.stringOp, if_neg hsz, Sem.run_pure]
    have e : (⟨x.toArray⟩ ++ ⟨y.toArray⟩ : ByteArray) = ⟨(x ++ y).toArray⟩ := ByteArray.ext (by simp)
    rw [e]
  all_goals (simp only [Option.some.injEq] at h; subst h; simp only [bytesEq_eq, bytesLt_eq]; refine ⟨_, by simp only [binOp, Op.stringOp, hx, hy, Sem.run_pure] <;> rfl, ?_⟩; constructor)

theorem shiftBin_ok {left : Bool} {k k' : IntKind} {x y : Int} {v : AV} (h : shiftBin left k x y = some v) (w : World) (t : TypeId) (ι : IM) :
    ∃ vv, (binOp (if left then .shl else .shr) t (.int k x) (.int k' y)).run P w = .ok vv w ∧ VR ι v vv := by
  unfold shiftBin at h
  by_cases hy : y < 0
  · simp [hy] at h
  · cases left <;> simp [hy] at h <;> subst h <;> exact ⟨_, by simp [binOp, Op.shift, hy] <;> rfl, .i _ _⟩

theorem plainT_ok {t : TypeId} {p : PT} (h : plainT P t = some p) : match p with
    | .i => ∃ k, P.underlying t = some (.int k)
    | .b => P.underlying t = some .bool
    | .s => P.underlying t = some .string := by
  unfold plainT at h
  split at h <;> simp at h <;> subst h
  · rename_i k e; exact ⟨k, e⟩
  · assumption
  · assumption

theorem eqP_ok {p : PT} {a b : AV} {x y : Value} {r : Bool} {ι : IM} (ha : VR ι a x) (hb : VR ι b y) (h : eqP p a b = some r) {t : TypeId} (ht : plainT P t = some p)
    (d : Nat) (w : World) : (Op.equalIn (d + 1) t x y).run P w = .ok r w := by
  have hp := plainT_ok ht
  unfold eqP at h
  split at h
  · cases ha; cases hb
    simp at h; subst h
    exact run_equalIn_bool' w d t _ _ hp
  · rename_i k n k' n'
    cases ha; cases hb
    cases hk : kEq k k'
    · simp [hk] at h
    · simp [hk] at h; subst h
      obtain rfl := kEq_eq hk
      obtain ⟨k2, e⟩ := hp
      exact run_equalIn_int w d t _ k2 _ _ e
  · rename_i l l'
    cases ha; cases hb
    simp at h; subst h
    rw [run_equalIn_string w d t _ _ hp, ByteArray.toList_mk, ByteArray.toList_mk, bytesEq_eq]
  · simp at h

/-! ### Structs held against each other -/

theorem part_plain {t : TypeId} {p : PT} (ht : plainT P t = some p) {cs : Array Value} {o : Nat} {v : Value} (h : cs[o]? = some v) (w : World) : (part t cs o).run P w = .ok v w := by
  have hp := plainT_ok ht
  have hg : (isAgg t).run P w = .ok false w := by
    cases p <;> simp only at hp
    · obtain ⟨k, e⟩ := hp; simp [isAgg, run_underlying e]
    · simp [isAgg, run_underlying hp]
    · simp [isAgg, run_underlying hp]
  simp [part, hg, h]

theorem eqS_ok {ι : IM} {xs ys : List AV} {us vs : List Value} (hx : VRs ι xs us) (hy : VRs ι ys vs) (d : Nat) (w : World) :
    ∀ (fs : List Field) (l : List (Nat × PT)) (r : Bool), plainFs P fs = some l → eqS l xs ys = some r → (Op.eqFields (d + 1) us.toArray vs.toArray fs).run P w = .ok r w := by
  intro fs
  induction fs with
  | nil => intro l r hl h; simp [plainFs] at hl; subst hl; simp [eqS] at h; subst h; simp [Op.eqFields]
  | cons f fs ih =>
    intro l r hl h
    simp only [plainFs] at hl
    cases h1 : plainT P f.type with
    | none => simp [h1] at hl
    | some p =>
      cases h2 : plainFs P fs with
      | none => simp [h1, h2] at hl
      | some l' =>
        simp only [h1, h2] at hl
        cases hn : f.name == "_" with
        | true => simp [hn] at hl
        | false =>
          simp only [hn, cond_false, Option.some.injEq] at hl
          subst hl
          have hn' : f.name ≠ "_" := by simpa using hn
          simp only [eqS] at h
          cases ha : xs[f.offset]? with
          | none => simp [ha] at h
          | some a =>
            cases hb : ys[f.offset]? with
            | none => simp [ha, hb] at h
            | some b =>
              obtain ⟨u, hu, ru⟩ := hx.get ha
              obtain ⟨v, hv, rv⟩ := hy.get hb
              simp only [ha, hb] at h
              cases he : eqP p a b with
              | none => simp [he] at h
              | some e =>
                have hq := eqP_ok ru rv he h1 d w
                have hpa : (part f.type us.toArray f.offset).run P w = .ok u w := part_plain h1 (by simpa using hu) w
                have hpb : (part f.type vs.toArray f.offset).run P w = .ok v w := part_plain h1 (by simpa using hv) w
                simp only [Op.eqFields, if_pos hn', Sem.run_bind, hpa, Result.andThen_ok, hpb, hq]
                cases e with
                | true => simp only [he] at h; simpa using ih l' r h2 h
                | false => simp [he] at h; subst h; simp

theorem eqKOf_str {t : TypeId} {l : List (Nat × PT)} (h : eqKOf P t = some (.str l)) :
    ∃ fs, P.underlying t = some (.struct fs) ∧ P.stoodInHeld t = false ∧ P.eqGuardType P.depth t = false ∧ plainFs P fs.toList = some l := by
  unfold eqKOf at h
  split at h <;> try (simp at h; done)
  rename_i fs e
  cases h1 : P.stoodInHeld t <;> cases h2 : P.eqGuardType P.depth t <;> simp [h1, h2] at h
  exact ⟨fs, e, rfl, rfl, h⟩

theorem fieldsOf_eq {t : TypeId} {fs : Array Field} (h : P.underlying t = some (.struct fs)) : P.fieldsOf t = fs := by
  simp [Program.fieldsOf, h]

theorem eqKOf_plain {t : TypeId} {p : PT} (h : eqKOf P t = some (.plain p)) : plainT P t = some p := by
  unfold eqKOf at h
  unfold plainT
  split at h
  case h_8 => cases h1 : P.stoodInHeld t <;> cases h2 : P.eqGuardType P.depth t <;> simp [h1, h2] at h
  all_goals (simp at h; try (subst h; rename_i e; simp [e]))

/-- Values held against each other as '==' does. -/
theorem eqV_ok {e : EqK} {a b : AV} {x y : Value} {r : Bool} {ι : IM} (ha : VR ι a x) (hb : VR ι b y) (h : eqV e a b = some r) {t : TypeId} (ht : eqKOf P t = some e) (he : ∀ k, e ≠ .ref k)
    (w : World) : (Op.equalIn 10000 t x y).run P w = .ok r w := by
  cases e with
  | plain p => exact eqP_ok ha hb h (eqKOf_plain ht) 9999 w
  | ref k => exact absurd rfl (he k)
  | str l =>
    obtain ⟨fs, hu, hh, hg, hl⟩ := eqKOf_str ht
    simp only [eqV] at h
    split at h
    · rename_i a1 c1
      cases ha with
      | ag hx => cases hb with
        | ag hy =>
          rw [run_equalIn_agg w 9999 t _ _ (by rw [fieldsOf_eq hu]; exact hu) hh, fieldsOf_eq hu]
          cases hlen : a1.length == c1.length <;> simp only [hlen, cond_true, cond_false, reduceCtorEq] at h
          exact eqS_ok hx hy 9998 w _ _ _ hl h
    · simp at h

theorem eqKOf_ref {t : TypeId} {k : RT} (h : eqKOf P t = some (.ref k)) : match k with
    | .p => ∃ e, P.underlying t = some (.pointer e)
    | .s => ∃ e, P.underlying t = some (.slice e)
    | .m => ∃ k e, P.underlying t = some (.map k e)
    | .f => ∃ a b c, P.underlying t = some (.func a b c) := by
  unfold eqKOf at h
  split at h
  case h_8 => cases h1 : P.stoodInHeld t <;> cases h2 : P.eqGuardType P.depth t <;> simp [h1, h2] at h
  all_goals (simp at h; try (subst h; rename_i e; simp [e]))

theorem equal_eq (t : TypeId) (x y : Value) : Op.equal t x y = Op.equalIn (9999 + 1) t x y := rfl

section
variable {t : TypeId} (d : Nat) (w : World)
theorem eq_p1 {e : TypeId} (h : P.underlying t = some (.pointer e)) (q : Option Addr) : (Op.equalIn (d + 1) t (.pointer none) (.pointer q)).run P w = .ok q.isNone w := by simp [Op.equalIn, run_underlying h]
theorem eq_p2 {e : TypeId} (h : P.underlying t = some (.pointer e)) (q : Addr) : (Op.equalIn (d + 1) t (.pointer (some q)) (.pointer none)).run P w = .ok false w := by simp [Op.equalIn, run_underlying h]
theorem eq_s1 {e : TypeId} (h : P.underlying t = some (.slice e)) (q : Option Addr) (n c m k : Nat) : (Op.equalIn (d + 1) t (.slice none n c) (.slice q m k)).run P w = .ok q.isNone w := by simp [Op.equalIn, run_underlying h]
theorem eq_s2 {e : TypeId} (h : P.underlying t = some (.slice e)) (q : Addr) (n c m k : Nat) : (Op.equalIn (d + 1) t (.slice (some q) n c) (.slice none m k)).run P w = .ok false w := by simp [Op.equalIn, run_underlying h]
theorem eq_m1 {k e : TypeId} (h : P.underlying t = some (.map k e)) (q : Option Nat) : (Op.equalIn (d + 1) t (.map none) (.map q)).run P w = .ok q.isNone w := by simp [Op.equalIn, run_underlying h]
theorem eq_m2 {k e : TypeId} (h : P.underlying t = some (.map k e)) (q : Nat) : (Op.equalIn (d + 1) t (.map (some q)) (.map none)).run P w = .ok false w := by simp [Op.equalIn, run_underlying h]
theorem eq_f1 {a b : Array TypeId} {c : Bool} (h : P.underlying t = some (.func a b c)) : (Op.equalIn (d + 1) t .nilFunc .nilFunc).run P w = .ok true w := by simp [Op.equalIn, run_underlying h]
theorem eq_f2 {a b : Array TypeId} {c : Bool} (h : P.underlying t = some (.func a b c)) (f : Fn) (x y : Array Value) : (Op.equalIn (d + 1) t .nilFunc (.func f x y)).run P w = .ok false w := by simp [Op.equalIn, run_underlying h]
theorem eq_f3 {a b : Array TypeId} {c : Bool} (h : P.underlying t = some (.func a b c)) (f : Fn) (x y : Array Value) : (Op.equalIn (d + 1) t (.func f x y) .nilFunc).run P w = .ok false w := by simp [Op.equalIn, run_underlying h]
end

/-- Values that '==' hands on to the equality of its type. -/
def Hands (x y : Value) : Prop := ∀ t, binOp .eql t x y = (do pure (.bool (← Op.equal t x y))) ∧ binOp .neq t x y = (do pure (.bool (!(← Op.equal t x y)))) ∧ ∀ (P : Program) (w : World) op c d, (eqGuard op t c d x y).run P w = .ok () w

theorem hands_pp (a b : Option Addr) : Hands (.pointer a) (.pointer b) := fun t => ⟨rfl, rfl, fun P w op c d => by cases op <;> simp [eqGuard]⟩
theorem hands_ss (a b : Option Addr) (n c m k : Nat) : Hands (.slice a n c) (.slice b m k) := fun t => ⟨rfl, rfl, fun P w op c d => by cases op <;> simp [eqGuard]⟩
theorem hands_mm (a b : Option Nat) : Hands (.map a) (.map b) := fun t => ⟨rfl, rfl, fun P w op c d => by cases op <;> simp [eqGuard]⟩
theorem hands_nn : Hands .nilFunc .nilFunc := fun t => ⟨rfl, rfl, fun P w op c d => by cases op <;> simp [eqGuard]⟩
theorem hands_nf (f : Fn) (x y : Array Value) : Hands .nilFunc (.func f x y) := fun t => ⟨rfl, rfl, fun P w op c d => by cases op <;> simp [eqGuard]⟩
theorem hands_fn (f : Fn) (x y : Array Value) : Hands (.func f x y) .nilFunc := fun t => ⟨rfl, rfl, fun P w op c d => by cases op <;> simp [eqGuard]⟩
theorem hands_bb (a b : Bool) : Hands (.bool a) (.bool b) := fun t => ⟨rfl, rfl, fun P w op c d => by cases op <;> simp [eqGuard]⟩

theorem Hands.run {x y : Value} (h : Hands x y) {t : TypeId} {r : Bool} {w : World} (he : (Op.equalIn (9999 + 1) t x y).run P w = .ok r w) :
    (binOp .eql t x y).run P w = .ok (.bool r) w ∧ (binOp .neq t x y).run P w = .ok (.bool (!r)) w ∧ (∀ op c d, (eqGuard op t c d x y).run P w = .ok () w) := by
  obtain ⟨h1, h2, h3⟩ := h t
  refine ⟨?_, ?_, fun op c d => h3 P w op c d⟩
  · rw [h1, equal_eq]; simp [he]
  · rw [h2, equal_eq]; simp [he]

theorem eqR_ok {k : RT} {a b : AV} {x y : Value} {r : Bool} {ι : IM} (ha : VR ι a x) (hb : VR ι b y) (h : eqR k a b = some r) {t : TypeId} (ht : eqKOf P t = some (.ref k)) (w : World) :
    (binOp .eql t x y).run P w = .ok (.bool r) w ∧ (binOp .neq t x y).run P w = .ok (.bool (!r)) w ∧ (∀ op c d, (eqGuard op t c d x y).run P w = .ok () w) := by
  have hu := eqKOf_ref ht
  unfold eqR at h
  cases k <;> simp only at hu
  · obtain ⟨e, hu⟩ := hu
    cases ha <;> simp [isRef] at h <;> cases hb <;> simp at h <;> subst h
    · exact (hands_pp _ _).run (eq_p1 _ w hu _)
    · exact (hands_pp _ _).run (eq_p1 _ w hu _)
    · exact (hands_pp _ _).run (eq_p2 _ w hu _)
  · obtain ⟨e, hu⟩ := hu
    cases ha <;> simp [isRef] at h <;> cases hb <;> simp at h <;> subst h
    · exact (hands_ss _ _ _ _ _ _).run (eq_s1 _ w hu _ _ _ _ _)
    · exact (hands_ss _ _ _ _ _ _).run (eq_s1 _ w hu _ _ _ _ _)
    · exact (hands_ss _ _ _ _ _ _).run (eq_s2 _ w hu _ _ _ _ _)
  · obtain ⟨e, e2, hu⟩ := hu
    cases ha <;> simp [isRef] at h <;> cases hb <;> simp at h <;> subst h
    · exact (hands_mm _ _).run (eq_m1 _ w hu _)
    · exact (hands_mm _ _).run (eq_m1 _ w hu _)
    · exact (hands_mm _ _).run (eq_m2 _ w hu _)
  · obtain ⟨e, e2, e3, hu⟩ := hu
    cases ha <;> simp [isRef] at h <;> cases hb <;> simp at h <;> subst h
    · exact (hands_fn _ _ _).run (eq_f3 _ w hu _ _ _)
    · exact (hands_fn _ _ _).run (eq_f3 _ w hu _ _ _)
    · exact (hands_nf _ _ _).run (eq_f2 _ w hu _ _ _)
    · exact (hands_nf _ _ _).run (eq_f2 _ w hu _ _ _)
    · exact hands_nn.run (eq_f1 _ w hu)

/-! ### The operations that touch no memory -/

theorem eqGuard_plain {op : BinOp} {t : TypeId} {c d : Operand} {x y : Value} (hx : (∃ k n, x = .int k n) ∨ (∃ l, x = .string l)) (w : World) : (eqGuard op t c d x y).run P w = .ok () w := by
  rcases hx with ⟨k, n, rfl⟩ | ⟨l, rfl⟩ <;> cases op <;> simp [eqGuard]

theorem binV_ok {op : BinOp} {e : EqK} {t : TypeId} (he : eqKOf P t = some e) {a b v : AV} {x y : Value} {ι : IM} (ha : VR ι a x) (hb : VR ι b y) (h : binV op e a b = some v)
    (c d : Operand) (w : World) : ∃ vv, (do eqGuard op t c d x y; binOp op t x y : Sem Value).run P w = .ok vv w ∧ VR ι v vv := by
  have done : ∀ {vv : Value}, (eqGuard op t c d x y).run P w = .ok () w → (binOp op t x y).run P w = .ok vv w → (do eqGuard op t c d x y; binOp op t x y : Sem Value).run P w = .ok vv w := by
    intro vv h1 h2; simp [h1, h2]
  unfold binV at h
  split at h
  · cases ha; cases hb
    obtain ⟨vv, h1, h2⟩ := shiftBin_ok (k' := _) h w t ι
    exact ⟨vv, done (eqGuard_plain (.inl ⟨_, _, rfl⟩) w) (by simpa using h1), h2⟩
  · cases ha; cases hb
    obtain ⟨vv, h1, h2⟩ := shiftBin_ok (k' := _) h w t ι
    exact ⟨vv, done (eqGuard_plain (.inl ⟨_, _, rfl⟩) w) (by simpa using h1), h2⟩
  · rename_i k n k' n' _ _
    cases ha; cases hb
    cases hk : kEq k k'
    · simp [hk] at h
    · simp only [hk, cond_true] at h
      obtain rfl := kEq_eq hk
      obtain ⟨vv, h1, h2⟩ := intBin_ok h w t ι
      exact ⟨vv, done (eqGuard_plain (.inl ⟨_, _, rfl⟩) w) h1, h2⟩
  · cases ha; cases hb
    obtain ⟨vv, h1, h2⟩ := strBin_ok h w t ι
    exact ⟨vv, done (eqGuard_plain (.inr ⟨_, rfl⟩) w) h1, h2⟩
  all_goals first
    | (simp at h; done)
    | (cases hr : eqV e a b with
       | none => simp [hr] at h
       | some r =>
        simp [hr] at h; subst h
        have key : (binOp .eql t x y).run P w = .ok (.bool r) w ∧ (binOp .neq t x y).run P w = .ok (.bool (!r)) w ∧ (∀ op c d, (eqGuard op t c d x y).run P w = .ok () w) := by
          cases e with
          | ref k => exact eqR_ok ha hb hr he w
          | plain p =>
            have h1 := eqV_ok ha hb hr he (by simp) w
            simp only [eqV] at hr
            unfold eqP at hr
            split at hr
            · cases ha; cases hb; exact (hands_bb _ _).run h1
            · rename_i hx _; exact (hx _ _ _ _ rfl rfl).elim
            · rename_i hx; exact (hx _ _ rfl rfl).elim
            · simp at hr
          | str l =>
            have h1 := eqV_ok ha hb hr he (by simp) w
            obtain ⟨fs, hu, hh, hg, hl⟩ := eqKOf_str he
            simp only [eqV] at hr
            split at hr
            · cases ha with
              | ag hx => cases hb with
                | ag hy =>
                  refine ⟨?_, ?_, fun op c d => run_eqGuard_agg w op t c d _ _ hg⟩
                  · rw [run_eql_struct, h1]; rfl
                  · rw [run_neq_struct, h1]; rfl
            · simp at hr
        first | exact ⟨_, done (key.2.2 _ _ _) key.1, .b _⟩ | exact ⟨_, done (key.2.2 _ _ _) key.2.1, .b _⟩)

theorem unV_ok {op : UnOp} {a v : AV} {x : Value} {ι : IM} (ha : VR ι a x) (h : unV op a = some v) (w : World) : ∃ vv, (Op.unary op x).run P w = .ok vv w ∧ VR ι v vv := by
  unfold unV at h
  split at h <;> simp only [Option.some.injEq, reduceCtorEq] at h
  · cases ha; subst h; exact ⟨_, rfl, .i _ _⟩
  · cases ha; subst h
    refine ⟨_, ?_, .i _ _⟩
    simp [Op.unary, Op.intBits, Bool.cond_eq_ite]
  · cases ha; subst h; exact ⟨_, rfl, .b _⟩

end Go.AM
