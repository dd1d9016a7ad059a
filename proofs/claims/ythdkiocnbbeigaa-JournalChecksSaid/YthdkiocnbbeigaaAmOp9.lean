/- The abstract machine is sound: the operations, ninth part: conversions, make. -/
import Derived.Test.YthdkiocnbbeigaaAmOp8
namespace Go.AM
set_option linter.unusedVariables false
set_option linter.unusedSimpArgs false

variable {P : Program} {ι : IM} {s s' : AS} {w : World} {ρ : Opd → AV} {σ : Operand → Value} {o : Oper} {v : AV}

theorem wrap_nat {n : Nat} (h : n ≤ most46) : IntKind.i64.wrap (n : Int) = n := by
  unfold most46 at h
  have h1 : (n : Int) % 2 ^ 64 = n := by omega
  simp only [IntKind.wrap, IntKind.bits, IntKind.signed, Bool.true_and, decide_eq_true_eq, h1]
  rw [if_neg (by omega)]

theorem shape_alloc (w : World) (c : Array Value) (e : TypeId) : (w.alloc (.cells c e)).shape? w.heap.size = some (e, c.size) := by
  unfold World.shape?; rw [World.alloc_heap_new]

theorem freeze_alloc (w : World) (c : Array Value) (e : TypeId) (n : Nat) : (w.alloc (.cells c e)).freeze ⟨w.heap.size, n, none⟩ 1 = { w with heap := w.heap.push (.cells c e (n, n + 1)) } := by
  unfold World.freeze
  rw [if_neg (by omega)]
  have : (w.alloc (.cells c e)).heap.modify w.heap.size (fun
      | .cells c elem (lo, hi) => .cells c elem (if lo == hi then (n, n + 1) else (min lo n, max hi (n + 1)))
      | o => o) = w.heap.push (.cells c e (n, n + 1)) := by
    rw [modify_set _ _ _ _ (World.alloc_heap_new w _)]
    show (w.heap.push _).setIfInBounds w.heap.size _ = _
    apply Array.ext_getElem?
    intro i
    rw [Array.getElem?_setIfInBounds, Array.getElem?_push, Array.getElem?_push, Array.size_push]
    by_cases h : w.heap.size = i
    · subst h; simp
    · rw [if_neg h, if_neg (Ne.symm h), if_neg (Ne.symm h)]
  exact congrArg (fun h => ({ w with heap := h } : World)) this

theorem b2s_run : ∀ (l : List AV) (us : List Value) (acc : ByteArray), VRs ι l us → l.all isU8 = true →
    (forIn us acc (fun (c : Value) (r : ByteArray) => (match c with
      | .int .u8 n => (pure (ForInStep.yield (r.push (UInt8.ofNat n.toNat))) : Sem (ForInStep ByteArray))
      | _ => do
        stuck "bytesToString: byte expected"
        pure (ForInStep.yield r)))).run P w = .ok ⟨(acc.data.toList ++ l.map byteAt).toArray⟩ w
  | [], us, acc, h, _ => by
    cases h
    simp
  | a :: l, us, acc, h, ha => by
    cases h with
    | cons h1 h2 =>
      rename_i x us
      simp only [List.all_cons, Bool.and_eq_true] at ha
      obtain ⟨a1, a2⟩ := ha
      unfold isU8 at a1
      split at a1 <;> (try (simp at a1; done))
      rename_i n
      cases h1
      simp only [List.forIn_cons, Sem.run_bind, Sem.run_pure, Result.andThen_ok]
      rw [b2s_run l us _ h2 a2]
      congr 2
      simp [byteAt]

theorem ok_cv {src dst : TypeId} {x : Operand} {ao : AOp} (ho : o.op = .convert src dst x) (hc : cOp P o.op = some ao) (hO : OR ι ρ σ) (hR : R P ι s w) (ha : aop ρ ao s = some (v, s')) :
    OpOk P (execOp σ o) ι s w v s' ao.quiet := by
  rw [ho] at hc
  simp only [cOp] at hc
  have hx : execOp σ o = (do pure (.value (← convert src dst (σ x)))) := by simp [execOp, ho]
  rw [hx]
  split at hc <;> try (simp at hc; done)
  · rename_i k0 k x' hu1 hu2 h1
    simp at hc; subst hc
    have hv := hO _ _ h1
    simp only [aop] at ha
    split at ha <;> (try (simp only [reduceCtorEq] at ha; done)) <;> (try (rename_i hh _; simp at hh; done))
    rename_i k1 k2 n hk e
    simp only [Cv.int.injEq] at hk; subst hk
    rw [e] at hv
    obtain ⟨rfl, rfl⟩ := some2 ha
    generalize hq : σ x = u at hv
    cases hv
    refine OpOk.value (vv := .int k (k.wrap n)) ?_ (.i _ _) (.refl hR) fun _ => ⟨rfl, rfl, rfl⟩
    simp [convert, run_underlying hu1, run_underlying hu2, Conv.intToInt]
  · rename_i x' hu1 hu2 h1
    simp at hc; subst hc
    have hv := hO _ _ h1
    simp only [aop] at ha
    split at ha <;> (try (simp only [reduceCtorEq] at ha; done)) <;> (try (rename_i hh _; simp at hh; done))
    rename_i l _ e
    rw [e] at hv
    obtain ⟨rfl, rfl⟩ := some2 ha
    generalize hq : σ x = u at hv
    cases hv
    refine OpOk.value (vv := .string ⟨l.toArray⟩) ?_ (.s _) (.refl hR) fun _ => ⟨rfl, rfl, rfl⟩
    simp [convert, run_underlying hu1, run_underlying hu2]
  · rename_i el x' hu1 hu2 h1
    split at hc <;> try (simp at hc; done)
    rename_i hu3
    simp at hc; subst hc
    have hv := hO _ _ h1
    simp only [aop] at ha
    split at ha <;> (try (simp only [reduceCtorEq] at ha; done)) <;> (try (rename_i hh _; simp at hh; done))
    rename_i l _ e
    rw [e] at hv
    obtain ⟨rfl, rfl⟩ := some2 ha
    generalize hq : σ x = u at hv
    cases hv
    have hge : l.length ≤ (Question.appendCap l.length 0 el).cut (w.tape w.drawn (.appendCap l.length 0 el)) := by simp only [Question.cut]; omega
    have hforced : (Question.appendCap l.length 0 el).forced = false := rfl
    generalize hC : (Question.appendCap l.length 0 el).cut (w.tape w.drawn (.appendCap l.length 0 el)) = C at hge
    have hus : VRs ι (l.map fun (c : UInt8) => AV.i .u8 c.toNat) (l.map fun (c : UInt8) => Value.int .u8 c.toNat) := by
      clear e hge hC hq ha hforced
      induction l with
      | nil => exact .nil
      | cons c l ih => exact .cons (.i _ _) ih
    have hsz : ((l.map fun (c : UInt8) => Value.int .u8 c.toNat).toArray ++ Array.replicate (C - l.length) (Value.int .u8 0)).size = C := by simp; omega
    have hext : Ext P ι s w (ι.set s.nx ⟨w.heap.size, 0, C⟩) (s.new (.row true (l.map fun (c : UInt8) => AV.i .u8 c.toNat)))
        { w.drew with heap := w.heap.push (.cells ((l.map fun (c : UInt8) => Value.int .u8 c.toNat).toArray ++ Array.replicate (C - l.length) (.int .u8 0)) el (C, C + 1)) } := by
      refine Ext.new hR ?_ rfl rfl rfl rfl
      refine ⟨_, el, (C, C + 1), rfl, hsz, by simp; omega, fun i a hi => ?_, fun _ off _ h2 => by simp only at h2 ⊢; omega⟩
      obtain ⟨u, q1, q2⟩ := hus.get hi
      refine ⟨u, ?_, q2.mono (hR.le_set _)⟩
      have hil : i < l.length := by
        rcases Nat.lt_or_ge i l.length with h | h
        · exact h
        · rw [List.getElem?_eq_none (by simpa using h)] at q1; cases q1
      rw [Nat.zero_add, Array.getElem?_append_left (by simpa using hil)]
      simpa using q1
    refine OpOk.value (vv := .slice (some ⟨w.heap.size, 0, none⟩) l.length C) ?_ (.sl (L := ⟨w.heap.size, 0, C⟩) (IM.set_same _ _ _) hge hge (by simp) (.inr ⟨rfl, by simp⟩)) hext (by simp [AOp.quiet])
    have hm : (⟨l.toArray⟩ : ByteArray).data.map (fun (b : UInt8) => Value.int .u8 (b.toNat : Int)) = (l.map fun (c : UInt8) => Value.int .u8 c.toNat).toArray := by simp
    have hsh := shape_alloc w.drew ((l.map fun (c : UInt8) => Value.int .u8 c.toNat).toArray ++ Array.replicate (C - l.length) (Value.int .u8 0)) el
    have hfr := freeze_alloc w.drew ((l.map fun (c : UInt8) => Value.int .u8 c.toNat).toArray ++ Array.replicate (C - l.length) (Value.int .u8 0)) el C
    rw [hsz] at hsh
    simp only [convert, Sem.run_bind, run_underlying hu1, run_underlying hu2, Result.andThen_ok, run_underlying hu3, Conv.stringToBytes, bsize, run_choose_drew, hforced, Bool.false_eq_true, if_false, hC, hm, newRow_run, markStringish, run_shape,
      hsh, run_freeze, hfr, Sem.run_pure]
    rfl
  · rename_i el x' hu1 hu2 h1
    split at hc <;> try (simp at hc; done)
    rename_i hu3
    simp at hc; subst hc
    have hv := hO _ _ h1
    simp only [aop] at ha
    generalize hq : σ x = u at hv
    split at ha <;> (try (simp only [reduceCtorEq] at ha; done)) <;> (try (rename_i hh _; simp at hh; done))
    · rename_i _ e
      rw [e] at hv
      obtain ⟨rfl, rfl⟩ := some2 ha
      cases hv
      refine OpOk.value (vv := .string ⟨[].toArray⟩) ?_ (.s _) (.refl hR) fun _ => ⟨rfl, rfl, rfl⟩
      simp [convert, run_underlying hu1, run_underlying hu2, run_underlying hu3, Conv.bytesToString]
      rfl
    · rename_i q off len cap ex _ e
      rw [e] at hv
      split at ha <;> (try (simp only [reduceCtorEq] at ha; done))
      rename_i wr cs hbk
      split at ha <;> (try (simp only [reduceCtorEq] at ha; done))
      rename_i l hcut
      cases hall : l.all isU8 <;> simp only [hall, cond_true, cond_false, reduceCtorEq] at ha
      obtain ⟨rfl, rfl⟩ := some2 ha
      cases hv with
      | sl hL hl hcc he hb0 =>
        rename_i L off' cap'
        have hrd : ∃ us, (loadCells off' len).run P w = .ok (us : List Value).toArray w ∧ VRs ι l us := by
          by_cases h0 : cap' = 0
          · have hl0 : len = 0 := by omega
            subst hl0
            have : l = [] := by have := cut_length hcut; simpa using this
            subst this
            exact ⟨[], by simp [loadCells, loadCellsFrom], .nil⟩
          · obtain ⟨rfl, ho2⟩ := hb0.resolve_left (by omega)
            obtain ⟨us, g1, g2, g3⟩ := readRow hR hbk hcut hL
            exact ⟨us, g1, g2⟩
        obtain ⟨us, g1, g2⟩ := hrd
        have hb := b2s_run (P := P) (w := w) l us ByteArray.empty g2 hall
        refine OpOk.value (vv := .string ⟨(l.map byteAt).toArray⟩) ?_ (.s _) (.refl hR) fun _ => ⟨rfl, rfl, rfl⟩
        simp only [convert, Sem.run_bind, run_underlying hu1, run_underlying hu2, run_underlying hu3, Result.andThen_ok, Conv.bytesToString, g1]
        have hb' : (forIn us.toArray ByteArray.empty (fun (c : Value) (r : ByteArray) => (match c with
            | .int .u8 n => (pure (ForInStep.yield (r.push (UInt8.ofNat n.toNat))) : Sem (ForInStep ByteArray))
            | _ => do
              stuck "bytesToString: byte expected"
              pure (ForInStep.yield r)))).run P w = .ok ⟨(l.map byteAt).toArray⟩ w := by
          rw [List.forIn_toArray]
          exact hb
        exact congrArg (fun r => Result.andThen r fun a w' => Sem.run P (pure (Value.string a)) w') hb'

theorem ok_mks {t : TypeId} {l c : Operand} {ao : AOp} (ho : o.op = .makeSlice t l c) (hc : cOp P o.op = some ao) (hO : OR ι ρ σ) (hR : R P ι s w) (ha : aop ρ ao s = some (v, s')) :
    OpOk P (execOp σ o) ι s w v s' ao.quiet := by
  rw [ho] at hc
  simp only [cOp] at hc
  have hx : execOp σ o = (do pure (.value (← Instr.makeSlice t (σ l) (σ c)))) := by simp [execOp, ho]
  rw [hx]
  split at hc <;> try (simp at hc; done)
  rename_i e hu
  split at hc <;> try (simp at hc; done)
  rename_i z bs zero l' c' hz hbs hzs h1 h2
  cases hz0 : z == 0 || !(zero.length == z) <;> simp only [hz0, cond_true, cond_false, Option.some.injEq, reduceCtorEq] at hc
  subst hc
  simp only [Bool.or_eq_false_iff, beq_eq_false_iff_ne, Bool.not_eq_false', beq_iff_eq] at hz0
  obtain ⟨hz1, hzl⟩ := hz0
  obtain ⟨zv, a, g1, rfl, g2⟩ := zsOf_run hzs
  obtain ⟨inf, hi, rfl⟩ : ∃ i, P.info? e = some i ∧ i.bytes = bs := by simpa only [bytesIn, Option.map_eq_some_iff] using hbs
  have hv1 := hO _ _ h1
  have hv2 := hO _ _ h2
  simp only [aop] at ha
  split at ha <;> (try (simp only [reduceCtorEq] at ha; done))
  rename_i k1 n k2 m e1 e2
  rw [e1] at hv1; rw [e2] at hv2
  cases hcond : Nat.ble n m && Nat.ble (m * inf.bytes) most46 && Nat.ble m most46 <;> simp only [hcond, cond_true, cond_false, reduceCtorEq] at ha
  obtain ⟨rfl, rfl⟩ := some2 ha
  simp only [Bool.and_eq_true] at hcond
  obtain ⟨⟨c1, c2⟩, c3⟩ := hcond
  have c1' := Nat.le_of_ble_eq_true c1
  have c2' := Nat.le_of_ble_eq_true c2
  have c3' := Nat.le_of_ble_eq_true c3
  generalize hq1 : σ l = u1 at hv1
  generalize hq2 : σ c = u2 at hv2
  cases hv1; cases hv2
  obtain ⟨r1, r2, r3⟩ := cVal_ok g1 ι
  have hzsz : zv.cells.size = z := by have := r2.size; omega
  have hrep := rep_ok r2 m
  rw [hzsz] at hrep
  have hcsz : ((Array.range (m * z)).map (fun i => zv.cells[i % z]!)).size = m * z := by simp
  have he := newRow_ok hR e (cs := repCells m a.cells) (c := (Array.range (m * z)).map (fun i => zv.cells[i % z]!)) (us := ((Array.range (m * z)).map (fun i => zv.cells[i % z]!)).toList) (rest := []) (by simp) hrep
    (w' := w.alloc (.cells ((Array.range (m * z)).map (fun i => zv.cells[i % z]!)) e)) rfl rfl rfl rfl
  rw [hcsz] at he
  refine OpOk.value (vv := .slice (some ⟨w.heap.size, 0, none⟩) n m) ?_ (.sl (L := ⟨w.heap.size, 0, m * z⟩) (IM.set_same _ _ _) c1' (Nat.le_refl _) (fun _ => rfl) (.inr ⟨rfl, by simp⟩)) he (by simp [AOp.quiet])
  have hn : IntKind.i64.wrap (Int.ofNat n) = (n : Int) := wrap_nat (by omega)
  have hm : IntKind.i64.wrap (Int.ofNat m) = (m : Int) := wrap_nat c3'
  have hcond2 : (((decide ((m : Int) < 0) || decide ((inf.bytes : Int) * (m : Int) > 2 ^ 48)) || decide ((n : Int) < 0)) || decide ((n : Int) > (m : Int))) = false := by
    have : (inf.bytes : Int) * (m : Int) = ((m * inf.bytes : Nat) : Int) := by rw [Nat.mul_comm]; simp
    rw [this]
    unfold most46 at c2'
    simp only [Bool.or_eq_false_iff, decide_eq_false_iff_not]
    omega
  simp only [Instr.makeSlice, Sem.run_bind, run_underlying hu, Result.andThen_ok, asInt, asIntOf, Sem.run_pure, run_typeInfo_of hi, hn, hm, hcond2, Bool.false_eq_true, if_false, run_askRoom, szOf_run hz, Int.toNat_natCast]
  by_cases h0 : m * z = 0
  · have hnil : ((Array.range (m * z)).map (fun i => (#[] : Array Value)[i % (#[] : Array Value).size]!)) = ((Array.range (m * z)).map (fun i => zv.cells[i % z]!)) := by rw [h0]; simp
    simp only [if_pos h0, Sem.run_bind, Sem.run_pure, Result.andThen_ok, newRow_run, hnil]
  · simp only [if_neg h0, Sem.run_bind, g2, Sem.run_pure, Result.andThen_ok, newRow_run, hzsz]

end Go.AM
