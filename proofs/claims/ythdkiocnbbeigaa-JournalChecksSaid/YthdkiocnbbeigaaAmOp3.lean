/- The abstract machine is sound: the operations, third part: one by one. -/
import Derived.Test.YthdkiocnbbeigaaAmOp2
namespace Go.AM
set_option linter.unusedVariables false
set_option linter.unusedSimpArgs false

variable {P : Program} {ι : IM} {s s' : AS} {w : World} {ρ : Opd → AV} {σ : Operand → Value} {o : Oper} {v : AV}

theorem OpOk.value {x : Sem Value} {vv : Value} {ι' : IM} {w' : World} {q : Bool} (hx : x.run P w = .ok vv w') (hv : VR ι' v vv) (he : Ext P ι s w ι' s' w') (hq : q = true → s' = s ∧ ι' = ι ∧ w' = w) :
    OpOk P (do Pure.pure (.value (← x))) ι s w v s' q := ⟨.value vv, vv, ι', w', by simp [hx], .inl rfl, hv, he, hq⟩

theorem OpOk.unit {x : Sem Unit} {ι' : IM} {w' : World} (hx : x.run P w = .ok () w') (he : Ext P ι s w ι' s' w') : OpOk P (do x; Pure.pure .skip) ι s w (.tu []) s' false :=
  ⟨.skip, undef, ι', w', by simp [hx], .inr ⟨rfl, rfl⟩, VR.tu .nil, he, by simp⟩

theorem some2 {α β : Type} {a : α} {b : β} {x : α} {y : β} (h : some (a, b) = some (x, y)) : a = x ∧ b = y := by cases h; exact ⟨rfl, rfl⟩

/-! ### What touches no memory -/

theorem ok_move {x : Operand} {ao : AOp} (ho : o.op = .move x ∨ o.op = .assign x) (hc : cOp P o.op = some ao) (hO : OR ι ρ σ) (hR : R P ι s w) (ha : aop ρ ao s = some (v, s')) :
    OpOk P (execOp σ o) ι s w v s' ao.quiet := by
  have hcc : (cOpd x).map AOp.mv = some ao := by rcases ho with ho | ho <;> simpa [ho, cOp] using hc
  simp only [Option.map_eq_some_iff] at hcc
  obtain ⟨y, hy, rfl⟩ := hcc
  simp only [aop, Option.some.injEq, Prod.mk.injEq] at ha
  obtain ⟨rfl, rfl⟩ := ha
  have : execOp σ o = pure (.value (σ x)) := by rcases ho with ho | ho <;> simp [execOp, ho]
  rw [this]
  exact ⟨_, _, ι, w, rfl, .inl rfl, hO _ _ hy, .refl hR, fun _ => ⟨rfl, rfl, rfl⟩⟩

theorem ok_pick {c a b : Operand} {ao : AOp} (ho : o.op = .pick c a b) (hc : cOp P o.op = some ao) (hO : OR ι ρ σ) (hR : R P ι s w) (ha : aop ρ ao s = some (v, s')) :
    OpOk P (execOp σ o) ι s w v s' ao.quiet := by
  rw [ho] at hc
  simp only [cOp] at hc
  split at hc <;> simp at hc
  rename_i c' a' b' h1 h2 h3
  subst hc
  simp only [aop] at ha
  have hcv := hO _ _ h1
  have hx : execOp σ o = (do pure (.value (if ← asBool (σ c) then σ a else σ b))) := by simp [execOp, ho]
  rw [hx]
  split at ha <;> (try (simp only [reduceCtorEq] at ha; done))
  · rename_i e
    obtain ⟨rfl, rfl⟩ := some2 ha
    rw [e] at hcv
    cases hcv' : σ c <;> rw [hcv'] at hcv <;> cases hcv
    exact ⟨.value (σ a), _, ι, w, by simp [asBool], .inl rfl, hO _ _ h2, .refl hR, fun _ => ⟨rfl, rfl, rfl⟩⟩
  · rename_i e
    obtain ⟨rfl, rfl⟩ := some2 ha
    rw [e] at hcv
    cases hcv' : σ c <;> rw [hcv'] at hcv <;> cases hcv
    exact ⟨.value (σ b), _, ι, w, by simp [asBool], .inl rfl, hO _ _ h3, .refl hR, fun _ => ⟨rfl, rfl, rfl⟩⟩

theorem ok_nilck {x : Operand} {ao : AOp} (ho : o.op = .nilCheck x) (hc : cOp P o.op = some ao) (hO : OR ι ρ σ) (hR : R P ι s w) (ha : aop ρ ao s = some (v, s')) :
    OpOk P (execOp σ o) ι s w v s' ao.quiet := by
  rw [ho] at hc
  simp only [cOp, Option.map_eq_some_iff] at hc
  obtain ⟨y, hy, rfl⟩ := hc
  have hv := hO _ _ hy
  simp only [aop] at ha
  split at ha <;> (try (simp only [reduceCtorEq] at ha; done)) <;> rename_i e <;> obtain ⟨rfl, rfl⟩ := some2 ha <;> rw [e] at hv
  all_goals
    refine ⟨.value (σ x), _, ι, w, ?_, .inl rfl, hv, .refl hR, fun _ => ⟨rfl, rfl, rfl⟩⟩
    generalize hq : σ x = u at hv
    cases hv <;> simp [execOp, ho, hq]

theorem ok_bin {op : BinOp} {t u : TypeId} {x y : Operand} {ao : AOp} (ho : o.op = .binOp op t x y u) (hc : cOp P o.op = some ao) (hO : OR ι ρ σ) (hR : R P ι s w) (ha : aop ρ ao s = some (v, s')) :
    OpOk P (execOp σ o) ι s w v s' ao.quiet := by
  rw [ho] at hc
  simp only [cOp] at hc
  split at hc <;> simp at hc
  rename_i e x' y' h1 h2 h3
  subst hc
  simp only [aop] at ha
  cases hb : binV op e (ρ x') (ρ y') with
  | none => simp [hb] at ha
  | some r =>
    simp only [hb] at ha
    obtain ⟨rfl, rfl⟩ := some2 ha
    obtain ⟨vv, g1, g2⟩ := binV_ok h1 (hO _ _ h2) (hO _ _ h3) hb x y w
    have hx : execOp σ o = (do pure (.value (← (do eqGuard op t x y (σ x) (σ y); binOp op t (σ x) (σ y))))) := by simp [execOp, ho]
    rw [hx]
    exact OpOk.value g1 g2 (.refl hR) fun _ => ⟨rfl, rfl, rfl⟩

theorem ok_un {op : UnOp} {t : TypeId} {x : Operand} {ao : AOp} (ho : o.op = .unOp op t x) (hc : cOp P o.op = some ao) (hO : OR ι ρ σ) (hR : R P ι s w) (ha : aop ρ ao s = some (v, s')) :
    OpOk P (execOp σ o) ι s w v s' ao.quiet := by
  rw [ho] at hc
  simp only [cOp, Option.map_eq_some_iff] at hc
  obtain ⟨y, hy, rfl⟩ := hc
  simp only [aop] at ha
  cases hb : unV op (ρ y) with
  | none => simp [hb] at ha
  | some r =>
    simp only [hb] at ha
    obtain ⟨rfl, rfl⟩ := some2 ha
    obtain ⟨vv, g1, g2⟩ := unV_ok (hO _ _ hy) hb w
    have hx : execOp σ o = (do pure (.value (← Op.unary op (σ x)))) := by simp [execOp, ho]
    rw [hx]
    exact OpOk.value g1 g2 (.refl hR) fun _ => ⟨rfl, rfl, rfl⟩

theorem ok_mkf {f : FuncId} {first cs : Array Operand} {ao : AOp} (ho : o.op = .makeFunc (.func f) first cs) (hc : cOp P o.op = some ao) (hO : OR ι ρ σ) (hR : R P ι s w) (ha : aop ρ ao s = some (v, s')) :
    OpOk P (execOp σ o) ι s w v s' ao.quiet := by
  rw [ho] at hc
  simp only [cOp] at hc
  cases hf : first.isEmpty <;> simp [hf] at hc
  obtain ⟨l, hl, rfl⟩ := hc
  simp only [aop] at ha
  obtain ⟨rfl, rfl⟩ := some2 ha
  have hf' : first = #[] := by simpa using hf
  have hx : execOp σ o = (do pure (.value (← Instr.makeFunc (.func f) (first.map σ) (cs.map σ)))) := by simp [execOp, ho]
  rw [hx]
  refine OpOk.value (vv := .func (.func f) #[] (cs.map σ)) (by simp [Instr.makeFunc, hf']) ?_ (.refl hR) fun _ => ⟨rfl, rfl, rfl⟩
  have e : (cs.toList.map σ).toArray = cs.map σ := by rw [← Array.toList_inj]; simp
  rw [← e]
  exact VR.fn (cOpds_ok hO hl)

theorem ok_ext {x : Operand} {i : Nat} {ao : AOp} (ho : o.op = .extract x i) (hc : cOp P o.op = some ao) (hO : OR ι ρ σ) (hR : R P ι s w) (ha : aop ρ ao s = some (v, s')) :
    OpOk P (execOp σ o) ι s w v s' ao.quiet := by
  rw [ho] at hc
  simp only [cOp, Option.map_eq_some_iff] at hc
  obtain ⟨y, hy, rfl⟩ := hc
  have hv := hO _ _ hy
  simp only [aop] at ha
  split at ha <;> (try (simp only [reduceCtorEq] at ha; done))
  rename_i l e
  rw [e] at hv
  cases hi : l[i]? with
  | none => simp [hi] at ha
  | some a =>
    simp only [hi] at ha
    obtain ⟨rfl, rfl⟩ := some2 ha
    generalize hq : σ x = u at hv
    cases hv with
    | tu h =>
      obtain ⟨u, hu, hr⟩ := h.get hi
      have hx : execOp σ o = (do pure (.value (← Instr.extract (σ x) i))) := by simp [execOp, ho]
      rw [hx, hq]
      exact OpOk.value (vv := u) (by simp [Instr.extract, hu]) hr (.refl hR) fun _ => ⟨rfl, rfl, rfl⟩

theorem ok_field {t : TypeId} {x : Operand} {f : Nat} {ao : AOp} (ho : o.op = .field t x f) (hc : cOp P o.op = some ao) (hO : OR ι ρ σ) (hR : R P ι s w) (ha : aop ρ ao s = some (v, s')) :
    OpOk P (execOp σ o) ι s w v s' ao.quiet := by
  rw [ho] at hc
  simp only [cOp] at hc
  split at hc <;> try (simp at hc; done)
  rename_i fs x' hu hx'
  split at hc <;> try (simp at hc; done)
  rename_i fd hfd
  split at hc <;> try (simp at hc; done)
  rename_i g z hg hz
  simp at hc; subst hc
  have hv := hO _ _ hx'
  have hx : execOp σ o = (do pure (.value (← Instr.field t (σ x) f))) := by simp [execOp, ho]
  rw [hx]
  simp only [aop] at ha
  split at ha <;> (try (simp only [reduceCtorEq] at ha; done))
  rename_i l e
  rw [e] at hv
  generalize hq : σ x = u at hv
  cases hv with
  | ag h =>
    rename_i vs
    cases g with
    | true =>
      cases hcut : cut l fd.offset z with
      | none => simp [hcut] at ha
      | some r =>
        simp only [hcut, cond_true] at ha
        obtain ⟨rfl, rfl⟩ := some2 ha
        obtain ⟨c1, rfl⟩ := cut_some hcut
        refine OpOk.value (vv := .agg ((vs.drop fd.offset).take z).toArray) ?_ (.ag ((h.drop _).take _)) (.refl hR) fun _ => ⟨rfl, rfl, rfl⟩
        simp only [Instr.field, Sem.run_bind, run_underlying hu, Result.andThen_ok, hfd, asAgg, Sem.run_pure, part, aggOf_run hg, szOf_run hz, if_true]
        congr 2
        simp [← Array.toList_inj, List.take_drop, Nat.add_comm]
    | false =>
      cases hcut : l[fd.offset]? with
      | none => simp [hcut] at ha
      | some r =>
        simp only [hcut, cond_false] at ha
        obtain ⟨rfl, rfl⟩ := some2 ha
        obtain ⟨u, hu', hr⟩ := h.get hcut
        refine OpOk.value (vv := u) ?_ hr (.refl hR) fun _ => ⟨rfl, rfl, rfl⟩
        simp [Instr.field, run_underlying hu, hfd, asAgg, part, aggOf_run hg, hu']

theorem natOf_ok {a : AV} {most n : Nat} (h : natOf a most = some n) {x : Value} (hx : VR ι a x) : ∃ k, x = .int k (n : Int) ∧ n ≤ most := by
  unfold natOf at h
  split at h <;> (try (simp only [reduceCtorEq] at h; done))
  rename_i k m
  cases hb : Nat.ble m most <;> simp [hb] at h
  subst h
  cases hx
  exact ⟨k, rfl, Nat.le_of_ble_eq_true hb⟩

theorem ok_idx {t : TypeId} {x i : Operand} {ao : AOp} (ho : o.op = .index t x i) (hc : cOp P o.op = some ao) (hO : OR ι ρ σ) (hR : R P ι s w) (ha : aop ρ ao s = some (v, s')) :
    OpOk P (execOp σ o) ι s w v s' ao.quiet := by
  rw [ho] at hc
  simp only [cOp] at hc
  split at hc <;> try (simp at hc; done)
  rename_i x' i' hu h1 h2
  simp at hc; subst hc
  have hv1 := hO _ _ h1
  have hv2 := hO _ _ h2
  have hx : execOp σ o = (do pure (.value (← Instr.index t (σ x) (σ i)))) := by simp [execOp, ho]
  rw [hx]
  simp only [aop] at ha
  split at ha <;> (try (simp only [reduceCtorEq] at ha; done))
  rename_i l k n e1 e2
  rw [e1] at hv1; rw [e2] at hv2
  cases hi : l[n]? with
  | none => simp [hi] at ha
  | some c =>
    simp only [hi] at ha
    obtain ⟨rfl, rfl⟩ := some2 ha
    generalize hq1 : σ x = u1 at hv1
    generalize hq2 : σ i = u2 at hv2
    cases hv1; cases hv2
    refine OpOk.value (vv := .int .u8 c.toNat) ?_ (.i _ _) (.refl hR) fun _ => ⟨rfl, rfl, rfl⟩
    have hn : n < l.length := by
      rcases Nat.lt_or_ge n l.length with h | h
      · exact h
      · rw [List.getElem?_eq_none h] at hi; cases hi
    have hb : (⟨l.toArray⟩ : ByteArray)[n]? = some c := by
      rw [ByteArray.getElem?_lt' _ _ (by simpa [ByteArray.size] using hn)]
      have : l[n] = c := by rw [List.getElem?_eq_getElem hn] at hi; exact Option.some.inj hi
      simpa [ByteArray.getElem_eq_getElem_data] using this
    simp [Instr.index, asIntOf, run_underlying hu, hb]

end Go.AM
