/- The abstract machine: more fuel changes no answer. (plain) -/
import Derived.Test.YthdkiocnbbeigaaAmRun
namespace Go.AM
set_option linter.unusedVariables false
set_option linter.unusedSimpArgs false

def ExLe (a b : Exec) : Prop := ∀ c st r, a c st = some r → b c st = some r
def CaLe (a b : Caller) : Prop := ∀ f l s r, a f l s = some r → b f l s = some r

theorem aoper_mono {a b : Caller} (h : CaLe a b) {ρ : Opd → AV} {o : AOp} {s : AS} {r : AV × AS × Bool} (hr : aoper a ρ o s = some r) : aoper b ρ o s = some r := by
  cases o <;> first | exact hr | exact h _ _ _ _ hr

theorem aops_mono {a b : Caller} (h : CaLe a b) : ∀ (l : List AOper) (st r : St), aops a l st = some r → aops b l st = some r
  | [], st, r, hr => hr
  | o :: l, st, r, hr => by
    simp only [aops] at hr ⊢
    cases hw : wanted st.t o.g with
    | none => simp [hw] at hr
    | some q =>
      cases q with
      | true =>
        simp only [hw] at hr ⊢
        cases ho : aoper a (ev st.t) o.op st.s with
        | none => simp [ho] at hr
        | some p =>
          rw [aoper_mono h ho]
          simp only [ho] at hr
          cases hp : putT st o.dst p.1 p.2.1 with
          | none => simp [hp] at hr
          | some st' => simp only [hp] at hr ⊢; exact aops_mono h l _ _ hr
      | false =>
        simp only [hw] at hr ⊢
        cases hp : putT st o.dst (.tu []) st.s with
        | none => simp [hp] at hr
        | some st' => simp only [hp] at hr ⊢; exact aops_mono h l _ _ hr

theorem dscan_mono {a b : Caller} (h : CaLe a b) : ∀ (l : List AOper) (st : St) (r), dscan a l st = some r → dscan b l st = some r
  | [], st, r, hr => hr
  | o :: l, st, r, hr => by
    simp only [dscan] at hr ⊢
    cases hw : wanted st.t o.g with
    | none => simp [hw] at hr
    | some q =>
      cases q with
      | true =>
        simp only [hw] at hr ⊢
        cases ho : aoper a (ev st.t) o.op st.s with
        | none => simp [ho] at hr
        | some p =>
          rw [aoper_mono h ho]
          simp only [ho] at hr
          cases hp : putT st o.dst p.1 (bif p.2.2 then st.s else p.2.1) with
          | none => simp [hp] at hr
          | some st' =>
            simp only [hp] at hr ⊢
            cases hd : dscan a l st' with
            | none => simp [hd] at hr
            | some x => rw [dscan_mono h l _ _ hd]; simpa [hd] using hr
      | false =>
        simp only [hw] at hr ⊢
        cases hp : putT st o.dst (.tu []) st.s with
        | none => simp [hp] at hr
        | some st' =>
          simp only [hp] at hr ⊢
          cases hd : dscan a l st' with
          | none => simp [hd] at hr
          | some x => rw [dscan_mono h l _ _ hd]; simpa [hd] using hr

theorem sameThere_mono {a b : Caller} (h : CaLe a b) {t : T AV} {o : AOper} {v : AV} {s : AS} (hr : sameThere a t o v s = true) : sameThere b t o v s = true := by
  unfold sameThere at *
  split
  · rename_i hw
    simp only [hw] at hr
    cases ho : aoper a (ev t) o.op s with
    | none => simp [ho] at hr
    | some p => rw [aoper_mono h ho]; simpa [ho] using hr
  · rfl
  · rename_i hw; simp [hw] at hr

theorem statesOk_mono {a b : Caller} (h : CaLe a b) {befs N : List Nat} {t : T AV} {o : AOper} {v : AV} {j here : Nat} : ∀ {ss : List AS} {m : Nat}, statesOk a befs N t o v j here ss m = true → statesOk b befs N t o v j here ss m = true
  | [], m, _ => rfl
  | s :: ss, m, hr => by
    simp only [statesOk, Bool.and_eq_true, Bool.or_eq_true] at hr ⊢
    exact ⟨hr.1.imp id (sameThere_mono h), statesOk_mono h hr.2⟩

theorem dall_mono {a b : Caller} (h : CaLe a b) {befs N : List Nat} {ss : List AS} : ∀ {l : List AOper} {vs : List (AV × Bool)} {j m : Nat} {t : T AV}, dall a befs N ss j m l vs t = true → dall b befs N ss j m l vs t = true
  | [], _, _, _, _, _ => rfl
  | _ :: _, [], _, _, _, _ => rfl
  | o :: l, (v, q) :: vs, j, m, t, hr => by
    simp only [dall, Bool.and_eq_true, Bool.or_eq_true] at hr ⊢
    exact ⟨hr.1.imp id (statesOk_mono h), dall_mono h hr.2⟩

theorem adraw_mono {a b : Caller} (h : CaLe a b) {befs : List Nat} {l : List AOper} {st r : St} (hr : adraw a befs l st = some r) : adraw b befs l st = some r := by
  unfold adraw at *
  cases hd : dscan a l st with
  | none => simp [hd] at hr
  | some p =>
    rw [dscan_mono h l _ _ hd]
    simp only [hd] at hr ⊢
    cases hc : inOrder befs (loud p.1 0) <;> simp only [hc, Bool.false_and, Bool.true_and, cond_false, reduceCtorEq] at hr ⊢
    split at hr <;> (try exact hr)
    cases hx : dall a befs (loud p.1 0) p.2.1 0 0 l p.1 st.t
    · simp [hx] at hr
    · rw [dall_mono h hx]; simpa [hx] using hr

theorem round_mono {a b : Exec} (h : ExLe a b) {l : Nat} {args : List AV} {s : AS} {r} (hr : round a l args s = some r) : round b l args s = some r := by
  unfold round at *
  split at hr <;> (try (simp only [reduceCtorEq] at hr; done))
  split at hr <;> (try (simp only [reduceCtorEq] at hr; done))
  split at hr <;> (try (simp only [reduceCtorEq] at hr; done))
  rename_i hx
  rw [h _ _ _ hx]
  simp only
  split at hr <;> (try (simp only [reduceCtorEq] at hr; done))
  split at hr <;> (try (simp only [reduceCtorEq] at hr; done))
  rename_i hy
  rw [h _ _ _ hy]
  simp only
  exact hr

theorem callWith_mono {ft : Nat → Option AFunc} {sm : Nat → Option Summ} {a b : Exec} (h : ExLe a b) : CaLe (callWith ft sm a) (callWith ft sm b) := by
  intro f l s r hr
  unfold callWith at *
  split at hr
  · split at hr
    · exact hr
    · split at hr <;> (try (simp only [reduceCtorEq] at hr; done))
      rename_i fn hfn
      cases hb : Nat.ble (l ++ _).length fn.nt <;> simp only [hb, cond_true, cond_false, reduceCtorEq] at hr ⊢
      split at hr <;> (try (simp only [reduceCtorEq] at hr; done))
      rename_i hne hx
      rw [h _ _ _ hx]
      simp only
      exact hr
  · exact round_mono h hr
  · simp at hr

theorem aexec_succ (ft : Nat → Option AFunc) (sm : Nat → Option Summ) : ∀ k, ExLe (aexec ft sm k) (aexec ft sm (k + 1))
  | 0 => fun c st r h => by simp [aexec] at h
  | k + 1 => fun c st r h => by
    have ih := aexec_succ ft sm k
    have ihc := callWith_mono (ft := ft) (sm := sm) ih
    cases c with
    | skip => exact h
    | ops l =>
      simp only [aexec] at h
      rw [aexec]
      cases ho : aops (callWith ft sm (aexec ft sm k)) l st with
      | none => simp [ho] at h
      | some st' => rw [aops_mono ihc l st st' ho]; simpa [ho] using h
    | draw befs l =>
      simp only [aexec] at h
      rw [aexec]
      cases ho : adraw (callWith ft sm (aexec ft sm k)) befs l st with
      | none => simp [ho] at h
      | some st' => rw [adraw_mono ihc ho]; simpa [ho] using h
    | seq x y =>
      simp only [aexec] at h
      rw [aexec]
      cases ho : aexec ft sm k x st with
      | none => simp [ho] at h
      | some p =>
        rw [ih _ _ _ ho]
        obtain ⟨o, st'⟩ := p
        simp only [ho] at h ⊢
        cases o with
        | nrm => exact ih _ _ _ h
        | _ => exact h
    | cond q x y =>
      simp only [aexec] at h
      rw [aexec]
      split at h <;> (try (simp only [reduceCtorEq] at h; done))
      · exact ih _ _ _ h
      · exact ih _ _ _ h
    | block id x =>
      simp only [aexec] at h
      rw [aexec]
      cases ho : aexec ft sm k x st with
      | none => simp [ho] at h
      | some p =>
        rw [ih _ _ _ ho]
        simpa [ho] using h
    | loop x =>
      simp only [aexec] at h
      rw [aexec]
      cases ho : aexec ft sm k x st with
      | none => simp [ho] at h
      | some p =>
        rw [ih _ _ _ ho]
        obtain ⟨o, st'⟩ := p
        simp only [ho] at h ⊢
        cases o with
        | nrm => exact ih _ _ _ h
        | _ => exact h
    | exit id => exact h
    | ret => exact h
    | rf f ps asg body =>
      simp only [aexec] at h
      rw [aexec]
      split at h <;> (try (simp only [reduceCtorEq] at h; done))
      split at h <;> (try (simp only [reduceCtorEq] at h; done))
      split at h <;> (try (simp only [reduceCtorEq] at h; done))
      rename_i hx
      rw [ihc _ _ _ _ hx]
      simp only
      exact h

theorem aexec_mono {ft : Nat → Option AFunc} {sm : Nat → Option Summ} {k m : Nat} (h : k ≤ m) : ExLe (aexec ft sm k) (aexec ft sm m) := by
  induction h with
  | refl => exact fun _ _ _ h => h
  | step _ ih => exact fun c st r hr => aexec_succ ft sm _ c st r (ih c st r hr)

theorem call_mono {ft : Nat → Option AFunc} {sm : Nat → Option Summ} {k m : Nat} (h : k ≤ m) : CaLe (callWith ft sm (aexec ft sm k)) (callWith ft sm (aexec ft sm m)) := callWith_mono (aexec_mono h)

end Go.AM
