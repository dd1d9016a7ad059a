/- The abstract machine is sound: the operations, tenth part: maps; and all operations together. -/
import Derived.Test.YthdkiocnbbeigaaAmOp9
namespace Go.AM
set_option linter.unusedVariables false
set_option linter.unusedSimpArgs false

variable {P : Program} {ι : IM} {s s' : AS} {w : World} {ρ : Opd → AV} {σ : Operand → Value} {o : Oper} {v : AV}

/-! ### Keys -/

theorem eqKOf_i {t : TypeId} (h : eqKOf P t = some (.plain .i)) : ∃ k, P.underlying t = some (.int k) := plainT_ok (eqKOf_plain h)
theorem eqKOf_s {t : TypeId} (h : eqKOf P t = some (.plain .s)) : P.underlying t = some .string := plainT_ok (eqKOf_plain h)

theorem check_plain {t : TypeId} {p : PT} (h : plainT P t = some p) (b : Bool) (n : Nat) (x : Value) (w : World) : (Instr.checkKey b (n + 1) t x).run P w = .ok () w := by
  have hp := plainT_ok h
  cases p <;> simp only at hp
  · obtain ⟨k, e⟩ := hp; simp [Instr.checkKey, run_underlying e]
  · simp [Instr.checkKey, run_underlying hp]
  · simp [Instr.checkKey, run_underlying hp]

theorem check_fields {b : Bool} {n : Nat} {c : List AV} {us : List Value} (hc : VRs ι c us) (w : World) : ∀ (fs : List Field) (l : List (Nat × PT)), plainFs P fs = some l →
    (∀ x ∈ l, x.1 < c.length) →
    (forIn fs PUnit.unit (fun (f : Field) (_ : PUnit) => (if f.name ≠ "_" then do
        let __do_lift ← part f.type us.toArray f.offset
        Instr.checkKey b (n + 1) f.type __do_lift
        pure (ForInStep.yield PUnit.unit)
      else pure (ForInStep.yield PUnit.unit) : Sem (ForInStep PUnit)))).run P w = .ok PUnit.unit w
  | [], l, _, _ => by simp
  | f :: fs, l, hl, hb => by
    simp only [plainFs] at hl
    cases h1 : plainT P f.type with
    | none => simp [h1] at hl
    | some p =>
      cases h2 : plainFs P fs with
      | none => simp [h1, h2] at hl
      | some l' =>
        simp only [h1, h2] at hl
        cases hn : f.name == "_" with
        | true => simp [hn] at hl
        | false =>
          simp only [hn, cond_false, Option.some.injEq] at hl
          subst hl
          have hn' : f.name ≠ "_" := by simpa using hn
          have hlt : f.offset < c.length := hb (f.offset, p) (by simp)
          obtain ⟨u, hu, _⟩ := hc.get (List.getElem?_eq_getElem hlt)
          have hp : (part f.type us.toArray f.offset).run P w = .ok u w := part_plain h1 (by simpa using hu) w
          have ih := check_fields (b := b) (n := n) hc w fs l' h2 (fun x hx => hb x (by simp [hx]))
          simp only [List.forIn_cons, Sem.run_bind, if_pos hn', hp, Result.andThen_ok, check_plain h1, Sem.run_pure]
          exact ih

theorem range_lt {l : List (Nat × PT)} {n : Nat} (h : l.map (·.1) = List.range n) : ∀ x ∈ l, x.1 < n := fun x hx => by
  have : x.1 ∈ l.map (·.1) := List.mem_map.2 ⟨x, hx, rfl⟩
  rw [h] at this
  simpa using this

theorem check_str {t : TypeId} {fs : Array Field} (hu : P.underlying t = some (.struct fs)) {l : List (Nat × PT)} (hl : plainFs P fs.toList = some l) {c : List AV} {us : List Value} (hc : VRs ι c us) (hlt : ∀ x ∈ l, x.1 < c.length)
    (b : Bool) (n : Nat) (w : World) : (Instr.checkKey b (n + 1 + 1) t (.agg us.toArray)).run P w = .ok () w := by
  have := check_fields (P := P) (b := b) (n := n) hc w fs.toList l hl hlt
  simp only [Instr.checkKey, Sem.run_bind, run_underlying hu, Result.andThen_ok]
  rw [← Array.forIn_toList]
  exact congrArg (fun r => Result.andThen r fun _ w' => Result.ok () w') this

theorem check_ok {t : TypeId} {e : EqK} (he : eqKOf P t = some e) {k : AV} (hk : keyOk e k = true) {x : Value} (hv : VR ι k x) (b : Bool) (w : World) : (Instr.checkKey b 10000 t x).run P w = .ok () w := by
  unfold keyOk at hk
  split at hk <;> (try (simp at hk; done))
  · exact check_plain (eqKOf_plain he) b 9999 x w
  · exact check_plain (eqKOf_plain he) b 9999 x w
  · rename_i l c
    simp only [Bool.and_eq_true, beq_iff_eq] at hk
    obtain ⟨fs, hu, hh, hg, hl⟩ := eqKOf_str he
    cases hv with
    | ag hc =>
      exact check_str hu hl hc (range_lt hk.1) b 9998 w

/-! ### Looking up -/

theorem now_int (d : IntKind) (k k' : IntKind) (a b : Int) (h : kEq k k' = true) : Instr.sameNow (.int d) (.int k a) (.int k' b) = some (a == b) := by
  obtain rfl := kEq_eq h
  simp [Instr.sameNow]

theorem now_str (a b : List UInt8) : Instr.sameNow .string (.string ⟨a.toArray⟩) (.string ⟨b.toArray⟩) = some (bytesEq a b) := by
  simp only [Instr.sameNow, beq_toListBytes, ByteArray.toList_mk, bytesEq_eq]

/-- What a search comes to, for a store as well. -/
def Res (ι : IM) (e : EqK) (k : AV) (x : Value) (v : AV) (es : List (AV × AV)) (ents : List MapEntry) (j : Nat) (res : Option (Nat × Value)) : Prop :=
  match res with
  | none => upL e k v es = es ++ [(k, v)]
  | some (i, _) => ∃ e0 a0, ents[i - j]? = some e0 ∧ VR ι a0 e0.key ∧ eqV e k a0 = some true ∧
      ∀ y (hy : VR ι v y), ERs ι (upL e k v es) (ents.modify (i - j) fun m => { m with key := x, val := y })

/-- Where the key stands, and what stands there. -/
def Found (ι : IM) (r : Option AV) (res : Option (Nat × Value)) (j : Nat) : Prop :=
  match r, res with
  | none, none => True
  | some v, some (i, u) => j ≤ i ∧ VR ι v u
  | _, _ => False

theorem look_now {d : TypeDesc} {e : EqK} {k : AV} {x : Value} (hv : VR ι k x) (hd : (∃ q, d = .int q ∧ e = .plain .i) ∨ (d = .string ∧ e = .plain .s)) :
    ∀ (es : List (AV × AV)) (ents : List MapEntry) (j : Nat) (r : Option AV), ERs ι es ents → lookL e k es = some r → ∃ res, Instr.findNow d x ents j = some res ∧ Found ι r res j ∧ Res ι e k x v es ents j res
  | [], ents, j, r, hE, h => by
    cases hE
    simp [lookL] at h; subst h
    exact ⟨none, rfl, trivial, rfl⟩
  | (a, u) :: es, ents, j, r, hE, h => by
    cases hE with
    | cons hk hu hE =>
      rename_i m ents
      have hs : ∀ q, eqV e k a = some q → Instr.sameNow d x m.key = some q := by
        intro q hq
        rcases hd with ⟨q0, rfl, rfl⟩ | ⟨rfl, rfl⟩
        · simp only [eqV] at hq
          unfold eqP at hq
          split at hq <;> (try (simp at hq; done)) <;> rename_i hp <;> (try (simp at hp; done))
          rename_i k1 n1 k2 n2
          cases hke : kEq k1 k2 <;> simp [hke] at hq
          subst hq
          generalize hmk : m.key = mk at hk
          cases hv; cases hk
          exact now_int _ _ _ _ _ hke
        · simp only [eqV] at hq
          unfold eqP at hq
          split at hq <;> (try (simp at hq; done)) <;> rename_i hp <;> (try (simp at hp; done))
          rename_i l1 l2
          simp at hq; subst hq
          generalize hmk : m.key = mk at hk
          cases hv; cases hk
          exact now_str _ _
      simp only [lookL] at h
      cases hq : eqV e k a with
      | none => simp [hq] at h
      | some q =>
        have hs' := hs q hq
        cases q with
        | true =>
          simp [hq] at h; subst h
          refine ⟨some (j, m.val), by simp [Instr.findNow, hs'], ⟨Nat.le_refl _, hu⟩, m, a, by simp, hk, hq, fun y hy => ?_⟩
          simp only [upL, hq, Nat.sub_self, List.modify_zero_cons]
          exact .cons hv hy hE
        | false =>
          simp only [hq] at h
          obtain ⟨res, g1, g2, g3⟩ := look_now hv hd es ents (j + 1) r hE h
          refine ⟨res, by simp only [Instr.findNow, hs', g1], ?_, ?_⟩
          · unfold Found at g2 ⊢
            split at g2 <;> first | trivial | exact ⟨by omega, g2.2⟩ | exact g2.elim
          · cases res with
            | none => simp only [Res] at g3 ⊢; simp [upL, hq, g3]
            | some p =>
              obtain ⟨i, vv⟩ := p
              obtain ⟨e0, a0, f1, f2, f4, f3⟩ := g3
              have hji : j + 1 ≤ i := by
                unfold Found at g2
                split at g2
                · simp_all
                · rename_i heq; simp at heq; omega
                · exact g2.elim
              have hsub : i - j = (i - (j + 1)) + 1 := by omega
              refine ⟨e0, a0, by rw [hsub]; simpa using f1, f2, f4, fun y hy => ?_⟩
              rw [hsub, List.modify_succ_cons]
              simp only [upL, hq]
              exact .cons hk hu (f3 y hy)

theorem eqP_bits {p : PT} {a b : AV} {x y : Value} (ha : VR ι a x) (hb : VR ι b y) (h : eqP p a b = some true) (n : Nat) : Instr.sameBits n x y = true := by
  unfold eqP at h
  split at h
  · cases ha; cases hb
    simp at h; subst h
    cases n <;> simp [Instr.sameBits]
  · rename_i k m k' m'
    cases ha; cases hb
    cases hk : kEq k k' <;> simp [hk] at h
    obtain rfl := kEq_eq hk
    subst h
    cases n <;> simp [Instr.sameBits]
  · cases ha; cases hb
    simp [bytesEq_eq] at h; subst h
    have : ∀ (b : ByteArray), (b == b) = true := fun b => by rw [beq_toListBytes]; simp
    cases n <;> simp [Instr.sameBits, this]
  · simp at h

theorem eqS_all : ∀ (l : List (Nat × PT)) (xs ys : List AV), eqS l xs ys = some true → ∀ x ∈ l, ∃ a b, xs[x.1]? = some a ∧ ys[x.1]? = some b ∧ eqP x.2 a b = some true
  | [], _, _, _ => by simp
  | (o, p) :: l, xs, ys, h => by
    simp only [eqS] at h
    cases ha : xs[o]? with
    | none => simp [ha] at h
    | some a =>
      cases hb : ys[o]? with
      | none => simp [ha, hb] at h
      | some b =>
        simp only [ha, hb] at h
        cases he : eqP p a b with
        | none => simp [he] at h
        | some q =>
          cases q with
          | false => simp [he] at h
          | true =>
            simp only [he] at h
            intro x hx
            cases hx with
            | head => exact ⟨a, b, ha, hb, he⟩
            | tail _ hx => exact eqS_all l xs ys h x hx

theorem eqV_bits {e : EqK} {a b : AV} {x y : Value} (ha : VR ι a x) (hb : VR ι b y) (hk : keyOk e a = true) (h : eqV e a b = some true) : Instr.sameBits 10000 y x = true := by
  have hsym : ∀ {p : PT} {a b : AV}, eqP p a b = some true → eqP p b a = some true := by
    intro p a b h
    unfold eqP at h
    split at h <;> (try simp at h)
    · subst h; simp [eqP]
    · rename_i k m k' m'
      cases hk : kEq k k' <;> simp [hk] at h
      obtain rfl := kEq_eq hk
      subst h; simp [eqP, hk]
    · simp [bytesEq_eq] at h; subst h; simp [eqP, bytesEq_eq]
  unfold keyOk at hk
  split at hk <;> (try (simp at hk; done))
  · exact eqP_bits hb ha (hsym (p := .i) h) 10000
  · exact eqP_bits hb ha (hsym (p := .s) h) 10000
  · rename_i l c
    simp only [Bool.and_eq_true, beq_iff_eq] at hk
    simp only [eqV] at h
    split at h <;> (try (simp at h; done))
    rename_i a' c' heq
    simp only [AV.ag.injEq] at heq; subst heq
    cases hlen : c.length == c'.length <;> simp only [hlen, cond_true, cond_false, reduceCtorEq] at h
    have hlen' : c.length = c'.length := by simpa using hlen
    cases ha with
    | ag hx =>
      cases hb with
      | ag hy =>
        rename_i us vs
        have l1 := hx.length
        have l2 := hy.length
        have hall := eqS_all l c c' h
        show ((vs.toArray.size == us.toArray.size) && (vs.toArray.toList.zip us.toArray.toList).all fun (x, y) => Instr.sameBits 9999 x y) = true
        simp only [Bool.and_eq_true, beq_iff_eq, List.size_toArray]
        refine ⟨by omega, ?_⟩
        rw [List.all_eq_true]
        intro p hp
        obtain ⟨i, hi, hpi⟩ := List.mem_iff_getElem.1 hp
        simp only [List.length_zip] at hi
        have hic : i < c.length := by omega
        have hmem : i ∈ l.map (·.1) := by rw [hk.1]; simpa using hic
        obtain ⟨y, hy1, rfl⟩ := List.mem_map.1 hmem
        obtain ⟨a, b, q1, q2, q3⟩ := hall y hy1
        obtain ⟨u1, r1, r2⟩ := hx.get q1
        obtain ⟨u2, r3, r4⟩ := hy.get q2
        have hb := eqP_bits r4 r2 (hsym q3) 9999
        have e1 : vs[y.1]? = some u2 := r3
        have e2 : us[y.1]? = some u1 := r1
        have hp2 : p = (u2, u1) := by
          rw [← hpi, List.getElem_zip]
          rw [List.getElem?_eq_some_iff] at e1 e2
          obtain ⟨_, e1⟩ := e1
          obtain ⟨_, e2⟩ := e2
          rw [e1, e2]
        rw [hp2]; exact hb

theorem look_ask {t : TypeId} {l : List (Nat × PT)} (he : eqKOf P t = some (.str l)) {k : AV} {x : Value} (hv : VR ι k x) (w : World) :
    ∀ (es : List (AV × AV)) (ents : List MapEntry) (j : Nat) (r : Option AV), ERs ι es ents → lookL (.str l) k es = some r → ∃ res, (Instr.findAsking t x ents j).run P w = .ok res w ∧ Found ι r res j ∧ Res ι (.str l) k x v es ents j res
  | [], ents, j, r, hE, h => by
    cases hE
    simp [lookL] at h; subst h
    exact ⟨none, rfl, trivial, rfl⟩
  | (a, u) :: es, ents, j, r, hE, h => by
    cases hE with
    | cons hk hu hE =>
      rename_i m ents
      simp only [lookL] at h
      cases hq : eqV (.str l) k a with
      | none => simp [hq] at h
      | some q =>
        have hs' : (Op.equal t x m.key).run P w = .ok q w := by rw [equal_eq]; exact eqV_ok hv hk hq he (by simp) w
        cases q with
        | true =>
          simp [hq] at h; subst h
          refine ⟨some (j, m.val), by simp [Instr.findAsking, hs'], ⟨Nat.le_refl _, hu⟩, m, a, by simp, hk, hq, fun y hy => ?_⟩
          simp only [upL, hq, Nat.sub_self, List.modify_zero_cons]
          exact .cons hv hy hE
        | false =>
          simp only [hq] at h
          obtain ⟨res, g1, g2, g3⟩ := look_ask he hv w es ents (j + 1) r hE h
          refine ⟨res, by simp [Instr.findAsking, hs', g1], ?_, ?_⟩
          · unfold Found at g2 ⊢
            split at g2 <;> first | trivial | exact ⟨by omega, g2.2⟩ | exact g2.elim
          · cases res with
            | none => simp only [Res] at g3 ⊢; simp [upL, hq, g3]
            | some p =>
              obtain ⟨i, vv⟩ := p
              obtain ⟨e0, a0, f1, f2, f3, f4⟩ := g3
              have hji : j + 1 ≤ i := by
                unfold Found at g2
                split at g2
                · simp_all
                · rename_i heq; simp at heq; omega
                · exact g2.elim
              have hsub : i - j = (i - (j + 1)) + 1 := by omega
              refine ⟨e0, a0, by rw [hsub]; simpa using f1, f2, f3, fun y hy => ?_⟩
              rw [hsub, List.modify_succ_cons]
              simp only [upL, hq]
              exact .cons hk hu (f4 y hy)

theorem find_ok {t : TypeId} {e : EqK} (he : eqKOf P t = some e) {k : AV} (hk : keyOk e k = true) {x : Value} (hv : VR ι k x) (w : World) {es : List (AV × AV)} {ents : List MapEntry} {r : Option AV} (hE : ERs ι es ents)
    (h : lookL e k es = some r) : ∃ res, (Instr.findKey t x ents).run P w = .ok res w ∧ Found ι r res 0 ∧ Res ι e k x v es ents 0 res := by
  have now : ∀ d, P.underlying t = some d → ((∃ q, d = .int q ∧ e = .plain .i) ∨ (d = .string ∧ e = .plain .s)) → ∃ res, (Instr.findKey t x ents).run P w = .ok res w ∧ Found ι r res 0 ∧ Res ι e k x v es ents 0 res := by
    intro d hd hcase
    obtain ⟨res, g1, g2, g3⟩ := look_now (v := v) hv hcase es ents 0 r hE h
    exact ⟨res, by simp [Instr.findKey, run_underlying hd, g1], g2, g3⟩
  unfold keyOk at hk
  split at hk <;> (try (simp at hk; done))
  · obtain ⟨q, hq⟩ := eqKOf_i he
    exact now _ hq (.inl ⟨q, rfl, rfl⟩)
  · exact now _ (eqKOf_s he) (.inr ⟨rfl, rfl⟩)
  · rename_i l c
    obtain ⟨fs, hu, hh, hg, hl⟩ := eqKOf_str he
    cases hE with
    | nil =>
      simp [lookL] at h; subst h
      exact ⟨none, by simp [Instr.findKey, run_underlying hu, Instr.findNow], trivial, rfl⟩
    | cons hk hu2 hE =>
      obtain ⟨res, g1, g2, g3⟩ := look_ask (v := v) he hv w _ _ 0 r (.cons hk hu2 hE) h
      refine ⟨res, ?_, g2, g3⟩
      simp only [Instr.findKey, Sem.run_bind, run_underlying hu, Result.andThen_ok, Instr.findNow, Instr.sameNow, g1]

theorem ok_lk {t : TypeId} {m k : Operand} {cok : Bool} {ao : AOp} (ho : o.op = .lookup t m k cok) (hc : cOp P o.op = some ao) (hO : OR ι ρ σ) (hR : R P ι s w) (ha : aop ρ ao s = some (v, s')) :
    OpOk P (execOp σ o) ι s w v s' ao.quiet := by
  rw [ho] at hc
  simp only [cOp] at hc
  have hx : execOp σ o = (do pure (.value (← Instr.lookup t (σ m) (σ k) cok))) := by simp [execOp, ho]
  rw [hx]
  split at hc <;> try (simp at hc; done)
  rename_i kt el m' k' hu h1 h2
  split at hc <;> try (simp at hc; done)
  rename_i e zero he hz
  simp at hc; subst hc
  obtain ⟨zv, z1, z2⟩ := zvOf_run hz
  have hvm := hO _ _ h1
  have hvk := hO _ _ h2
  simp only [aop] at ha
  cases hkk : keyOk e (ρ k') <;> simp only [hkk, cond_true, cond_false, reduceCtorEq] at ha
  generalize hqm : σ m = vm at hvm
  generalize hqk : σ k = vk at hvk
  -- the entries
  have main : ∀ (es : List (AV × AV)) (ents : List MapEntry), ERs ι es ents → (∀ res, (Instr.findKey kt vk ents).run P w = .ok res w → (Instr.lookup t vm vk cok).run P w = match res with
        | some (_, u) => .ok (if cok then .tuple #[u, .bool true] else u) w
        | none => .ok (if cok then .tuple #[zv, .bool false] else zv) w) → (match lookL e (ρ k') es with
    | none => none
    | some none => some (bif cok then AV.tu [zero, .b false] else zero, s)
    | some (some v) => some (bif cok then .tu [v, .b true] else v, s)) = some (v, s') → OpOk P (do pure (.value (← Instr.lookup t vm vk cok))) ι s w v s' (AOp.lk e zero cok m' k').quiet := by
    intro es ents hE hrun ha
    cases hl : lookL e (ρ k') es with
    | none => simp [hl] at ha
    | some r =>
      obtain ⟨res, g1, g2, _⟩ := find_ok (v := v) he hkk hvk w hE hl
      have hr := hrun res g1
      cases r with
      | none =>
        simp only [hl] at ha
        obtain ⟨rfl, rfl⟩ := some2 ha
        cases res with
        | some _ => exact g2.elim
        | none =>
          have hz := (cVal_ok z1 ι).1
          cases cok with
          | true => exact OpOk.value hr (VR.tu (.cons hz (.cons (.b _) .nil))) (.refl hR) fun _ => ⟨rfl, rfl, rfl⟩
          | false => exact OpOk.value hr hz (.refl hR) fun _ => ⟨rfl, rfl, rfl⟩
      | some r =>
        simp only [hl] at ha
        obtain ⟨rfl, rfl⟩ := some2 ha
        cases res with
        | none => exact g2.elim
        | some p =>
          obtain ⟨i, u⟩ := p
          have hru : VR ι r u := g2.2
          cases cok with
          | true => exact OpOk.value hr (VR.tu (.cons hru (.cons (.b _) .nil))) (.refl hR) fun _ => ⟨rfl, rfl, rfl⟩
          | false => exact OpOk.value hr hru (.refl hR) fun _ => ⟨rfl, rfl, rfl⟩
  have hchk := fun b => check_ok he hkk hvk b w
  generalize hvmk : ρ m' = am at hvm ha
  cases hvm with
  | mn =>
    refine main [] [] .nil (fun res g1 => ?_) ?_
    · cases res with
      | none => simp [Instr.lookup, run_underlying hu, hchk, g1, z2]
      | some p => simp [Instr.lookup, run_underlying hu, hchk, g1]
    · simpa [lookL] using ha
  | m hL =>
    rename_i q L
    simp only at ha
    cases hq : s.h.get q with
    | none => simp [hq] at ha
    | some B =>
      cases B with
      | mp es =>
        simp only [hq] at ha
        obtain ⟨ents, clk, f1, f2, _⟩ := hR.mapOf hq hL
        refine main es ents.toList f2 (fun res g1 => ?_) ha
        cases res with
        | none => simp [Instr.lookup, run_underlying hu, hchk, g1, z2, getObj_map f1]
        | some p => simp [Instr.lookup, run_underlying hu, hchk, g1, getObj_map f1]
      | row _ _ => simp [hq] at ha
      | lp _ _ _ _ _ _ _ => simp [hq] at ha
  | _ => simp at ha

theorem ERs.append {l l' : List (AV × AV)} {es es' : List MapEntry} (h : ERs ι l es) (h' : ERs ι l' es') : ERs ι (l ++ l') (es ++ es') := by
  induction h with
  | nil => exact h'
  | cons a b _ ih => exact .cons a b ih

theorem ok_mup {t : TypeId} {m k x : Operand} {ao : AOp} (ho : o.op = .mapUpdate t m k x ∨ o.op = .insert t m k x) (hc : cOp P o.op = some ao) (hO : OR ι ρ σ) (hR : R P ι s w) (ha : aop ρ ao s = some (v, s')) :
    OpOk P (execOp σ o) ι s w v s' ao.quiet := by
  have hx : execOp σ o = (do Instr.mapUpdate t (σ m) (σ k) (σ x); pure .skip) := by rcases ho with ho | ho <;> simp [execOp, ho]
  rw [hx]
  have hc : (match P.underlying t, cOpd m, cOpd k, cOpd x with
    | some (.map kt _), some m, some k, some v => match eqKOf P kt with
      | some eq => some (.mup eq m k v)
      | _ => none
    | _, _, _, _ => none) = some ao := by rcases ho with ho | ho <;> (rw [ho] at hc; exact hc)
  split at hc <;> try (simp at hc; done)
  rename_i kt el m' k' x' hu h1 h2 h3
  split at hc <;> try (simp at hc; done)
  rename_i e he
  simp at hc; subst hc
  have hvm := hO _ _ h1
  have hvk := hO _ _ h2
  have hvx := hO _ _ h3
  simp only [aop] at ha
  cases hkk : keyOk e (ρ k') <;> simp only [hkk, cond_true, cond_false, reduceCtorEq] at ha
  have hchk := fun b => check_ok he hkk hvk b w
  generalize hvmk : ρ m' = am at hvm ha
  generalize hqm : σ m = vm at hvm
  cases hvm with
  | m hL =>
    rename_i q L
    simp only at ha
    cases hq : s.h.get q with
    | none => simp [hq] at ha
    | some B =>
      cases B with
      | mp es =>
        simp only [hq] at ha
        cases hl : lookL e (ρ k') es with
        | none => simp [hl] at ha
        | some r =>
          simp only [hl] at ha
          obtain ⟨rfl, rfl⟩ := some2 ha
          obtain ⟨ents, clk, f1, f2, f3⟩ := hR.mapOf hq hL
          obtain ⟨res, g1, g2, g3⟩ := find_ok (v := ρ x') he hkk hvk w f2 hl
          have hset : ∀ o', (setObj L.r o').run P w = .ok () (w.putObj L.r o') := fun o' => by simp [setObj, Sem.run, f1, World.putObj]
          cases res with
          | none =>
            have hext : Ext P ι s w ι (s.write q (.mp (upL e (ρ k') (ρ x') es))) (w.putObj L.r (.map (ents.push { key := σ k, val := σ x, born := clk }) (clk + 1))) := by
              refine Ext.set hR hq rfl hL ⟨_, _, rfl, ?_, ?_⟩ rfl rfl rfl rfl
              · simp only [Res] at g3
                rw [g3, Array.toList_push]
                exact f2.append (.cons hvk hvx .nil)
              · rw [Array.toList_push]
                exact f3.push _ _
            refine OpOk.unit ?_ hext
            simp [Instr.mapUpdate, run_underlying hu, getObj_map f1, hchk, g1, hset]
          | some p =>
            obtain ⟨i, u⟩ := p
            obtain ⟨e0, a0, p1, p2, p3, p4⟩ := g3
            have hbits := eqV_bits hvk p2 hkk p3
            have hext : Ext P ι s w ι (s.write q (.mp (upL e (ρ k') (ρ x') es))) (w.putObj L.r (.map (ents.modify i fun e => { e with key := σ k, val := σ x }) clk)) := by
              refine Ext.set hR hq rfl hL ⟨_, _, rfl, ?_, ?_⟩ rfl rfl rfl rfl
              · rw [Array.toList_modify]
                exact p4 _ hvx
              · rw [Array.toList_modify]
                exact f3.modify _ _ _
            refine OpOk.unit ?_ hext
            have he0 : (((ents[i]?).map (·.key)).getD (σ k)) = e0.key := by
              have : ents[i]? = some e0 := by simpa using p1
              rw [this]; rfl
            have hstay : (Instr.keyThatStays e0.key (σ k)).run P w = .ok (σ k) w := by
              unfold Instr.keyThatStays
              rw [if_pos hbits]; rfl
            simp only [Instr.mapUpdate, Sem.run_bind, run_underlying hu, Result.andThen_ok, getObj_map f1, hchk, g1, he0, hstay, hset]
      | row _ _ => simp [hq] at ha
      | lp _ _ _ _ _ _ _ => simp [hq] at ha
  | _ => simp at ha

/-! ### All of them -/

theorem aop_ok {ao : AOp} (hc : cOp P o.op = some ao) (hO : OR ι ρ σ) (hR : R P ι s w) (ha : aop ρ ao s = some (v, s')) : OpOk P (execOp σ o) ι s w v s' ao.quiet := by
  cases ho : o.op with
  | move x => exact ok_move (.inl ho) hc hO hR ha
  | assign x => exact ok_move (.inr ho) hc hO hR ha
  | pick c a b => exact ok_pick ho hc hO hR ha
  | alloc t => exact ok_alloc ho hc hO hR ha
  | box t x => exact ok_box ho hc hO hR ha
  | build t ps => exact ok_build ho hc hO hR ha
  | buildSlice t n ps => exact ok_bsl ho hc hO hR ha
  | load t x => exact ok_load ho hc hO hR ha
  | store t x y => exact ok_store ho hc hO hR ha
  | nilCheck x => exact ok_nilck ho hc hO hR ha
  | binOp op t x y u => exact ok_bin ho hc hO hR ha
  | unOp op t x => exact ok_un ho hc hO hR ha
  | convert a b x => exact ok_cv ho hc hO hR ha
  | makeFunc fn a b =>
    cases fn with
    | func f => exact ok_mkf ho hc hO hR ha
    | _ => rw [ho] at hc; simp [cOp] at hc
  | makeMap t r =>
    cases r with
    | none => exact ok_mkm ho hc hO hR ha
    | some _ => rw [ho] at hc; simp [cOp] at hc
  | makeSlice t l c => exact ok_mks ho hc hO hR ha
  | slice t x l h m => exact ok_slice ho hc hO hR ha
  | fieldAddr t x f => exact ok_fad ho hc hO hR ha
  | field t x f => exact ok_field ho hc hO hR ha
  | indexAddr t x i => exact ok_iad ho hc hO hR ha
  | index t x i => exact ok_idx ho hc hO hR ha
  | lookup t m k c => exact ok_lk ho hc hO hR ha
  | mapUpdate t m k x => exact ok_mup (.inl ho) hc hO hR ha
  | insert t m k x => exact ok_mup (.inr ho) hc hO hR ha
  | extract x i => exact ok_ext ho hc hO hR ha
  | call c =>
    cases hb : c.callee with
    | builtin b =>
      cases b with
      | len => exact ok_len ho hb hc hO hR ha
      | append => exact ok_app ho hb hc hO hR ha
      | copy => exact ok_cpy ho hb hc hO hR ha
      | min => exact ok_mnx (mx := false) ho hb hc hO hR ha
      | max => exact ok_mnx (mx := true) ho hb hc hO hR ha
      | clear => exact ok_clr ho hb hc hO hR ha
      | _ => rw [ho] at hc; simp [cOp, hb] at hc
    | value f =>
      rw [ho] at hc
      simp only [cOp, hb] at hc
      split at hc <;> simp at hc
      subst hc
      simp [aop] at ha
    | invoke r n => rw [ho] at hc; simp [cOp, hb] at hc
  | _ => rw [ho] at hc; simp [cOp] at hc

#print axioms aop_ok

end Go.AM
