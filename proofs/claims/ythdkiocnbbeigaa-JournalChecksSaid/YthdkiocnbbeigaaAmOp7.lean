/- The abstract machine is sound: the operations, seventh part: append, copy. -/
import Derived.Test.YthdkiocnbbeigaaAmOp6
namespace Go.AM
set_option linter.unusedVariables false
set_option linter.unusedSimpArgs false

variable {P : Program} {ι : IM} {s s' : AS} {w : World} {ρ : Opd → AV} {σ : Operand → Value} {o : Oper} {v : AV}

theorem src_ok {z n : Nat} {a : AV} {new : List AV} (h : srcCells s z a = some (n, new)) {x : Value} (hv : VR ι a x) (hR : R P ι s w) :
    (Builtin.lenOf x).run P w = .ok n w ∧ new.length = n * z ∧ ∃ us, (Builtin.firstCells z n x).run P w = .ok (us : List Value).toArray w ∧ VRs ι new us := by
  unfold srcCells at h
  split at h
  · cases hv
    obtain ⟨rfl, rfl⟩ := some2 h
    exact ⟨rfl, by simp, [], rfl, .nil⟩
  · rename_i q off z' len cap ex
    cases hzz : z' == z <;> simp only [hzz, cond_true, cond_false, reduceCtorEq] at h
    have hzz' : z' = z := by simpa using hzz
    subst hzz'
    split at h <;> (try (simp only [reduceCtorEq] at h; done))
    rename_i wr cs hb
    split at h <;> (try (simp only [reduceCtorEq] at h; done))
    rename_i l hcut
    obtain ⟨rfl, rfl⟩ := some2 h
    cases hv with
    | sl hL hl hcc he hb0 =>
      rename_i L off' cap'
      refine ⟨rfl, cut_length hcut, ?_⟩
      by_cases h0 : cap' = 0
      · have hl0 : len = 0 := by omega
        subst hl0
        have : l = [] := by have := cut_length hcut; simpa using this
        subst this
        exact ⟨[], by simp [Builtin.firstCells, loadCells, loadCellsFrom], .nil⟩
      · obtain ⟨rfl, ho2⟩ := hb0.resolve_left (by omega)
        obtain ⟨us, g1, g2, g3⟩ := readRow hR hb hcut hL
        exact ⟨us, by simpa [Builtin.firstCells] using g1, g2⟩
  · rename_i l
    cases hz1 : z == 1 <;> simp only [hz1, cond_true, cond_false, reduceCtorEq] at h
    have hz1' : z = 1 := by simpa using hz1
    subst hz1'
    obtain ⟨rfl, rfl⟩ := some2 h
    cases hv
    refine ⟨by simp [Builtin.lenOf, bsize], by simp, l.map fun c => .int .u8 c.toNat, ?_, ?_⟩
    · simp only [Builtin.firstCells, Sem.run_pure]
      congr 1
      rw [ByteArray.extract_mk]
      simp
    · induction l with
      | nil => exact .nil
      | cons c l ih => exact .cons (.i _ _) (ih rfl)
  · simp at h

theorem growBy_le (need : Nat) : ∀ (k c : Nat), c ≤ 2 * need + 768 → Builtin.growBy need k c ≤ 2 * need + 768
  | 0, c, h => h
  | k + 1, c, h => by
    simp only [Builtin.growBy]
    split
    · exact h
    · exact growBy_le need k _ (by omega)

theorem nextcap_le {need cap : Nat} (h : cap < need) : Builtin.nextslicecap need cap ≤ 2 * need + 768 := by
  unfold Builtin.nextslicecap
  split
  · omega
  · split
    · omega
    · exact growBy_le need 4 cap (by omega)

/-- append that makes a new row. -/
theorem append_grow {t u e : TypeId} {z bytes : Nat} {zero : List AV} (hu : P.underlying t = some (.slice e)) (hu2 : (∃ e2, P.underlying u = some (.slice e2)) ∨ P.underlying u = some .string) (hz : szOf P e = some z)
    (hbs : bytesIn P e = some bytes) (hzs : zsOf P e = some zero) (hb0 : bytes ≠ 0) (hb1 : bytes ≤ 65536) {base : Option Addr} {len cap n : Nat} {y : Value} {olds news : List Value}
    (hlen : (Builtin.lenOf y).run P w = .ok n w) (hold : (Builtin.firstCells z len (.slice base len cap)).run P w.drew = .ok olds.toArray w.drew)
    (hnew : (Builtin.firstCells z n y).run P w.drew = .ok news.toArray w.drew) (hneed : cap < len + n) (hroom : (len + n) * bytes ≤ most46) (ty : TypeId) :
    ∃ c cap', (Builtin.append_ #[t, u] ty #[.slice base len cap, y]).run P w = .ok (.slice (some ⟨w.heap.size, 0, none⟩) (len + n) cap') (w.drew.alloc (.cells c e)) ∧ len + n ≤ cap' ∧
      ∃ rest, c.toList = olds ++ news ++ rest ∧ (olds.length = len * z → news.length = n * z → zero.length = z → c.size = cap' * z) := by
  obtain ⟨zv, a, h1, rfl, h2⟩ := zsOf_run hzs
  have hinfo : ∃ i, P.info? e = some i ∧ i.bytes = bytes := by
    simp only [bytesIn, Option.map_eq_some_iff] at hbs; exact hbs
  obtain ⟨inf, hi, rfl⟩ := hinfo
  have hnz : ∀ d, P.underlying u = some d → (∀ k, d ≠ .int k) := by
    intro d hd k hk
    rcases hu2 with ⟨e2, h⟩ | h <;> rw [hd] at h <;> simp [hk] at h
  have hud : ∃ d, P.underlying u = some d ∧ ∀ k, d ≠ .int k := by
    rcases hu2 with ⟨e2, h⟩ | h
    · exact ⟨_, h, fun k hk => by cases hk⟩
    · exact ⟨_, h, fun k hk => by cases hk⟩
  obtain ⟨d, hd, hdk⟩ := hud
  have hzf : (match d with | .int _ => true | _ => false) = false := by
    cases d <;> simp_all
  have hcapb : ¬ Builtin.nextslicecap (len + n) cap * inf.bytes > 2 ^ 48 := by
    have h3 := nextcap_le hneed
    have h4 : Builtin.nextslicecap (len + n) cap * inf.bytes ≤ (2 * (len + n) + 768) * inf.bytes := Nat.mul_le_mul_right _ h3
    have h5 : (2 * (len + n) + 768) * inf.bytes = 2 * ((len + n) * inf.bytes) + 768 * inf.bytes := by rw [Nat.add_mul, Nat.mul_assoc]
    unfold most46 at hroom
    omega
  have hforced : (Question.appendCap (len + n) cap e).forced = false := rfl
  refine ⟨olds.toArray ++ news.toArray ++ Builtin.zeroCells zv.cells ((Question.appendCap (len + n) cap e).cut (w.tape w.drawn (.appendCap (len + n) cap e)) - (len + n)),
    (Question.appendCap (len + n) cap e).cut (w.tape w.drawn (.appendCap (len + n) cap e)), ?_, ?_, (Builtin.zeroCells zv.cells ((Question.appendCap (len + n) cap e).cut (w.tape w.drawn (.appendCap (len + n) cap e)) - (len + n))).toList, by simp, ?_⟩
  · have hneed' : ¬ (len + n ≤ cap) := by omega
    simp only [Builtin.append_, List.getElem?_toArray, List.getElem?_cons_zero, List.getElem?_cons_succ, Sem.run_bind, run_underlying hu, Result.andThen_ok, szOf_run hz, run_underlying hd, Sem.run_pure, hzf,
      Bool.false_eq_true, if_false, hlen, hneed', run_typeInfo_of hi, hb0, or_self, and_false, hcapb, run_choose_drew, hforced, run_askRoom, hold, hnew, h2, newRow_run, false_or]
    simp only [Bool.not_false, if_true, hnew, Result.andThen_ok]
    rfl
  · simp only [Question.cut]; omega
  · intro g1 g2 g3
    have hzc : zv.cells.size = z := by have := (cVal_ok h1 (fun _ => none)).2.1.size; omega
    have hge : len + n ≤ (Question.appendCap (len + n) cap e).cut (w.tape w.drawn (.appendCap (len + n) cap e)) := by simp only [Question.cut]; omega
    generalize (Question.appendCap (len + n) cap e).cut (w.tape w.drawn (.appendCap (len + n) cap e)) = C at hge
    simp only [Array.size_append, List.size_toArray, Builtin.zeroCells, Array.size_map, Array.size_range, g1, g2, hzc]
    rw [← Nat.add_mul, ← Nat.add_mul]; congr 1; omega


/-- append in place. -/
theorem append_place {t u e : TypeId} {z : Nat} (hu : P.underlying t = some (.slice e)) (hu2 : (∃ e2, P.underlying u = some (.slice e2)) ∨ P.underlying u = some .string) (hz : szOf P e = some z)
    {base : Option Addr} {len cap n : Nat} {y : Value} {news : List Value} {w' : World}
    (hlen : (Builtin.lenOf y).run P w = .ok n w) (hnew : (Builtin.firstCells z n y).run P w = .ok news.toArray w) (hneed : len + n ≤ cap)
    (hst : match base with | some a => (storeCells (a.add (len * z)) news).run P w = .ok () w' | none => w' = w) (ty : TypeId) :
    (Builtin.append_ #[t, u] ty #[.slice base len cap, y]).run P w = .ok (.slice base (len + n) cap) w' := by
  have hud : ∃ d, P.underlying u = some d ∧ ∀ k, d ≠ .int k := by
    rcases hu2 with ⟨e2, h⟩ | h
    · exact ⟨_, h, fun k hk => by cases hk⟩
    · exact ⟨_, h, fun k hk => by cases hk⟩
  obtain ⟨d, hd, hdk⟩ := hud
  have hzf : (match d with | .int _ => true | _ => false) = false := by
    cases d <;> simp_all
  cases base with
  | none =>
    subst hst
    simp only [Builtin.append_, List.getElem?_toArray, List.getElem?_cons_zero, List.getElem?_cons_succ, Sem.run_bind, run_underlying hu, Result.andThen_ok, szOf_run hz, run_underlying hd, Sem.run_pure, hzf,
      Bool.false_eq_true, if_false, hlen, if_pos hneed, Bool.not_false, if_true, hnew]
  | some a =>
    simp only [Builtin.append_, List.getElem?_toArray, List.getElem?_cons_zero, List.getElem?_cons_succ, Sem.run_bind, run_underlying hu, Result.andThen_ok, szOf_run hz, run_underlying hd, Sem.run_pure, hzf,
      Bool.false_eq_true, if_false, hlen, if_pos hneed, Bool.not_false, if_true, hnew, hst]

theorem storeNil (a : Addr) : (storeCells a []).run P w = .ok () w := rfl

theorem ok_app {c : Call} {ao : AOp} (ho : o.op = .call c) (hb : c.callee = .builtin .append) (hc : cOp P o.op = some ao) (hO : OR ι ρ σ) (hR : R P ι s w) (ha : aop ρ ao s = some (v, s')) :
    OpOk P (execOp σ o) ι s w v s' ao.quiet := by
  rw [ho] at hc
  simp only [cOp, hb] at hc
  split at hc <;> try (simp at hc; done)
  rename_i x y t u hargs htys
  obtain ⟨cs0, hx⟩ := call_builtin (σ := σ) ho hb hargs htys
  rw [hx]
  show OpOk P (do pure (.value (← Builtin.append_ #[t, u] o.type #[σ x, σ y]))) ι s w v s' ao.quiet
  have main : ∀ e x' y', P.underlying t = some (.slice e) → ((∃ e2, P.underlying u = some (.slice e2)) ∨ P.underlying u = some .string) → cOpd x = some x' → cOpd y = some y' →
      (match szOf P e, bytesIn P e, zsOf P e with
          | some z, some bs, some zero => bif z == 0 || bs == 0 || !Nat.ble bs 65536 || !(zero.length == z) then none else some (.app z bs x' y')
          | _, _, _ => none) = some ao → OpOk P (do pure (.value (← Builtin.append_ #[t, u] o.type #[σ x, σ y]))) ι s w v s' ao.quiet := by
    intro e x' y' hu hu2 h1 h2 hc
    split at hc <;> try (simp at hc; done)
    rename_i z bs zero hz hbs hzs
    cases hcond : z == 0 || bs == 0 || !Nat.ble bs 65536 || !(zero.length == z) <;> simp only [hcond, cond_true, cond_false, Option.some.injEq, reduceCtorEq] at hc
    subst hc
    simp only [Bool.or_eq_false_iff, beq_eq_false_iff_ne, Bool.not_eq_false'] at hcond
    obtain ⟨⟨⟨hz0, hb0⟩, hb1⟩, hzl⟩ := hcond
    have hzl : zero.length = z := by simpa using hzl
    have hb1' := Nat.le_of_ble_eq_true hb1
    have hvx := hO _ _ h1
    have hvy := hO _ _ h2
    generalize hqx : σ x = vx at hvx
    generalize hqy : σ y = vy at hvy
    simp only [aop, appV] at ha
    split at ha <;> (try (simp only [reduceCtorEq] at ha; done))
    rename_i n new hsrc
    have hRd : R P ι s w.drew := (Ext.world hR (w' := w.drew) rfl rfl rfl rfl).rel
    obtain ⟨k1, k2, us, k3, k4⟩ := src_ok hsrc hvy hR
    obtain ⟨_, _, usd, k3d, k4d⟩ := src_ok hsrc hvy hRd
    cases hone : new.all AV.one <;> simp only [hone, cond_true, cond_false, reduceCtorEq] at ha
    have huslen : us.length = n * z := by rw [← k4.length, k2]
    have husdlen : usd.length = n * z := by rw [← k4d.length, k2]
    split at ha <;> (try (simp only [reduceCtorEq] at ha; done))
    · -- onto nil
      rename_i e1; rw [e1] at hvx
      cases hvx
      cases hn0 : n == 0 <;> simp only [hn0, cond_true, cond_false] at ha
      · cases hroom : Nat.ble (n * bs) most46 <;> simp only [hroom, cond_true, cond_false, reduceCtorEq] at ha
        obtain ⟨rfl, rfl⟩ := some2 ha
        have hn0' : n ≠ 0 := by simpa using hn0
        have hroom' := Nat.le_of_ble_eq_true hroom
        obtain ⟨ca, cap', g1, g2, rest, g3, g4⟩ := append_grow (base := none) (len := 0) (cap := 0) (olds := []) (news := usd) hu hu2 hz hbs hzs hb0 hb1' k1 rfl k3d (by omega) (by simpa using hroom') o.type
        have he1 := Ext.world hR (w' := w.drew) rfl rfl rfl rfl
        have he2 := newRow_ok he1.rel e (cs := new) (c := ca) (us := usd) (rest := rest) (by simpa using g3) k4d (w' := w.drew.alloc (.cells ca e)) rfl rfl rfl rfl
        refine OpOk.value (by simpa using g1) ?_ (he1.trans he2) (by simp [AOp.quiet])
        refine VR.sl (L := ⟨w.heap.size, 0, ca.size⟩) (IM.set_same _ _ _) (by omega) (by omega) (by simp) (.inr ⟨rfl, ?_⟩)
        have := g4 (by simp) husdlen hzl
        simp only; omega
      · obtain ⟨rfl, rfl⟩ := some2 ha
        have hn0' : n = 0 := by simpa using hn0
        subst hn0'
        refine OpOk.value (vv := .slice none 0 0) ?_ .sn (.refl hR) (by simp [AOp.quiet])
        have := append_place (P := P) (w := w) (w' := w) (base := none) (len := 0) (cap := 0) hu hu2 hz k1 k3 (Nat.le_refl _) rfl o.type
        simpa using this
    · rename_i q off z' len cap ex e1; rw [e1] at hvx
      cases hzz : z' == z <;> simp only [hzz, cond_true, cond_false, reduceCtorEq] at ha
      have hzz' : z' = z := by simpa using hzz
      subst hzz'
      split at ha <;> (try (simp only [reduceCtorEq] at ha; done))
      rename_i wr cs hbk
      cases hvx with
      | sl hL hl hcc he hb0x =>
        rename_i L off' cap'
        cases hcmp : Nat.ble (len + n) cap <;> simp only [hcmp, cond_true, cond_false] at ha
        · -- beyond what is known of its room
          have hgt : ¬ len + n ≤ cap := fun g => by rw [Nat.ble_eq_true_of_le g] at hcmp; cases hcmp
          cases hroom : Nat.ble ((len + n) * bs) most46 <;> simp only [hroom, cond_true, cond_false, reduceCtorEq] at ha
          have hroom' := Nat.le_of_ble_eq_true hroom
          split at ha <;> (try (simp only [reduceCtorEq] at ha; done))
          rename_i old hcut
          cases hone2 : old.all AV.one <;> simp only [hone2, cond_true, cond_false, reduceCtorEq] at ha
          have hsrc2 : srcCells s z' (.sl q off z' len cap ex) = some (len, old) := by simp [srcCells, hbk, hcut]
          obtain ⟨_, j2, _, _, _⟩ := src_ok hsrc2 (.sl hL hl hcc he hb0x) hR
          obtain ⟨_, _, uod, j3d, j4d⟩ := src_ok hsrc2 (.sl hL hl hcc he hb0x) hRd
          have huodlen : uod.length = len * z' := by rw [← j4d.length, j2]
          have grow : ∀ (s1 : AS), R P ι s1 w.drew → s1.nx = s.nx → cap' < len + n → ∃ vv w', (Builtin.append_ #[t, u] o.type #[.slice (some off') len cap', vy]).run P w = .ok vv w' ∧
              ∃ ι', VR ι' (.sl s.nx 0 z' (len + n) (len + n) false) vv ∧ Ext P ι s1 w.drew ι' (s1.new (.row true (old ++ new))) w' := by
            intro s1 hR1 hnx hlt
            obtain ⟨ca, cp, g1, g2, rest, g3, g4⟩ := append_grow (base := some off') (len := len) (cap := cap') (olds := uod) (news := usd) hu hu2 hz hbs hzs hb0 hb1' k1 j3d k3d hlt hroom' o.type
            have he2 := newRow_ok hR1 e (cs := old ++ new) (c := ca) (us := uod ++ usd) (rest := rest) g3 (j4d.append k4d) (w' := w.drew.alloc (.cells ca e)) rfl rfl rfl rfl
            refine ⟨_, _, g1, _, ?_, he2⟩
            rw [hnx]
            refine VR.sl (L := ⟨w.heap.size, 0, ca.size⟩) (IM.set_same _ _ _) (by omega) (by omega) (by simp) (.inr ⟨rfl, ?_⟩)
            have := g4 huodlen husdlen hzl
            simp only; omega
          cases ex with
          | true =>
            simp only [cond_true] at ha
            obtain ⟨rfl, rfl⟩ := some2 ha
            have hce := he rfl
            have he1 := Ext.world hR (w' := w.drew) rfl rfl rfl rfl
            obtain ⟨vv, w', g1, ι', g2, g3⟩ := grow s hRd rfl (by omega)
            exact OpOk.value g1 g2 (he1.trans g3) (by simp [AOp.quiet])
          | false =>
            simp only [cond_false] at ha
            cases wr with
            | false => simp at ha
            | true =>
              simp only [cond_true] at ha
              obtain ⟨rfl, rfl⟩ := some2 ha
              by_cases hlt : cap' < len + n
              · have he1 := Ext.world hR (w' := w.drew) rfl rfl rfl rfl
                have he2 := Ext.kill he1.rel q
                obtain ⟨vv, w', g1, ι', g2, g3⟩ := grow (s.kill q) he2.rel rfl hlt
                exact OpOk.value g1 g2 ((he1.trans he2).trans g3) (by simp [AOp.quiet])
              · -- it lies in the room
                have hn1 : 1 ≤ len + n := by omega
                obtain ⟨rfl, ho2⟩ := hb0x.resolve_left (by omega)
                obtain ⟨L', c, el, fr, hL', m1, m2, m3, m4, m5⟩ := hR.row hbk
                obtain rfl := Option.some.inj (hL.symm.trans hL')
                have hmul : (len + n) * z' ≤ cap' * z' := Nat.mul_le_mul_right _ (by omega)
                have hmul2 : (len + n) * z' = len * z' + n * z' := Nat.add_mul _ _ _
                obtain ⟨hcl, _⟩ := cut_some hcut
                obtain ⟨w', c', p1, p2, p3, p4, p5, p6, p7⟩ := storeCells_run (P := P) us (L.d + off + len * z') 0 w c m1 (k4.oneCells hone) (by omega) (fun j h1 h2 => m5 rfl j (by omega) (by omega))
                have hrun := append_place (P := P) (w := w) (w' := w') (base := some ⟨L.r, L.d + off, none⟩) (len := len) (cap := cap') hu hu2 hz k1 k3 (by omega) (by simpa only [add_of] using p1) o.type
                have hext : Ext P ι s w (ι.set s.nx ⟨L.r, L.d + off, L.n⟩) ((s.kill q).new (.row true (old ++ new))) w' := by
                  refine Ext.move hR hbk rfl hL ?_ p2 p5 p6 p7
                  have hol := cut_length hcut
                  refine ⟨c', el, fr, rfl, by simp only; omega, by simp only [List.length_append]; omega, fun i a hi => ?_, fun _ j h1 h2 => m5 rfl j (by simp only at h1; omega) h2⟩
                  rw [p4]
                  by_cases hi2 : i < old.length
                  · rw [List.getElem?_append_left hi2] at hi
                    rw [cut_get hcut, if_pos (by omega)] at hi
                    obtain ⟨uu, q1, q2⟩ := m4 _ _ hi
                    refine ⟨uu, ?_, q2.mono (hR.le_set _)⟩
                    simp only
                    rw [if_neg (by omega), Nat.add_assoc]; exact q1
                  · rw [List.getElem?_append_right (by omega)] at hi
                    obtain ⟨uu, q1, q2⟩ := k4.get hi
                    have hil : i - old.length < us.length := by
                      rcases Nat.lt_or_ge (i - old.length) us.length with h | h
                      · exact h
                      · rw [List.getElem?_eq_none h] at q1; cases q1
                    refine ⟨uu, ?_, q2.mono (hR.le_set _)⟩
                    simp only
                    rw [if_pos (by omega), show L.d + off + i - (L.d + off + len * z' + 0) = i - old.length by omega]; exact q1
                refine OpOk.value hrun ?_ hext (by simp [AOp.quiet])
                exact VR.sl (L := ⟨L.r, L.d + off, L.n⟩) (IM.set_same _ _ _) (by omega) (by omega) (by simp) (.inr ⟨by simp, by simpa using ho2⟩)
        · -- within what is known of its room
          have hle := Nat.le_of_ble_eq_true hcmp
          cases hn0 : n == 0 <;> simp only [hn0, cond_true, cond_false] at ha
          · have hn0' : n ≠ 0 := by simpa using hn0
            cases hw : wr && Nat.ble (off + (len + n) * z') cs.length <;> simp only [hw, cond_true, cond_false, reduceCtorEq] at ha
            obtain ⟨rfl, rfl⟩ := some2 ha
            simp only [Bool.and_eq_true] at hw
            obtain ⟨rfl, hw2⟩ := hw
            have hw3 := Nat.le_of_ble_eq_true hw2
            obtain ⟨rfl, ho2⟩ := hb0x.resolve_left (by omega)
            have hmul2 : (len + n) * z' = len * z' + n * z' := Nat.add_mul _ _ _
            obtain ⟨w', g1, g2⟩ := writeRow hR hbk (o := off + len * z') k4 hone (by omega) hL
            have hrun := append_place (P := P) (w := w) (w' := w') (base := some ⟨L.r, L.d + off, none⟩) (len := len) (cap := cap') hu hu2 hz k1 k3 (by omega) (by simpa only [add_of, Nat.add_assoc] using g1) o.type
            exact OpOk.value hrun (.sl hL (by omega) hcc he (.inr ⟨rfl, ho2⟩)) g2 (by simp [AOp.quiet])
          · obtain ⟨rfl, rfl⟩ := some2 ha
            have hn0' : n = 0 := by simpa using hn0
            subst hn0'
            have hus0 : us = [] := by simpa using huslen
            subst hus0
            have hrun := append_place (P := P) (w := w) (w' := w) (base := some off') (len := len) (cap := cap') hu hu2 hz k1 k3 (by omega) (storeNil _) o.type
            exact OpOk.value hrun (.sl hL hl hcc he hb0x) (.refl hR) (by simp [AOp.quiet])
  split at hc <;> try (simp at hc; done)
  · rename_i e _ x' y' hu hu2 h1 h2
    exact main e x' y' hu (.inl ⟨_, hu2⟩) h1 h2 hc
  · rename_i e x' y' hu hu2 h1 h2
    exact main e x' y' hu (.inr hu2) h1 h2 hc

end Go.AM
