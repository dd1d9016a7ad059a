/- The document's chart; posting on a chart. -/
import Derived.Test.YthdkiocnbbeigaaSpJ
namespace Go.AMJ
open Go Go.AM
set_option linter.unusedSimpArgs false
set_option linter.unusedVariables false

theorem cell_of {xs : List Acc} {cs : List AV} {o i : Nat} (hi : i < xs.length) (hc : cut cs (o + i * 5) 5 = some (encA xs[i])) :
    cs[o + i * 5]? = some (.i .i64 xs[i].code) ∧ cs[o + (i * 5 + 1)]? = some (.i .i64 xs[i].up) ∧ cs[o + i * 5 + 4]? = some (.b xs[i].shut) :=
  ⟨cut_at hc (show 0 < 5 by omega), cut_at hc (show 1 < 5 by omega), cut_at hc (show 4 < 5 by omega)⟩

/-- The place of an account. -/
def AtP (c : Int) (S : List Acc) (n : Int) : Prop := (n = -1 ∧ findA c S = none) ∨ ∃ (i : Nat) (h : i < S.length), n = i ∧ S[i].code = c

theorem at34_spec (s : AS) (v : AV) (S : List Acc) (hs : Sl s 5 v (S.map encA)) (hl : S.length ≤ 1000) (c : Int) :
    ∃ w, (∃ n, w = .i .i64 n ∧ AtP c S n) ∧ Re tab.get smJ (.fn 34 []) [v, .i .i64 c] s w := by
  have hlen := hs.len
  have hiad := fun i (hi : i < S.length) => hs.iad (i := i) (by simpa using hi)
  have hrow := fun i (hi : i < S.length) => hs.row (i := i) (by simpa using hi)
  simp only [List.length_map, List.getElem_map] at hlen hrow
  refine Re_some rfl (show tab.get 34 = some af34 from rfl) rfl ?_
  simp only [push_cast, Bool.not_true, Bool.not_false, Int.reduceBEq, Int.reduceLT, Int.reduceLE, decide_true, decide_false, Nat.reduceAdd, Nat.reduceLT, Nat.reduceLeDiff, Nat.reduceBEq, Nat.reduceMul, Nat.reduceEqDiff, af34]
  refine X_while (fun i : Nat => S.length - i) (fun i t s' => i ≤ S.length ∧ s' = ⟨s.h, s.nx, s.nx⟩ ∧ ev t (.t 0) = v ∧ ev t (.t 1) = .i .i64 c ∧ ev t (.t 5) = .i .i64 i ∧ ∀ a ∈ S.take i, a.code ≠ c) ?_ 0 _ _ ?_
  · rintro i t s' ⟨hi, rfl, h0, h1, h5, hno⟩ ih
    simp only [push_cast, Bool.not_true, Bool.not_false, Int.reduceBEq, Int.reduceLT, Int.reduceLE, decide_true, decide_false, Nat.reduceAdd, Nat.reduceLT, Nat.reduceLeDiff, Nat.reduceBEq, Nat.reduceMul, Nat.reduceEqDiff, h0, h1, h5, hlen]
    (first | (refine SC_casesN (fun h => ?_) (fun h => ?_) <;> simp only [push_cast, Bool.not_true, Bool.not_false, Int.reduceBEq, Int.reduceLT, Int.reduceLE, decide_true, decide_false, Nat.reduceAdd, Nat.reduceLT, Nat.reduceLeDiff, Nat.reduceBEq, Nat.reduceMul, Nat.reduceEqDiff, h, h0, h1, h5, hlen]) | (refine SC_cases (fun h => ?_) (fun h => ?_) <;> simp only [push_cast, Bool.not_true, Bool.not_false, Int.reduceBEq, Int.reduceLT, Int.reduceLE, decide_true, decide_false, Nat.reduceAdd, Nat.reduceLT, Nat.reduceLeDiff, Nat.reduceBEq, Nat.reduceMul, Nat.reduceEqDiff, h, h0, h1, h5, hlen]) | (refine SG_casesN (fun h => ?_) (fun h => ?_) <;> simp only [push_cast, Bool.not_true, Bool.not_false, Int.reduceBEq, Int.reduceLT, Int.reduceLE, decide_true, decide_false, Nat.reduceAdd, Nat.reduceLT, Nat.reduceLeDiff, Nat.reduceBEq, Nat.reduceMul, Nat.reduceEqDiff, h, h0, h1, h5, hlen]) | (refine SG_cases (fun h => ?_) (fun h => ?_) <;> simp only [push_cast, Bool.not_true, Bool.not_false, Int.reduceBEq, Int.reduceLT, Int.reduceLE, decide_true, decide_false, Nat.reduceAdd, Nat.reduceLT, Nat.reduceLeDiff, Nat.reduceBEq, Nat.reduceMul, Nat.reduceEqDiff, h, h0, h1, h5, hlen]) | (refine DG_casesN (fun h => ?_) (fun h => ?_) <;> simp only [push_cast, Bool.not_true, Bool.not_false, Int.reduceBEq, Int.reduceLT, Int.reduceLE, decide_true, decide_false, Nat.reduceAdd, Nat.reduceLT, Nat.reduceLeDiff, Nat.reduceBEq, Nat.reduceMul, Nat.reduceEqDiff, h, h0, h1, h5, hlen]) | (refine DG_cases (fun h => ?_) (fun h => ?_) <;> simp only [push_cast, Bool.not_true, Bool.not_false, Int.reduceBEq, Int.reduceLT, Int.reduceLE, decide_true, decide_false, Nat.reduceAdd, Nat.reduceLT, Nat.reduceLeDiff, Nat.reduceBEq, Nat.reduceMul, Nat.reduceEqDiff, h, h0, h1, h5, hlen]))
    · have hi' : i < S.length := by simpa using h
      obtain ⟨w0, cs, hb, hbn, hc⟩ := hrow i hi'
      obtain ⟨k1, _⟩ := cell_of hi' hc
      simp only [push_cast, Bool.not_true, Bool.not_false, Int.reduceBEq, Int.reduceLT, Int.reduceLE, decide_true, decide_false, Nat.reduceAdd, Nat.reduceLT, Nat.reduceLeDiff, Nat.reduceBEq, Nat.reduceMul, Nat.reduceEqDiff, h0, h1, h5, hiad i hi', hb, k1]
      (first | (refine SC_casesN (fun h => ?_) (fun h => ?_) <;> simp only [push_cast, Bool.not_true, Bool.not_false, Int.reduceBEq, Int.reduceLT, Int.reduceLE, decide_true, decide_false, Nat.reduceAdd, Nat.reduceLT, Nat.reduceLeDiff, Nat.reduceBEq, Nat.reduceMul, Nat.reduceEqDiff, h, h0, h1, h5]) | (refine SC_cases (fun h => ?_) (fun h => ?_) <;> simp only [push_cast, Bool.not_true, Bool.not_false, Int.reduceBEq, Int.reduceLT, Int.reduceLE, decide_true, decide_false, Nat.reduceAdd, Nat.reduceLT, Nat.reduceLeDiff, Nat.reduceBEq, Nat.reduceMul, Nat.reduceEqDiff, h, h0, h1, h5]) | (refine SG_casesN (fun h => ?_) (fun h => ?_) <;> simp only [push_cast, Bool.not_true, Bool.not_false, Int.reduceBEq, Int.reduceLT, Int.reduceLE, decide_true, decide_false, Nat.reduceAdd, Nat.reduceLT, Nat.reduceLeDiff, Nat.reduceBEq, Nat.reduceMul, Nat.reduceEqDiff, h, h0, h1, h5]) | (refine SG_cases (fun h => ?_) (fun h => ?_) <;> simp only [push_cast, Bool.not_true, Bool.not_false, Int.reduceBEq, Int.reduceLT, Int.reduceLE, decide_true, decide_false, Nat.reduceAdd, Nat.reduceLT, Nat.reduceLeDiff, Nat.reduceBEq, Nat.reduceMul, Nat.reduceEqDiff, h, h0, h1, h5]) | (refine DG_casesN (fun h => ?_) (fun h => ?_) <;> simp only [push_cast, Bool.not_true, Bool.not_false, Int.reduceBEq, Int.reduceLT, Int.reduceLE, decide_true, decide_false, Nat.reduceAdd, Nat.reduceLT, Nat.reduceLeDiff, Nat.reduceBEq, Nat.reduceMul, Nat.reduceEqDiff, h, h0, h1, h5]) | (refine DG_cases (fun h => ?_) (fun h => ?_) <;> simp only [push_cast, Bool.not_true, Bool.not_false, Int.reduceBEq, Int.reduceLT, Int.reduceLE, decide_true, decide_false, Nat.reduceAdd, Nat.reduceLT, Nat.reduceLeDiff, Nat.reduceBEq, Nat.reduceMul, Nat.reduceEqDiff, h, h0, h1, h5]))
      · refine ⟨⟨_, rfl, .inr ⟨i, hi', rfl, by simpa using h⟩⟩, rfl, Nat.le_refl _⟩
      · refine ih (i + 1) _ _ (by omega) ⟨hi', rfl, ?_, ?_, ?_, ?_⟩
        · simp only [push_cast, Bool.not_true, Bool.not_false, Int.reduceBEq, Int.reduceLT, Int.reduceLE, decide_true, decide_false, Nat.reduceAdd, Nat.reduceLT, Nat.reduceLeDiff, Nat.reduceBEq, Nat.reduceMul, Nat.reduceEqDiff, h0]
        · simp only [push_cast, Bool.not_true, Bool.not_false, Int.reduceBEq, Int.reduceLT, Int.reduceLE, decide_true, decide_false, Nat.reduceAdd, Nat.reduceLT, Nat.reduceLeDiff, Nat.reduceBEq, Nat.reduceMul, Nat.reduceEqDiff, h1]
        · simp only [push_cast, Bool.not_true, Bool.not_false, Int.reduceBEq, Int.reduceLT, Int.reduceLE, decide_true, decide_false, Nat.reduceAdd, Nat.reduceLT, Nat.reduceLeDiff, Nat.reduceBEq, Nat.reduceMul, Nat.reduceEqDiff, h5]; rw [wrap_i64 (by omega) (by omega)]
        · intro a ha
          rw [take_succ' hi', List.mem_append] at ha
          rcases ha with ha | ha
          · exact hno a ha
          · simp only [List.mem_singleton] at ha; subst ha; simpa using h
    · have hi' : i = S.length := by simp at h; omega
      subst hi'
      rw [List.take_length] at hno
      refine ⟨⟨_, rfl, .inl ⟨rfl, ?_⟩⟩, rfl, Nat.le_refl _⟩
      unfold findA
      rw [List.find?_eq_none]
      intro a ha; simpa using fun e : c = a.code => hno a ha e.symm
  · exact ⟨Nat.zero_le _, rfl, by simp only [push_cast, Bool.not_true, Bool.not_false, Int.reduceBEq, Int.reduceLT, Int.reduceLE, decide_true, decide_false, Nat.reduceAdd, Nat.reduceLT, Nat.reduceLeDiff, Nat.reduceBEq, Nat.reduceMul, Nat.reduceEqDiff], by simp only [push_cast, Bool.not_true, Bool.not_false, Int.reduceBEq, Int.reduceLT, Int.reduceLE, decide_true, decide_false, Nat.reduceAdd, Nat.reduceLT, Nat.reduceLeDiff, Nat.reduceBEq, Nat.reduceMul, Nat.reduceEqDiff], by simp only [push_cast, Bool.not_true, Bool.not_false, Int.reduceBEq, Int.reduceLT, Int.reduceLE, decide_true, decide_false, Nat.reduceAdd, Nat.reduceLT, Nat.reduceLeDiff, Nat.reduceBEq, Nat.reduceMul, Nat.reduceEqDiff] <;> rfl, fun a ha => by simp at ha⟩

/-- Is one under another? What is known of the answer. -/
def IsP (S : List Acc) (x u : Int) (b : Bool) : Prop :=
  ((∃ a ∈ S, a.code = x) → x = u → b = true) ∧ ((∃ a ∈ S, a.code = u) → (∃ a ∈ S, a.code = x ∧ a.up = u) → b = true) ∧ (bare S u = true → b = true → x = u)

theorem uniq {S : List Acc} (hw : WA S) {a b : Acc} (ha : a ∈ S) (hb : b ∈ S) (h : a.code = b.code) : a = b := by
  have h1 := findA_mem hw ha
  have h2 := findA_mem hw hb
  rw [h, h2] at h1
  exact (Option.some.inj h1).symm

theorem at_neg {c : Int} {S : List Acc} {n : Int} (h : AtP c S n) (hn : ¬ 0 ≤ n) : ∀ a ∈ S, a.code ≠ c := by
  rcases h with ⟨_, h⟩ | ⟨i, hi, h, _⟩
  · exact findA_none h
  · omega
theorem at_pos {c : Int} {S : List Acc} {n : Int} (h : AtP c S n) (hn : 0 ≤ n) : ∃ (i : Nat) (h : i < S.length), n = i ∧ S[i].code = c := by
  rcases h with ⟨h, _⟩ | h
  · omega
  · exact h

theorem is60_spec (s : AS) (v : AV) (S : List Acc) (hs : Sl s 5 v (S.map encA)) (hw : WA S) (hl : S.length ≤ 1000) (x u : Int) :
    ∃ w, (∃ b, w = .b b ∧ IsP S x u b) ∧ Re tab.get smJ (.fn 60 []) [v, .i .i64 x, .i .i64 u] s w := by
  obtain ⟨r, r1, r2, r3⟩ := hw.rk
  have hiad := fun i (hi : i < S.length) => hs.iad (i := i) (by simpa using hi)
  have hrow := fun i (hi : i < S.length) => hs.row (i := i) (by simpa using hi)
  simp only [List.getElem_map] at hrow
  refine Re_some rfl (show tab.get 60 = some af60 from rfl) rfl ?_
  simp only [push_cast, Bool.not_true, Bool.not_false, Int.reduceBEq, Int.reduceLT, Int.reduceLE, decide_true, decide_false, Nat.reduceAdd, Nat.reduceLT, Nat.reduceLeDiff, Nat.reduceBEq, Nat.reduceMul, Nat.reduceEqDiff, af60]
  refine X_while (fun y : Int => match findA y S with | some _ => r y + 1 | none => 0) (fun y t s' => s' = ⟨s.h, s.nx, s.nx⟩ ∧ ev t (.t 0) = v ∧ ev t (.t 1) = .i .i64 y ∧ ev t (.t 2) = .i .i64 u ∧
    (y = x ∨ (x ≠ u ∧ (∃ a ∈ S, a.code = x ∧ (a.up = y ∨ a.up ≠ u)) ∧ (bare S u = true → y ≠ u)))) ?_ x _ _ ?_
  · rintro y t s' ⟨rfl, h0, h1, h2, hy⟩ ih
    simp only [push_cast, Bool.not_true, Bool.not_false, Int.reduceBEq, Int.reduceLT, Int.reduceLE, decide_true, decide_false, Nat.reduceAdd, Nat.reduceLT, Nat.reduceLeDiff, Nat.reduceBEq, Nat.reduceMul, Nat.reduceEqDiff, h0, h1, h2]
    refine SK_some (at34_spec ⟨s.h, s.nx, s.nx⟩ v S hs hl y) (fun w ⟨n, hw', hn⟩ => ?_)
    subst hw'
    simp only [push_cast, Bool.not_true, Bool.not_false, Int.reduceBEq, Int.reduceLT, Int.reduceLE, decide_true, decide_false, Nat.reduceAdd, Nat.reduceLT, Nat.reduceLeDiff, Nat.reduceBEq, Nat.reduceMul, Nat.reduceEqDiff]
    (first | (refine SC_casesN (fun h => ?_) (fun h => ?_) <;> simp only [push_cast, Bool.not_true, Bool.not_false, Int.reduceBEq, Int.reduceLT, Int.reduceLE, decide_true, decide_false, Nat.reduceAdd, Nat.reduceLT, Nat.reduceLeDiff, Nat.reduceBEq, Nat.reduceMul, Nat.reduceEqDiff, h, h0, h1, h2]) | (refine SC_cases (fun h => ?_) (fun h => ?_) <;> simp only [push_cast, Bool.not_true, Bool.not_false, Int.reduceBEq, Int.reduceLT, Int.reduceLE, decide_true, decide_false, Nat.reduceAdd, Nat.reduceLT, Nat.reduceLeDiff, Nat.reduceBEq, Nat.reduceMul, Nat.reduceEqDiff, h, h0, h1, h2]) | (refine SG_casesN (fun h => ?_) (fun h => ?_) <;> simp only [push_cast, Bool.not_true, Bool.not_false, Int.reduceBEq, Int.reduceLT, Int.reduceLE, decide_true, decide_false, Nat.reduceAdd, Nat.reduceLT, Nat.reduceLeDiff, Nat.reduceBEq, Nat.reduceMul, Nat.reduceEqDiff, h, h0, h1, h2]) | (refine SG_cases (fun h => ?_) (fun h => ?_) <;> simp only [push_cast, Bool.not_true, Bool.not_false, Int.reduceBEq, Int.reduceLT, Int.reduceLE, decide_true, decide_false, Nat.reduceAdd, Nat.reduceLT, Nat.reduceLeDiff, Nat.reduceBEq, Nat.reduceMul, Nat.reduceEqDiff, h, h0, h1, h2]) | (refine DG_casesN (fun h => ?_) (fun h => ?_) <;> simp only [push_cast, Bool.not_true, Bool.not_false, Int.reduceBEq, Int.reduceLT, Int.reduceLE, decide_true, decide_false, Nat.reduceAdd, Nat.reduceLT, Nat.reduceLeDiff, Nat.reduceBEq, Nat.reduceMul, Nat.reduceEqDiff, h, h0, h1, h2]) | (refine DG_cases (fun h => ?_) (fun h => ?_) <;> simp only [push_cast, Bool.not_true, Bool.not_false, Int.reduceBEq, Int.reduceLT, Int.reduceLE, decide_true, decide_false, Nat.reduceAdd, Nat.reduceLT, Nat.reduceLeDiff, Nat.reduceBEq, Nat.reduceMul, Nat.reduceEqDiff, h, h0, h1, h2]))
    · obtain ⟨i, hi, rfl, hc⟩ := at_pos hn (by simpa using h)
      have hmem := List.getElem_mem hi
      (first | (refine SC_casesN (fun h => ?_) (fun h => ?_) <;> simp only [push_cast, Bool.not_true, Bool.not_false, Int.reduceBEq, Int.reduceLT, Int.reduceLE, decide_true, decide_false, Nat.reduceAdd, Nat.reduceLT, Nat.reduceLeDiff, Nat.reduceBEq, Nat.reduceMul, Nat.reduceEqDiff, h, h0, h1, h2]) | (refine SC_cases (fun h => ?_) (fun h => ?_) <;> simp only [push_cast, Bool.not_true, Bool.not_false, Int.reduceBEq, Int.reduceLT, Int.reduceLE, decide_true, decide_false, Nat.reduceAdd, Nat.reduceLT, Nat.reduceLeDiff, Nat.reduceBEq, Nat.reduceMul, Nat.reduceEqDiff, h, h0, h1, h2]) | (refine SG_casesN (fun h => ?_) (fun h => ?_) <;> simp only [push_cast, Bool.not_true, Bool.not_false, Int.reduceBEq, Int.reduceLT, Int.reduceLE, decide_true, decide_false, Nat.reduceAdd, Nat.reduceLT, Nat.reduceLeDiff, Nat.reduceBEq, Nat.reduceMul, Nat.reduceEqDiff, h, h0, h1, h2]) | (refine SG_cases (fun h => ?_) (fun h => ?_) <;> simp only [push_cast, Bool.not_true, Bool.not_false, Int.reduceBEq, Int.reduceLT, Int.reduceLE, decide_true, decide_false, Nat.reduceAdd, Nat.reduceLT, Nat.reduceLeDiff, Nat.reduceBEq, Nat.reduceMul, Nat.reduceEqDiff, h, h0, h1, h2]) | (refine DG_casesN (fun h => ?_) (fun h => ?_) <;> simp only [push_cast, Bool.not_true, Bool.not_false, Int.reduceBEq, Int.reduceLT, Int.reduceLE, decide_true, decide_false, Nat.reduceAdd, Nat.reduceLT, Nat.reduceLeDiff, Nat.reduceBEq, Nat.reduceMul, Nat.reduceEqDiff, h, h0, h1, h2]) | (refine DG_cases (fun h => ?_) (fun h => ?_) <;> simp only [push_cast, Bool.not_true, Bool.not_false, Int.reduceBEq, Int.reduceLT, Int.reduceLE, decide_true, decide_false, Nat.reduceAdd, Nat.reduceLT, Nat.reduceLeDiff, Nat.reduceBEq, Nat.reduceMul, Nat.reduceEqDiff, h, h0, h1, h2]))
      · have hyu : y = u := by simpa using h
        refine ⟨⟨_, rfl, fun _ _ => rfl, fun _ _ => rfl, fun hb _ => ?_⟩, rfl, Nat.le_refl _⟩
        rcases hy with hy | ⟨_, _, hy⟩
        · rw [← hy, hyu]
        · exact absurd hyu (hy hb)
      · have hyu : y ≠ u := by simpa using h
        refine SK_some (at34_spec ⟨s.h, s.nx, s.nx⟩ v S hs hl y) (fun w ⟨n', hw', hn'⟩ => ?_)
        subst hw'
        have hn2 : n' = (i : Nat) := by
          rcases hn' with ⟨_, h'⟩ | ⟨j, hj, rfl, hc'⟩
          · exact absurd hc (findA_none h' _ hmem)
          · have : j = i := by
              have e := uniq hw (List.getElem_mem hj) hmem (hc'.trans hc.symm)
              have hnd : S.Nodup := by
                have := hw.nd
                rw [List.Nodup, List.pairwise_map] at this
                exact this.imp (fun h' e' => h' (by rw [e']))
              exact (List.getElem_inj hnd).1 e
            rw [this]
        subst hn2
        obtain ⟨w0, cs, hb, hbn, hcc⟩ := hrow i hi
        obtain ⟨_, k1, _⟩ := cell_of hi hcc
        simp only [push_cast, Bool.not_true, Bool.not_false, Int.reduceBEq, Int.reduceLT, Int.reduceLE, decide_true, decide_false, Nat.reduceAdd, Nat.reduceLT, Nat.reduceLeDiff, Nat.reduceBEq, Nat.reduceMul, Nat.reduceEqDiff, h0, h1, h2, hiad i hi, hb, k1]
        refine ih S[i].up _ _ ?_ ⟨rfl, ?_, ?_, ?_, .inr ⟨?_, ?_, ?_⟩⟩
        · have hf : findA y S = some S[i] := by rw [← hc]; exact findA_mem hw hmem
          rw [hf]
          simp only
          split
          · rename_i b hb'
            obtain ⟨b1, b2⟩ := findA_some hb'
            have := r3 _ hmem b b1 b2.symm
            rw [b2, hc] at this; omega
          · omega
        · simp only [push_cast, Bool.not_true, Bool.not_false, Int.reduceBEq, Int.reduceLT, Int.reduceLE, decide_true, decide_false, Nat.reduceAdd, Nat.reduceLT, Nat.reduceLeDiff, Nat.reduceBEq, Nat.reduceMul, Nat.reduceEqDiff, h0]
        · simp only [push_cast, Bool.not_true, Bool.not_false, Int.reduceBEq, Int.reduceLT, Int.reduceLE, decide_true, decide_false, Nat.reduceAdd, Nat.reduceLT, Nat.reduceLeDiff, Nat.reduceBEq, Nat.reduceMul, Nat.reduceEqDiff]
        · simp only [push_cast, Bool.not_true, Bool.not_false, Int.reduceBEq, Int.reduceLT, Int.reduceLE, decide_true, decide_false, Nat.reduceAdd, Nat.reduceLT, Nat.reduceLeDiff, Nat.reduceBEq, Nat.reduceMul, Nat.reduceEqDiff, h2]
        · rcases hy with hy | ⟨hy, _⟩
          · rw [← hy]; exact hyu
          · exact hy
        · rcases hy with hy | ⟨_, ⟨a, ha, e1, e2⟩, _⟩
          · exact ⟨S[i], hmem, by rw [hc, hy], .inl rfl⟩
          · refine ⟨a, ha, e1, .inr ?_⟩
            rcases e2 with e2 | e2
            · rw [e2]; exact hyu
            · exact e2
        · intro hb'; exact bare_iff.1 hb' _ hmem
    · have hno := at_neg hn (by simpa using h)
      refine ⟨⟨_, rfl, fun ⟨a, ha, e⟩ e' => ?_, fun ⟨a, ha, e⟩ ⟨a', ha', e1, e2⟩ => ?_, fun _ e => nomatch e⟩, rfl, Nat.le_refl _⟩
      · rcases hy with hy | ⟨hy, _⟩
        · exact absurd (e.trans hy.symm) (hno a ha)
        · exact absurd e' hy
      · rcases hy with hy | ⟨hy, ⟨a2, ha2, e3, e4⟩, _⟩
        · exact absurd (e1.trans hy.symm) (hno a' ha')
        · have := uniq hw ha2 ha' (e3.trans e1.symm)
          subst this
          rcases e4 with e4 | e4
          · exact absurd (by rw [← e4, e2, e]) (hno a ha)
          · exact absurd e2 e4
  · exact ⟨rfl, by simp only [push_cast, Bool.not_true, Bool.not_false, Int.reduceBEq, Int.reduceLT, Int.reduceLE, decide_true, decide_false, Nat.reduceAdd, Nat.reduceLT, Nat.reduceLeDiff, Nat.reduceBEq, Nat.reduceMul, Nat.reduceEqDiff], by simp only [push_cast, Bool.not_true, Bool.not_false, Int.reduceBEq, Int.reduceLT, Int.reduceLE, decide_true, decide_false, Nat.reduceAdd, Nat.reduceLT, Nat.reduceLeDiff, Nat.reduceBEq, Nat.reduceMul, Nat.reduceEqDiff], by simp only [push_cast, Bool.not_true, Bool.not_false, Int.reduceBEq, Int.reduceLT, Int.reduceLE, decide_true, decide_false, Nat.reduceAdd, Nat.reduceLT, Nat.reduceLeDiff, Nat.reduceBEq, Nat.reduceMul, Nat.reduceEqDiff], .inl rfl⟩

/-! ### Under, Leaf -/

theorem under49_spec (s : AS) (v : AV) (S : List Acc) (hs : Sl s 5 v (S.map encA)) (hw : WA S) (hl : S.length ≤ 1000) (c : Int) (hc : ∃ a ∈ S, a.code = c) :
    Ca tab.get smJ (.fn 49 []) [v, .i .i64 c] s (fun w s' _ => Grc s s' ∧ ∃ ys : List Int, Own s.nx s' 1 w (ys.map encI) ∧ (ys.length = 1 ↔ bare S c = true)) := by
  have hlen := hs.len
  have hiad := fun i (hi : i < S.length) => hs.iad (i := i) (by simpa using hi)
  have hrow := fun i (hi : i < S.length) => hs.row (i := i) (by simpa using hi)
  simp only [List.length_map, List.getElem_map] at hlen hrow
  refine Ca_grow rfl (show tab.get 49 = some af49 from rfl) rfl ?_
  simp only [push_cast, Bool.not_true, Bool.not_false, Int.reduceBEq, Int.reduceLT, Int.reduceLE, decide_true, decide_false, Nat.reduceAdd, Nat.reduceLT, Nat.reduceLeDiff, Nat.reduceBEq, Nat.reduceMul, Nat.reduceEqDiff, af49]
  refine X_while (fun i : Nat => S.length - i) (fun i t s' => i ≤ S.length ∧ Gr s s' ∧ ev t (.t 0) = v ∧ ev t (.t 1) = .i .i64 c ∧ ev t (.t 6) = .i .i64 i ∧
    ∃ u, ev t (.t 5) = u ∧ ∃ ys : List Int, Own s.nx s' 1 u (ys.map encI) ∧ ys.Sublist ((S.take i).map (·.code)) ∧ (∀ a ∈ S.take i, a.code = c → c ∈ ys) ∧ (∀ a ∈ S.take i, a.up = c → a.code ∈ ys) ∧ (bare S c = true → ∀ y ∈ ys, y = c)) ?_ 0 _ _ ?_
  · rintro i t s' ⟨hi, hg, h0, h1, h6, u, h5, ys, o, y1, y2, y3, y4⟩ ih
    simp only [push_cast, Bool.not_true, Bool.not_false, Int.reduceBEq, Int.reduceLT, Int.reduceLE, decide_true, decide_false, Nat.reduceAdd, Nat.reduceLT, Nat.reduceLeDiff, Nat.reduceBEq, Nat.reduceMul, Nat.reduceEqDiff, h0, h1, h6, h5, hlen]
    (first | (refine SC_casesN (fun h => ?_) (fun h => ?_) <;> simp only [push_cast, Bool.not_true, Bool.not_false, Int.reduceBEq, Int.reduceLT, Int.reduceLE, decide_true, decide_false, Nat.reduceAdd, Nat.reduceLT, Nat.reduceLeDiff, Nat.reduceBEq, Nat.reduceMul, Nat.reduceEqDiff, h, h0, h1, h6, h5, hlen]) | (refine SC_cases (fun h => ?_) (fun h => ?_) <;> simp only [push_cast, Bool.not_true, Bool.not_false, Int.reduceBEq, Int.reduceLT, Int.reduceLE, decide_true, decide_false, Nat.reduceAdd, Nat.reduceLT, Nat.reduceLeDiff, Nat.reduceBEq, Nat.reduceMul, Nat.reduceEqDiff, h, h0, h1, h6, h5, hlen]) | (refine SG_casesN (fun h => ?_) (fun h => ?_) <;> simp only [push_cast, Bool.not_true, Bool.not_false, Int.reduceBEq, Int.reduceLT, Int.reduceLE, decide_true, decide_false, Nat.reduceAdd, Nat.reduceLT, Nat.reduceLeDiff, Nat.reduceBEq, Nat.reduceMul, Nat.reduceEqDiff, h, h0, h1, h6, h5, hlen]) | (refine SG_cases (fun h => ?_) (fun h => ?_) <;> simp only [push_cast, Bool.not_true, Bool.not_false, Int.reduceBEq, Int.reduceLT, Int.reduceLE, decide_true, decide_false, Nat.reduceAdd, Nat.reduceLT, Nat.reduceLeDiff, Nat.reduceBEq, Nat.reduceMul, Nat.reduceEqDiff, h, h0, h1, h6, h5, hlen]) | (refine DG_casesN (fun h => ?_) (fun h => ?_) <;> simp only [push_cast, Bool.not_true, Bool.not_false, Int.reduceBEq, Int.reduceLT, Int.reduceLE, decide_true, decide_false, Nat.reduceAdd, Nat.reduceLT, Nat.reduceLeDiff, Nat.reduceBEq, Nat.reduceMul, Nat.reduceEqDiff, h, h0, h1, h6, h5, hlen]) | (refine DG_cases (fun h => ?_) (fun h => ?_) <;> simp only [push_cast, Bool.not_true, Bool.not_false, Int.reduceBEq, Int.reduceLT, Int.reduceLE, decide_true, decide_false, Nat.reduceAdd, Nat.reduceLT, Nat.reduceLeDiff, Nat.reduceBEq, Nat.reduceMul, Nat.reduceEqDiff, h, h0, h1, h6, h5, hlen]))
    · have hi' : i < S.length := by simpa using h
      obtain ⟨w0, cs, hb, hbn, hcc⟩ := hrow i hi'
      rw [← hg.old _ hbn] at hb
      obtain ⟨k1, _⟩ := cell_of hi' hcc
      simp only [push_cast, Bool.not_true, Bool.not_false, Int.reduceBEq, Int.reduceLT, Int.reduceLE, decide_true, decide_false, Nat.reduceAdd, Nat.reduceLT, Nat.reduceLeDiff, Nat.reduceBEq, Nat.reduceMul, Nat.reduceEqDiff, h0, h1, h6, h5, hiad i hi', hb, k1]
      refine SK_some (is60_spec s' v S (hs.gr hg) hw hl S[i].code c) (fun w ⟨b, hw', p1, p2, p3⟩ => ?_)
      subst hw'
      have hmem := List.getElem_mem hi'
      have tk := take_succ' hi'
      have hin : ∀ a ∈ S.take (i + 1), a ∈ S.take i ∨ a = S[i] := fun a ha => by
        rw [tk, List.mem_append] at ha; simpa using ha
      have yl : ys.length ≤ S.length := by
        have := y1.length_le
        rw [List.length_map, List.length_take] at this; omega
      simp only [push_cast, Bool.not_true, Bool.not_false, Int.reduceBEq, Int.reduceLT, Int.reduceLE, decide_true, decide_false, Nat.reduceAdd, Nat.reduceLT, Nat.reduceLeDiff, Nat.reduceBEq, Nat.reduceMul, Nat.reduceEqDiff]
      cases b
      · simp only [push_cast, Bool.not_true, Bool.not_false, Int.reduceBEq, Int.reduceLT, Int.reduceLE, decide_true, decide_false, Nat.reduceAdd, Nat.reduceLT, Nat.reduceLeDiff, Nat.reduceBEq, Nat.reduceMul, Nat.reduceEqDiff, h6]
        refine ih (i + 1) _ _ (by omega) ⟨hi', hg, ?_, ?_, ?_, u, ?_, ys, o, ?_, ?_, ?_, y4⟩
        · simp only [push_cast, Bool.not_true, Bool.not_false, Int.reduceBEq, Int.reduceLT, Int.reduceLE, decide_true, decide_false, Nat.reduceAdd, Nat.reduceLT, Nat.reduceLeDiff, Nat.reduceBEq, Nat.reduceMul, Nat.reduceEqDiff, h0]
        · simp only [push_cast, Bool.not_true, Bool.not_false, Int.reduceBEq, Int.reduceLT, Int.reduceLE, decide_true, decide_false, Nat.reduceAdd, Nat.reduceLT, Nat.reduceLeDiff, Nat.reduceBEq, Nat.reduceMul, Nat.reduceEqDiff, h1]
        · simp only [push_cast, Bool.not_true, Bool.not_false, Int.reduceBEq, Int.reduceLT, Int.reduceLE, decide_true, decide_false, Nat.reduceAdd, Nat.reduceLT, Nat.reduceLeDiff, Nat.reduceBEq, Nat.reduceMul, Nat.reduceEqDiff]; rw [wrap_i64 (by omega) (by omega)]
        · simp only [push_cast, Bool.not_true, Bool.not_false, Int.reduceBEq, Int.reduceLT, Int.reduceLE, decide_true, decide_false, Nat.reduceAdd, Nat.reduceLT, Nat.reduceLeDiff, Nat.reduceBEq, Nat.reduceMul, Nat.reduceEqDiff, h5]
        · rw [tk, List.map_append]; exact y1.trans (List.sublist_append_left _ _)
        · intro a ha e
          rcases hin a ha with ha | rfl
          · exact y2 a ha e
          · have := p1 ⟨_, hmem, rfl⟩ e; cases this
        · intro a ha e
          rcases hin a ha with ha | rfl
          · exact y3 a ha e
          · have := p2 hc ⟨_, hmem, rfl, e⟩; cases this
      · simp only [push_cast, Bool.not_true, Bool.not_false, Int.reduceBEq, Int.reduceLT, Int.reduceLE, decide_true, decide_false, Nat.reduceAdd, Nat.reduceLT, Nat.reduceLeDiff, Nat.reduceBEq, Nat.reduceMul, Nat.reduceEqDiff, h0, h1, h6, h5, hiad i hi', hb, k1]
        refine SS_push s.nx _ hg o rfl rfl (by simp only [List.length_map]; exact most_of (by omega) (by omega)) (Nat.le_refl _) hg.nx (fun u' s2 o2 hg2 n f q _ => ?_)
        simp only [push_cast, Bool.not_true, Bool.not_false, Int.reduceBEq, Int.reduceLT, Int.reduceLE, decide_true, decide_false, Nat.reduceAdd, Nat.reduceLT, Nat.reduceLeDiff, Nat.reduceBEq, Nat.reduceMul, Nat.reduceEqDiff, h6]
        refine ih (i + 1) _ _ (by omega) ⟨hi', hg2, ?_, ?_, ?_, u', ?_, ys ++ [S[i].code], ?_, ?_, ?_, ?_, ?_⟩
        · simp only [push_cast, Bool.not_true, Bool.not_false, Int.reduceBEq, Int.reduceLT, Int.reduceLE, decide_true, decide_false, Nat.reduceAdd, Nat.reduceLT, Nat.reduceLeDiff, Nat.reduceBEq, Nat.reduceMul, Nat.reduceEqDiff, h0]
        · simp only [push_cast, Bool.not_true, Bool.not_false, Int.reduceBEq, Int.reduceLT, Int.reduceLE, decide_true, decide_false, Nat.reduceAdd, Nat.reduceLT, Nat.reduceLeDiff, Nat.reduceBEq, Nat.reduceMul, Nat.reduceEqDiff, h1]
        · simp only [push_cast, Bool.not_true, Bool.not_false, Int.reduceBEq, Int.reduceLT, Int.reduceLE, decide_true, decide_false, Nat.reduceAdd, Nat.reduceLT, Nat.reduceLeDiff, Nat.reduceBEq, Nat.reduceMul, Nat.reduceEqDiff]; rw [wrap_i64 (by omega) (by omega)]
        · simp only [push_cast, Bool.not_true, Bool.not_false, Int.reduceBEq, Int.reduceLT, Int.reduceLE, decide_true, decide_false, Nat.reduceAdd, Nat.reduceLT, Nat.reduceLeDiff, Nat.reduceBEq, Nat.reduceMul, Nat.reduceEqDiff]
        · rw [List.map_append]; exact o2
        · rw [tk, List.map_append]; exact y1.append (List.Sublist.refl _)
        · intro a ha e
          rcases hin a ha with ha | rfl
          · exact List.mem_append_left _ (y2 a ha e)
          · rw [← e]; simp
        · intro a ha e
          rcases hin a ha with ha | rfl
          · exact List.mem_append_left _ (y3 a ha e)
          · simp
        · intro hb' y hy
          rcases List.mem_append.1 hy with hy | hy
          · exact y4 hb' y hy
          · simp only [List.mem_singleton] at hy; subst hy; exact p3 hb' rfl
    · have hi' : i = S.length := by simp at h; omega
      subst hi'
      rw [List.take_length] at y1 y2 y3
      have hnd : ys.Nodup := hw.nd.sublist y1
      obtain ⟨b, hb, hbc⟩ := hc
      have hcin := y2 b hb hbc
      have key : ys.length = 1 ↔ bare S c = true := by
        constructor
        · intro h1
          rw [bare_iff]
          intro a ha e
          have hin := y3 a ha e
          obtain ⟨z, hz⟩ := List.length_eq_one_iff.1 h1
          subst hz
          simp only [List.mem_singleton] at hcin hin
          obtain ⟨r, r1, r2, r3⟩ := hw.rk
          have := r3 a ha b hb (by rw [e, hbc])
          rw [hbc, hcin, hin] at this
          omega
        · intro h1
          have hall := y4 h1
          cases ys with
          | nil => cases hcin
          | cons y ys =>
            cases ys with
            | nil => rfl
            | cons z ys =>
              have e1 := hall y (by simp)
              have e2 := hall z (by simp)
              simp [e1, e2] at hnd
      exact ⟨hg, fun lo => ⟨ys, o, key⟩, fun ho => ⟨ys, o.old ho, key⟩⟩
  · exact ⟨Nat.zero_le _, Gr.start s, by simp only [push_cast, Bool.not_true, Bool.not_false, Int.reduceBEq, Int.reduceLT, Int.reduceLE, decide_true, decide_false, Nat.reduceAdd, Nat.reduceLT, Nat.reduceLeDiff, Nat.reduceBEq, Nat.reduceMul, Nat.reduceEqDiff], by simp only [push_cast, Bool.not_true, Bool.not_false, Int.reduceBEq, Int.reduceLT, Int.reduceLE, decide_true, decide_false, Nat.reduceAdd, Nat.reduceLT, Nat.reduceLeDiff, Nat.reduceBEq, Nat.reduceMul, Nat.reduceEqDiff], by simp only [push_cast, Bool.not_true, Bool.not_false, Int.reduceBEq, Int.reduceLT, Int.reduceLE, decide_true, decide_false, Nat.reduceAdd, Nat.reduceLT, Nat.reduceLeDiff, Nat.reduceBEq, Nat.reduceMul, Nat.reduceEqDiff] <;> rfl, .sn, by simp only [push_cast, Bool.not_true, Bool.not_false, Int.reduceBEq, Int.reduceLT, Int.reduceLE, decide_true, decide_false, Nat.reduceAdd, Nat.reduceLT, Nat.reduceLeDiff, Nat.reduceBEq, Nat.reduceMul, Nat.reduceEqDiff], [], Own.nil _ _ _, by simp, fun a ha => by simp at ha, fun a ha => by simp at ha, fun _ y hy => by cases hy⟩

theorem leaf35_spec (s : AS) (v : AV) (S : List Acc) (hs : Sl s 5 v (S.map encA)) (hw : WA S) (hl : S.length ≤ 1000) (c : Int) (hc : ∃ a ∈ S, a.code = c) :
    Re tab.get smJ (.fn 35 []) [v, .i .i64 c] s (.b (bare S c)) := by
  refine Re_fn rfl (show tab.get 35 = some af35 from rfl) rfl rfl ?_
  simp only [push_cast, Bool.not_true, Bool.not_false, Int.reduceBEq, Int.reduceLT, Int.reduceLE, decide_true, decide_false, Nat.reduceAdd, Nat.reduceLT, Nat.reduceLeDiff, Nat.reduceBEq, Nat.reduceMul, Nat.reduceEqDiff, af35]
  refine SK_ca (under49_spec _ v S hs.start hw hl c hc) (fun w s' _ ⟨g, ys, o, y1⟩ => ?_)
  have g2 := (Gr.start s).call g
  simp only [push_cast, Bool.not_true, Bool.not_false, Int.reduceBEq, Int.reduceLT, Int.reduceLE, decide_true, decide_false, Nat.reduceAdd, Nat.reduceLT, Nat.reduceLeDiff, Nat.reduceBEq, Nat.reduceMul, Nat.reduceEqDiff, o.sl.len, List.length_map]
  refine ⟨?_, g2.lo ▸ Nat.le_refl _⟩
  congr 1
  rw [Bool.eq_iff_iff, ← y1]
  simp; omega

/-! ### Posting -/

def onL (L : List Acc) : List Line → Int
  | [] => 0
  | x :: r => match findA x.a L with
    | none => 7
    | some a => if a.shut = true ∨ bare L x.a = false then 9 else onL L r

theorem onL_append (L : List Acc) (xs ys : List Line) : onL L (xs ++ ys) = if onL L xs = 0 then onL L ys else onL L xs := by
  induction xs with
  | nil => simp [onL]
  | cons x xs ih =>
    simp only [List.cons_append, onL]
    rcases Option.eq_none_or_eq_some (findA x.a L) with hf | ⟨a, hf⟩
    · simp [hf]
    · by_cases hb : a.shut = true ∨ bare L x.a = false
      · simp [hf, hb]
      · simp only [hf, hb, if_false]; exact ih
theorem onL_take_stop {L : List Acc} {xs : List Line} {i : Nat} (hi : i < xs.length) (h0 : onL L (xs.take i) = 0) {n : Int} (hn : onL L [xs[i]] = n) (hne : n ≠ 0) : onL L xs = n := by
  have : xs = xs.take (i + 1) ++ xs.drop (i + 1) := (List.take_append_drop _ _).symm
  rw [this, onL_append, take_succ' hi, onL_append, h0, if_pos rfl, hn, if_neg hne]
theorem onL_take_go {L : List Acc} {xs : List Line} {i : Nat} (hi : i < xs.length) (h0 : onL L (xs.take i) = 0) (hn : onL L [xs[i]] = 0) : onL L (xs.take (i + 1)) = 0 := by
  rw [take_succ' hi, onL_append, h0, if_pos rfl, hn]

def onZ (L : List Acc) (d k : Int) (xs : List Line) : Int := if checkZ d k xs = 0 then onL L xs else checkZ d k xs

theorem zero_none {L : List Acc} (h : WA L) : findA 0 L = none := by
  cases hf : findA 0 L with
  | none => rfl
  | some a => obtain ⟨h1, h2⟩ := findA_some hf; have := h.rg a h1; omega

set_option maxHeartbeats 2000000 in
theorem on13_spec (s : AS) (p mb : Nat) (L : List Acc) (hC : Ch s p mb L) (hw : WA L) (hL : L.length ≤ 17) (d k src : Int) (v : AV) (xs : List Line) (hs : Sl s 4 v (xs.map encL)) (hx : ∀ x ∈ xs, I64 x.m) (hl : xs.length ≤ 1000) :
    Re tab.get smJ (.fn 13 []) [.p p 0, encE d k src v] s (.i .i64 (onZ L d k xs)) := by
  have hlen := hs.len
  have hiad := fun i (hi : i < xs.length) => hs.iad (i := i) (by simpa using hi)
  have hrow := fun i (hi : i < xs.length) => hs.row (i := i) (by simpa using hi)
  simp only [List.length_map, List.getElem_map] at hlen hrow
  refine Re_fn rfl (show tab.get 13 = some af13 from rfl) rfl rfl ?_
  have g1 := (Gr.start s).new (.row true [.i .i64 d, .i .u8 k, .i .u64 src, v])
  simp only [push_cast, Bool.not_true, Bool.not_false, Int.reduceBEq, Int.reduceLT, Int.reduceLE, decide_true, decide_false, Nat.reduceAdd, Nat.reduceLT, Nat.reduceLeDiff, Nat.reduceBEq, Nat.reduceMul, Nat.reduceEqDiff, af13, encE, hs.one]
  rw [SK_re (get23_spec _ p mb L (hC.gr g1) 0)]
  unfold getR
  rw [zero_none hw]
  simp only [push_cast, Bool.not_true, Bool.not_false, Int.reduceBEq, Int.reduceLT, Int.reduceLE, decide_true, decide_false, Nat.reduceAdd, Nat.reduceLT, Nat.reduceLeDiff, Nat.reduceBEq, Nat.reduceMul, Nat.reduceEqDiff, zeroA]
  have g2 := (g1.new (.row true [.i .i64 0, .i .i64 0, .i .u8 0, .s [], .b false])).write (k := s.nx + 1) (.row true [.i .i64 0, .i .i64 0, .i .u8 0, .s [], .b false]) (Nat.le_succ _)
  rw [← encE, SK_re (check11_spec _ d k src v xs (hs.gr g2) hx hl)]
  simp only [push_cast, Bool.not_true, Bool.not_false, Int.reduceBEq, Int.reduceLT, Int.reduceLE, decide_true, decide_false, Nat.reduceAdd, Nat.reduceLT, Nat.reduceLeDiff, Nat.reduceBEq, Nat.reduceMul, Nat.reduceEqDiff]
  unfold onZ
  (first | (refine SC_casesN (fun h => ?_) (fun h => ?_) <;> simp only [push_cast, Bool.not_true, Bool.not_false, Int.reduceBEq, Int.reduceLT, Int.reduceLE, decide_true, decide_false, Nat.reduceAdd, Nat.reduceLT, Nat.reduceLeDiff, Nat.reduceBEq, Nat.reduceMul, Nat.reduceEqDiff, h]) | (refine SC_cases (fun h => ?_) (fun h => ?_) <;> simp only [push_cast, Bool.not_true, Bool.not_false, Int.reduceBEq, Int.reduceLT, Int.reduceLE, decide_true, decide_false, Nat.reduceAdd, Nat.reduceLT, Nat.reduceLeDiff, Nat.reduceBEq, Nat.reduceMul, Nat.reduceEqDiff, h]) | (refine SG_casesN (fun h => ?_) (fun h => ?_) <;> simp only [push_cast, Bool.not_true, Bool.not_false, Int.reduceBEq, Int.reduceLT, Int.reduceLE, decide_true, decide_false, Nat.reduceAdd, Nat.reduceLT, Nat.reduceLeDiff, Nat.reduceBEq, Nat.reduceMul, Nat.reduceEqDiff, h]) | (refine SG_cases (fun h => ?_) (fun h => ?_) <;> simp only [push_cast, Bool.not_true, Bool.not_false, Int.reduceBEq, Int.reduceLT, Int.reduceLE, decide_true, decide_false, Nat.reduceAdd, Nat.reduceLT, Nat.reduceLeDiff, Nat.reduceBEq, Nat.reduceMul, Nat.reduceEqDiff, h]) | (refine DG_casesN (fun h => ?_) (fun h => ?_) <;> simp only [push_cast, Bool.not_true, Bool.not_false, Int.reduceBEq, Int.reduceLT, Int.reduceLE, decide_true, decide_false, Nat.reduceAdd, Nat.reduceLT, Nat.reduceLeDiff, Nat.reduceBEq, Nat.reduceMul, Nat.reduceEqDiff, h]) | (refine DG_cases (fun h => ?_) (fun h => ?_) <;> simp only [push_cast, Bool.not_true, Bool.not_false, Int.reduceBEq, Int.reduceLT, Int.reduceLE, decide_true, decide_false, Nat.reduceAdd, Nat.reduceLT, Nat.reduceLeDiff, Nat.reduceBEq, Nat.reduceMul, Nat.reduceEqDiff, h]))
  · simp only [beq_eq_false_iff_ne] at h
    rw [if_neg h]
    exact ⟨rfl, (by simp only [le_lo_write, lo_new, Nat.le_refl, Nat.le_add_right, and_self])⟩
  simp only [beq_iff_eq] at h
  rw [if_pos h]
  simp only [push_cast, Bool.not_true, Bool.not_false, Int.reduceBEq, Int.reduceLT, Int.reduceLE, decide_true, decide_false, Nat.reduceAdd, Nat.reduceLT, Nat.reduceLeDiff, Nat.reduceBEq, Nat.reduceMul, Nat.reduceEqDiff, hlen]
  refine X_while (fun i : Nat => xs.length - i) (fun i t s' => i ≤ xs.length ∧ Gr s s' ∧ ev t (.t 0) = .p p 0 ∧ ev t (.t 26) = v ∧ ev t (.t 27) = .i .i64 xs.length ∧ ev t (.t 28) = .i .i64 i ∧ onL L (xs.take i) = 0) ?_ 0 _ _ ?_
  · rintro i t s' ⟨hi, hg, h0, h26, h27, h28, hon⟩ ih
    simp only [push_cast, Bool.not_true, Bool.not_false, Int.reduceBEq, Int.reduceLT, Int.reduceLE, decide_true, decide_false, Nat.reduceAdd, Nat.reduceLT, Nat.reduceLeDiff, Nat.reduceBEq, Nat.reduceMul, Nat.reduceEqDiff, h0, h26, h27, h28]
    (first | (refine SC_casesN (fun h => ?_) (fun h => ?_) <;> simp only [push_cast, Bool.not_true, Bool.not_false, Int.reduceBEq, Int.reduceLT, Int.reduceLE, decide_true, decide_false, Nat.reduceAdd, Nat.reduceLT, Nat.reduceLeDiff, Nat.reduceBEq, Nat.reduceMul, Nat.reduceEqDiff, h, h0, h26, h27, h28]) | (refine SC_cases (fun h => ?_) (fun h => ?_) <;> simp only [push_cast, Bool.not_true, Bool.not_false, Int.reduceBEq, Int.reduceLT, Int.reduceLE, decide_true, decide_false, Nat.reduceAdd, Nat.reduceLT, Nat.reduceLeDiff, Nat.reduceBEq, Nat.reduceMul, Nat.reduceEqDiff, h, h0, h26, h27, h28]) | (refine SG_casesN (fun h => ?_) (fun h => ?_) <;> simp only [push_cast, Bool.not_true, Bool.not_false, Int.reduceBEq, Int.reduceLT, Int.reduceLE, decide_true, decide_false, Nat.reduceAdd, Nat.reduceLT, Nat.reduceLeDiff, Nat.reduceBEq, Nat.reduceMul, Nat.reduceEqDiff, h, h0, h26, h27, h28]) | (refine SG_cases (fun h => ?_) (fun h => ?_) <;> simp only [push_cast, Bool.not_true, Bool.not_false, Int.reduceBEq, Int.reduceLT, Int.reduceLE, decide_true, decide_false, Nat.reduceAdd, Nat.reduceLT, Nat.reduceLeDiff, Nat.reduceBEq, Nat.reduceMul, Nat.reduceEqDiff, h, h0, h26, h27, h28]) | (refine DG_casesN (fun h => ?_) (fun h => ?_) <;> simp only [push_cast, Bool.not_true, Bool.not_false, Int.reduceBEq, Int.reduceLT, Int.reduceLE, decide_true, decide_false, Nat.reduceAdd, Nat.reduceLT, Nat.reduceLeDiff, Nat.reduceBEq, Nat.reduceMul, Nat.reduceEqDiff, h, h0, h26, h27, h28]) | (refine DG_cases (fun h => ?_) (fun h => ?_) <;> simp only [push_cast, Bool.not_true, Bool.not_false, Int.reduceBEq, Int.reduceLT, Int.reduceLE, decide_true, decide_false, Nat.reduceAdd, Nat.reduceLT, Nat.reduceLeDiff, Nat.reduceBEq, Nat.reduceMul, Nat.reduceEqDiff, h, h0, h26, h27, h28]))
    · have hi' : i < xs.length := by simpa using h
      obtain ⟨w0, cs, hb, hbn, hc⟩ := hrow i hi'
      rw [← hg.old _ hbn] at hb
      simp only [push_cast, Bool.not_true, Bool.not_false, Int.reduceBEq, Int.reduceLT, Int.reduceLE, decide_true, decide_false, Nat.reduceAdd, Nat.reduceLT, Nat.reduceLeDiff, Nat.reduceBEq, Nat.reduceMul, Nat.reduceEqDiff, h0, h26, h27, h28, hiad i hi', hb, hc, encL]
      have g3 := (hg.new (.row true [.i .i64 0, .i .u64 0, .i .u64 0, .i .i64 0])).write (k := s'.nx) (.row true [.i .i64 xs[i].a, .i .u64 xs[i].c, .i .u64 xs[i].k, .i .i64 xs[i].m]) hg.nx
      rw [SK_re (get23_spec _ p mb L (hC.gr g3) xs[i].a)]
      unfold getR
      cases hf : findA xs[i].a L with
      | none =>
        simp only [push_cast, Bool.not_true, Bool.not_false, Int.reduceBEq, Int.reduceLT, Int.reduceLE, decide_true, decide_false, Nat.reduceAdd, Nat.reduceLT, Nat.reduceLeDiff, Nat.reduceBEq, Nat.reduceMul, Nat.reduceEqDiff, zeroA]
        rw [onL_take_stop hi' hon (n := 7) (by simp [onL, hf]) (by omega)]
        refine ⟨rfl, ?_⟩
        rw [((g3.new _).write _ (by have := hg.nx; show _ ≤ s'.nx + 1; omega)).lo]; exact Nat.le_refl _
      | some a =>
        simp only [push_cast, Bool.not_true, Bool.not_false, Int.reduceBEq, Int.reduceLT, Int.reduceLE, decide_true, decide_false, Nat.reduceAdd, Nat.reduceLT, Nat.reduceLeDiff, Nat.reduceBEq, Nat.reduceMul, Nat.reduceEqDiff, encA]
        have g4 := (g3.new (.row true [.i .i64 0, .i .i64 0, .i .u8 0, .s [], .b false])).write (k := s'.nx + 1) (.row true [.i .i64 a.code, .i .i64 a.up, .i .u8 a.cls, .s a.name, .b a.shut]) (by have := hg.nx; show _ ≤ s'.nx + 1; omega)
        have lf := leaf33_spec _ p mb L (hC.gr g4) hw hL xs[i].a (by rw [hf]; simp)
        (first | (refine SC_casesN (fun h => ?_) (fun h => ?_) <;> simp only [push_cast, Bool.not_true, Bool.not_false, Int.reduceBEq, Int.reduceLT, Int.reduceLE, decide_true, decide_false, Nat.reduceAdd, Nat.reduceLT, Nat.reduceLeDiff, Nat.reduceBEq, Nat.reduceMul, Nat.reduceEqDiff, h, h0]) | (refine SC_cases (fun h => ?_) (fun h => ?_) <;> simp only [push_cast, Bool.not_true, Bool.not_false, Int.reduceBEq, Int.reduceLT, Int.reduceLE, decide_true, decide_false, Nat.reduceAdd, Nat.reduceLT, Nat.reduceLeDiff, Nat.reduceBEq, Nat.reduceMul, Nat.reduceEqDiff, h, h0]) | (refine SG_casesN (fun h => ?_) (fun h => ?_) <;> simp only [push_cast, Bool.not_true, Bool.not_false, Int.reduceBEq, Int.reduceLT, Int.reduceLE, decide_true, decide_false, Nat.reduceAdd, Nat.reduceLT, Nat.reduceLeDiff, Nat.reduceBEq, Nat.reduceMul, Nat.reduceEqDiff, h, h0]) | (refine SG_cases (fun h => ?_) (fun h => ?_) <;> simp only [push_cast, Bool.not_true, Bool.not_false, Int.reduceBEq, Int.reduceLT, Int.reduceLE, decide_true, decide_false, Nat.reduceAdd, Nat.reduceLT, Nat.reduceLeDiff, Nat.reduceBEq, Nat.reduceMul, Nat.reduceEqDiff, h, h0]) | (refine DG_casesN (fun h => ?_) (fun h => ?_) <;> simp only [push_cast, Bool.not_true, Bool.not_false, Int.reduceBEq, Int.reduceLT, Int.reduceLE, decide_true, decide_false, Nat.reduceAdd, Nat.reduceLT, Nat.reduceLeDiff, Nat.reduceBEq, Nat.reduceMul, Nat.reduceEqDiff, h, h0]) | (refine DG_cases (fun h => ?_) (fun h => ?_) <;> simp only [push_cast, Bool.not_true, Bool.not_false, Int.reduceBEq, Int.reduceLT, Int.reduceLE, decide_true, decide_false, Nat.reduceAdd, Nat.reduceLT, Nat.reduceLeDiff, Nat.reduceBEq, Nat.reduceMul, Nat.reduceEqDiff, h, h0]))
        · obtain ⟨ac, au, ak, an, ash⟩ := a
          simp only at h
          subst h
          rw [SK_re lf]
          simp only [push_cast, Bool.not_true, Bool.not_false, Int.reduceBEq, Int.reduceLT, Int.reduceLE, decide_true, decide_false, Nat.reduceAdd, Nat.reduceLT, Nat.reduceLeDiff, Nat.reduceBEq, Nat.reduceMul, Nat.reduceEqDiff]
          (first | (refine SC_casesN (fun h => ?_) (fun h => ?_) <;> simp only [push_cast, Bool.not_true, Bool.not_false, Int.reduceBEq, Int.reduceLT, Int.reduceLE, decide_true, decide_false, Nat.reduceAdd, Nat.reduceLT, Nat.reduceLeDiff, Nat.reduceBEq, Nat.reduceMul, Nat.reduceEqDiff, h, h28]) | (refine SC_cases (fun h => ?_) (fun h => ?_) <;> simp only [push_cast, Bool.not_true, Bool.not_false, Int.reduceBEq, Int.reduceLT, Int.reduceLE, decide_true, decide_false, Nat.reduceAdd, Nat.reduceLT, Nat.reduceLeDiff, Nat.reduceBEq, Nat.reduceMul, Nat.reduceEqDiff, h, h28]) | (refine SG_casesN (fun h => ?_) (fun h => ?_) <;> simp only [push_cast, Bool.not_true, Bool.not_false, Int.reduceBEq, Int.reduceLT, Int.reduceLE, decide_true, decide_false, Nat.reduceAdd, Nat.reduceLT, Nat.reduceLeDiff, Nat.reduceBEq, Nat.reduceMul, Nat.reduceEqDiff, h, h28]) | (refine SG_cases (fun h => ?_) (fun h => ?_) <;> simp only [push_cast, Bool.not_true, Bool.not_false, Int.reduceBEq, Int.reduceLT, Int.reduceLE, decide_true, decide_false, Nat.reduceAdd, Nat.reduceLT, Nat.reduceLeDiff, Nat.reduceBEq, Nat.reduceMul, Nat.reduceEqDiff, h, h28]) | (refine DG_casesN (fun h => ?_) (fun h => ?_) <;> simp only [push_cast, Bool.not_true, Bool.not_false, Int.reduceBEq, Int.reduceLT, Int.reduceLE, decide_true, decide_false, Nat.reduceAdd, Nat.reduceLT, Nat.reduceLeDiff, Nat.reduceBEq, Nat.reduceMul, Nat.reduceEqDiff, h, h28]) | (refine DG_cases (fun h => ?_) (fun h => ?_) <;> simp only [push_cast, Bool.not_true, Bool.not_false, Int.reduceBEq, Int.reduceLT, Int.reduceLE, decide_true, decide_false, Nat.reduceAdd, Nat.reduceLT, Nat.reduceLeDiff, Nat.reduceBEq, Nat.reduceMul, Nat.reduceEqDiff, h, h28]))
          · rw [onL_take_stop hi' hon (n := 9) (by simp [onL, hf, h]) (by omega)]
            exact ⟨rfl, g4.lo ▸ Nat.le_refl _⟩
          · refine ih (i + 1) _ _ (by omega) ⟨hi', g4, ?_, ?_, ?_, ?_, onL_take_go hi' hon (by simp [onL, hf, h])⟩
            · simp only [push_cast, Bool.not_true, Bool.not_false, Int.reduceBEq, Int.reduceLT, Int.reduceLE, decide_true, decide_false, Nat.reduceAdd, Nat.reduceLT, Nat.reduceLeDiff, Nat.reduceBEq, Nat.reduceMul, Nat.reduceEqDiff, h0]
            · simp only [push_cast, Bool.not_true, Bool.not_false, Int.reduceBEq, Int.reduceLT, Int.reduceLE, decide_true, decide_false, Nat.reduceAdd, Nat.reduceLT, Nat.reduceLeDiff, Nat.reduceBEq, Nat.reduceMul, Nat.reduceEqDiff, h26]
            · simp only [push_cast, Bool.not_true, Bool.not_false, Int.reduceBEq, Int.reduceLT, Int.reduceLE, decide_true, decide_false, Nat.reduceAdd, Nat.reduceLT, Nat.reduceLeDiff, Nat.reduceBEq, Nat.reduceMul, Nat.reduceEqDiff, h27]
            · simp only [push_cast, Bool.not_true, Bool.not_false, Int.reduceBEq, Int.reduceLT, Int.reduceLE, decide_true, decide_false, Nat.reduceAdd, Nat.reduceLT, Nat.reduceLeDiff, Nat.reduceBEq, Nat.reduceMul, Nat.reduceEqDiff]; rw [wrap_i64 (by omega) (by omega)]
        · rw [onL_take_stop hi' hon (n := 9) (by simp [onL, hf, h]) (by omega)]
          obtain ⟨ac, au, ak, an, ash⟩ := a
          simp only at h
          subst h
          exact ⟨rfl, g4.lo ▸ Nat.le_refl _⟩
    · have hi' : i = xs.length := by simp at h; omega
      subst hi'
      rw [List.take_length] at hon
      rw [hon]
      exact ⟨rfl, hg.lo ▸ Nat.le_refl _⟩
  · exact ⟨Nat.zero_le _, g2, by simp only [push_cast, Bool.not_true, Bool.not_false, Int.reduceBEq, Int.reduceLT, Int.reduceLE, decide_true, decide_false, Nat.reduceAdd, Nat.reduceLT, Nat.reduceLeDiff, Nat.reduceBEq, Nat.reduceMul, Nat.reduceEqDiff], by simp only [push_cast, Bool.not_true, Bool.not_false, Int.reduceBEq, Int.reduceLT, Int.reduceLE, decide_true, decide_false, Nat.reduceAdd, Nat.reduceLT, Nat.reduceLeDiff, Nat.reduceBEq, Nat.reduceMul, Nat.reduceEqDiff], by simp only [push_cast, Bool.not_true, Bool.not_false, Int.reduceBEq, Int.reduceLT, Int.reduceLE, decide_true, decide_false, Nat.reduceAdd, Nat.reduceLT, Nat.reduceLeDiff, Nat.reduceBEq, Nat.reduceMul, Nat.reduceEqDiff], by simp only [push_cast, Bool.not_true, Bool.not_false, Int.reduceBEq, Int.reduceLT, Int.reduceLE, decide_true, decide_false, Nat.reduceAdd, Nat.reduceLT, Nat.reduceLeDiff, Nat.reduceBEq, Nat.reduceMul, Nat.reduceEqDiff] <;> rfl, rfl⟩

end Go.AMJ
