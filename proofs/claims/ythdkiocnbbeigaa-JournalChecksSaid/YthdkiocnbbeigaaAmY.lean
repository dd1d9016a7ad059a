/- Memory, as the stepping needs it: what has grown; slices as lists; lists that are built. -/
import Derived.Test.YthdkiocnbbeigaaAmX
namespace Go.AM
set_option linter.unusedVariables false
set_option linter.unusedSimpArgs false

attribute [push_cast] List.nil_append X_seq X_cond X_ops_cons X_ops_nil X_block X_blk_nrm X_skip X_ret X_c_exit X_exit X_blk_exit wanted_none wanted_some wb_true wb_false wb_tu
  SG_mv SG_bin SG_ld SG_box SG_fad SG_call SG_un SG_pick SG_st SG_len SG_iad SG_app SG_alloc SG_bld SG_bsl SG_ext SG_cv SG_false SG_nilck SG_mkf SG_mkm SG_mks SG_sls SG_slc SG_sla SG_fld SG_idx SG_lk SG_mup SG_cpy SG_mnx SG_clr
  SS_some SS_none ev_put ev_c Nat.beq cond_true cond_false SC_true SC_false Nat.blt_eq valA_some bin_eqi bin_nei bin_lt bin_le bin_gt bin_ge bin_add bin_sub bin_mul un_not un_neg boxA_eq cells_ag cells_i cells_b cells_s cells_p cells_pn cells_sn cells_sl cells_m cells_mn cells_fn cells_nf cells_nif
  ldA_p ldR_row stA_p stR_row fadA_p fldA_ag extA_tu lenA_s lenA_sn lenA_sl cvA_int bldA_some bslA_some nilA_p pickA_true pickA_false get_new get_write nx_new nx_write lo_new
  List.length_cons List.length_nil List.all_cons List.all_nil one_i one_b one_s one_p one_pn one_sn one_sl one_m one_mn one_fn one_nf one_nif Bool.and_true Bool.true_and List.append_nil argsT_cons argsT_nil Option.map_some List.getElem?_cons_zero List.getElem?_cons_succ if_true if_false
  BEq.rfl Nat.zero_add Nat.add_zero Nat.ble_eq_true_of_le partsOf fillL putAt repCells List.cons_append List.nil_append List.map_cons List.map_nil List.drop_zero List.drop_succ_cons List.take_succ_cons List.take_zero

theorem cut_full {α : Type} (l : List α) (n : Nat) (h : l.length = n) : cut l 0 n = some l := by
  subst h
  unfold cut
  rw [Nat.zero_add, Nat.ble_eq_true_of_le (Nat.le_refl _)]
  simp
theorem cut_cons {α : Type} (a : α) (l : List α) (o z : Nat) : cut (a :: l) o z = bif Nat.ble (o + z) (l.length + 1) then some (((a :: l).drop o).take z) else none := rfl
attribute [push_cast] cut_cons

theorem off_no (n k : Nat) : (n = n + (k + 1)) = False := by simp only [eq_iff_iff, iff_false]; omega
theorem off_no' (n k : Nat) : (n + (k + 1) = n) = False := by simp only [eq_iff_iff, iff_false]; omega
theorem off_off (n a b : Nat) : (n + a = n + b) = (a = b) := by simp only [eq_iff_iff]; omega
theorem add_lit (n k : Nat) : n + k + 1 = n + (k + 1) := rfl
attribute [push_cast] off_no off_no' off_off add_lit

theorem eq_sn_sn : binV .eql (.ref .s) .sn .sn = some (.b true) := rfl
theorem eq_sl_sn (b o z len cap : Nat) (ex : Bool) : binV .eql (.ref .s) (.sl b o z len cap ex) .sn = some (.b false) := rfl
theorem ne_sn_sn : binV .neq (.ref .s) .sn .sn = some (.b false) := rfl
theorem ne_sl_sn (b o z len cap : Nat) (ex : Bool) : binV .neq (.ref .s) (.sl b o z len cap ex) .sn = some (.b true) := rfl
theorem eq_pn_pn : binV .eql (.ref .p) .pn .pn = some (.b true) := rfl
theorem eq_p_pn (b o : Nat) : binV .eql (.ref .p) (.p b o) .pn = some (.b false) := rfl
theorem ne_pn_pn : binV .neq (.ref .p) .pn .pn = some (.b false) := rfl
theorem ne_p_pn (b o : Nat) : binV .neq (.ref .p) (.p b o) .pn = some (.b true) := rfl
theorem eq_mn_mn : binV .eql (.ref .m) .mn .mn = some (.b true) := rfl
theorem eq_m_mn (b : Nat) : binV .eql (.ref .m) (.m b) .mn = some (.b false) := rfl
attribute [push_cast] eq_sn_sn eq_sl_sn ne_sn_sn ne_sl_sn eq_pn_pn eq_p_pn ne_pn_pn ne_p_pn eq_mn_mn eq_m_mn

def consO (x : Option AV) (l : Option (List AV)) : Option (List AV) := match x, l with
  | some v, some l => some (v :: l)
  | _, _ => none
def cresA (g : Bool) (z : Nat) (a : AV) (s : AS) : Option AV := match a with
  | .p b o => match s.h.get b with
    | some (.row _ cs) => bif g then (match cut cs o z with | some l => some (.ag l) | none => none) else cs[o]?
    | _ => none
  | _ => none
def cresR (g : Bool) (z o : Nat) (B : Option Blk) : Option AV := match B with
  | some (.row _ cs) => bif g then (match cut cs o z with | some l => some (.ag l) | none => none) else cs[o]?
  | _ => none
theorem aress_c (t : T AV) (n : Nat) (s : AS) (g : Bool) (z a : Nat) (l : List ARes) : aress ⟨t, n, s⟩ (.c g z a :: l) = consO (cresA g z (ev t (.t a)) s) (aress ⟨t, n, s⟩ l) := by
  show (match cresA g z (ev t (.t a)) s, aress ⟨t, n, s⟩ l with | some v, some vs => some (v :: vs) | _, _ => none) = _
  rfl
theorem cresA_p (g : Bool) (z b o : Nat) (s : AS) : cresA g z (.p b o) s = cresR g z o (s.h.get b) := rfl
theorem cresR_row (g : Bool) (z o : Nat) (w : Bool) (cs : List AV) : cresR g z o (some (.row w cs)) = bif g then (cut cs o z).map .ag else cs[o]? := by
  cases g
  · rfl
  · simp only [cresR, cond_true]; cases cut cs o z <;> rfl
theorem consO_some (v : AV) (l : List AV) : consO (some v) (some l) = some (v :: l) := rfl
attribute [push_cast] aress_c cresA_p cresR_row consO_some

theorem le_lo_write (a : Nat) (s : AS) (k : Nat) (B : Blk) : a ≤ (s.write k B).lo ↔ a ≤ s.lo ∧ a ≤ k := by
  simp only [AS.write]
  cases h : Nat.ble s.lo k
  · simp only [cond_false]
    have : ¬ s.lo ≤ k := fun e => by rw [Nat.ble_eq_true_of_le e] at h; cases h
    omega
  · simp only [cond_true]
    have := Nat.le_of_ble_eq_true h
    omega

/-! ### Ends -/

def RF (s0 : AS) (r : Option (List AV)) (v : AV) (s : AS) : Prop := ∃ vs, r = some vs ∧ pack vs = v ∧ s0.nx ≤ s.lo
@[push_cast] theorem ReFin_ret' {s0 : AS} {res : List ARes} {v : AV} {t : T AV} {n : Nat} {s : AS} : ReFin s0 res v .ret ⟨t, n, s⟩ ↔ RF s0 (aress ⟨t, n, s⟩ res) v s := ReFin_ret
@[push_cast] theorem ReFin_nrm' {s0 : AS} {res : List ARes} {v : AV} {t : T AV} {n : Nat} {s : AS} : ReFin s0 res v .nrm ⟨t, n, s⟩ ↔ RF s0 (aress ⟨t, n, s⟩ res) v s := ReFin_nrm
@[push_cast] theorem RF_some {s0 : AS} {vs : List AV} {v : AV} {s : AS} : RF s0 (some vs) v s ↔ pack vs = v ∧ s0.nx ≤ s.lo :=
  ⟨fun ⟨_, e, h⟩ => by cases e; exact h, fun h => ⟨_, rfl, h⟩⟩
@[push_cast] theorem pack_one (v : AV) : pack [v] = v := rfl
@[push_cast] theorem pack_two (v w : AV) (l : List AV) : pack (v :: w :: l) = .tu (v :: w :: l) := rfl
@[push_cast] theorem pack_nil : pack [] = .tu [] := rfl
attribute [push_cast] aress_t aress_nil

/-! ### What has grown -/

/-- Behind a call's beginning: what was there is as it was. -/
structure Gr (s0 s : AS) : Prop where
  nx : s0.nx ≤ s.nx
  lo : s.lo = s0.nx
  old : ∀ q, q < s0.nx → s.h.get q = s0.h.get q

/-- Behind a call. -/
structure Grc (s s' : AS) : Prop where
  nx : s.nx ≤ s'.nx
  lo : s.lo ≤ s.nx → s'.lo = s.lo
  old : ∀ q, q < s.nx → s'.h.get q = s.h.get q

theorem get_new_at (s : AS) (B : Blk) : (s.new B).h.get s.nx = some B := by rw [get_new, if_pos rfl]
theorem Gr.start (s : AS) : Gr s ⟨s.h, s.nx, s.nx⟩ := ⟨Nat.le_refl _, rfl, fun _ _ => rfl⟩
theorem Gr.new {s0 s : AS} (h : Gr s0 s) (B : Blk) : Gr s0 (s.new B) :=
  ⟨Nat.le_succ_of_le h.nx, h.lo, fun q hq => by rw [get_new, if_neg (by have := h.nx; omega)]; exact h.old q hq⟩
theorem Gr.write {s0 s : AS} (h : Gr s0 s) {k : Nat} (B : Blk) (hk : s0.nx ≤ k) : Gr s0 (s.write k B) :=
  ⟨h.nx, by rw [lo_write _ _ _ (by rw [h.lo]; exact hk), h.lo], fun q hq => by rw [get_write, if_neg (by omega)]; exact h.old q hq⟩
theorem Gr.kill {s0 s : AS} (h : Gr s0 s) {k : Nat} (hk : s0.nx ≤ k) : Gr s0 (s.kill k) :=
  ⟨h.nx, by rw [lo_kill _ _ (by rw [h.lo]; exact hk), h.lo], fun q hq => by rw [get_kill, if_neg (by omega)]; exact h.old q hq⟩
theorem Gr.call {s0 s s' : AS} (h : Gr s0 s) (c : Grc s s') : Gr s0 s' :=
  ⟨Nat.le_trans h.nx c.nx, by rw [c.lo (by rw [h.lo]; exact h.nx), h.lo], fun q hq => by rw [c.old q (Nat.lt_of_lt_of_le hq h.nx)]; exact h.old q hq⟩
theorem Grc.refl (s : AS) : Grc s s := ⟨Nat.le_refl _, fun _ => rfl, fun _ _ => rfl⟩
theorem Grc.new (s : AS) (B : Blk) : Grc s (s.new B) := ⟨Nat.le_succ _, fun _ => rfl, fun q hq => by rw [get_new, if_neg (by omega)]⟩
theorem Grc.trans {a b c : AS} (h : Grc a b) (k : Grc b c) : Grc a c :=
  ⟨Nat.le_trans h.nx k.nx, fun hl => by rw [k.lo (by rw [h.lo hl]; exact Nat.le_trans hl h.nx), h.lo hl], fun q hq => by rw [k.old q (Nat.lt_of_lt_of_le hq h.nx), h.old q hq]⟩

/-- The end of a call that has made something. -/
def GFin (s0 : AS) (res : List ARes) (P : AV → AS → Prop) (o : Out) (st : St) : Prop :=
  (∀ id, o ≠ .exit id) ∧ ∃ vs, aress st res = some vs ∧ Gr s0 st.s ∧ (∀ lo, P (pack vs) ⟨st.s.h, st.s.nx, lo⟩) ∧ ((pack vs).old s0.nx = true → P (pack vs) s0)

def GF (s0 : AS) (r : Option (List AV)) (P : AV → AS → Prop) (s : AS) : Prop := ∃ vs, r = some vs ∧ Gr s0 s ∧ (∀ lo, P (pack vs) ⟨s.h, s.nx, lo⟩) ∧ ((pack vs).old s0.nx = true → P (pack vs) s0)
@[push_cast] theorem GFin_ret {s0 : AS} {res : List ARes} {P : AV → AS → Prop} {t : T AV} {n : Nat} {s : AS} : GFin s0 res P .ret ⟨t, n, s⟩ ↔ GF s0 (aress ⟨t, n, s⟩ res) P s :=
  ⟨fun h => h.2, fun h => ⟨(fun _ e => nomatch e), h⟩⟩
@[push_cast] theorem GFin_nrm {s0 : AS} {res : List ARes} {P : AV → AS → Prop} {t : T AV} {n : Nat} {s : AS} : GFin s0 res P .nrm ⟨t, n, s⟩ ↔ GF s0 (aress ⟨t, n, s⟩ res) P s :=
  ⟨fun h => h.2, fun h => ⟨(fun _ e => nomatch e), h⟩⟩
@[push_cast] theorem GF_some {s0 : AS} {vs : List AV} {P : AV → AS → Prop} {s : AS} : GF s0 (some vs) P s ↔ Gr s0 s ∧ (∀ lo, P (pack vs) ⟨s.h, s.nx, lo⟩) ∧ ((pack vs).old s0.nx = true → P (pack vs) s0) :=
  ⟨fun ⟨_, e, h⟩ => by cases e; exact h, fun h => ⟨_, rfl, h⟩⟩

section
variable {ft : Nat → Option AFunc} {sm : Nat → Option Summ}

theorem Ca_grow {f : Nat} {c args : List AV} {s : AS} {P : AV → AS → Prop} {fn : AFunc} (hs : sm f = none) (hf : ft f = some fn) (hl : Nat.ble (args ++ c).length fn.nt = true)
    (hx : X ft sm [.c fn.body] .nrm ⟨argsT (args ++ c) 0 .e, fn.nt, ⟨s.h, s.nx, s.nx⟩⟩ (GFin s fn.res P)) : Ca ft sm (.fn f c) args s (fun v s' _ => Grc s s' ∧ P v s') := by
  refine Ca_fn hs hf hl ?_
  obtain ⟨k, o, st, h, q1, vs, q2, q3, q4, q5⟩ := hx
  refine ⟨k, o, st, h, q1, vs, q2, ?_⟩
  unfold fin
  cases hb : (Nat.ble s.nx st.s.lo && (pack vs).old s.nx)
  · refine ⟨⟨q3.nx, fun hl => ?_, q3.old⟩, q4 _⟩
    simp only [cond_false]
    rw [q3.lo, Nat.ble_eq_true_of_le hl]; rfl
  · simp only [Bool.and_eq_true] at hb
    exact ⟨.refl s, q5 hb.2⟩
end

/-! ### A call that writes one old block -/

/-- Inside: one old block was written. -/
structure Grx (k : Nat) (s0 s : AS) : Prop where
  nx : s0.nx ≤ s.nx
  lo : s.lo = k
  lt : k < s0.nx
  old : ∀ q, q < s0.nx → q ≠ k → s.h.get q = s0.h.get q
/-- Behind it. -/
structure Grw (k : Nat) (s s' : AS) : Prop where
  nx : s.nx ≤ s'.nx
  lo : s.lo ≤ k → s.lo ≤ s.nx → s'.lo = s.lo
  old : ∀ q, q < s.nx → q ≠ k → s'.h.get q = s.h.get q
theorem Grw.refl (k : Nat) (s : AS) : Grw k s s := ⟨Nat.le_refl _, fun _ _ => rfl, fun _ _ _ => rfl⟩
theorem Grw.trans {k : Nat} {a b c : AS} (h : Grw k a b) (g : Grw k b c) : Grw k a c :=
  ⟨Nat.le_trans h.nx g.nx, fun h1 h2 => by have e := h.lo h1 h2; rw [g.lo (by omega) (by have := h.nx; omega), e], fun q h1 h2 => by rw [g.old q (Nat.lt_of_lt_of_le h1 h.nx) h2, h.old q h1 h2]⟩
theorem Grc.grw {s s' : AS} (h : Grc s s') (k : Nat) : Grw k s s' := ⟨h.nx, fun _ h2 => h.lo h2, fun q h1 _ => h.old q h1⟩
theorem Gr.wr {s0 s s' : AS} (h : Gr s0 s) {k : Nat} (c : Grw k s s') (hk : s0.nx ≤ k) : Gr s0 s' :=
  ⟨Nat.le_trans h.nx c.nx, by rw [c.lo (by rw [h.lo]; exact hk) (by rw [h.lo]; exact h.nx), h.lo], fun q hq => by rw [c.old q (Nat.lt_of_lt_of_le hq h.nx) (by omega)]; exact h.old q hq⟩
theorem Gr.grx {s0 s : AS} (h : Gr s0 s) {k : Nat} (B : Blk) (hk : k < s0.nx) : Grx k s0 (s.write k B) :=
  ⟨h.nx, by simp only [AS.write, h.lo]; cases hb : Nat.ble s0.nx k; · rfl
            · have := Nat.le_of_ble_eq_true hb; omega, hk, fun q hq hne => by rw [get_write, if_neg hne]; exact h.old q hq⟩

def WFin (k : Nat) (s0 : AS) (res : List ARes) (P : AV → AS → Prop) (o : Out) (st : St) : Prop :=
  (∀ id, o ≠ .exit id) ∧ ∃ vs, aress st res = some vs ∧ (∀ lo, P (pack vs) ⟨st.s.h, st.s.nx, lo⟩) ∧ ((Gr s0 st.s ∧ ((pack vs).old s0.nx = true → P (pack vs) s0)) ∨ Grx k s0 st.s)
def WF (k : Nat) (s0 : AS) (r : Option (List AV)) (P : AV → AS → Prop) (s : AS) : Prop := ∃ vs, r = some vs ∧ (∀ lo, P (pack vs) ⟨s.h, s.nx, lo⟩) ∧ ((Gr s0 s ∧ ((pack vs).old s0.nx = true → P (pack vs) s0)) ∨ Grx k s0 s)
@[push_cast] theorem WFin_ret {k : Nat} {s0 : AS} {res : List ARes} {P : AV → AS → Prop} {t : T AV} {n : Nat} {s : AS} : WFin k s0 res P .ret ⟨t, n, s⟩ ↔ WF k s0 (aress ⟨t, n, s⟩ res) P s :=
  ⟨fun h => h.2, fun h => ⟨(fun _ e => nomatch e), h⟩⟩
@[push_cast] theorem WFin_nrm {k : Nat} {s0 : AS} {res : List ARes} {P : AV → AS → Prop} {t : T AV} {n : Nat} {s : AS} : WFin k s0 res P .nrm ⟨t, n, s⟩ ↔ WF k s0 (aress ⟨t, n, s⟩ res) P s :=
  ⟨fun h => h.2, fun h => ⟨(fun _ e => nomatch e), h⟩⟩
@[push_cast] theorem WF_some {k : Nat} {s0 : AS} {vs : List AV} {P : AV → AS → Prop} {s : AS} : WF k s0 (some vs) P s ↔ (∀ lo, P (pack vs) ⟨s.h, s.nx, lo⟩) ∧ ((Gr s0 s ∧ ((pack vs).old s0.nx = true → P (pack vs) s0)) ∨ Grx k s0 s) :=
  ⟨fun ⟨_, e, h⟩ => by cases e; exact h, fun h => ⟨_, rfl, h⟩⟩

theorem Ca_wr {ft : Nat → Option AFunc} {sm : Nat → Option Summ} {f : Nat} {c args : List AV} {s : AS} {P : AV → AS → Prop} {fn : AFunc} (k : Nat) (hs : sm f = none) (hf : ft f = some fn) (hl : Nat.ble (args ++ c).length fn.nt = true)
    (hx : X ft sm [.c fn.body] .nrm ⟨argsT (args ++ c) 0 .e, fn.nt, ⟨s.h, s.nx, s.nx⟩⟩ (WFin k s fn.res P)) : Ca ft sm (.fn f c) args s (fun v s' _ => Grw k s s' ∧ P v s') := by
  refine Ca_fn hs hf hl ?_
  obtain ⟨m, o, st, h, q1, vs, q2, q3, q4⟩ := hx
  refine ⟨m, o, st, h, q1, vs, q2, ?_⟩
  unfold fin
  rcases q4 with ⟨g, q4⟩ | g
  · cases hb : (Nat.ble s.nx st.s.lo && (pack vs).old s.nx)
    · refine ⟨⟨g.nx, fun _ hl => ?_, fun q hq _ => g.old q hq⟩, q3 _⟩
      simp only [cond_false]
      rw [g.lo, Nat.ble_eq_true_of_le hl]; rfl
    · simp only [Bool.and_eq_true] at hb
      exact ⟨.refl _ s, q4 hb.2⟩
  · have hb : Nat.ble s.nx st.s.lo = false := by
      cases hb : Nat.ble s.nx st.s.lo
      · rfl
      · have := Nat.le_of_ble_eq_true hb; have := g.lo; have := g.lt; omega
    rw [hb]
    refine ⟨⟨g.nx, fun hl _ => ?_, g.old⟩, q3 _⟩
    simp only [Bool.false_and, cond_false]
    rw [g.lo, Nat.ble_eq_true_of_le hl]; rfl

/-! ### A call that writes what it likes -/

def FinR (s0 : AS) (r : Option (List AV)) (P : AV → AS → Bool → Prop) (s : AS) : Prop := ∃ vs, r = some vs ∧ P (fin s0 s (pack vs)).1 (fin s0 s (pack vs)).2.1 (fin s0 s (pack vs)).2.2
@[push_cast] theorem Fin_ret {s0 : AS} {res : List ARes} {P : AV → AS → Bool → Prop} {t : T AV} {n : Nat} {s : AS} : Fin s0 res P .ret ⟨t, n, s⟩ ↔ FinR s0 (aress ⟨t, n, s⟩ res) P s :=
  ⟨fun h => h.2, fun h => ⟨(fun _ e => nomatch e), h⟩⟩
@[push_cast] theorem Fin_nrm {s0 : AS} {res : List ARes} {P : AV → AS → Bool → Prop} {t : T AV} {n : Nat} {s : AS} : Fin s0 res P .nrm ⟨t, n, s⟩ ↔ FinR s0 (aress ⟨t, n, s⟩ res) P s :=
  ⟨fun h => h.2, fun h => ⟨(fun _ e => nomatch e), h⟩⟩
@[push_cast] theorem FinR_some {s0 : AS} {vs : List AV} {P : AV → AS → Bool → Prop} {s : AS} : FinR s0 (some vs) P s ↔ P (fin s0 s (pack vs)).1 (fin s0 s (pack vs)).2.1 (fin s0 s (pack vs)).2.2 :=
  ⟨fun ⟨_, e, h⟩ => by cases e; exact h, fun h => ⟨_, rfl, h⟩⟩
theorem fin_low {s0 s : AS} {v : AV} (h : s.lo < s0.nx) : fin s0 s v = (v, ⟨s.h, s.nx, bif Nat.ble s0.lo s.lo then s0.lo else s.lo⟩, false) := by
  unfold fin
  have : Nat.ble s0.nx s.lo = false := by
    cases hb : Nat.ble s0.nx s.lo
    · rfl
    · have := Nat.le_of_ble_eq_true hb; omega
  rw [this]; rfl

/-! ### A call that leaves all, with an answer of some kind -/

def RcFin (s0 : AS) (res : List ARes) (C : AV → Prop) (o : Out) (st : St) : Prop :=
  (∀ id, o ≠ .exit id) ∧ ∃ vs, aress st res = some vs ∧ C (pack vs) ∧ (pack vs).old s0.nx = true ∧ s0.nx ≤ st.s.lo
def RC (s0 : AS) (r : Option (List AV)) (C : AV → Prop) (s : AS) : Prop := ∃ vs, r = some vs ∧ C (pack vs) ∧ (pack vs).old s0.nx = true ∧ s0.nx ≤ s.lo
@[push_cast] theorem RcFin_ret {s0 : AS} {res : List ARes} {C : AV → Prop} {t : T AV} {n : Nat} {s : AS} : RcFin s0 res C .ret ⟨t, n, s⟩ ↔ RC s0 (aress ⟨t, n, s⟩ res) C s :=
  ⟨fun h => h.2, fun h => ⟨(fun _ e => nomatch e), h⟩⟩
@[push_cast] theorem RcFin_nrm {s0 : AS} {res : List ARes} {C : AV → Prop} {t : T AV} {n : Nat} {s : AS} : RcFin s0 res C .nrm ⟨t, n, s⟩ ↔ RC s0 (aress ⟨t, n, s⟩ res) C s :=
  ⟨fun h => h.2, fun h => ⟨(fun _ e => nomatch e), h⟩⟩
@[push_cast] theorem RC_some {s0 : AS} {vs : List AV} {C : AV → Prop} {s : AS} : RC s0 (some vs) C s ↔ C (pack vs) ∧ (pack vs).old s0.nx = true ∧ s0.nx ≤ s.lo :=
  ⟨fun ⟨_, e, h⟩ => by cases e; exact h, fun h => ⟨_, rfl, h⟩⟩
theorem Re_some {ft : Nat → Option AFunc} {sm : Nat → Option Summ} {f : Nat} {c args : List AV} {s : AS} {C : AV → Prop} {fn : AFunc} (hs : sm f = none) (hf : ft f = some fn) (hl : Nat.ble (args ++ c).length fn.nt = true)
    (hx : X ft sm [.c fn.body] .nrm ⟨argsT (args ++ c) 0 .e, fn.nt, ⟨s.h, s.nx, s.nx⟩⟩ (RcFin s fn.res C)) : ∃ v, C v ∧ Re ft sm (.fn f c) args s v := by
  obtain ⟨m, o, st, h, q1, vs, q2, q3, q4, q5⟩ := hx
  exact ⟨_, q3, Re_fn hs hf hl q4 ⟨m, o, st, h, q1, vs, q2, rfl, q5⟩⟩

theorem SK_some {ft : Nat → Option AFunc} {sm : Nat → Option Summ} {K : List Fr} {Q : Out → St → Prop} {f : AV} {args : List AV} {s : AS} {C : AV → Prop} (h : ∃ v, C v ∧ Re ft sm f args s v) {d : Option Nat} {r : List AOper} {t : T AV} {n : Nat}
    (k : ∀ v, C v → SS ft sm (some (v, s)) d r K t n Q) : SK ft sm f args s d r K t n Q := by
  obtain ⟨v, c, h⟩ := h
  exact (SK_re h).2 (k v c)

/-! ### Slices as lists of elements -/

def slB : AV → Nat
  | .sl b _ _ _ _ _ => b
  | _ => 0
def slO : AV → Nat
  | .sl _ o _ _ _ _ => o
  | _ => 0

/-- A slice, and the cells of its elements. -/
def Sl (s : AS) (z : Nat) (v : AV) (els : List (List AV)) : Prop :=
  (v = .sn ∧ els = []) ∨ ∃ b o cap ex w cs, v = .sl b o z els.length cap ex ∧ s.h.get b = some (.row w cs) ∧ b < s.nx ∧ els.length ≤ cap ∧ o + els.length * z ≤ cs.length ∧ ∀ (i : Nat) (h : i < els.length), cut cs (o + i * z) z = some els[i]

theorem Sl.nil (s : AS) (z : Nat) : Sl s z .sn [] := .inl ⟨rfl, rfl⟩

theorem Sl.mono {s s' : AS} {z : Nat} {v : AV} {els : List (List AV)} (h : Sl s z v els) (hn : s.nx ≤ s'.nx) (ho : ∀ q, q < s.nx → s'.h.get q = s.h.get q) : Sl s' z v els := by
  rcases h with h | ⟨b, o, cap, ex, w, cs, h1, h2, h3, h4⟩
  · exact .inl h
  · exact .inr ⟨b, o, cap, ex, w, cs, h1, by rw [ho b h3]; exact h2, Nat.lt_of_lt_of_le h3 hn, h4⟩
theorem Sl.gr {s s' : AS} {z : Nat} {v : AV} {els : List (List AV)} (h : Sl s z v els) (g : Gr s s') : Sl s' z v els := h.mono g.nx g.old
theorem Sl.grc {s s' : AS} {z : Nat} {v : AV} {els : List (List AV)} (h : Sl s z v els) (g : Grc s s') : Sl s' z v els := h.mono g.nx g.old
theorem Sl.new {s : AS} {z : Nat} {v : AV} {els : List (List AV)} (h : Sl s z v els) (B : Blk) : Sl (s.new B) z v els := h.grc (.new s B)
theorem Sl.start {s : AS} {z : Nat} {v : AV} {els : List (List AV)} (h : Sl s z v els) : Sl ⟨s.h, s.nx, s.nx⟩ z v els := h

theorem Sl.len {s : AS} {z : Nat} {v : AV} {els : List (List AV)} (h : Sl s z v els) (s' : AS) : lenA .l v s' = some (.i .i64 (els.length : Int), s') := by
  rcases h with ⟨rfl, rfl⟩ | ⟨b, o, cap, ex, w, cs, rfl, h2⟩ <;> rfl

theorem Sl.one {s : AS} {z : Nat} {v : AV} {els : List (List AV)} (h : Sl s z v els) : v.one = true := by
  rcases h with ⟨rfl, rfl⟩ | ⟨b, o, cap, ex, w, cs, rfl, h2⟩ <;> rfl

theorem Sl.iad {s : AS} {z : Nat} {v : AV} {els : List (List AV)} (h : Sl s z v els) {i : Nat} (hi : i < els.length) (k : IntKind) (s' : AS) : iadA none z v (.i k (i : Int)) s' = some (.p (slB v) (slO v + i * z), s') := by
  rcases h with ⟨rfl, rfl⟩ | ⟨b, o, cap, ex, w, cs, rfl, h2⟩
  · exact absurd hi (Nat.not_lt_zero _)
  · show (bif z == z && Nat.blt i els.length then _ else _) = _
    have : Nat.blt i els.length = true := by simpa [Nat.blt_eq] using hi
    rw [this]; simp [slB, slO]

theorem Sl.row {s : AS} {z : Nat} {v : AV} {els : List (List AV)} (h : Sl s z v els) {i : Nat} (hi : i < els.length) : ∃ w cs, s.h.get (slB v) = some (.row w cs) ∧ slB v < s.nx ∧ cut cs (slO v + i * z) z = some els[i] := by
  rcases h with ⟨rfl, rfl⟩ | ⟨b, o, cap, ex, w, cs, rfl, h2, h3, h4, h5, h6⟩
  · exact absurd hi (Nat.not_lt_zero _)
  · exact ⟨w, cs, h2, h3, h6 i hi⟩

theorem cut_at1 {α : Type} {cs : List α} {o : Nat} {x : α} (h : cut cs o 1 = some [x]) : cs[o]? = some x := by
  unfold cut at h
  cases hb : Nat.ble (o + 1) cs.length
  · simp [hb] at h
  · have hl : o + 1 ≤ cs.length := Nat.le_of_ble_eq_true hb
    simp only [hb, cond_true, Option.some.injEq] at h
    have : ((cs.drop o).take 1)[0]? = some x := by rw [h]; rfl
    simpa using this

theorem Sl.row1 {α : Type} {f : α → AV} {s : AS} {v : AV} {xs : List α} (h : Sl s 1 v (xs.map fun x => [f x])) {i : Nat} (hi : i < xs.length) : ∃ w cs, s.h.get (slB v) = some (.row w cs) ∧ slB v < s.nx ∧ cs[slO v + i * 1]? = some (f xs[i]) := by
  obtain ⟨w, cs, h1, h2, h3⟩ := h.row (i := i) (by simpa using hi)
  rw [List.getElem_map] at h3
  exact ⟨w, cs, h1, h2, cut_at1 h3⟩

theorem flatten_cut {α : Type} {z : Nat} : ∀ {els : List (List α)}, (∀ x ∈ els, x.length = z) → els.flatten.length = els.length * z ∧ ∀ (i : Nat) (h : i < els.length) (r : List α), cut (els.flatten ++ r) (i * z) z = some els[i]
  | [], _ => ⟨by simp, fun i h => absurd h (Nat.not_lt_zero _)⟩
  | x :: els, hz => by
    have hx := hz x (by simp)
    obtain ⟨h1, h2⟩ := flatten_cut (els := els) (fun y hy => hz y (by simp [hy]))
    refine ⟨by simp only [List.flatten_cons, List.length_append, List.length_cons, hx, h1, Nat.succ_mul]; omega, fun i h r => ?_⟩
    cases i with
    | zero =>
      simp only [Nat.zero_mul, List.getElem_cons_zero, cut, Nat.zero_add, List.drop_zero, List.flatten_cons, List.append_assoc]
      have : Nat.ble z (x ++ (els.flatten ++ r)).length = true := Nat.ble_eq_true_of_le (by simp; omega)
      rw [this, ← hx, List.take_left]; rfl
    | succ i =>
      have := h2 i (by simpa using h) r
      simp only [List.getElem_cons_succ, List.flatten_cons, List.append_assoc]
      unfold cut at this ⊢
      have e : (i + 1) * z = x.length + i * z := by rw [hx, Nat.succ_mul]; omega
      rw [e, ← List.drop_drop, List.drop_left]
      have e2 : Nat.ble (x.length + i * z + z) (x ++ (els.flatten ++ r)).length = Nat.ble (i * z + z) (els.flatten ++ r).length := by
        rw [Bool.eq_iff_iff, Nat.ble_eq, Nat.ble_eq, List.length_append]; omega
      rw [e2]; exact this

theorem Sl.same {s s' : AS} {z : Nat} {v : AV} {els : List (List AV)} (h : Sl s z v els) (hn : s.nx ≤ s'.nx) (ho : s'.h.get (slB v) = s.h.get (slB v)) : Sl s' z v els := by
  rcases h with h | ⟨b, o, cap, ex, w, cs, rfl, h2, h3, h4⟩
  · exact .inl h
  · exact .inr ⟨b, o, cap, ex, w, cs, rfl, by rw [← h2]; exact ho, Nat.lt_of_lt_of_le h3 hn, h4⟩

/-! ### Lists that are built -/

/-- A slice that was built here (its block not below lo), to which more is put. -/
def Own (lo : Nat) (s : AS) (z : Nat) (v : AV) (els : List (List AV)) : Prop :=
  (∀ x ∈ els, x.length = z ∧ x.all AV.one = true) ∧ ((v = .sn ∧ els = []) ∨ ∃ b ex, v = .sl b 0 z els.length els.length ex ∧ s.h.get b = some (.row true els.flatten) ∧ lo ≤ b ∧ b < s.nx)

theorem Own.nil (lo : Nat) (s : AS) (z : Nat) : Own lo s z .sn [] := ⟨by simp, .inl ⟨rfl, rfl⟩⟩

theorem Own.sl {lo : Nat} {s : AS} {z : Nat} {v : AV} {els : List (List AV)} (h : Own lo s z v els) : Sl s z v els := by
  obtain ⟨h0, h | ⟨b, ex, rfl, h2, h3, h4⟩⟩ := h
  · exact .inl h
  · have := flatten_cut (fun x hx => (h0 x hx).1)
    refine .inr ⟨b, 0, _, _, _, _, rfl, h2, h4, Nat.le_refl _, by rw [this.1]; omega, fun i hi => ?_⟩
    have := this.2 i hi []
    rw [List.append_nil] at this
    rw [Nat.zero_add]; exact this

theorem Own.one {lo : Nat} {s : AS} {z : Nat} {v : AV} {els : List (List AV)} (h : Own lo s z v els) : v.one = true := h.sl.one

theorem Own.mono {lo : Nat} {s s' : AS} {z : Nat} {v : AV} {els : List (List AV)} (h : Own lo s z v els) (hn : s.nx ≤ s'.nx) (ho : ∀ q, q < s.nx → q ≠ slB v ∨ v = .sn ∨ s'.h.get q = s.h.get q) (hb : v = .sn ∨ s'.h.get (slB v) = s.h.get (slB v)) : Own lo s' z v els := by
  obtain ⟨h0, h | ⟨b, ex, rfl, h2, h3, h4⟩⟩ := h
  · exact ⟨h0, .inl h⟩
  · refine ⟨h0, .inr ⟨b, ex, rfl, ?_, h3, Nat.lt_of_lt_of_le h4 hn⟩⟩
    rcases hb with hb | hb
    · cases hb
    · simp only [slB] at hb; rw [hb]; exact h2
theorem Own.new {lo : Nat} {s : AS} {z : Nat} {v : AV} {els : List (List AV)} (h : Own lo s z v els) (B : Blk) : Own lo (s.new B) z v els := by
  obtain ⟨h0, h | ⟨b, ex, rfl, h2, h3, h4⟩⟩ := h
  · exact ⟨h0, .inl h⟩
  · exact ⟨h0, .inr ⟨b, ex, rfl, by rw [get_new, if_neg (by omega)]; exact h2, h3, Nat.lt_succ_of_lt h4⟩⟩
theorem Own.grc {lo : Nat} {s s' : AS} {z : Nat} {v : AV} {els : List (List AV)} (h : Own lo s z v els) (g : Grc s s') : Own lo s' z v els := by
  obtain ⟨h0, h | ⟨b, ex, rfl, h2, h3, h4⟩⟩ := h
  · exact ⟨h0, .inl h⟩
  · exact ⟨h0, .inr ⟨b, ex, rfl, by rw [g.old b h4]; exact h2, h3, Nat.lt_of_lt_of_le h4 g.nx⟩⟩
theorem Own.write {lo : Nat} {s : AS} {z : Nat} {v : AV} {els : List (List AV)} (h : Own lo s z v els) {k : Nat} (B : Blk) (hk : k ≠ slB v ∨ v = .sn) : Own lo (s.write k B) z v els := by
  obtain ⟨h0, h | ⟨b, ex, rfl, h2, h3, h4⟩⟩ := h
  · exact ⟨h0, .inl h⟩
  · rcases hk with hk | hk
    · exact ⟨h0, .inr ⟨b, ex, rfl, by rw [get_write, if_neg (by simpa [slB] using hk.symm)]; exact h2, h3, h4⟩⟩
    · cases hk
theorem Own.low {lo lo' : Nat} {s : AS} {z : Nat} {v : AV} {els : List (List AV)} (h : Own lo s z v els) (hl : lo' ≤ lo) : Own lo' s z v els := by
  obtain ⟨h0, h | ⟨b, ex, rfl, h2, h3, h4⟩⟩ := h
  · exact ⟨h0, .inl h⟩
  · exact ⟨h0, .inr ⟨b, ex, rfl, h2, Nat.le_trans hl h3, h4⟩⟩
/-- An old answer is none. -/
theorem Own.old {lo : Nat} {s s' : AS} {z : Nat} {v : AV} {els : List (List AV)} (h : Own lo s z v els) (ho : v.old lo = true) : Own lo s' z v els := by
  obtain ⟨h0, h | ⟨b, ex, rfl, h2, h3, h4⟩⟩ := h
  · exact ⟨h0, .inl h⟩
  · simp only [AV.old, Nat.blt_eq] at ho; omega

theorem cut_all {α : Type} (l : List α) {n : Nat} (h : l.length = n) : cut l 0 n = some l := by
  subst h
  unfold cut
  rw [Nat.zero_add, Nat.ble_eq_true_of_le (Nat.le_refl _)]
  simp

theorem all_flatten {els : List (List AV)} (h : ∀ x ∈ els, x.all AV.one = true) : els.flatten.all AV.one = true := by
  rw [List.all_eq_true]
  intro a ha
  obtain ⟨x, hx, hax⟩ := List.mem_flatten.1 ha
  exact List.all_eq_true.1 (h x hx) a hax

/-- More elements are put behind a list that is built here: from a slice that has them. -/
theorem Own.app {lo : Nat} {s : AS} {z bytes : Nat} {v y : AV} {els new : List (List AV)} (h : Own lo s z v els) (hsrc : srcCells s z y = some (new.length, new.flatten)) (hnew : ∀ x ∈ new, x.length = z ∧ x.all AV.one = true)
    (hb : (els.length + new.length) * bytes ≤ most46) (hlo : lo ≤ s.nx) :
    ∃ v' s', appV s z bytes v y = some (v', s') ∧ Own lo s' z v' (els ++ new) ∧ ((s.lo ≤ lo → s'.lo = s.lo) ∧ (lo ≤ s.lo → lo ≤ s'.lo)) ∧ s.nx ≤ s'.nx ∧ (∀ q, q < lo → s'.h.get q = s.h.get q) ∧ (∀ q, q < s.nx → (q ≠ slB v ∨ v = .sn) → s'.h.get q = s.h.get q) := by
  have hone : new.flatten.all AV.one = true := all_flatten (fun x hx => (hnew x hx).2)
  have hboth : ∀ x ∈ els ++ new, x.length = z ∧ x.all AV.one = true := fun x hx => by
    rcases List.mem_append.1 hx with hx | hx
    · exact h.1 x hx
    · exact hnew x hx
  by_cases hn : new = []
  · subst hn
    refine ⟨v, s, ?_, by simpa using h, ⟨fun _ => rfl, id⟩, Nat.le_refl _, fun _ _ => rfl, fun _ _ _ => rfl⟩
    obtain ⟨h0, ⟨rfl, rfl⟩ | ⟨b, ex, rfl, h2, h3, h4⟩⟩ := h
    · unfold appV; rw [hsrc]; simp
    · unfold appV; rw [hsrc]
      have e : Nat.ble els.length els.length = true := Nat.ble_eq_true_of_le (Nat.le_refl _)
      simp [h2, e]
  · have hpos : 0 < new.length := List.length_pos_iff.2 hn
    obtain ⟨h0, ⟨rfl, rfl⟩ | ⟨b, ex, rfl, h2, h3, h4⟩⟩ := h
    · refine ⟨.sl s.nx 0 z new.length new.length false, s.new (.row true new.flatten), ?_, ⟨by simpa using hnew, .inr ⟨s.nx, false, by simp, by simp [get_new], hlo, by simp [AS.new]⟩⟩, ⟨fun _ => rfl, id⟩, by simp [AS.new], fun q hq => ?_, fun q hq _ => ?_⟩
      · unfold appV; rw [hsrc]
        have e1 : (new.length == 0) = false := by simp; exact hn
        have e2 : Nat.ble (new.length * bytes) most46 = true := Nat.ble_eq_true_of_le (by simpa using hb)
        simp only [hone, cond_true, e1, cond_false, e2]
      · rw [get_new, if_neg (by omega)]
      · rw [get_new, if_neg (by omega)]
    · have e1 : Nat.ble (els.length + new.length) els.length = false := by
        cases hb' : Nat.ble (els.length + new.length) els.length
        · rfl
        · have := Nat.le_of_ble_eq_true hb'; omega
      have e2 : Nat.ble ((els.length + new.length) * bytes) most46 = true := Nat.ble_eq_true_of_le hb
      have e3 : cut els.flatten 0 (els.length * z) = some els.flatten := cut_all _ (flatten_cut (fun x hx => (h0 x hx).1)).1
      have e4 : els.flatten.all AV.one = true := all_flatten (fun x hx => (h0 x hx).2)
      cases ex
      · refine ⟨.sl s.nx 0 z (els.length + new.length) (els.length + new.length) false, (s.kill b).new (.row true (els.flatten ++ new.flatten)), ?_, ⟨hboth, .inr ⟨s.nx, false, by simp, ?_, by omega, by simp [AS.new, AS.kill]⟩⟩, ?_, by simp [AS.new, AS.kill], fun q hq => ?_, fun q hq hne => ?_⟩
        · unfold appV; rw [hsrc]
          simp only [hone, cond_true, h2, e1, cond_false, e2, e3, e4, BEq.rfl]
        · rw [get_new, if_pos (by simp [AS.kill])]; simp
        · refine ⟨fun hs => ?_, fun hs => ?_⟩
          · show (s.kill b).lo = s.lo
            exact lo_kill _ _ (by omega)
          · show lo ≤ (s.kill b).lo
            exact (le_lo_write lo s b (.mp [])).2 ⟨hs, h3⟩
        · rw [get_new, if_neg (by simp [AS.kill]; omega), get_kill, if_neg (by omega)]
        · rw [get_new, if_neg (by simp [AS.kill]; omega), get_kill, if_neg]
          rcases hne with hne | hne
          · simpa [slB] using hne
          · cases hne
      · refine ⟨.sl s.nx 0 z (els.length + new.length) (els.length + new.length) false, s.new (.row true (els.flatten ++ new.flatten)), ?_, ⟨hboth, .inr ⟨s.nx, false, by simp, ?_, by omega, by simp [AS.new]⟩⟩, ⟨fun _ => rfl, id⟩, by simp [AS.new], fun q hq => ?_, fun q hq hne => ?_⟩
        · unfold appV; rw [hsrc]
          simp only [hone, cond_true, h2, e1, cond_false, e2, e3, e4, BEq.rfl]
        · rw [get_new, if_pos rfl]; simp
        · rw [get_new, if_neg (by omega)]
        · rw [get_new, if_neg (by omega)]

/-- What a slice has, to be put behind another one. -/
theorem Sl.src {s : AS} {z : Nat} {v : AV} {els : List (List AV)} (h : Sl s z v els) (hz : ∀ x ∈ els, x.length = z) : srcCells s z v = some (els.length, els.flatten) := by
  rcases h with ⟨rfl, rfl⟩ | ⟨b, o, cap, ex, w, cs, rfl, h2, h3, h4, h5, h6⟩
  · rfl
  · have : cut cs o (els.length * z) = some els.flatten := by
      have key : ∀ (n : Nat) (l : List (List AV)) (o : Nat), l.length = n → (∀ x ∈ l, x.length = z) → o + l.length * z ≤ cs.length → (∀ (i : Nat) (h : i < l.length), cut cs (o + i * z) z = some l[i]) → (cs.drop o).take (l.length * z) = l.flatten := by
        intro n
        induction n with
        | zero => intro l o hl _ _ _; obtain rfl := List.length_eq_zero_iff.1 hl; simp
        | succ n ih =>
          intro l o hl hx hle hc
          cases l with
          | nil => simp at hl
          | cons x l =>
            have hlen : (l.length + 1) * z = z + l.length * z := by rw [Nat.succ_mul]; omega
            have h0 := hc 0 (by simp)
            simp only [Nat.zero_mul, Nat.add_zero, List.getElem_cons_zero] at h0
            unfold cut at h0
            have hle' : o + z ≤ cs.length := by simp only [List.length_cons] at hle; omega
            rw [Nat.ble_eq_true_of_le hle'] at h0
            simp only [cond_true, Option.some.injEq] at h0
            have hr := ih l (o + z) (by simpa using hl) (fun y hy => hx y (by simp [hy])) (by simp only [List.length_cons] at hle; omega) (fun i hi => by
              have := hc (i + 1) (by simpa using hi)
              simp only [List.getElem_cons_succ] at this
              rw [← this]; congr 1; rw [Nat.succ_mul]; omega)
            simp only [List.length_cons, List.flatten_cons, hlen]
            rw [List.take_add, h0, List.drop_drop, hr]
      unfold cut
      rw [Nat.ble_eq_true_of_le h5, key els.length els o rfl hz h5 h6]; rfl
    unfold srcCells
    simp only [BEq.rfl, cond_true, h2, this]

/-- One element, as it is written for the call. -/
theorem src_one {s : AS} {z b : Nat} {w : Bool} {cs : List AV} {ex : Bool} (h : s.h.get b = some (.row w cs)) (hl : cs.length = z) : srcCells s z (.sl b 0 z 1 1 ex) = some ([cs].length, [cs].flatten) := by
  unfold srcCells
  have : cut cs 0 (1 * z) = some cs := cut_all cs (by omega)
  simp only [BEq.rfl, cond_true, h, this]
  simp

/-- One element more, as it is written for the call. -/
theorem Own.push {lo : Nat} {s : AS} {z bytes : Nat} {v : AV} {els : List (List AV)} (h : Own lo s z v els) (x : List AV) (hx : x.length = z) (h1 : x.all AV.one = true) (hb : (els.length + 1) * bytes ≤ most46) (hlo : lo ≤ s.nx) :
    ∃ v' s', appV (s.new (.row true x)) z bytes v (.sl s.nx 0 z 1 1 true) = some (v', s') ∧ Own lo s' z v' (els ++ [x]) ∧ ((s.lo ≤ lo → s'.lo = s.lo) ∧ (lo ≤ s.lo → lo ≤ s'.lo)) ∧ s.nx ≤ s'.nx ∧ (∀ q, q < lo → s'.h.get q = s.h.get q) ∧ (∀ q, q < s.nx → (q ≠ slB v ∨ v = .sn) → s'.h.get q = s.h.get q) ∧ (v' = .sn ∨ s.nx ≤ slB v') := by
  obtain ⟨v', s', e, o, l, n, f, g⟩ := (h.new (.row true x)).app (new := [x]) (src_one (z := z) (get_new_at s (.row true x)) hx) (by simpa using ⟨hx, List.all_eq_true.1 h1⟩) hb (Nat.le_succ_of_le hlo)
  have hne : s.nx ≤ s'.nx := Nat.le_trans (Nat.le_succ _) n
  refine ⟨v', s', e, o, l, hne, fun q hq => ?_, fun q hq hv => ?_, ?_⟩
  · rw [f q hq, get_new, if_neg (by omega)]
  · rw [g q (Nat.lt_succ_of_lt hq) hv, get_new, if_neg (by omega)]
  · unfold appV at e
    have hsrc := src_one (z := z) (w := true) (ex := true) (get_new_at s (.row true x)) hx
    rw [hsrc] at e
    have hone : [x].flatten.all AV.one = true := by simpa using List.all_eq_true.1 h1
    simp only [hone, cond_true] at e
    obtain ⟨h0, ⟨rfl, rfl⟩ | ⟨b, ex, rfl, h2, h3, h4⟩⟩ := h
    · simp only [List.length_cons, List.length_nil] at e
      have e2 : Nat.ble ((0 + 1) * bytes) most46 = true := Nat.ble_eq_true_of_le (by simpa using hb)
      have e3 : ((0 + 1 : Nat) == 0) = false := rfl
      simp only [e2, e3, cond_true, cond_false, Option.some.injEq, Prod.mk.injEq] at e
      obtain ⟨rfl, rfl⟩ := e
      exact .inr (Nat.le_succ _)
    · have hgb : (s.new (.row true x)).h.get b = some (.row true els.flatten) := by rw [get_new, if_neg (by omega)]; exact h2
      have e1 : Nat.ble (els.length + [x].length) els.length = false := by
        cases hb' : Nat.ble (els.length + [x].length) els.length
        · rfl
        · have := Nat.le_of_ble_eq_true hb'; simp at this; omega
      have e2 : Nat.ble ((els.length + [x].length) * bytes) most46 = true := Nat.ble_eq_true_of_le hb
      have e3 : cut els.flatten 0 (els.length * z) = some els.flatten := cut_all _ (flatten_cut (fun x hx => (h0 x hx).1)).1
      have e4 : els.flatten.all AV.one = true := all_flatten (fun x hx => (h0 x hx).2)
      simp only [BEq.rfl, cond_true, hgb, e1, cond_false, e2, e3, e4] at e
      cases ex
      · simp only [cond_false, cond_true, Option.some.injEq, Prod.mk.injEq] at e
        obtain ⟨rfl, rfl⟩ := e
        exact .inr (Nat.le_succ _)
      · simp only [cond_true, Option.some.injEq, Prod.mk.injEq] at e
        obtain ⟨rfl, rfl⟩ := e
        exact .inr (Nat.le_succ _)

/-- The step itself. -/
theorem SS_push {ft : Nat → Option AFunc} {sm : Nat → Option Summ} {d : Option Nat} {r : List AOper} {K : List Fr} {t : T AV} {n : Nat} {Q : Out → St → Prop} {s0 s : AS} {z bytes : Nat} {v : AV} {x : List AV} (lo : Nat) (els : List (List AV)) (hg : Gr s0 s)
    (h : Own lo s z v els) (hx : x.length = z) (h1 : x.all AV.one = true) (hb : (els.length + 1) * bytes ≤ most46) (hl0 : s0.nx ≤ lo) (hlo : lo ≤ s.nx)
    (k : ∀ v' s', Own lo s' z v' (els ++ [x]) → Gr s0 s' → s.nx ≤ s'.nx → (∀ q, q < lo → s'.h.get q = s.h.get q) → (∀ q, q < s.nx → (q ≠ slB v ∨ v = .sn) → s'.h.get q = s.h.get q) → (v' = .sn ∨ s.nx ≤ slB v') → SS ft sm (some (v', s')) d r K t n Q) :
    SS ft sm (appV (s.new (.row true x)) z bytes v (.sl s.nx 0 z 1 1 true)) d r K t n Q := by
  obtain ⟨v', s', e, o, l, n, f, g, w⟩ := h.push (bytes := bytes) x hx h1 hb hlo
  rw [e]
  exact k v' s' o ⟨Nat.le_trans hg.nx n, by rw [l.1 (by rw [hg.lo]; exact hl0), hg.lo], fun q hq => by rw [f q (Nat.lt_of_lt_of_le hq hl0), hg.old q hq]⟩ n f g w

/-- A slice's elements are put behind a list. -/
theorem SS_app {ft : Nat → Option AFunc} {sm : Nat → Option Summ} {d : Option Nat} {r : List AOper} {K : List Fr} {t : T AV} {n : Nat} {Q : Out → St → Prop} {s0 s : AS} {z bytes : Nat} {v y : AV} (lo : Nat) (els new : List (List AV)) (hg : Gr s0 s)
    (h : Own lo s z v els) (hsrc : srcCells s z y = some (new.length, new.flatten)) (hnew : ∀ x ∈ new, x.length = z ∧ x.all AV.one = true) (hb : (els.length + new.length) * bytes ≤ most46) (hl0 : s0.nx ≤ lo) (hlo : lo ≤ s.nx)
    (k : ∀ v' s', Own lo s' z v' (els ++ new) → Gr s0 s' → s.nx ≤ s'.nx → (∀ q, q < lo → s'.h.get q = s.h.get q) → (∀ q, q < s.nx → (q ≠ slB v ∨ v = .sn) → s'.h.get q = s.h.get q) → SS ft sm (some (v', s')) d r K t n Q) :
    SS ft sm (appV s z bytes v y) d r K t n Q := by
  obtain ⟨v', s', e, o, l, n, f, g⟩ := h.app (bytes := bytes) hsrc hnew hb hlo
  rw [e]
  exact k v' s' o ⟨Nat.le_trans hg.nx n, by rw [l.1 (by rw [hg.lo]; exact hl0), hg.lo], fun q hq => by rw [f q (Nat.lt_of_lt_of_le hq hl0), hg.old q hq]⟩ n f g

theorem cut_at {α : Type} {cs l : List α} {o z j : Nat} (h : cut cs o z = some l) (hj : j < z) : cs[o + j]? = l[j]? := by
  unfold cut at h
  cases hb : Nat.ble (o + z) cs.length
  · simp [hb] at h
  · simp only [hb, cond_true, Option.some.injEq] at h
    subst h
    rw [List.getElem?_take, if_pos hj, List.getElem?_drop]

theorem putAt_flat {z : Nat} {x : AV} : ∀ {els : List (List AV)} {i j : Nat}, (∀ y ∈ els, y.length = z) → (hi : i < els.length) → j < z → putAt els.flatten (i * z + j) [x] = (els.set i (els[i].set j x)).flatten := by
  have hp : ∀ (l r : List AV) (k : Nat), putAt (l ++ r) (l.length + k) [x] = l ++ putAt r k [x] := by
    intro l
    induction l with
    | nil => intro r k; simp
    | cons a l ih => intro r k; simp only [List.cons_append, List.length_cons, Nat.add_right_comm _ 1, putAt]; rw [ih]
  have h1 : ∀ (l : List AV) (k : Nat), putAt l k [x] = l.set k x := by
    intro l
    induction l with
    | nil => intro k; simp [putAt]
    | cons a l ih =>
      intro k
      cases k with
      | zero => cases l <;> simp [putAt]
      | succ k => simp only [putAt, List.set_cons_succ, ih]
  intro els
  induction els with
  | nil => intro i j _ hi; exact absurd hi (Nat.not_lt_zero _)
  | cons y els ih =>
    intro i j hz hi hj
    have hy := hz y (by simp)
    cases i with
    | zero =>
      simp only [Nat.zero_mul, Nat.zero_add, List.flatten_cons, List.set_cons_zero, List.getElem_cons_zero]
      rw [h1, List.set_append_left _ _ (by omega)]
    | succ i =>
      simp only [List.flatten_cons, List.set_cons_succ, List.getElem_cons_succ]
      rw [← ih (fun q hq => hz q (by simp [hq])) (by simpa using hi) hj, ← hp, hy]
      congr 1; rw [Nat.succ_mul]; omega

/-- A cell of an element is written. -/
theorem Own.set {lo : Nat} {s : AS} {z : Nat} {v : AV} {els : List (List AV)} (h : Own lo s z v els) {i j : Nat} (hi : i < els.length) (hj : j < z) {x : AV} (hx : x.one = true) :
    stR 1 (slB v) (slO v + i * z + j) x (s.h.get (slB v)) s = some (.tu [], s.write (slB v) (.row true (els.set i (els[i].set j x)).flatten)) ∧ Own lo (s.write (slB v) (.row true (els.set i (els[i].set j x)).flatten)) z v (els.set i (els[i].set j x)) ∧ lo ≤ slB v := by
  obtain ⟨h0, ⟨rfl, rfl⟩ | ⟨b, ex, rfl, h2, h3, h4⟩⟩ := h
  · exact absurd hi (Nat.not_lt_zero _)
  · simp only [slB, slO, Nat.zero_add] at *
    have hz : ∀ y ∈ els, y.length = z := fun y hy => (h0 y hy).1
    have hp := putAt_flat (x := x) hz hi hj
    have hl := (flatten_cut hz).1
    have hle : i * z + j + 1 ≤ els.flatten.length := by
      rw [hl]
      have : (i + 1) * z ≤ els.length * z := Nat.mul_le_mul_right _ hi
      rw [Nat.succ_mul] at this; omega
    refine ⟨?_, ⟨fun y hy => ?_, .inr ⟨b, ex, by simp, by rw [get_write, if_pos rfl], h3, h4⟩⟩, h3⟩
    · rw [h2, stR_row, cells_one hx, hp]
      simp only [hx, Nat.ble_eq_true_of_le hle, List.length_cons, List.length_nil, List.all_cons, List.all_nil, Nat.zero_add, BEq.rfl, Bool.and_true, cond_true]
    · rcases List.mem_or_eq_of_mem_set hy with hy | rfl
      · exact h0 y hy
      · have := h0 els[i] (List.getElem_mem hi)
        refine ⟨by simpa using this.1, List.all_eq_true.2 fun a ha => ?_⟩
        rcases List.mem_or_eq_of_mem_set ha with ha | rfl
        · exact List.all_eq_true.1 this.2 a ha
        · exact hx

/-- What is done elsewhere leaves a list. -/
theorem Own.frame {lo : Nat} {s s' : AS} {z : Nat} {v w : AV} {els : List (List AV)} (h : Own lo s z v els) (hn : s.nx ≤ s'.nx) (hf : ∀ q, q < s.nx → (q ≠ slB w ∨ w = .sn) → s'.h.get q = s.h.get q) (hd : v = .sn ∨ w = .sn ∨ slB v ≠ slB w) : Own lo s' z v els := by
  obtain ⟨h0, h | ⟨b, ex, rfl, h2, h3, h4⟩⟩ := h
  · exact ⟨h0, .inl h⟩
  · refine ⟨h0, .inr ⟨b, ex, rfl, ?_, h3, Nat.lt_of_lt_of_le h4 hn⟩⟩
    rw [hf b h4 ?_]; exact h2
    rcases hd with hd | hd | hd
    · cases hd
    · exact .inr hd
    · exact .inl (by simpa [slB] using hd)

theorem Own.lt {lo : Nat} {s : AS} {z : Nat} {v : AV} {els : List (List AV)} (h : Own lo s z v els) : v = .sn ∨ (lo ≤ slB v ∧ slB v < s.nx) := by
  obtain ⟨h0, h | ⟨b, ex, rfl, h2, h3, h4⟩⟩ := h
  · exact .inl h.1
  · exact .inr ⟨h3, h4⟩

/-- A new block is none of a list's. -/
theorem Own.fresh {lo : Nat} {s : AS} {z : Nat} {v : AV} {els : List (List AV)} (h : Own lo s z v els) {q : Nat} (hq : s.nx ≤ q) : q ≠ slB v ∨ v = .sn := by
  rcases h.lt with h | h
  · exact .inr h
  · exact .inl (by omega)
/-- Nor is an elder one. -/
theorem Own.elder {lo : Nat} {s : AS} {z : Nat} {v : AV} {els : List (List AV)} (h : Own lo s z v els) {q : Nat} (hq : q < lo) : q ≠ slB v ∨ v = .sn := by
  rcases h.lt with h | h
  · exact .inr h
  · exact .inl (by omega)

theorem wrap_i64_def (n : Int) : IntKind.i64.wrap n = if 9223372036854775808 ≤ n % 18446744073709551616 then n % 18446744073709551616 - 18446744073709551616 else n % 18446744073709551616 := by
  simp [IntKind.wrap, IntKind.bits, IntKind.signed]
theorem wrap_u64_def (n : Int) : IntKind.u64.wrap n = n % 18446744073709551616 := by
  simp [IntKind.wrap, IntKind.bits, IntKind.signed]
theorem wrap_u8_def (n : Int) : IntKind.u8.wrap n = n % 256 := by
  simp [IntKind.wrap, IntKind.bits, IntKind.signed]
theorem wrap_i64 {n : Int} (h1 : -9223372036854775808 ≤ n) (h2 : n < 9223372036854775808) : IntKind.i64.wrap n = n := by
  rw [wrap_i64_def]; split <;> omega
theorem wrap_u64 {n : Int} (h1 : 0 ≤ n) (h2 : n < 18446744073709551616) : IntKind.u64.wrap n = n := by
  rw [wrap_u64_def]; omega
theorem wrap_u8 {n : Int} (h1 : 0 ≤ n) (h2 : n < 256) : IntKind.u8.wrap n = n := by
  rw [wrap_u8_def]; omega

end Go.AM
