/- The abstract machine: the interpreter; and what makes the compact code out of the program's. (definitions alone) -/
import Derived.Test.YthdkiocnbbeigaaAmDef
namespace Go.AM

def AOp.quiet : AOp → Bool
  | .alloc _ | .box _ _ | .bsl _ _ _ _ | .st _ _ _ | .mkm | .mks _ _ _ _ _ | .mup _ _ _ _ | .app _ _ _ _ | .cpy _ _ _ | .clr _ _ _ | .call _ _ | .cv .s2b _ => false
  | _ => true

def wanted (t : T AV) : Option (Nat × Bool) → Option Bool
  | none => some true
  | some (k, w) => match ev t (.t k) with
    | .b v => some (v == w)
    | .tu _ => some false
    | _ => none

def putT (st : St) (d : Option Nat) (v : AV) (s : AS) : Option St :=
  match d with
  | none => some ⟨st.t, st.n, s⟩
  | some k => bif Nat.blt k st.n then some ⟨st.t.put k (some v), st.n, s⟩ else none

abbrev Caller := AV → List AV → AS → Option (AV × AS × Bool)

/-- One operation: what it yields, the state, and whether that is as it was. -/
def aoper (call : Caller) (ρ : Opd → AV) (o : AOp) (s : AS) : Option (AV × AS × Bool) :=
  match o with
  | .call f as => call (ρ f) (as.map ρ) s
  | o => match aop ρ o s with
    | some (v, s') => some (v, s', o.quiet)
    | none => none

def aops (call : Caller) : List AOper → St → Option St
  | [], st => some st
  | o :: r, st => match wanted st.t o.g with
    | some true => match aoper call (ev st.t) o.op st.s with
      | some (v, s', _) => match putT st o.dst v s' with
        | some st' => aops call r st'
        | none => none
      | none => none
    | some false => match putT st o.dst (.tu []) st.s with
      | some st' => aops call r st'
      | none => none
    | none => none

/-! A region that draws its order: it is run in the text's order; every operation that leaves the state alone must yield the same in each state in which some order meets it; the others must stand in one order. -/

def dscan (call : Caller) : List AOper → St → Option (List (AV × Bool) × List AS × St)
  | [], st => some ([], [st.s], st)
  | o :: r, st => match wanted st.t o.g with
    | some true => match aoper call (ev st.t) o.op st.s with
      | some (v, s', q) => match putT st o.dst v (bif q then st.s else s') with
        | some st' => match dscan call r st' with
          | some (vs, ss, fin) => some ((v, q) :: vs, bif q then ss else st.s :: ss, fin)
          | none => none
        | none => none
      | none => none
    | some false => match putT st o.dst (.tu []) st.s with
      | some st' => match dscan call r st' with
        | some (vs, ss, fin) => some ((.tu [], true) :: vs, ss, fin)
        | none => none
      | none => none
    | none => none

/-- The places of the operations that turn the state. -/
def loud : List (AV × Bool) → Nat → List Nat
  | [], _ => []
  | (_, q) :: r, k => bif q then loud r (k + 1) else k :: loud r (k + 1)

def inOrder (befs : List Nat) : List Nat → Bool
  | [] => true
  | i :: r => r.all (fun j => (befs.getD j 0).testBit i) && inOrder befs r

/-- May operation j be met when m of the loud ones are done? -/
def meets (befs : List Nat) (N : List Nat) (j m : Nat) : Bool :=
  (N.take m).all (fun i => !(befs.getD i 0).testBit j) && (N.drop m).all (fun i => !(befs.getD j 0).testBit i)

def sameThere (call : Caller) (t : T AV) (o : AOper) (v : AV) (s : AS) : Bool :=
  match wanted t o.g with
  | some true => match aoper call (ev t) o.op s with
    | some (v', _, true) => v'.beq v
    | _ => false
  | some false => true
  | none => false

def statesOk (call : Caller) (befs : List Nat) (N : List Nat) (t : T AV) (o : AOper) (v : AV) (j here : Nat) : List AS → Nat → Bool
  | [], _ => true
  | s :: ss, m => (m == here || !meets befs N j m || sameThere call t o v s) && statesOk call befs N t o v j here ss (m + 1)

def dall (call : Caller) (befs : List Nat) (N : List Nat) (ss : List AS) : Nat → Nat → List AOper → List (AV × Bool) → T AV → Bool
  | j, m, o :: os, (v, q) :: vs, t => (!q || statesOk call befs N t o v j m ss 0) &&
      dall call befs N ss (j + 1) (bif q then m else m + 1) os vs (match o.dst with | some d => t.put d (some v) | none => t)
  | _, _, _, _, _ => true

def adraw (call : Caller) (befs : List Nat) (l : List AOper) (st : St) : Option St :=
  match dscan call l st with
  | some (vs, ss, fin) => bif inOrder befs (loud vs 0) && (match ss with | [_] => true | _ => dall call befs (loud vs 0) ss 0 0 l vs st.t) then some fin else none
  | none => none

def putAll : T AV → List Nat → List AV → Nat → Option (T AV)
  | t, [], [], _ => some t
  | t, k :: ks, v :: vs, n => bif Nat.blt k n then putAll (t.put k (some v)) ks vs n else none
  | _, _, _, _ => none

def argsT : List AV → Nat → T AV → T AV
  | [], _, t => t
  | v :: r, k, t => argsT r (k + 1) (t.put k (some v))

def ares (st : St) : ARes → Option AV
  | .t k => some (ev st.t (.t k))
  | .c agg z a => match ev st.t (.t a) with
    | .p b o => match st.s.h.get b with
      | some (.row _ cs) => bif agg then (match cut cs o z with | some l => some (.ag l) | none => none) else cs[o]?
      | _ => none
    | _ => none

def aress (st : St) : List ARes → Option (List AV)
  | [] => some []
  | r :: l => match ares st r, aress st l with
    | some v, some vs => some (v :: vs)
    | _, _ => none

def pack : List AV → AV
  | [v] => v
  | l => .tu l

def fin (s s' : AS) (v : AV) : AV × AS × Bool :=
  bif Nat.ble s.nx s'.lo && v.old s.nx then (v, s, true) else (v, ⟨s'.h, s'.nx, bif Nat.ble s.lo s'.lo then s.lo else s'.lo⟩, false)

abbrev Exec := ACode → St → Option (Out × St)
abbrev Summ := List AV → AS → Option (AV × AS)

def round (ex : Exec) (l : Nat) (args : List AV) (s : AS) : Option (AV × AS × Bool) :=
  match s.h.get l with
  | some (.lp _ _ n tm ps asg body) =>
    match putAll tm ps args n with
    | none => none
    | some t => match ex asg ⟨t, n, s⟩ with
      | some (.nrm, st1) => match st1.s.h.get l with
        | some (.lp .ready pd n1 tm1 ps1 asg1 body1) => match ex body ⟨st1.t, st1.n, st1.s.write l (.lp .busy pd n1 tm1 ps1 asg1 body1)⟩ with
          | some (o, st2) => match st2.s.h.get l with
            | some (.lp .busy _ n2 tm2 ps2 asg2 body2) => match o with
              | .nrm => some (.b true, st2.s.write l (.lp .ready .nrm n2 tm2 ps2 asg2 body2), false)
              | o => some (.b false, st2.s.write l (.lp .done o n2 tm2 ps2 asg2 body2), false)
            | _ => none
          | none => none
        | _ => none
      | _ => none
  | _ => none

def callWith (ft : Nat → Option AFunc) (sm : Nat → Option Summ) (ex : Exec) : Caller := fun fv args s =>
  match fv with
  | .fn f c => match sm f with
    | some g => match g (args ++ c) s with
      | some (v, s') => some (v, s', false)
      | none => none
    | none => match ft f with
      | none => none
      | some fn => bif Nat.ble (args ++ c).length fn.nt then (match ex fn.body ⟨argsT (args ++ c) 0 .e, fn.nt, ⟨s.h, s.nx, s.nx⟩⟩ with
        | some (.exit _, _) => none
        | some (_, st) => match aress st fn.res with
          | some vs => some (fin s st.s (pack vs))
          | none => none
        | none => none) else none
  | .yl l => round ex l args s
  | _ => none

def aexec (ft : Nat → Option AFunc) (sm : Nat → Option Summ) : Nat → ACode → St → Option (Out × St)
  | 0, _, _ => none
  | k + 1, c, st => match c with
    | .skip => some (.nrm, st)
    | .ops l => match aops (callWith ft sm (aexec ft sm k)) l st with
      | some st' => some (.nrm, st')
      | none => none
    | .draw befs l => match adraw (callWith ft sm (aexec ft sm k)) befs l st with
      | some st' => some (.nrm, st')
      | none => none
    | .seq a b => match aexec ft sm k a st with
      | some (.nrm, st') => aexec ft sm k b st'
      | r => r
    | .cond c a b => match ev st.t c with
      | .b true => aexec ft sm k a st
      | .b false => aexec ft sm k b st
      | _ => none
    | .block id a => match aexec ft sm k a st with
      | some (.exit j, st') => bif j == id then some (.nrm, st') else some (.exit j, st')
      | r => r
    | .loop a => match aexec ft sm k a st with
      | some (.nrm, st') => aexec ft sm k (.loop a) st'
      | r => r
    | .exit id => some (.exit id, st)
    | .ret => some (.ret, st)
    | .rf f ps asg body => match ev st.t f with
      | .fn g c => match sm g with
        | some _ => none
        | none => match callWith ft sm (aexec ft sm k) (.fn g c) [.yl st.s.nx] (st.s.new (.lp .ready .nrm st.n st.t ps asg body)) with
          | some (_, s2, _) => match s2.h.get st.s.nx with
            | some (.lp .ready o n tm ps asg body) => some (o, ⟨st.t, st.n, s2.write st.s.nx (.lp .over o n tm ps asg body)⟩)
            | some (.lp .done o n tm ps asg body) => some (o, ⟨st.t, st.n, s2.write st.s.nx (.lp .over o n tm ps asg body)⟩)
            | _ => none
          | none => none
      | _ => none

/-! The compact code. -/

def cVal1 : Value → Option AV
  | .bool v => some (.b v)
  | .int k n => some (.i k n)
  | .string s => some (.s s.data.toList)
  | .pointer none => some .pn
  | .slice none 0 0 => some .sn
  | .map none => some .mn
  | .nilFunc => some .nf
  | .nilIface => some .nif
  | _ => none

def cVals : List Value → Option (List AV)
  | [] => some []
  | v :: r => match cVal1 v, cVals r with
    | some a, some l => some (a :: l)
    | _, _ => none

def cVal : Value → Option AV
  | .agg cs => (cVals cs.toList).map .ag
  | v => cVal1 v

def cOpd : Operand → Option Opd
  | .tmp t => some (.t t)
  | .const v => (cVal v).map .c
  | .func f => some (.c (.fn f []))
  | .global _ => none

def cOpds : List Operand → Option (List Opd)
  | [] => some []
  | x :: r => match cOpd x, cOpds r with
    | some a, some l => some (a :: l)
    | _, _ => none

def cOptOpd : Option Operand → Option (Option Opd)
  | none => some none
  | some x => (cOpd x).map some

section
variable (P : Program)

def zsOf (t : TypeId) : Option (List AV) := match P.info? t with
  | some i => match i.zero with
    | some z => (cVal z).map AV.cells
    | none => none
  | none => none
def zvOf (t : TypeId) : Option AV := match P.info? t with
  | some i => match i.zero with
    | some z => cVal z
    | none => none
  | none => none
def szOf (t : TypeId) : Option Nat := (P.info? t).map (·.size)
def bytesIn (t : TypeId) : Option Nat := (P.info? t).map (·.bytes)
def aggOf (t : TypeId) : Option Bool := match P.underlying t with
  | some (.struct _) | some (.array _ _) => some true
  | some _ => some false
  | none => none

def placesOf : List Field → Option (List (Nat × Nat))
  | [] => some []
  | f :: r => match szOf P f.type, placesOf r with
    | some z, some l => some ((f.offset, z) :: l)
    | _, _ => none

def fieldParts (pl : List (Nat × Nat)) : List (Nat × Operand) → Option (List (Nat × Nat × Opd))
  | [] => some []
  | (i, x) :: r => match pl[i]?, cOpd x, fieldParts pl r with
    | some (o, z), some a, some l => some ((o, z, a) :: l)
    | _, _, _ => none

def elemParts (z : Nat) : List (Nat × Operand) → Option (List (Nat × Nat × Opd))
  | [] => some []
  | (i, x) :: r => match cOpd x, elemParts z r with
    | some a, some l => some ((i * z, z, a) :: l)
    | _, _ => none

def plainT (t : TypeId) : Option PT := match P.underlying t with
  | some (.int _) => some .i
  | some .bool => some .b
  | some .string => some .s
  | _ => none

def plainFs : List Field → Option (List (Nat × PT))
  | [] => some []
  | f :: r => match plainT P f.type, plainFs r with
    | some p, some l => bif f.name == "_" then none else some ((f.offset, p) :: l)
    | _, _ => none

def eqKOf (t : TypeId) : Option EqK := match P.underlying t with
  | some (.int _) => some (.plain .i)
  | some .bool => some (.plain .b)
  | some .string => some (.plain .s)
  | some (.pointer _) => some (.ref .p)
  | some (.slice _) => some (.ref .s)
  | some (.map _ _) => some (.ref .m)
  | some (.func _ _ _) => some (.ref .f)
  | some (.struct fs) => bif !P.stoodInHeld t && !P.eqGuardType P.depth t then (plainFs P fs.toList).map .str else none
  | _ => none

def cOp (o : Op) : Option AOp :=
  match o with
  | .move x | .assign x => (cOpd x).map .mv
  | .pick c a b => match cOpd c, cOpd a, cOpd b with
    | some c, some a, some b => some (.pick c a b)
    | _, _, _ => none
  | .alloc e => (zsOf P e).map .alloc
  | .box e x => match szOf P e, cOpd x with
    | some z, some x => some (.box z x)
    | _, _ => none
  | .build t ps => match P.underlying t, zsOf P t with
    | some (.struct fs), some zero => match placesOf P fs.toList with
      | some pl => (fieldParts pl ps.toList).map (.bld zero)
      | none => none
    | some (.array _ e), some zero => match szOf P e with
      | some z => (elemParts z ps.toList).map (.bld zero)
      | none => none
    | _, _ => none
  | .buildSlice t len ps => match P.underlying t with
    | some (.slice e) => match szOf P e, zsOf P e with
      | some z, some zero => bif Nat.ble (len * z) 16777216 && !(z == 0) && zero.length == z then (elemParts z ps.toList).map (.bsl z len zero) else none
      | _, _ => none
    | _ => none
  | .load t a => match aggOf P t, szOf P t, cOpd a with
    | some g, some z, some a => some (.ld g z a)
    | _, _, _ => none
  | .store t a x => match szOf P t, cOpd a, cOpd x with
    | some z, some a, some x => some (.st z a x)
    | _, _, _ => none
  | .nilCheck x => (cOpd x).map .nilck
  | .binOp op t x y _ => match eqKOf P t, cOpd x, cOpd y with
    | some e, some x, some y => some (.bin op e x y)
    | _, _, _ => none
  | .unOp op _ x => (cOpd x).map (.un op)
  | .convert src dst x => match P.underlying src, P.underlying dst, cOpd x with
    | some (.int _), some (.int k), some x => some (.cv (.int k) x)
    | some .string, some .string, some x => some (.cv .same x)
    | some .string, some (.slice e), some x => match P.underlying e with
      | some (.int .u8) => some (.cv .s2b x)
      | _ => none
    | some (.slice e), some .string, some x => match P.underlying e with
      | some (.int .u8) => some (.cv .b2s x)
      | _ => none
    | _, _, _ => none
  | .makeFunc (.func f) first cs => bif first.isEmpty then (cOpds cs.toList).map (.mkf f) else none
  | .makeMap _ none => some .mkm
  | .makeSlice t l c => match P.underlying t with
    | some (.slice e) => match szOf P e, bytesIn P e, zsOf P e, cOpd l, cOpd c with
      | some z, some bs, some zero, some l, some c => bif z == 0 || !(zero.length == z) then none else some (.mks z bs zero l c)
      | _, _, _, _, _ => none
    | _ => none
  | .slice t x lo hi mx => match P.underlying t, cOpd x, cOptOpd lo, cOptOpd hi, cOptOpd mx with
    | some .string, some x, some lo, some hi, some none => some (.sls x lo hi)
    | some (.slice e), some x, some lo, some hi, some mx => match szOf P e with
      | some z => bif mx.isSome && !hi.isSome then none else some (.slc z x lo hi mx)
      | none => none
    | some (.array n e), some x, some lo, some hi, some none => match szOf P e with
      | some z => some (.sla n z x lo hi)
      | none => none
    | _, _, _, _, _ => none
  | .fieldAddr t x f => match P.underlying t, cOpd x with
    | some (.struct fs), some x => match fs[f]? with
      | some f => match szOf P f.type with
        | some z => bif z == 0 then none else some (.fad f.offset x)
        | none => none
      | none => none
    | _, _ => none
  | .field t x f => match P.underlying t, cOpd x with
    | some (.struct fs), some x => match fs[f]? with
      | some f => match aggOf P f.type, szOf P f.type with
        | some g, some z => some (.fld g f.offset z x)
        | _, _ => none
      | none => none
    | _, _ => none
  | .indexAddr t x i => match P.underlying t, cOpd x, cOpd i with
    | some (.slice e), some x, some i => (szOf P e).map fun z => .iad none z x i
    | some (.array n e), some x, some i => (szOf P e).map fun z => .iad (some n) z x i
    | _, _, _ => none
  | .index t x i => match P.underlying t, cOpd x, cOpd i with
    | some .string, some x, some i => some (.idx x i)
    | _, _, _ => none
  | .lookup t m k ok => match P.underlying t, cOpd m, cOpd k with
    | some (.map kt e), some m, some k => match eqKOf P kt, zvOf P e with
      | some eq, some zero => some (.lk eq zero ok m k)
      | _, _ => none
    | _, _, _ => none
  | .mapUpdate t m k v | .insert t m k v => match P.underlying t, cOpd m, cOpd k, cOpd v with
    | some (.map kt _), some m, some k, some v => match eqKOf P kt with
      | some eq => some (.mup eq m k v)
      | _ => none
    | _, _, _, _ => none
  | .extract t i => (cOpd t).map fun t => .ext t i
  | .call c => match c.callee with
    | .value f => match cOpd f, cOpds c.args.toList with
      | some f, some as => some (.call f as)
      | _, _ => none
    | .builtin .len => match c.args.toList, c.argTypes.toList with
      | [x], [t] => match P.underlying t, cOpd x with
        | some .string, some x => some (.len .s x)
        | some (.slice _), some x => some (.len .l x)
        | some (.map _ _), some x => some (.len .m x)
        | _, _ => none
      | _, _ => none
    | .builtin .append => match c.args.toList, c.argTypes.toList with
      | [x, y], [t, u] => match P.underlying t, P.underlying u, cOpd x, cOpd y with
        | some (.slice e), some (.slice _), some x, some y | some (.slice e), some .string, some x, some y => match szOf P e, bytesIn P e, zsOf P e with
          | some z, some bs, some zero => bif z == 0 || bs == 0 || !Nat.ble bs 65536 || !(zero.length == z) then none else some (.app z bs x y)
          | _, _, _ => none
        | _, _, _, _ => none
      | _, _ => none
    | .builtin .copy => match c.args.toList, c.argTypes.toList with
      | [x, y], [t, _] => match P.underlying t, cOpd x, cOpd y with
        | some (.slice e), some x, some y => match szOf P e with
          | some z => bif z == 0 then none else some (.cpy z x y)
          | none => none
        | _, _, _ => none
      | _, _ => none
    | .builtin .min => (cOpds c.args.toList).map (.mnx false)
    | .builtin .max => (cOpds c.args.toList).map (.mnx true)
    | .builtin .clear => match c.args.toList, c.argTypes.toList with
      | [x], [t] => match P.underlying t, cOpd x with
        | some (.slice e), some x => match szOf P e, zsOf P e with
          | some z, some zero => bif z == 0 || !(zero.length == z) then none else some (.clr z zero x)
          | _, _ => none
        | _, _ => none
      | _, _ => none
    | _ => none
  | _ => none

def cGuard (ops : Array Oper) : Option (Nat × Bool) → Option (Option (Nat × Bool))
  | none => some none
  | some (j, w) => match ops[j]? with
    | some o => match o.dst with
      | some d => some (some (d, w))
      | none => none
    | none => none

def cOper (ops : Array Oper) (o : Oper) : Option AOper :=
  match cGuard ops o.guard, cOp P o.op with
  | some g, some op => some ⟨o.dst, g, op⟩
  | _, _ => none

def cOpers (ops : Array Oper) : List Oper → Option (List AOper)
  | [] => some []
  | o :: r => match cOper P ops o, cOpers ops r with
    | some a, some l => some (a :: l)
    | _, _ => none

/-- Of each operation those that stand ahead of it in every order (bit by bit). -/
def befRow (acc : List Nat) : List Edge → Nat
  | [] => 0
  | e :: r => bif Region.binds .any e then (2 ^ e.on ||| acc.getD e.on 0) ||| befRow acc r else befRow acc r

def befsOf : List Oper → List Nat → List Nat
  | [], acc => acc
  | o :: r, acc => befsOf r (acc ++ [befRow acc o.after.toList])

/-- What an operation looks at. -/
def AOp.opds : AOp → List Opd
  | .mv x | .box _ x | .nilck x | .un _ x | .cv _ x | .fad _ x | .fld _ _ _ x | .ext x _ | .len _ x | .clr _ _ x => [x]
  | .pick c a b => [c, a, b]
  | .alloc _ | .mkm => []
  | .bld _ ps | .bsl _ _ _ ps => ps.map (fun p => p.2.2)
  | .ld _ _ a => [a]
  | .st _ a x => [a, x]
  | .bin _ _ x y | .iad _ _ x y | .idx x y | .app _ _ x y | .cpy _ x y | .mks _ _ _ x y | .lk _ _ _ x y => [x, y]
  | .mkf _ c => c
  | .sls x lo hi | .sla _ _ x lo hi => x :: (lo.toList ++ hi.toList)
  | .slc _ x lo hi mx => x :: (lo.toList ++ hi.toList ++ mx.toList)
  | .mup _ m k v => [m, k, v]
  | .mnx _ xs => xs
  | .call f as => f :: as

def Opd.tmp : Opd → Option Nat
  | .t k => some k
  | .c _ => none

def tmpsOf (o : AOper) : List Nat :=
  (match o.g with
    | some (k, _) => [k]
    | none => []) ++ o.op.opds.filterMap Opd.tmp

/-- The order that the temporaries ask for, and that the edges lead backwards. -/
def drawOk (ops : Array Oper) (befs : List Nat) (l : List AOper) : Bool :=
  (List.range ops.size).all fun j => match ops[j]?, l[j]? with
    | some oj, some aj =>
      (List.range ops.size).all (fun b => !(befs.getD j 0).testBit b || (Nat.blt b j && oj.after.toList.any (fun e => Region.binds .any e && (e.on == b || (befs.getD e.on 0).testBit b)))) &&
      oj.after.toList.all (fun e => !Region.binds .any e || Nat.blt e.on j) &&
      (List.range j).all fun i => match l[i]? with
        | none => false
        | some ai => (match ai.dst with
            | some d => (!(aj.dst == some d) && !(tmpsOf aj).contains d) || (befs.getD j 0).testBit i
            | none => true) &&
          (match aj.dst with
            | some d => !(tmpsOf ai).contains d || (befs.getD j 0).testBit i
            | none => true)
    | _, _ => false

/-- No range over a function in it. -/
def noRf : ACode → Bool
  | .seq a b | .cond _ a b => noRf a && noRf b
  | .block _ a | .loop a => noRf a
  | .rf _ _ _ _ => false
  | _ => true

def cCode : Code → Option ACode
  | .skip => some .skip
  | .region _ ops draw => match cOpers P ops ops.toList with
    | some l => bif draw then (bif drawOk ops (befsOf ops.toList []) l then some (.draw (befsOf ops.toList []) l) else none) else some (.ops l)
    | none => none
  | .seq a b => match cCode a, cCode b with
    | some a, some b => some (.seq a b)
    | _, _ => none
  | .cond c a b => match cOpd c, cCode a, cCode b with
    | some c, some a, some b => some (.cond c a b)
    | _, _, _ => none
  | .block id a => (cCode a).map (.block id)
  | .loop a => (cCode a).map .loop
  | .exit id => some (.exit id)
  | .ret => some .ret
  | .rangeFunc f ps asg body => match cOpd f, cCode asg, cCode body with
    | some f, some a, some b => bif noRf a && noRf b then some (.rf f ps.toList a b) else none
    | _, _, _ => none
  | _ => none

def cRes : List ResultVar → Option (List ARes)
  | [] => some []
  | .tmp t :: r => (cRes r).map (.t t :: ·)
  | .cell a t :: r => match aggOf P t, szOf P t, cRes r with
    | some g, some z, some l => some (.c g z a :: l)
    | _, _, _ => none

def cFunc (fn : Func) : Option AFunc :=
  match fn.body with
  | some c => match cCode P c, cRes P fn.results.toList with
    | some body, some res => some ⟨fn.params.size, fn.ntmps, res, body⟩
    | _, _ => none
  | none => none
end

end Go.AM
