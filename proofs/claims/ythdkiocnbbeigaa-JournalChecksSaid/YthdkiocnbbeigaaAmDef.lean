/- The abstract machine: values without capacities and addresses, a heap of numbered blocks, and an interpreter with fuel over a compact code. (definitions alone) -/
import Derived.RangeFuncRecord
import Derived.OrdersIn
namespace Go.AM

/-- A tree of things by numbers. -/
inductive T (α : Type) where
  | e
  | n (v : Option α) (l r : T α)

def T.get {α : Type} : T α → Nat → Option α
  | .e, _ => none
  | .n v l r, k => bif k == 0 then v else bif k % 2 == 1 then l.get (k / 2) else r.get (k / 2 - 1)

def T.setF {α : Type} : Nat → T α → Nat → Option α → T α
  | 0, t, _, _ => t
  | f + 1, .e, k, x => bif k == 0 then .n x .e .e else bif k % 2 == 1 then .n none (T.setF f .e (k / 2) x) .e else .n none .e (T.setF f .e (k / 2 - 1) x)
  | f + 1, .n v l r, k, x => bif k == 0 then .n x l r else bif k % 2 == 1 then .n v (T.setF f l (k / 2) x) r else .n v l (T.setF f r (k / 2 - 1) x)

def T.put {α : Type} (t : T α) (k : Nat) (x : Option α) : T α := T.setF (k + 1) t k x

/-- Values. -/
inductive AV where
  | un
  | b (v : Bool)
  | i (k : IntKind) (n : Int)
  | s (l : List UInt8)
  | pn
  | p (b o : Nat)
  | sn
  | sl (b o z len cap : Nat) (ex : Bool)
  | mn
  | m (b : Nat)
  | fn (f : Nat) (c : List AV)
  | yl (b : Nat)
  | nf
  | nif
  | ag (l : List AV)
  | tu (l : List AV)
  deriving Inhabited

/-- Values of one cell. -/
def AV.one : AV → Bool
  | .un | .ag _ | .tu _ => false
  | _ => true

def AV.cells : AV → List AV
  | .ag q => q
  | v => [v]

mutual
/-- Every block that is named lies below n. -/
def AV.old (n : Nat) : AV → Bool
  | .p q _ => Nat.blt q n
  | .sl q _ _ _ _ _ => Nat.blt q n
  | .m q => Nat.blt q n
  | .yl q => Nat.blt q n
  | .fn _ q => AV.olds n q
  | .ag q => AV.olds n q
  | .tu q => AV.olds n q
  | _ => true
def AV.olds (n : Nat) : List AV → Bool
  | [] => true
  | v :: r => AV.old n v && AV.olds n r
end

mutual
def AV.beq : AV → AV → Bool
  | .un, .un => true
  | .b x, .b y => x == y
  | .i .i8 x, .i .i8 y | .i .i16 x, .i .i16 y | .i .i32 x, .i .i32 y | .i .i64 x, .i .i64 y | .i .u8 x, .i .u8 y | .i .u16 x, .i .u16 y | .i .u32 x, .i .u32 y | .i .u64 x, .i .u64 y => x == y
  | .s x, .s y => x == y
  | .pn, .pn => true
  | .p q o, .p q' o' => q == q' && o == o'
  | .sn, .sn => true
  | .sl q o z l c e, .sl q' o' z' l' c' e' => q == q' && o == o' && z == z' && l == l' && c == c' && e == e'
  | .mn, .mn => true
  | .m q, .m q' => q == q'
  | .fn f c, .fn f' c' => f == f' && AV.beqs c c'
  | .yl q, .yl q' => q == q'
  | .nf, .nf => true
  | .nif, .nif => true
  | .ag l, .ag l' => AV.beqs l l'
  | .tu l, .tu l' => AV.beqs l l'
  | _, _ => false
def AV.beqs : List AV → List AV → Bool
  | [], [] => true
  | x :: l, y :: l' => AV.beq x y && AV.beqs l l'
  | _, _ => false
end

inductive Opd where
  | t (n : Nat)
  | c (v : AV)

inductive Cv where
  | int (k : IntKind)
  | same
  | s2b
  | b2s

/-- Plain types: whole numbers, bools, texts. -/
inductive PT where
  | i | b | s

/-- Types whose values are held against nil alone. -/
inductive RT where
  | p | s | m | f

/-- How two values are held against each other. -/
inductive EqK where
  | plain (p : PT)
  | ref (k : RT)
  | str (l : List (Nat × PT))

/-- What has a length: a text, a slice, a map. -/
inductive LK where
  | s | l | m

inductive AOp where
  | mv (x : Opd)
  | pick (c a b : Opd)
  | alloc (zs : List AV)
  | box (z : Nat) (x : Opd)
  | bld (zero : List AV) (ps : List (Nat × Nat × Opd))
  | bsl (z len : Nat) (zero : List AV) (ps : List (Nat × Nat × Opd))
  | ld (agg : Bool) (z : Nat) (a : Opd)
  | st (z : Nat) (a x : Opd)
  | nilck (x : Opd)
  | bin (op : BinOp) (e : EqK) (x y : Opd)
  | un (op : UnOp) (x : Opd)
  | cv (c : Cv) (x : Opd)
  | mkf (f : Nat) (c : List Opd)
  | mkm
  | mks (z bytes : Nat) (zero : List AV) (len cap : Opd)
  | sls (x : Opd) (lo hi : Option Opd)
  | slc (z : Nat) (x : Opd) (lo hi mx : Option Opd)
  | sla (n z : Nat) (x : Opd) (lo hi : Option Opd)
  | fad (off : Nat) (x : Opd)
  | fld (agg : Bool) (off z : Nat) (x : Opd)
  | iad (arr : Option Nat) (z : Nat) (x i : Opd)
  | idx (x i : Opd)
  | lk (e : EqK) (zero : AV) (ok : Bool) (m k : Opd)
  | mup (e : EqK) (m k v : Opd)
  | ext (t : Opd) (i : Nat)
  | len (k : LK) (x : Opd)
  | app (z bytes : Nat) (x y : Opd)
  | cpy (z : Nat) (d s : Opd)
  | mnx (max : Bool) (xs : List Opd)
  | clr (z : Nat) (zero : List AV) (x : Opd)
  | call (f : Opd) (as : List Opd)

structure AOper where
  dst : Option Nat
  g : Option (Nat × Bool)
  op : AOp

inductive ACode where
  | skip
  | ops (l : List AOper)
  | draw (befs : List Nat) (l : List AOper)
  | seq (a b : ACode)
  | cond (c : Opd) (a b : ACode)
  | block (id : Nat) (a : ACode)
  | loop (a : ACode)
  | exit (id : Nat)
  | ret
  | rf (f : Opd) (ps : List Nat) (asg body : ACode)

inductive ARes where
  | t (n : Nat)
  | c (agg : Bool) (z a : Nat)

structure AFunc where
  np : Nat
  nt : Nat
  res : List ARes
  body : ACode

/-- How a piece of code is left. -/
inductive Out where
  | nrm
  | ret
  | exit (id : Nat)

inductive LSt where
  | ready | busy | done | over

inductive Blk where
  | row (wr : Bool) (cs : List AV)
  | mp (es : List (AV × AV))
  | lp (st : LSt) (pend : Out) (n : Nat) (tm : T AV) (ps : List Nat) (asg body : ACode)

/-- The heap; the next number; below 'lo' nothing was written. -/
structure AS where
  h : T Blk
  nx : Nat
  lo : Nat

structure St where
  t : T AV
  n : Nat
  s : AS

def St.get (st : St) (k : Nat) : AV := match st.t.get k with | some v => v | none => .un
def ev (t : T AV) : Opd → AV
  | .t k => match t.get k with | some v => v | none => .un
  | .c v => v

def AS.new (s : AS) (b : Blk) : AS := ⟨s.h.put s.nx (some b), s.nx + 1, s.lo⟩
def AS.write (s : AS) (k : Nat) (b : Blk) : AS := ⟨s.h.put k (some b), s.nx, bif Nat.ble s.lo k then s.lo else k⟩
def AS.kill (s : AS) (k : Nat) : AS := ⟨s.h.put k none, s.nx, bif Nat.ble s.lo k then s.lo else k⟩

/-- Cells from a place on are others. -/
def putAt {α : Type} : List α → Nat → List α → List α
  | [], _, _ => []
  | cs, _, [] => cs
  | _ :: r, 0, x :: xs => x :: putAt r 0 xs
  | c :: r, k + 1, xs => c :: putAt r k xs

def cut {α : Type} (l : List α) (o z : Nat) : Option (List α) :=
  bif Nat.ble (o + z) l.length then some ((l.drop o).take z) else none

def fillL : List AV → List (Nat × Nat × AV) → Option (List AV)
  | cs, [] => some cs
  | cs, (o, z, v) :: r => bif (v.cells.length == z && Nat.ble (o + z) cs.length) && v.cells.all AV.one then fillL (putAt cs o v.cells) r else none

def bytesLt : List UInt8 → List UInt8 → Bool
  | _, [] => false
  | [], _ :: _ => true
  | a :: x, b :: y => a.toNat.blt b.toNat || (a.toNat == b.toNat && bytesLt x y)

def bytesEq : List UInt8 → List UInt8 → Bool
  | [], [] => true
  | a :: x, b :: y => a.toNat == b.toNat && bytesEq x y
  | _, _ => false

def kEq : IntKind → IntKind → Bool
  | .i8, .i8 | .i16, .i16 | .i32, .i32 | .i64, .i64 | .u8, .u8 | .u16, .u16 | .u32, .u32 | .u64, .u64 => true
  | _, _ => false

/-- Plain values held against each other: of one kind. -/
def eqP : PT → AV → AV → Option Bool
  | .b, .b a, .b c => some (a == c)
  | .i, .i k a, .i k' c => bif kEq k k' then some (a == c) else none
  | .s, .s a, .s c => some (bytesEq a c)
  | _, _, _ => none

def isRef : RT → AV → Option Bool   -- is it none? (of a pointer, a slice, a map, a function)
  | .p, .pn | .s, .sn | .m, .mn | .f, .nf => some true
  | .p, .p _ _ | .s, .sl _ _ _ _ _ _ | .m, .m _ | .f, .fn _ _ | .f, .yl _ => some false
  | _, _ => none

def eqR (k : RT) (x y : AV) : Option Bool :=
  match isRef k x, isRef k y with
  | some true, some c => some c
  | some false, some true => some false
  | _, _ => none

def eqS : List (Nat × PT) → List AV → List AV → Option Bool
  | [], _, _ => some true
  | (o, p) :: r, xs, ys => match xs[o]?, ys[o]? with
    | some a, some c => match eqP p a c with
      | some true => eqS r xs ys
      | some false => some false
      | none => none
    | _, _ => none

def eqV (e : EqK) (x y : AV) : Option Bool :=
  match e with
  | .plain p => eqP p x y
  | .ref k => eqR k x y
  | .str l => match x, y with
    | .ag a, .ag c => bif a.length == c.length then eqS l a c else none
    | _, _ => none

def intBin (op : BinOp) (k : IntKind) (x y : Int) : Option AV :=
  match op with
  | .add => some (.i k (k.wrap (x + y)))
  | .sub => some (.i k (k.wrap (x - y)))
  | .mul => some (.i k (k.wrap (x * y)))
  | .quo => bif y == 0 then none else some (.i k (k.wrap (x.tdiv y)))
  | .rem => bif y == 0 then none else some (.i k (x.tmod y))
  | .and => some (.i k (k.wrap (BitVec.ofInt k.bits x &&& BitVec.ofInt k.bits y).toNat))
  | .or => some (.i k (k.wrap (BitVec.ofInt k.bits x ||| BitVec.ofInt k.bits y).toNat))
  | .xor => some (.i k (k.wrap (BitVec.ofInt k.bits x ^^^ BitVec.ofInt k.bits y).toNat))
  | .andNot => some (.i k (k.wrap (BitVec.ofInt k.bits x &&& ~~~ BitVec.ofInt k.bits y).toNat))
  | .eql => some (.b (x == y))
  | .neq => some (.b (!(x == y)))
  | .lss => some (.b (decide (x < y)))
  | .leq => some (.b (decide (x ≤ y)))
  | .gtr => some (.b (decide (x > y)))
  | .geq => some (.b (decide (x ≥ y)))
  | _ => none

def strBin (op : BinOp) (x y : List UInt8) : Option AV :=
  match op with
  | .add => bif Nat.ble (x.length + y.length) 4611686018427387904 then some (.s (x ++ y)) else none
  | .eql => some (.b (bytesEq x y))
  | .neq => some (.b (!bytesEq x y))
  | .lss => some (.b (bytesLt x y))
  | .leq => some (.b (bytesLt x y || bytesEq x y))
  | .gtr => some (.b (!(bytesLt x y || bytesEq x y)))
  | .geq => some (.b (!bytesLt x y))
  | _ => none

def shiftBin (left : Bool) (k : IntKind) (x y : Int) : Option AV :=
  bif decide (y < 0) then none
  else bif left then some (.i k (k.wrap (x * 2 ^ (min y.toNat k.bits)))) else some (.i k (x.fdiv (2 ^ (min y.toNat k.bits))))

def binV (op : BinOp) (e : EqK) (x y : AV) : Option AV :=
  match op, x, y with
  | .shl, .i k a, .i _ c => shiftBin true k a c
  | .shr, .i k a, .i _ c => shiftBin false k a c
  | op, .i k a, .i k' c => bif kEq k k' then intBin op k a c else none
  | op, .s a, .s c => strBin op a c
  | .eql, x, y => match eqV e x y with | some v => some (.b v) | none => none
  | .neq, x, y => match eqV e x y with | some v => some (.b (!v)) | none => none
  | _, _, _ => none

def unV (op : UnOp) (x : AV) : Option AV :=
  match op, x with
  | .neg, .i k n => some (.i k (k.wrap (0 - n)))
  | .xor, .i k n => some (.i k (k.wrap (BitVec.ofInt k.bits (bif k.signed then -1 else k.max) ^^^ BitVec.ofInt k.bits n).toNat))
  | .not, .b v => some (.b !v)
  | _, _ => none

def natOf (v : AV) (most : Nat) : Option Nat :=
  match v with
  | .i _ (.ofNat n) => bif Nat.ble n most then some n else none
  | _ => none

def optNat (ρ : Opd → AV) (x : Option Opd) (most dflt : Nat) : Option Nat :=
  match x with
  | none => some dflt
  | some o => natOf (ρ o) most

def lookL (e : EqK) (k : AV) : List (AV × AV) → Option (Option AV)
  | [] => some none
  | (a, v) :: r => match eqV e k a with
    | some true => some (some v)
    | some false => lookL e k r
    | none => none

def upL (e : EqK) (k v : AV) : List (AV × AV) → List (AV × AV)
  | [] => [(k, v)]
  | (a, u) :: r => match eqV e k a with
    | some true => (k, v) :: r
    | _ => (a, u) :: upL e k v r

/-- Keys of a kind that a map takes here: whole numbers, texts, structs of plain values. -/
def keyOk (e : EqK) (k : AV) : Bool :=
  match e, k with
  | .plain .i, .i _ _ => true
  | .plain .s, .s _ => true
  | .str l, .ag c => (l.map (·.1) == List.range c.length) && l.all fun x => match eqP x.2 (c.getD x.1 .un) (c.getD x.1 .un) with | some _ => true | none => false
  | _, _ => false

def srcCells (s : AS) (z : Nat) (v : AV) : Option (Nat × List AV) :=   -- how many elements, and their cells
  match v with
  | .sn => some (0, [])
  | .sl b o z' len _ _ => bif z' == z then (match s.h.get b with
    | some (.row _ cs) => (match cut cs o (len * z) with | some l => some (len, l) | none => none)
    | _ => none) else none
  | .s l => bif z == 1 then some (l.length, l.map fun c => .i .u8 c.toNat) else none
  | _ => none

def most46 : Nat := 70368744177664

/-- append. -/
def appV (s : AS) (z bytes : Nat) (x y : AV) : Option (AV × AS) :=
  match srcCells s z y with
  | none => none
  | some (n, new) =>
    bif new.all AV.one then
    match x with
    | .sn => bif n == 0 then some (.sn, s) else bif Nat.ble (n * bytes) most46 then some (.sl s.nx 0 z n n false, s.new (.row true new)) else none
    | .sl b o z' len cap ex =>
      bif z' == z then
      match s.h.get b with
      | some (.row wr cs) =>
        bif Nat.ble (len + n) cap then
          (bif n == 0 then some (.sl b o z len cap ex, s)
           else bif wr && Nat.ble (o + (len + n) * z) cs.length then some (.sl b o z (len + n) cap ex, s.write b (.row true (putAt cs (o + len * z) new))) else none)
        else bif Nat.ble ((len + n) * bytes) most46 then
          (match cut cs o (len * z) with
           | none => none
           | some old =>
             bif old.all AV.one then
             bif ex then some (.sl s.nx 0 z (len + n) (len + n) false, s.new (.row true (old ++ new)))
             else bif wr then some (.sl s.nx 0 z (len + n) (len + n) false, (s.kill b).new (.row true (old ++ new))) else none
             else none)
        else none
      | _ => none
      else none
    | _ => none
    else none

def repCells {α : Type} (n : Nat) (zero : List α) : List α :=
  match n with
  | 0 => []
  | n + 1 => zero ++ repCells n zero

def partsOf (ρ : Opd → AV) : List (Nat × Nat × Opd) → List (Nat × Nat × AV)
  | [] => []
  | (o, z, x) :: r => (o, z, ρ x) :: partsOf ρ r

def isU8 : AV → Bool
  | .i .u8 (.ofNat _) => true
  | _ => false

def byteAt : AV → UInt8
  | .i _ (.ofNat n) => UInt8.ofNat n
  | _ => 0

def mnxV (max : Bool) : AV → List AV → Option AV
  | x, [] => some x
  | .i k x, .i k' y :: r => bif kEq k k' then (bif max then mnxV max (.i k (bif decide (x < y) then y else x)) r else mnxV max (.i k (bif decide (y < x) then y else x)) r) else none
  | _, _ => none

/-- A pure operation, or one on the heap; calls are elsewhere. -/
def aop (ρ : Opd → AV) (o : AOp) (s : AS) : Option (AV × AS) :=
  match o with
  | .mv x => some (ρ x, s)
  | .pick c a b => match ρ c with
    | .b true => some (ρ a, s)
    | .b false => some (ρ b, s)
    | _ => none
  | .alloc zs => some (.p s.nx 0, s.new (.row true zs))
  | .box z x => let cs := (ρ x).cells
    bif cs.length == z && cs.all AV.one then some (.p s.nx 0, s.new (.row true cs)) else none
  | .bld zero ps => match fillL zero (partsOf ρ ps) with
    | some cs => some (.ag cs, s)
    | none => none
  | .bsl z len zero ps => match fillL (repCells len zero) (partsOf ρ ps) with
    | some cs => some (.sl s.nx 0 z len len true, s.new (.row true cs))
    | none => none
  | .ld agg z a => match ρ a with
    | .p b o => match s.h.get b with
      | some (.row _ cs) => bif agg then (match cut cs o z with | some l => some (.ag l, s) | none => none)
        else (match cs[o]? with | some v => some (v, s) | none => none)
      | _ => none
    | _ => none
  | .st z a x => match ρ a with
    | .p b o => match s.h.get b with
      | some (.row true cs) => let vs := (ρ x).cells
        bif (vs.length == z && Nat.ble (o + z) cs.length) && vs.all AV.one then some (.tu [], s.write b (.row true (putAt cs o vs))) else none
      | _ => none
    | _ => none
  | .nilck x => match ρ x with
    | .p b o => some (.p b o, s)
    | .fn f c => some (.fn f c, s)
    | .yl l => some (.yl l, s)
    | _ => none
  | .bin op e x y => match binV op e (ρ x) (ρ y) with
    | some v => some (v, s)
    | none => none
  | .un op x => match unV op (ρ x) with
    | some v => some (v, s)
    | none => none
  | .cv c x => match c, ρ x with
    | .int k, .i _ n => some (.i k (k.wrap n), s)
    | .same, .s l => some (.s l, s)
    | .s2b, .s l => some (.sl s.nx 0 1 l.length l.length false, s.new (.row true (l.map fun c => .i .u8 c.toNat)))
    | .b2s, .sn => some (.s [], s)
    | .b2s, .sl b o 1 len _ _ => match s.h.get b with
      | some (.row _ cs) => match cut cs o len with
        | some l => bif l.all isU8 then some (.s (l.map byteAt), s) else none
        | none => none
      | _ => none
    | _, _ => none
  | .mkf f c => some (.fn f (c.map ρ), s)
  | .mkm => some (.m s.nx, s.new (.mp []))
  | .mks z bytes zero l c => match ρ l, ρ c with
    | .i _ (.ofNat l), .i _ (.ofNat c) => bif Nat.ble l c && Nat.ble (c * bytes) most46 && Nat.ble c most46 then
        some (.sl s.nx 0 z l c true, s.new (.row true (repCells c zero))) else none
    | _, _ => none
  | .sls x lo hi => match ρ x with
    | .s l => match optNat ρ hi l.length l.length with
      | none => none
      | some h => match optNat ρ lo h 0 with
        | none => none
        | some lo => some (.s ((l.drop lo).take (h - lo)), s)
    | _ => none
  | .slc z x lo hi mx => match ρ x with
    | .sn => match optNat ρ mx 0 0 with
      | none => none
      | some m => match optNat ρ hi m 0 with
        | none => none
        | some h => match optNat ρ lo h 0 with
          | none => none
          | some _ => some (.sn, s)
    | .sl b o z' len cap ex => bif z' == z then
      match optNat ρ mx cap cap with
      | none => none
      | some m => match optNat ρ hi m len with
        | none => none
        | some h => match optNat ρ lo h 0 with
          | none => none
          | some l => some (.sl b (o + l * z) z (h - l) (m - l) (match mx with | some _ => true | none => ex), s)
      else none
    | _ => none
  | .sla n z x lo hi => match ρ x with
    | .p b o => match optNat ρ hi n n with
      | none => none
      | some h => match optNat ρ lo h 0 with
        | none => none
        | some l => match s.h.get b with
          | some (.row _ cs) => bif Nat.ble (o + n * z) cs.length then some (.sl b (o + l * z) z (h - l) (n - l) true, s) else none
          | _ => none
    | _ => none
  | .fad off x => match ρ x with
    | .p b o => some (.p b (o + off), s)
    | _ => none
  | .fld agg off z x => match ρ x with
    | .ag l => bif agg then (match cut l off z with | some r => some (.ag r, s) | none => none)
      else (match l[off]? with | some v => some (v, s) | none => none)
    | _ => none
  | .iad arr z x i => match arr, ρ x, ρ i with
    | none, .sl b o z' len _ _, .i _ (.ofNat i) => bif z' == z && Nat.blt i len then some (.p b (o + i * z), s) else none
    | some n, .p b o, .i _ (.ofNat i) => bif Nat.blt i n then some (.p b (o + i * z), s) else none
    | _, _, _ => none
  | .idx x i => match ρ x, ρ i with
    | .s l, .i _ (.ofNat i) => match l[i]? with
      | some c => some (.i .u8 c.toNat, s)
      | none => none
    | _, _ => none
  | .lk e zero ok m k => bif keyOk e (ρ k) then (match (match ρ m with
      | .mn => some none
      | .m b => match s.h.get b with
        | some (.mp es) => lookL e (ρ k) es
        | _ => none
      | _ => none) with
    | none => none
    | some none => some (bif ok then .tu [zero, .b false] else zero, s)
    | some (some v) => some (bif ok then .tu [v, .b true] else v, s)) else none
  | .mup e m k v => bif keyOk e (ρ k) then (match ρ m with
    | .m b => match s.h.get b with
      | some (.mp es) => match lookL e (ρ k) es with
        | some _ => some (.tu [], s.write b (.mp (upL e (ρ k) (ρ v) es)))
        | none => none
      | _ => none
    | _ => none) else none
  | .ext t i => match ρ t with
    | .tu l => match l[i]? with | some v => some (v, s) | none => none
    | _ => none
  | .len k x => match k, ρ x with
    | .s, .s l => some (.i .i64 l.length, s)
    | .l, .sn => some (.i .i64 0, s)
    | .l, .sl _ _ _ len _ _ => some (.i .i64 len, s)
    | .m, .mn => some (.i .i64 0, s)
    | .m, .m b => match s.h.get b with
      | some (.mp es) => some (.i .i64 es.length, s)
      | _ => none
    | _, _ => none
  | .app z bytes x y => appV s z bytes (ρ x) (ρ y)
  | .cpy z d x => match ρ d, srcCells s z (ρ x) with
    | .sn, some _ => some (.i .i64 0, s)
    | .sl b o z' len _ _, some (n, new) => bif (z' == z) && new.all AV.one then (match s.h.get b with
      | some (.row true cs) => let k := bif Nat.ble n len then n else len
        bif Nat.ble (o + k * z) cs.length then some (.i .i64 k, s.write b (.row true (putAt cs o (new.take (k * z))))) else none
      | _ => none) else none
    | _, _ => none
  | .mnx mx xs => match xs.map ρ with
    | [] => none
    | x :: r => match mnxV mx x r with | some v => some (v, s) | none => none
  | .clr z zero x => match ρ x with
    | .sn => some (.tu [], s)
    | .sl b o z' len _ _ => bif len == 0 then some (.tu [], s) else bif z' == z then (match s.h.get b with
      | some (.row true cs) => bif Nat.ble (o + len * z) cs.length then some (.tu [], s.write b (.row true (putAt cs o (repCells len zero)))) else none
      | _ => none) else none
    | _ => none
  | .call _ _ => none

end Go.AM
