/- The abstract layer, part 1: immutable data, own variables, a small form of the code, and how it is got out of the model's code. No conditions. -/
import GoSem.Core.Code
import GoSem.Core.Program
import GoSem.Core.Region
import GoSem.Core.View
import GoSem.Core.World
import GoSem.Core.Layout
import GoSem.Op.Equal
import Derived.Attr
import Derived.KernelRfl
set_option linter.unusedVariables false
set_option linter.unusedSimpArgs false
set_option linter.unnecessarySimpa false
namespace Go.Abs

/-- A variable, an array, a map, .. that a frame made: the frame, the place in its text, a number of its own. -/
inductive Ref where
  | v (lvl site id : Nat)
  | ctr (lvl : Nat)      -- how many a frame has made
  | obj (b : Nat)        -- an object of the machine's own
  deriving DecidableEq

/-- Data that nobody changes any more. -/
inductive Dat where
  | any
  | bool (b : Bool)
  | int (k : IntKind) (n : Int)
  | str (s : ByteArray)
  | list (xs : List Dat) (full : Bool)
  | ptr (cs : List Dat) (off : Nat)
  | nilp
  | nilmap
  | fn (f : Nat) (first caps : List Dat)
  | nilfn
  | agg (cs : List Dat)
  | iface (t : Nat) (x : Dat)
  | nili
  | tup (l : List Dat)
  deriving Inhabited

/-- Values in a frame. -/
inductive D where
  | dat (x : Dat)
  | lst (xs : List Dat) (r : Ref)
  | arr (r : Ref) (off len : Nat)
  | ptr (r : Ref) (off : Nat)
  | map (r : Ref)
  | it (m r : Ref)
  | fn (f : Nat) (first caps : List D)
  | yld (r : Ref)
  | agg (cs : List D)
  | iface (t : Nat) (x : D)
  | tup (l : List D)
  deriving Inhabited

/-- What a frame made. -/
inductive Blk where
  | cells (cs : List D)
  | arr (k : Nat) (agg : Bool) (cs : List D)
  | tok (k : Nat)
  | map (es : List (Dat × D))
  | mapl (es : List (Dat × D)) (r : Ref) (seen : List Nat)
  | ctr (n : Nat)
  | obj (o : Obj)
  | loop (o : Loop) (tm : List (Nat × D))   -- the record of a range over a function, and the slots of its frame
  deriving Inhabited

/-- What has a length. -/
inductive LK where
  | str | slice | map
  deriving Inhabited
/-- Cells that can be compared. -/
inductive KC where
  | i | s | b
  deriving Inhabited, DecidableEq
/-- Keys: a cell, or a struct of cells. -/
inductive KT where
  | c (k : KC)
  | st (ks : List KC)
  deriving Inhabited, DecidableEq

inductive Opd where
  | t (n : Nat)
  | c (x : Dat)
  | f (n : Nat)
  | g (n : Nat)
  deriving Inhabited

/-- How values are compared: cell by cell. -/
inductive IOp where
  | mv (x : Opd)
  | pick (c a b : Opd)
  | alloc (z : List Dat)
  | box (n : Nat) (x : Opd)
  | build (z : List Dat) (ps : List (Nat × Nat × Opd))
  | bslice (arr : Bool) (k : Nat) (agg : Bool) (z : List Dat) (len : Nat) (ps : List (Nat × Opd))
  | load (agg : Bool) (n : Nat) (a : Opd)
  | store (n : Nat) (a x : Opd)
  | nilck (x : Opd)
  | bin (op : BinOp) (x y : Opd)
  | eqs (neg : Bool) (ks : List KC) (x y : Opd)
  | eqb (neg : Bool) (x y : Opd)
  | un (op : UnOp) (x : Opd)
  | convi (k : IntKind) (x : Opd)
  | mkif (t : Nat) (x : Opd)
  | mkfn (f : Nat) (first caps : List Opd)
  | mkmap
  | mkslice (arr : Bool) (k : Nat) (agg : Bool) (z : List Dat) (bytes : Nat) (len cap : Opd)
  | slice (k : Nat) (x : Opd) (lo hi mx : Option Opd)
  | sslice (x : Opd) (lo hi : Option Opd)
  | faddr (off : Nat) (x : Opd)
  | field (agg : Bool) (off n : Nat) (x : Opd)
  | iaddr (k : Nat) (x i : Opd)
  | aaddr (k len : Nat) (x i : Opd)
  | idxs (x i : Opd)
  | idxa (agg : Bool) (k len : Nat) (x i : Opd)
  | lookup (q : KT) (z : Dat) (ok : Bool) (m k : Opd)
  | mapset (q : KT) (m k v : Opd)
  | range (x : Opd)
  | next (x : Opd)
  | entry (x : Opd)
  | tass (t : Nat) (z : Dat) (ok : Bool) (x : Opd)
  | ext (x : Opd) (i : Nat)
  | call (g : Opd) (args : List Opd)
  | blen (k : LK) (x : Opd)
  | append (arr : Bool) (k : Nat) (agg : Bool) (bytes : Nat) (x y : Opd)
  | copy (k : Nat) (x y : Opd)
  | mnmx (mx : Bool) (xs : List Opd)
  | delete (q : KT) (m k : Opd)
  | defer (g : Opd) (args : List Opd)
  | panic (x : Opd)
  | recover
  deriving Inhabited

structure IOper where
  dst : Option Nat
  grd : Option (Nat × Bool)
  op : IOp
  deriving Inhabited

/-- An operation of a row whose order is left open: its place, whether it is looked at again, what it is. -/
structure DOp where
  idx : Nat
  chk : Bool
  io : IOper
  deriving Inhabited

inductive IR where
  | ops (l : List IOper)
  | draw (l : List DOp)
  | seq (k : Option (List Nat × List Nat)) (a b : IR)   -- k: what is kept between the two (slots, places), if something is dropped
  | cond (c : Opd) (a b : IR)
  | block (id : Nat) (b : IR)
  | loop (b : IR)
  | rangef (f : Opd) (ps : List Nat) (a b : IR)
  | exit (id : Nat)
  | ret
  | skip
  deriving Inhabited

/-- Without the hints on what is kept. -/
def IR.strip : IR → IR
  | .seq _ a b => .seq none a.strip b.strip
  | .cond c a b => .cond c a.strip b.strip
  | .block id b => .block id b.strip
  | .loop b => .loop b.strip
  | .rangef f ps a b => .rangef f ps a.strip b.strip
  | .ops l => .ops l
  | .draw l => .draw l
  | .exit id => .exit id
  | .ret => .ret
  | .skip => .skip

inductive RV where
  | t (n : Nat)
  | cell (a : Nat) (agg : Bool) (n : Nat)
  deriving Inhabited

structure FnIR where
  np : Nat
  nt : Nat
  res : List RV
  body : IR
  deriving Inhabited

/-! ### Types, as far as the code asks -/

inductive TK where
  | other | bool | int (k : IntKind) | string | slice (e : Nat) | array (n e : Nat) | map (k e : Nat) | struct (fs : List (Nat × Nat)) | func | iface | ptr (e : Nat)
  deriving Inhabited

structure TI where
  kind : TK
  size : Nat
  bytes : Nat
  zero : Dat
  lv : Option (List KC)     -- of a struct: its cells, if they can be compared one by one
  deriving Inhabited

def TI.agg (t : TI) : Bool := match t.kind with | .struct _ | .array _ _ => true | _ => false

def Dat.cells : Dat → List Dat
  | .agg cs => cs
  | .any => []
  | .tup _ => []
  | x => [x]

def Dat.isAny : Dat → Bool
  | .any => true
  | _ => false

def flatB : Value → Bool
  | .agg _ => false
  | .tuple _ => false
  | _ => true
def valCell : Value → Dat
  | .bool b => .bool b
  | .int k n => .int k n
  | .string s => .str s
  | .pointer none => .nilp
  | .slice none 0 0 => .list [] true
  | .map none => .nilmap
  | .nilFunc => .nilfn
  | .nilIface => .nili
  | _ => .any
def valDat : Value → Dat
  | .agg cs => if cs.toList.all flatB then .agg (cs.toList.map valCell) else .any
  | v => valCell v

/-- The cells that a comparison looks at, in its order, if each of them is compared as a value of one cell. -/
def leaves (P : Program) : Nat → TypeId → Nat → Option (List (Nat × KC))
  | 0, _, _ => none
  | n + 1, t, o => if P.cellsOf t = 0 then none else match P.underlying t with
    | some .bool => some [(o, .b)]
    | some (.int _) => some [(o, .i)]
    | some .string => some [(o, .s)]
    | some (.struct fs) => if P.stoodInHeld t then none else
        (fs.toList.mapM fun f => if f.name = "_" ∨ P.cellsOf t < f.offset + P.cellsOf f.type then none else leaves P n f.type (o + f.offset)).map List.flatten
    | _ => none
def lvOf (P : Program) (t : TypeId) (n : Nat) : Option (List KC) :=
  (leaves P 10 t 0).bind fun l => if l.map (·.1) = List.range n ∧ P.eqGuardType P.depth t = false then some (l.map (·.2)) else none

def kindOf : TypeDesc → TK
  | .bool => .bool
  | .int k => .int k
  | .string => .string
  | .slice e => .slice e
  | .array n e => .array n e
  | .map k e => .map k e
  | .struct fs => .struct (fs.toList.map fun f => (f.offset, f.type))
  | .func _ _ _ => .func
  | .interface _ => .iface
  | .pointer e => .ptr e
  | _ => .other
def zeroOf : Option Value → Dat
  | some v => valDat v
  | none => .any
def tiOf (P : Program) (t : TypeId) : TI :=
  match P.info? t, P.underlying t with
  | some i, some d => { kind := kindOf d, size := i.size, bytes := i.bytes, zero := zeroOf i.zero, lv := lvOf P t i.size }
  | _, _ => default

/-! ### From the model's code -/

structure Cfg where
  T : List TI
  arrs : List Nat      -- the places whose slices are kept as arrays of their own

def Cfg.ty (c : Cfg) (t : TypeId) : TI := (c.T[t]?).getD default

def opd : Operand → Opd
  | .tmp t => .t t
  | .const v => .c (valDat v)
  | .func f => .f f
  | .global g => .g g

def eqOp (neg : Bool) (t : TI) (x y : Opd) : Option IOp :=
  match t.kind with
  | .int _ => some (.bin (if neg then .neq else .eql) x y)
  | .string => some (.bin (if neg then .neq else .eql) x y)
  | .bool => some (.eqb neg x y)
  | .struct _ => t.lv.map fun ks => .eqs neg ks x y
  | _ => none

/-- Types of keys that are compared cell by cell. -/
def keyTy (t : TI) : Option KT := match t.kind with
  | .int _ => some (.c .i)
  | .string => some (.c .s)
  | .bool => some (.c .b)
  | .struct _ => t.lv.map .st
  | _ => none

def kindAt (c : Cfg) (a : Array TypeId) (i : Nat) : TK := match a[i]? with | some t => (c.ty t).kind | none => .other

def compOp (c : Cfg) (dst : Nat) : Op → Option IOp
  | .move x | .assign x => some (.mv (opd x))
  | .pick a x y => some (.pick (opd a) (opd x) (opd y))
  | .alloc e => some (.alloc (c.ty e).zero.cells)
  | .box e x => some (.box (c.ty e).size (opd x))
  | .build t ps => match (c.ty t).kind with
    | .struct fs => if fs.all fun q => (c.ty q.2).size != 0 then (ps.toList.mapM fun p => (fs[p.1]?).map fun q => (q.1, (c.ty q.2).size, opd p.2)).map (.build (c.ty t).zero.cells) else none
    | .array _ e => if (c.ty e).size = 0 then none else some (.build (c.ty t).zero.cells (ps.toList.map fun p => (p.1 * (c.ty e).size, (c.ty e).size, opd p.2)))
    | _ => none
  | .buildSlice t n ps => match (c.ty t).kind with
    | .slice e => some (.bslice (c.arrs.contains dst) (c.ty e).size (c.ty e).agg (c.ty e).zero.cells n (ps.toList.map fun p => (p.1, opd p.2)))
    | _ => none
  | .load t a => some (.load (c.ty t).agg (c.ty t).size (opd a))
  | .store t a x => some (.store (c.ty t).size (opd a) (opd x))
  | .nilCheck x => some (.nilck (opd x))
  | .binOp .eql t x y _ => eqOp false (c.ty t) (opd x) (opd y)
  | .binOp .neq t x y _ => eqOp true (c.ty t) (opd x) (opd y)
  | .binOp op _ x y _ => some (.bin op (opd x) (opd y))
  | .unOp op _ x => some (.un op (opd x))
  | .convert s t x => match (c.ty s).kind, (c.ty t).kind with
    | .int _, .int k => some (.convi k (opd x))
    | _, _ => none
  | .makeInterface t x => match (c.ty t).kind with
    | .iface => none
    | .other => none
    | _ => some (.mkif t (opd x))
  | .makeFunc (.func f) a b => some (.mkfn f (a.toList.map opd) (b.toList.map opd))
  | .makeMap _ none => some .mkmap
  | .makeSlice t l m => match (c.ty t).kind with
    | .slice e => some (.mkslice (c.arrs.contains dst) (c.ty e).size (c.ty e).agg (c.ty e).zero.cells (c.ty e).bytes (opd l) (opd m))
    | _ => none
  | .slice t x l h m => match (c.ty t).kind with
    | .slice e => if m.isSome && h.isNone then none else some (.slice (c.ty e).size (opd x) (l.map opd) (h.map opd) (m.map opd))
    | .string => if m.isSome then none else some (.sslice (opd x) (l.map opd) (h.map opd))
    | _ => none
  | .fieldAddr s x f => match (c.ty s).kind with
    | .struct fs => (fs[f]?).bind fun p => if (c.ty p.2).size = 0 then none else some (.faddr p.1 (opd x))
    | _ => none
  | .field s x f => match (c.ty s).kind with
    | .struct fs => (fs[f]?).map fun p => .field (c.ty p.2).agg p.1 (c.ty p.2).size (opd x)
    | _ => none
  | .indexAddr t x i => match (c.ty t).kind with
    | .slice e => if (c.ty e).size = 0 then none else some (.iaddr (c.ty e).size (opd x) (opd i))
    | .array n e => if (c.ty e).size = 0 then none else some (.aaddr (c.ty e).size n (opd x) (opd i))
    | _ => none
  | .index t x i => match (c.ty t).kind with
    | .string => some (.idxs (opd x) (opd i))
    | _ => none
  | .lookup t m k ok => match (c.ty t).kind with
    | .map q e => (keyTy (c.ty q)).map fun q => .lookup q (c.ty e).zero ok (opd m) (opd k)
    | _ => none
  | .mapUpdate t m k v | .insert t m k v => match (c.ty t).kind with
    | .map q _ => (keyTy (c.ty q)).map fun q => .mapset q (opd m) (opd k) (opd v)
    | _ => none
  | .range t x => match (c.ty t).kind with
    | .map _ _ => some (.range (opd x))
    | _ => none
  | .next x false => some (.next (opd x))
  | .entry x => some (.entry (opd x))
  | .typeAssert x _ t ok => match (c.ty t).kind with
    | .iface => none
    | .other => none
    | _ => some (.tass t (c.ty t).zero ok (opd x))
  | .extract x i => some (.ext (opd x) i)
  | .call { callee := .value g, args, .. } => some (.call (opd g) (args.toList.map opd))
  | .call { callee := .builtin b, args, argTypes } => match b, args.toList.map opd with
    | .len, [x] => match kindAt c argTypes 0 with
      | .string => some (.blen .str x)
      | .slice _ => some (.blen .slice x)
      | .map _ _ => some (.blen .map x)
      | _ => none
    | .append, [x, y] => match kindAt c argTypes 0, kindAt c argTypes 1 with
      | .slice e, .slice _ => if (c.ty e).zero.cells.length = (c.ty e).size ∧ (c.ty e).size ≠ 0 then some (.append (c.arrs.contains dst) (c.ty e).size (c.ty e).agg (c.ty e).bytes x y) else none
      | _, _ => none
    | .copy, [x, y] => match kindAt c argTypes 0 with
      | .slice e => some (.copy (c.ty e).size x y)
      | _ => none
    | .max, xs => some (.mnmx true xs)
    | .min, xs => some (.mnmx false xs)
    | .delete, [m, k] => match kindAt c argTypes 0 with
      | .map q _ => (keyTy (c.ty q)).map fun q => .delete q m k
      | _ => none
    | .recover, [] => some .recover
    | _, _ => none
  | .defer { callee := .value g, args, .. } => some (.defer (opd g) (args.toList.map opd))
  | .panic x => some (.panic (opd x))
  | _ => none

def compOper (c : Cfg) (ops : Array Oper) (o : Oper) : Option IOper :=
  (compOp c (o.dst.getD 0) o.op).bind fun x =>
    match o.guard with
    | none => some ⟨o.dst, none, x⟩
    | some (j, b) => ((ops[j]?).bind (·.dst)).map fun t => ⟨o.dst, some (t, b), x⟩

/-! ### Rows whose order is left open -/

def isW : IOp → Bool
  | .alloc _ | .box _ _ | .mkmap | .store _ _ _ | .mapset _ _ _ _ | .delete _ _ _ | .append _ _ _ _ _ _ | .bslice true _ _ _ _ _ | .mkslice _ _ _ _ _ _ _ | .copy _ _ _ | .range _ | .entry _ => true
  | _ => false
/-- Neither a call, nor a panic, nor an iterator's step, nor a call put off. -/
def IOp.plain : IOp → Bool
  | .call _ _ | .panic _ | .next _ | .defer _ _ => false
  | _ => true
def IOp.reads (op : IOp) : Bool := op.plain && !isW op

def Opd.tmps : Opd → List Nat
  | .t n => [n]
  | _ => []
def otmps : Option Opd → List Nat
  | some x => x.tmps
  | none => []
/-- The slots that an operation looks at. -/
def IOp.tmps : IOp → List Nat
  | .mv x | .box _ x | .load _ _ x | .nilck x | .un _ x | .convi _ x | .mkif _ x | .faddr _ x | .field _ _ _ x | .range x | .next x | .entry x | .tass _ _ _ x | .ext x _ | .blen _ x | .panic x => x.tmps
  | .pick c a b => c.tmps ++ a.tmps ++ b.tmps
  | .alloc _ | .mkmap | .recover => []
  | .build _ ps => ps.flatMap fun p => p.2.2.tmps
  | .bslice _ _ _ _ _ ps => ps.flatMap fun p => p.2.tmps
  | .store _ a x | .bin _ a x | .eqs _ _ a x | .eqb _ a x | .iaddr _ a x | .aaddr _ _ a x | .idxs a x | .idxa _ _ _ a x | .lookup _ _ _ a x | .append _ _ _ _ a x | .copy _ a x | .delete _ a x | .mkslice _ _ _ _ _ a x => a.tmps ++ x.tmps
  | .mapset _ m k v => m.tmps ++ k.tmps ++ v.tmps
  | .mkfn _ a b => a.flatMap Opd.tmps ++ b.flatMap Opd.tmps
  | .slice _ x a b c => x.tmps ++ otmps a ++ otmps b ++ otmps c
  | .sslice x a b => x.tmps ++ otmps a ++ otmps b
  | .call f xs | .defer f xs => f.tmps ++ xs.flatMap Opd.tmps
  | .mnmx _ xs => xs.flatMap Opd.tmps
def IOper.looks (io : IOper) : List Nat := (match io.grd with | some (t, _) => [t] | none => []) ++ io.op.tmps

def bindsOf (ops : Array Oper) (i : Nat) : List Nat := match ops[i]? with | some o => (o.after.toList.filter (Region.binds .any ·)).map (·.on) | none => []
def orderOf (tbl : Array Nat) (rd : Nat → Bool) : Nat → List Nat → List Nat
  | 0, _ => []
  | n + 1, rem =>
    let ok := rem.filter fun i => rem.all fun j => !(tbl.getD i 0).testBit j
    match (ok.find? rd).orElse (fun _ => ok.head?) with
    | some i => i :: orderOf tbl rd n (rem.erase i)
    | none => []
/-- May x, told before i, be done behind it? -/
def apart (x i : IOper) : Bool :=
  x.op.reads && (match x.dst with | some d => !(i.looks.contains d) && i.dst != some d | none => true) && (match i.dst with | some d => !(x.looks.contains d) | none => true)
def pairsOk (tbl : Array Nat) : List DOp → Bool
  | [] => true
  | x :: l => l.all (fun i => (tbl.getD i.idx 0).testBit x.idx || (apart x.io i.io && (!isW i.io.op || x.chk))) && pairsOk tbl l
def tblOk (ops : Array Oper) (tbl : Array Nat) : Bool :=
  (List.range ops.size).all fun i => (bindsOf ops i).all (fun e => decide (e < i)) &&
    (List.range ops.size).all fun x => !(tbl.getD i 0).testBit x || (bindsOf ops i).any fun e => e == x || (tbl.getD e 0).testBit x
def permOk (n : Nat) (l : List Nat) : Bool := l.length == n && (List.range n).all l.contains
def drawOk (ops : Array Oper) (l : List DOp) : Bool :=
  permOk ops.size (l.map (·.idx)) && tblOk ops (Region.before ops) && pairsOk (Region.before ops) l && l.all fun d => d.io.op.plain || (match d.io.op with | .call _ _ => true | _ => false)
/-- Are all but readings in their order with all others? Then the row is run as any other one. -/
def calmOk (ops : Array Oper) (l : List DOp) : Bool :=
  permOk ops.size (l.map (·.idx)) && tblOk ops (Region.before ops) && (let tbl := Region.before ops
    let rec go : List DOp → Bool
      | [] => true
      | x :: l => l.all (fun i => (tbl.getD i.idx 0).testBit x.idx || (apart x.io i.io && i.io.op.reads)) && go l
    go l) && l.all fun d => d.io.op.plain || (match d.io.op with | .call _ _ => true | _ => false)
def chkOf (tbl : Array Nat) (ios : List IOper) (x : Nat) : Bool :=
  (List.range ios.length).any fun i => (match ios[i]? with | some io => isW io.op | none => false) && i != x && !(tbl.getD i 0).testBit x && !(tbl.getD x 0).testBit i
def drawIR (c : Cfg) (ops : Array Oper) : Option IR :=
  (ops.toList.mapM (compOper c ops)).bind fun ios =>
    let tbl := Region.before ops
    let l := (orderOf tbl (fun i => match ios[i]? with | some io => io.op.reads | none => false) ops.size (List.range ops.size)).map fun i => (⟨i, chkOf tbl ios i, (ios[i]?).getD default⟩ : DOp)
    if calmOk ops l then some (.ops (l.map (·.io))) else if drawOk ops l then some (.draw l) else none

def comp (c : Cfg) : Code → Option IR
  | .skip => some .skip
  | .region _ ops draw => if draw then drawIR c ops else (ops.toList.mapM (compOper c ops)).map .ops
  | .seq a b => (comp c a).bind fun x => (comp c b).map fun y => .seq none x y
  | .cond o a b => (comp c a).bind fun x => (comp c b).map fun y => .cond (opd o) x y
  | .block id b => (comp c b).map (.block id)
  | .loop b => (comp c b).map .loop
  | .rangeFunc f ps a b => (comp c a).bind fun x => (comp c b).map fun y => .rangef (opd f) ps.toList x y
  | .exit id => some (.exit id)
  | .ret => some .ret
  | _ => none

def compRV (c : Cfg) : ResultVar → RV
  | .tmp t => .t t
  | .cell a t => .cell a (c.ty t).agg (c.ty t).size

def compFn (c : Cfg) (fn : Func) : Option FnIR :=
  (fn.body.bind (comp c)).map fun b => ⟨fn.params.size + fn.nfree, fn.ntmps, fn.results.toList.map (compRV c), b⟩

end Go.Abs

/- The program's functions in the small form. Printed by a program (mkcode.py). No conditions. -/
namespace Go.Abs
def main_main_id : Nat := 0
def gosem_cut_id : Nat := 1
def gosem_cut_init_id : Nat := 2
def law53_AccountsSpec_id : Nat := 3
def law53_AccountsHistorySpec_id : Nat := 4
def law53_AccountsKnown_id : Nat := 5
def law53_AccountsSteps_id : Nat := 6
def law53_AccountsKinds_id : Nat := 7
def law53_AccountsNever_id : Nat := 8
def law53_sane_id : Nat := 9
def ref53_Few_id : Nat := 10
def accounts_Spent_id : Nat := 11
def ref53_Spent_id : Nat := 12
def accounts_Over_id : Nat := 13
def ref53_Over_id : Nat := 14
def ref53_SameInts_id : Nat := 15
def accounts_History_id : Nat := 16
def ref53_History_id : Nat := 17
def ref53_SameSteps_id : Nat := 18
def law53_right_id : Nat := 19
def budgets_Standing_id : Nat := 20
def ref53_Find_id : Nat := 21
def budgets_Room_id : Nat := 22
def accounts_examine_id : Nat := 23
def accounts_find_id : Nat := 24
def accounts_within_id : Nat := 25
def accounts_book_spent_id : Nat := 26
def ref53_Error_id : Nat := 27
def ref53_Time_id : Nat := 28
def ref53_spent_id : Nat := 29
def accounts_book_fine_id : Nat := 30
def slices_Sorted_int_id : Nat := 31
def maps_Keys_map_int_bool_int_bool_id : Nat := 32
def ref53_over_id : Nat := 33
def accounts_book_in_id : Nat := 34
def accounts_sum_add_id : Nat := 35
def maps_Keys_map_int_accounts_sum_int_accounts_sum_id : Nat := 36
def ref53_of_id : Nat := 37
def ref53_put_id : Nat := 38
def ref53_tooMuch_id : Nat := 39
def budgets_Check_id : Nat := 40
def budgets_between_id : Nat := 41
def budgets_standing_id : Nat := 42
def budgets_uses_id : Nat := 43
def budgets_used_id : Nat := 44
def ref18_Check_id : Nat := 45
def ref18_Uses_id : Nat := 46
def slices_Collect_int_id : Nat := 47
def slices_Sort_int_int_id : Nat := 48
def maps_Keys_map_int_bool_int_bool_1_id : Nat := 49
def ref18_Standing_id : Nat := 50
def ref53_has_id : Nat := 51
def accounts_book_in_1_id : Nat := 52
def maps_Keys_map_int_accounts_sum_int_accounts_sum_1_id : Nat := 53
def budgets_right_id : Nat := 54
def slices_ContainsFunc_int_int_id : Nat := 55
def budgets_between_1_id : Nat := 56
def budgets_used_1_id : Nat := 57
def ref18_Right_id : Nat := 58
def ref18_within_id : Nat := 59
def ref18_kind_id : Nat := 60
def ref18_moment_id : Nat := 61
def slices_AppendSeq_int_int_id : Nat := 62
def slices_pdqsortOrdered_int_id : Nat := 63
def math_bits_Len_id : Nat := 64
def ref18_standing_id : Nat := 65
def slices_IndexFunc_int_int_id : Nat := 66
def slices_insertionSortOrdered_int_id : Nat := 67
def slices_heapSortOrdered_int_id : Nat := 68
def slices_breakPatternsOrdered_int_id : Nat := 69
def slices_choosePivotOrdered_int_id : Nat := 70
def slices_reverseRangeOrdered_int_id : Nat := 71
def slices_partialInsertionSortOrdered_int_id : Nat := 72
def cmp_Less_int_id : Nat := 73
def slices_partitionEqualOrdered_int_id : Nat := 74
def slices_partitionOrdered_int_id : Nat := 75
def math_bits_Len32_id : Nat := 76
def math_bits_Len64_id : Nat := 77
def ref18_stands_id : Nat := 78
def slices_siftDownOrdered_int_id : Nat := 79
def slices_nextPowerOfTwo_id : Nat := 80
def slices_xorshift_Next_id : Nat := 81
def slices_medianAdjacentOrdered_int_id : Nat := 82
def slices_medianOrdered_int_id : Nat := 83
def cmp_isNaN_int_id : Nat := 84
def ref18_counts_id : Nat := 85
def slices_order2Ordered_int_id : Nat := 86
def runtime_boundsError_Error_id : Nat := 87
def runtime_boundsError_RuntimeError_id : Nat := 88
def runtime_errorString_Error_id : Nat := 89
def runtime_errorString_RuntimeError_id : Nat := 90
def runtime_plainError_Error_id : Nat := 91
def runtime_plainError_RuntimeError_id : Nat := 92
def runtime_errorAddressString_Error_id : Nat := 93
def runtime_errorAddressString_RuntimeError_id : Nat := 94
def runtime_TypeAssertionError_Error_id : Nat := 95
def runtime_TypeAssertionError_RuntimeError_id : Nat := 96
def runtime_PanicNilError_Error_id : Nat := 97
def runtime_PanicNilError_RuntimeError_id : Nat := 98
def internal_abi_Type_Align_id : Nat := 99
def internal_runtime_maps_unhashableTypeError_Error_id : Nat := 100
def internal_runtime_maps_unhashableTypeError_RuntimeError_id : Nat := 101
def internal_abi_Kind_String_id : Nat := 102
def tyTab : List TI := [
  ⟨.other, 1, 0, .any, none⟩,
  ⟨.func, 1, 8, .nilfn, none⟩,
  ⟨(.int .i64), 1, 8, (.int .i64 0), (some [.i])⟩,
  ⟨(.int .i64), 1, 8, (.int .i64 0), (some [.i])⟩,
  ⟨.bool, 1, 1, (.bool false), (some [.b])⟩,
  ⟨(.int .u8), 1, 1, (.int .u8 0), (some [.i])⟩,
  ⟨(.int .u8), 1, 1, (.int .u8 0), (some [.i])⟩,
  ⟨(.struct [(0, 2), (1, 3), (2, 4), (3, 6)]), 4, 24, (.agg [(.int .i64 0), (.int .i64 0), (.bool false), (.int .u8 0)]), (some [.i, .i, .b, .i])⟩,
  ⟨(.struct [(0, 2), (1, 3), (2, 4), (3, 6)]), 4, 24, (.agg [(.int .i64 0), (.int .i64 0), (.bool false), (.int .u8 0)]), (some [.i, .i, .b, .i])⟩,
  ⟨.string, 1, 16, (.str ⟨#[]⟩), (some [.s])⟩,
  ⟨.string, 1, 16, (.str ⟨#[]⟩), (some [.s])⟩,
  ⟨.string, 1, 16, (.str ⟨#[]⟩), (some [.s])⟩,
  ⟨(.int .u64), 1, 8, (.int .u64 0), (some [.i])⟩,
  ⟨(.struct [(0, 9), (1, 12)]), 2, 24, (.agg [(.str ⟨#[]⟩), (.int .u64 0)]), none⟩,
  ⟨(.struct [(0, 9), (1, 12)]), 2, 24, (.agg [(.str ⟨#[]⟩), (.int .u64 0)]), none⟩,
  ⟨(.ptr 125), 1, 8, .nilp, none⟩,
  ⟨(.ptr 128), 1, 8, .nilp, none⟩,
  ⟨(.ptr 137), 1, 8, .nilp, none⟩,
  ⟨(.struct [(0, 17)]), 1, 8, (.agg [.nilp]), none⟩,
  ⟨(.struct [(0, 17)]), 1, 8, (.agg [.nilp]), none⟩,
  ⟨.iface, 1, 16, .nili, none⟩,
  ⟨(.int .i32), 1, 4, (.int .i32 0), (some [.i])⟩,
  ⟨(.slice 40), 1, 24, (.list [] true), none⟩,
  ⟨(.slice 42), 1, 24, (.list [] true), none⟩,
  ⟨.func, 1, 8, .nilfn, none⟩,
  ⟨.func, 1, 8, .nilfn, none⟩,
  ⟨(.int .i64), 1, 8, (.int .i64 0), (some [.i])⟩,
  ⟨.other, 1, 0, .any, none⟩,
  ⟨.func, 1, 8, .nilfn, none⟩,
  ⟨(.slice 3), 1, 24, (.list [] true), none⟩,
  ⟨.other, 1, 0, .any, none⟩,
  ⟨.func, 1, 8, .nilfn, none⟩,
  ⟨.func, 1, 8, .nilfn, none⟩,
  ⟨.func, 1, 8, .nilfn, none⟩,
  ⟨(.slice 48), 1, 24, (.list [] true), none⟩,
  ⟨.other, 1, 0, .any, none⟩,
  ⟨.func, 1, 8, .nilfn, none⟩,
  ⟨.func, 1, 8, .nilfn, none⟩,
  ⟨.func, 1, 8, .nilfn, none⟩,
  ⟨(.struct [(0, 3), (1, 3), (2, 3), (3, 3), (4, 3), (5, 3), (6, 3), (7, 4)]), 8, 64, (.agg [(.int .i64 0), (.int .i64 0), (.int .i64 0), (.int .i64 0), (.int .i64 0), (.int .i64 0), (.int .i64 0), (.bool false)]), (some [.i, .i, .i, .i, .i, .i, .i, .b])⟩,
  ⟨(.struct [(0, 3), (1, 3), (2, 3), (3, 3), (4, 3), (5, 3), (6, 3), (7, 4)]), 8, 64, (.agg [(.int .i64 0), (.int .i64 0), (.int .i64 0), (.int .i64 0), (.int .i64 0), (.int .i64 0), (.int .i64 0), (.bool false)]), (some [.i, .i, .i, .i, .i, .i, .i, .b])⟩,
  ⟨(.struct [(0, 3), (1, 3), (2, 3), (3, 3), (4, 3)]), 5, 40, (.agg [(.int .i64 0), (.int .i64 0), (.int .i64 0), (.int .i64 0), (.int .i64 0)]), (some [.i, .i, .i, .i, .i])⟩,
  ⟨(.struct [(0, 3), (1, 3), (2, 3), (3, 3), (4, 3)]), 5, 40, (.agg [(.int .i64 0), (.int .i64 0), (.int .i64 0), (.int .i64 0), (.int .i64 0)]), (some [.i, .i, .i, .i, .i])⟩,
  ⟨.other, 1, 0, .any, none⟩,
  ⟨.func, 1, 8, .nilfn, none⟩,
  ⟨.func, 1, 8, .nilfn, none⟩,
  ⟨.func, 1, 8, .nilfn, none⟩,
  ⟨(.struct [(0, 3), (1, 3), (2, 4)]), 3, 24, (.agg [(.int .i64 0), (.int .i64 0), (.bool false)]), (some [.i, .i, .b])⟩,
  ⟨(.struct [(0, 3), (1, 3), (2, 4)]), 3, 24, (.agg [(.int .i64 0), (.int .i64 0), (.bool false)]), (some [.i, .i, .b])⟩,
  ⟨.other, 1, 0, .any, none⟩,
  ⟨.func, 1, 8, .nilfn, none⟩,
  ⟨.func, 1, 8, .nilfn, none⟩,
  ⟨.func, 1, 8, .nilfn, none⟩,
  ⟨(.struct [(0, 40), (8, 23), (9, 3)]), 10, 96, (.agg [(.int .i64 0), (.int .i64 0), (.int .i64 0), (.int .i64 0), (.int .i64 0), (.int .i64 0), (.int .i64 0), (.bool false), (.list [] true), (.int .i64 0)]), none⟩,
  ⟨(.struct [(0, 40), (8, 23), (9, 3)]), 10, 96, (.agg [(.int .i64 0), (.int .i64 0), (.int .i64 0), (.int .i64 0), (.int .i64 0), (.int .i64 0), (.int .i64 0), (.bool false), (.list [] true), (.int .i64 0)]), none⟩,
  ⟨.other, 1, 0, .any, none⟩,
  ⟨.func, 1, 8, .nilfn, none⟩,
  ⟨.func, 1, 8, .nilfn, none⟩,
  ⟨(.struct [(0, 3), (1, 3)]), 2, 16, (.agg [(.int .i64 0), (.int .i64 0)]), (some [.i, .i])⟩,
  ⟨(.struct [(0, 3), (1, 3)]), 2, 16, (.agg [(.int .i64 0), (.int .i64 0)]), (some [.i, .i])⟩,
  ⟨.func, 1, 8, .nilfn, none⟩,
  ⟨.func, 1, 8, .nilfn, none⟩,
  ⟨.other, 1, 0, .any, none⟩,
  ⟨.func, 1, 8, .nilfn, none⟩,
  ⟨(.map 3 4), 1, 8, .nilmap, none⟩,
  ⟨.func, 1, 8, .nilfn, none⟩,
  ⟨.func, 1, 8, .nilfn, none⟩,
  ⟨.func, 1, 8, .nilfn, none⟩,
  ⟨.func, 1, 8, .nilfn, none⟩,
  ⟨.func, 1, 8, .nilfn, none⟩,
  ⟨.func, 1, 8, .nilfn, none⟩,
  ⟨(.map 3 59), 1, 8, .nilmap, none⟩,
  ⟨.func, 1, 8, .nilfn, none⟩,
  ⟨.func, 1, 8, .nilfn, none⟩,
  ⟨.func, 1, 8, .nilfn, none⟩,
  ⟨.func, 1, 8, .nilfn, none⟩,
  ⟨.func, 1, 8, .nilfn, none⟩,
  ⟨.func, 1, 8, .nilfn, none⟩,
  ⟨.func, 1, 8, .nilfn, none⟩,
  ⟨.func, 1, 8, .nilfn, none⟩,
  ⟨.func, 1, 8, .nilfn, none⟩,
  ⟨.func, 1, 8, .nilfn, none⟩,
  ⟨.func, 1, 8, .nilfn, none⟩,
  ⟨.func, 1, 8, .nilfn, none⟩,
  ⟨.func, 1, 8, .nilfn, none⟩,
  ⟨.func, 1, 8, .nilfn, none⟩,
  ⟨.func, 1, 8, .nilfn, none⟩,
  ⟨.func, 1, 8, .nilfn, none⟩,
  ⟨.func, 1, 8, .nilfn, none⟩,
  ⟨.func, 1, 8, .nilfn, none⟩,
  ⟨(.map 92 40), 1, 8, .nilmap, none⟩,
  ⟨(.struct [(0, 3), (1, 3)]), 2, 16, (.agg [(.int .i64 0), (.int .i64 0)]), (some [.i, .i])⟩,
  ⟨(.struct [(0, 3), (1, 3)]), 2, 16, (.agg [(.int .i64 0), (.int .i64 0)]), (some [.i, .i])⟩,
  ⟨.other, 1, 0, .any, none⟩,
  ⟨.func, 1, 8, .nilfn, none⟩,
  ⟨.func, 1, 8, .nilfn, none⟩,
  ⟨.func, 1, 8, .nilfn, none⟩,
  ⟨.func, 1, 8, .nilfn, none⟩,
  ⟨(.int .u64), 1, 8, (.int .u64 0), (some [.i])⟩,
  ⟨.func, 1, 8, .nilfn, none⟩,
  ⟨.func, 1, 8, .nilfn, none⟩,
  ⟨(.int .i64), 1, 8, (.int .i64 0), (some [.i])⟩,
  ⟨.other, 1, 0, .any, none⟩,
  ⟨.func, 1, 8, .nilfn, none⟩,
  ⟨.func, 1, 8, .nilfn, none⟩,
  ⟨.func, 1, 8, .nilfn, none⟩,
  ⟨.func, 1, 8, .nilfn, none⟩,
  ⟨.other, 1, 0, .any, none⟩,
  ⟨.func, 1, 8, .nilfn, none⟩,
  ⟨.func, 1, 8, .nilfn, none⟩,
  ⟨(.int .u32), 1, 4, (.int .u32 0), (some [.i])⟩,
  ⟨.func, 1, 8, .nilfn, none⟩,
  ⟨(.int .u64), 1, 8, (.int .u64 0), (some [.i])⟩,
  ⟨.func, 1, 8, .nilfn, none⟩,
  ⟨(.int .u64), 1, 8, (.int .u64 0), (some [.i])⟩,
  ⟨.func, 1, 8, .nilfn, none⟩,
  ⟨.func, 1, 8, .nilfn, none⟩,
  ⟨.func, 1, 8, .nilfn, none⟩,
  ⟨(.ptr 3), 1, 8, .nilp, none⟩,
  ⟨.func, 1, 8, .nilfn, none⟩,
  ⟨.func, 1, 8, .nilfn, none⟩,
  ⟨(.ptr 114), 1, 8, .nilp, none⟩,
  ⟨.func, 1, 8, .nilfn, none⟩,
  ⟨.func, 1, 8, .nilfn, none⟩,
  ⟨(.struct [(0, 17), (1, 17), (2, 17), (3, 9)]), 4, 40, (.agg [.nilp, .nilp, .nilp, (.str ⟨#[]⟩)]), none⟩,
  ⟨(.struct [(0, 17), (1, 17), (2, 17), (3, 9)]), 4, 40, (.agg [.nilp, .nilp, .nilp, (.str ⟨#[]⟩)]), none⟩,
  ⟨(.array 0 16), 0, 0, (.agg []), none⟩,
  ⟨(.struct [(0, 126)]), 0, 0, (.agg []), none⟩,
  ⟨(.struct [(0, 126)]), 0, 0, (.agg []), none⟩,
  ⟨.func, 1, 8, .nilfn, none⟩,
  ⟨(.int .u8), 1, 1, (.int .u8 0), (some [.i])⟩,
  ⟨(.int .u8), 1, 1, (.int .u8 0), (some [.i])⟩,
  ⟨.func, 1, 8, .nilfn, none⟩,
  ⟨(.ptr 5), 1, 8, .nilp, none⟩,
  ⟨(.int .i32), 1, 4, (.int .i32 0), (some [.i])⟩,
  ⟨(.int .i32), 1, 4, (.int .i32 0), (some [.i])⟩,
  ⟨(.struct [(0, 12), (1, 12), (2, 110), (3, 130), (4, 5), (5, 5), (6, 131), (7, 132), (8, 133), (9, 134), (10, 135)]), 11, 48, (.agg [(.int .u64 0), (.int .u64 0), (.int .u32 0), (.int .u8 0), (.int .u8 0), (.int .u8 0), (.int .u8 0), .nilfn, .nilp, (.int .i32 0), (.int .i32 0)]), none⟩,
  ⟨(.struct [(0, 12), (1, 12), (2, 110), (3, 130), (4, 5), (5, 5), (6, 131), (7, 132), (8, 133), (9, 134), (10, 135)]), 11, 48, (.agg [(.int .u64 0), (.int .u64 0), (.int .u32 0), (.int .u8 0), (.int .u8 0), (.int .u8 0), (.int .u8 0), .nilfn, .nilp, (.int .i32 0), (.int .i32 0)]), none⟩,
  ⟨.other, 1, 8, .nilp, none⟩]
def cfg (arrs : List Nat) : Cfg := ⟨tyTab, arrs⟩
end Go.Abs

/- The program's functions in the small form. Printed by a program (mkcode.py). No conditions. -/
namespace Go.Abs
/-- gosem.cut.init -/
def gosem_cut_init : FnIR := ⟨0, 1, [],
 (.ops [
   ⟨(some 0), none, .call (.f gosem_cut_id) []⟩])⟩

/-- signatory/signatorylaw53.AccountsSpec -/
def law53_AccountsSpec : FnIR := ⟨5, 84, [.t 10],
 (.seq (some ([0, 1, 2, 3, 4], []))
  (.ops [
    ⟨(some 10), none, .mv (.c (.bool false))⟩])
  (.seq (some ([0, 1, 2, 3, 4], []))
   (.seq (some ([0, 1, 2, 3, 4, 22], []))
    (.ops [
      ⟨(some 21), none, .call (.f law53_sane_id) []⟩,
      ⟨(some 22), none, .un .not (.t 21)⟩])
    (.cond (.t 22)
     (.seq none
      (.ops [
        ⟨(some 10), none, .mv (.c (.bool false))⟩])
      .ret)
     .skip))
   (.seq (some ([0, 1, 2, 3, 4], []))
    (.seq (some ([0, 1, 2, 3, 4, 26], []))
     (.ops [
       ⟨(some 23), none, .mv (.t 0)⟩,
       ⟨(some 24), none, .mv (.t 1)⟩,
       ⟨(some 25), none, .call (.f ref53_Few_id) [(.t 23), (.t 24)]⟩,
       ⟨(some 26), none, .un .not (.t 25)⟩])
     (.cond (.t 26)
      (.seq none
       (.ops [
         ⟨(some 10), none, .mv (.c (.bool true))⟩])
       .ret)
      .skip))
    (.seq (some ([0, 1, 2, 3, 4, 11, 12, 13], []))
     (.ops [
       ⟨(some 28), none, .mv (.t 0)⟩,
       ⟨(some 29), none, .mv (.t 1)⟩,
       ⟨(some 30), none, .mv (.t 2)⟩,
       ⟨(some 31), none, .mv (.t 3)⟩,
       ⟨(some 32), none, .mv (.t 4)⟩,
       ⟨(some 33), none, .call (.f accounts_Spent_id) [(.t 28), (.t 29), (.t 30), (.t 31), (.t 32)]⟩,
       ⟨(some 27), none, .mv (.t 33)⟩,
       ⟨(some 34), none, .ext (.t 27) 0⟩,
       ⟨(some 35), none, .ext (.t 27) 1⟩,
       ⟨(some 36), none, .ext (.t 27) 2⟩,
       ⟨(some 11), none, .mv (.t 34)⟩,
       ⟨(some 12), none, .mv (.t 35)⟩,
       ⟨(some 13), none, .mv (.t 36)⟩])
     (.seq (some ([0, 1, 4, 11, 12, 13, 14, 15, 16], []))
      (.ops [
        ⟨(some 38), none, .mv (.t 0)⟩,
        ⟨(some 39), none, .mv (.t 1)⟩,
        ⟨(some 40), none, .mv (.t 2)⟩,
        ⟨(some 41), none, .mv (.t 3)⟩,
        ⟨(some 42), none, .mv (.t 4)⟩,
        ⟨(some 43), none, .call (.f ref53_Spent_id) [(.t 38), (.t 39), (.t 40), (.t 41), (.t 42)]⟩,
        ⟨(some 37), none, .mv (.t 43)⟩,
        ⟨(some 44), none, .ext (.t 37) 0⟩,
        ⟨(some 45), none, .ext (.t 37) 1⟩,
        ⟨(some 46), none, .ext (.t 37) 2⟩,
        ⟨(some 14), none, .mv (.t 44)⟩,
        ⟨(some 15), none, .mv (.t 45)⟩,
        ⟨(some 16), none, .mv (.t 46)⟩])
      (.seq (some ([0, 1, 4, 11, 12, 13, 14, 15, 16, 17, 18], []))
       (.ops [
         ⟨(some 48), none, .mv (.t 0)⟩,
         ⟨(some 49), none, .mv (.t 1)⟩,
         ⟨(some 50), none, .mv (.t 4)⟩,
         ⟨(some 51), none, .call (.f accounts_Over_id) [(.t 48), (.t 49), (.t 50)]⟩,
         ⟨(some 47), none, .mv (.t 51)⟩,
         ⟨(some 52), none, .ext (.t 47) 0⟩,
         ⟨(some 53), none, .ext (.t 47) 1⟩,
         ⟨(some 17), none, .mv (.t 52)⟩,
         ⟨(some 18), none, .mv (.t 53)⟩])
       (.seq (some ([11, 12, 13, 14, 15, 16, 17, 18, 19, 20], []))
        (.ops [
          ⟨(some 55), none, .mv (.t 0)⟩,
          ⟨(some 56), none, .mv (.t 1)⟩,
          ⟨(some 57), none, .mv (.t 4)⟩,
          ⟨(some 58), none, .call (.f ref53_Over_id) [(.t 55), (.t 56), (.t 57)]⟩,
          ⟨(some 54), none, .mv (.t 58)⟩,
          ⟨(some 59), none, .ext (.t 54) 0⟩,
          ⟨(some 60), none, .ext (.t 54) 1⟩,
          ⟨(some 19), none, .mv (.t 59)⟩,
          ⟨(some 20), none, .mv (.t 60)⟩])
        (.seq none
         (.ops [
           ⟨(some 61), none, .mv (.t 11)⟩,
           ⟨(some 62), none, .mv (.t 14)⟩,
           ⟨(some 63), none, .bin .eql (.t 61) (.t 62)⟩,
           ⟨(some 64), none, .mv (.t 63)⟩,
           ⟨(some 65), (some (64, true)), .mv (.t 12)⟩,
           ⟨(some 66), (some (64, true)), .mv (.t 15)⟩,
           ⟨(some 67), (some (64, true)), .bin .eql (.t 65) (.t 66)⟩,
           ⟨(some 68), none, .pick (.t 64) (.t 67) (.c (.bool false))⟩,
           ⟨(some 69), none, .mv (.t 68)⟩,
           ⟨(some 70), (some (69, true)), .mv (.t 13)⟩,
           ⟨(some 71), (some (69, true)), .mv (.t 16)⟩,
           ⟨(some 72), (some (69, true)), .bin .eql (.t 70) (.t 71)⟩,
           ⟨(some 73), none, .pick (.t 69) (.t 72) (.c (.bool false))⟩,
           ⟨(some 74), none, .mv (.t 73)⟩,
           ⟨(some 75), (some (74, true)), .mv (.t 17)⟩,
           ⟨(some 76), (some (74, true)), .mv (.t 19)⟩,
           ⟨(some 77), (some (74, true)), .call (.f ref53_SameInts_id) [(.t 75), (.t 76)]⟩,
           ⟨(some 78), none, .pick (.t 74) (.t 77) (.c (.bool false))⟩,
           ⟨(some 79), none, .mv (.t 78)⟩,
           ⟨(some 80), (some (79, true)), .mv (.t 18)⟩,
           ⟨(some 81), (some (79, true)), .mv (.t 20)⟩,
           ⟨(some 82), (some (79, true)), .bin .eql (.t 80) (.t 81)⟩,
           ⟨(some 83), none, .pick (.t 79) (.t 82) (.c (.bool false))⟩,
           ⟨(some 10), none, .mv (.t 83)⟩])
         .ret))))))))⟩

/-- signatory/signatorylaw53.AccountsHistorySpec -/
def law53_AccountsHistorySpec : FnIR := ⟨5, 47, [.t 10],
 (.seq (some ([0, 1, 2, 3, 4], []))
  (.ops [
    ⟨(some 10), none, .mv (.c (.bool false))⟩])
  (.seq (some ([0, 1, 2, 3, 4], []))
   (.seq (some ([0, 1, 2, 3, 4, 16], []))
    (.ops [
      ⟨(some 15), none, .call (.f law53_sane_id) []⟩,
      ⟨(some 16), none, .un .not (.t 15)⟩])
    (.cond (.t 16)
     (.seq none
      (.ops [
        ⟨(some 10), none, .mv (.c (.bool false))⟩])
      .ret)
     .skip))
   (.seq (some ([0, 1, 2, 3, 4], []))
    (.seq (some ([0, 1, 2, 3, 4, 20], []))
     (.ops [
       ⟨(some 17), none, .mv (.t 0)⟩,
       ⟨(some 18), none, .mv (.t 1)⟩,
       ⟨(some 19), none, .call (.f ref53_Few_id) [(.t 17), (.t 18)]⟩,
       ⟨(some 20), none, .un .not (.t 19)⟩])
     (.cond (.t 20)
      (.seq none
       (.ops [
         ⟨(some 10), none, .mv (.c (.bool true))⟩])
       .ret)
      .skip))
    (.seq (some ([0, 1, 2, 3, 4, 11, 12], []))
     (.ops [
       ⟨(some 22), none, .mv (.t 0)⟩,
       ⟨(some 23), none, .mv (.t 1)⟩,
       ⟨(some 24), none, .mv (.t 2)⟩,
       ⟨(some 25), none, .mv (.t 3)⟩,
       ⟨(some 26), none, .mv (.t 4)⟩,
       ⟨(some 27), none, .call (.f accounts_History_id) [(.t 22), (.t 23), (.t 24), (.t 25), (.t 26)]⟩,
       ⟨(some 21), none, .mv (.t 27)⟩,
       ⟨(some 28), none, .ext (.t 21) 0⟩,
       ⟨(some 29), none, .ext (.t 21) 1⟩,
       ⟨(some 11), none, .mv (.t 28)⟩,
       ⟨(some 12), none, .mv (.t 29)⟩])
     (.seq (some ([11, 12, 13, 14], []))
      (.ops [
        ⟨(some 31), none, .mv (.t 0)⟩,
        ⟨(some 32), none, .mv (.t 1)⟩,
        ⟨(some 33), none, .mv (.t 2)⟩,
        ⟨(some 34), none, .mv (.t 3)⟩,
        ⟨(some 35), none, .mv (.t 4)⟩,
        ⟨(some 36), none, .call (.f ref53_History_id) [(.t 31), (.t 32), (.t 33), (.t 34), (.t 35)]⟩,
        ⟨(some 30), none, .mv (.t 36)⟩,
        ⟨(some 37), none, .ext (.t 30) 0⟩,
        ⟨(some 38), none, .ext (.t 30) 1⟩,
        ⟨(some 13), none, .mv (.t 37)⟩,
        ⟨(some 14), none, .mv (.t 38)⟩])
      (.seq none
       (.ops [
         ⟨(some 39), none, .mv (.t 11)⟩,
         ⟨(some 40), none, .mv (.t 13)⟩,
         ⟨(some 41), none, .call (.f ref53_SameSteps_id) [(.t 39), (.t 40)]⟩,
         ⟨(some 42), none, .mv (.t 41)⟩,
         ⟨(some 43), (some (42, true)), .mv (.t 12)⟩,
         ⟨(some 44), (some (42, true)), .mv (.t 14)⟩,
         ⟨(some 45), (some (42, true)), .bin .eql (.t 43) (.t 44)⟩,
         ⟨(some 46), none, .pick (.t 42) (.t 45) (.c (.bool false))⟩,
         ⟨(some 10), none, .mv (.t 46)⟩])
       .ret))))))⟩

def law53_AccountsKnown_l0 : IR :=
 (.seq (some ([0, 1, 2, 3, 4, 5, 13, 14, 15, 16, 17, 60, 61, 62, 63], [19, 22, 31, 73, 97]))
  (.ops [
    ⟨(some 63), none, .bin .lss (.t 62) (.t 61)⟩])
  (.seq (some ([0, 1, 2, 3, 4, 5, 13, 14, 15, 16, 17, 60, 61, 62], [19, 22, 31, 73, 97]))
   (.cond (.t 63)
    .skip
    (.exit 0))
   (.seq (some ([0, 1, 2, 3, 4, 5, 13, 14, 15, 16, 17, 60, 61, 62], [19, 22, 31, 73, 97]))
    (.block 1
     (.seq (some ([0, 1, 2, 3, 4, 5, 13, 14, 15, 16, 17, 19, 60, 61, 62], [19, 22, 31, 73, 97]))
      (.ops [
        ⟨(some 64), none, .iaddr 8 (.t 60) (.t 62)⟩,
        ⟨(some 65), none, .load true 8 (.t 64)⟩,
        ⟨(some 19), none, .alloc [(.int .i64 0), (.int .i64 0), (.int .i64 0), (.int .i64 0), (.int .i64 0), (.int .i64 0), (.int .i64 0), (.bool false)]⟩,
        ⟨none, none, .store 8 (.t 19) (.t 65)⟩])
      (.seq (some ([0, 1, 2, 3, 4, 5, 13, 14, 15, 16, 17, 19, 60, 61, 62, 69], [19, 22, 31, 73, 97]))
       (.ops [
         ⟨(some 66), none, .faddr 2 (.t 19)⟩,
         ⟨(some 67), none, .load false 1 (.t 66)⟩,
         ⟨(some 68), none, .mv (.t 4)⟩,
         ⟨(some 69), none, .bin .leq (.t 67) (.t 68)⟩])
       (.cond (.t 69)
        (.ops [
          ⟨(some 70), none, .mv (.t 17)⟩,
          ⟨(some 71), none, .load true 8 (.t 19)⟩,
          ⟨(some 72), none, .bslice false 8 true [(.int .i64 0), (.int .i64 0), (.int .i64 0), (.int .i64 0), (.int .i64 0), (.int .i64 0), (.int .i64 0), (.bool false)] 1 [(0, (.t 71))]⟩,
          ⟨(some 73), none, .append false 8 true 64 (.t 70) (.t 72)⟩,
          ⟨(some 17), none, .mv (.t 73)⟩])
        .skip))))
    (.ops [
      ⟨(some 74), none, .bin .add (.t 62) (.c (.int .i64 1))⟩,
      ⟨(some 62), none, .mv (.t 74)⟩]))))
def law53_AccountsKnown_l1 : IR :=
 (.seq (some ([0, 1, 2, 3, 4, 5, 13, 14, 15, 16, 17, 20, 76, 77, 78], [19, 22, 31, 73, 97]))
  (.ops [
    ⟨(some 78), none, .bin .lss (.t 77) (.t 76)⟩])
  (.seq (some ([0, 1, 2, 3, 4, 5, 13, 14, 15, 16, 17, 20, 76, 77], [19, 22, 31, 73, 97]))
   (.cond (.t 78)
    .skip
    (.exit 2))
   (.seq (some ([0, 1, 2, 3, 4, 5, 13, 14, 15, 16, 17, 20, 76, 77], [19, 22, 31, 73, 97]))
    (.block 3
     (.seq (some ([0, 1, 2, 3, 4, 5, 13, 14, 15, 16, 17, 20, 21, 76, 77], [19, 22, 31, 73, 97]))
      (.ops [
        ⟨(some 79), none, .mv (.t 77)⟩,
        ⟨(some 21), none, .mv (.t 79)⟩])
      (.seq (some ([0, 1, 2, 3, 4, 5, 13, 14, 15, 16, 17, 20, 22, 76, 77], [19, 22, 31, 73, 97]))
       (.ops [
         ⟨(some 80), none, .mv (.t 1)⟩,
         ⟨(some 81), none, .mv (.t 21)⟩,
         ⟨(some 82), none, .mv (.t 5)⟩,
         ⟨(some 83), none, .convi .i64 (.t 82)⟩,
         ⟨(some 84), none, .bin .add (.t 81) (.t 83)⟩,
         ⟨(some 85), none, .mv (.t 1)⟩,
         ⟨(some 86), none, .blen .slice (.t 85)⟩,
         ⟨(some 87), none, .bin .rem (.t 84) (.t 86)⟩,
         ⟨(some 88), none, .iaddr 5 (.t 80) (.t 87)⟩,
         ⟨(some 89), none, .load true 5 (.t 88)⟩,
         ⟨(some 22), none, .alloc [(.int .i64 0), (.int .i64 0), (.int .i64 0), (.int .i64 0), (.int .i64 0)]⟩,
         ⟨none, none, .store 5 (.t 22) (.t 89)⟩])
       (.seq (some ([0, 1, 2, 3, 4, 5, 13, 14, 15, 16, 17, 20, 22, 76, 77, 93], [19, 22, 31, 73, 97]))
        (.ops [
          ⟨(some 90), none, .faddr 4 (.t 22)⟩,
          ⟨(some 91), none, .load false 1 (.t 90)⟩,
          ⟨(some 92), none, .mv (.t 4)⟩,
          ⟨(some 93), none, .bin .leq (.t 91) (.t 92)⟩])
        (.cond (.t 93)
         (.ops [
           ⟨(some 94), none, .mv (.t 20)⟩,
           ⟨(some 95), none, .load true 5 (.t 22)⟩,
           ⟨(some 96), none, .bslice false 5 true [(.int .i64 0), (.int .i64 0), (.int .i64 0), (.int .i64 0), (.int .i64 0)] 1 [(0, (.t 95))]⟩,
           ⟨(some 97), none, .append false 5 true 40 (.t 94) (.t 96)⟩,
           ⟨(some 20), none, .mv (.t 97)⟩])
         .skip)))))
    (.ops [
      ⟨(some 98), none, .bin .add (.t 77) (.c (.int .i64 1))⟩,
      ⟨(some 77), none, .mv (.t 98)⟩]))))
def law53_AccountsKnown_l2 : IR :=
 (.seq (some ([0, 4, 20, 28, 29, 138, 139, 140, 144, 145, 146, 162, 163, 164, 165], [19, 22, 31, 35, 73, 97]))
  (.ops [
    ⟨(some 165), none, .bin .lss (.t 164) (.t 163)⟩])
  (.seq (some ([0, 4, 20, 28, 29, 138, 139, 140, 144, 145, 146, 162, 163, 164], [19, 22, 31, 35, 73, 97]))
   (.cond (.t 165)
    .skip
    (.exit 8))
   (.seq (some ([0, 4, 20, 28, 29, 138, 139, 140, 144, 145, 146, 162, 163, 164], [19, 22, 31, 35, 73, 97]))
    (.block 9
     (.seq (some ([0, 4, 20, 28, 29, 35, 138, 139, 140, 144, 145, 146, 162, 163, 164], [19, 22, 31, 35, 73, 97]))
      (.ops [
        ⟨(some 166), none, .iaddr 8 (.t 162) (.t 164)⟩,
        ⟨(some 167), none, .load true 8 (.t 166)⟩,
        ⟨(some 35), none, .alloc [(.int .i64 0), (.int .i64 0), (.int .i64 0), (.int .i64 0), (.int .i64 0), (.int .i64 0), (.int .i64 0), (.bool false)]⟩,
        ⟨none, none, .store 8 (.t 35) (.t 167)⟩])
      (.ops [
        ⟨(some 168), none, .mv (.t 29)⟩,
        ⟨(some 169), none, .mv (.t 168)⟩,
        ⟨(some 170), (some (169, false)), .faddr 0 (.t 35)⟩,
        ⟨(some 171), (some (169, false)), .load false 1 (.t 170)⟩,
        ⟨(some 172), (some (169, false)), .mv (.t 28)⟩,
        ⟨(some 173), (some (169, false)), .bin .eql (.t 171) (.t 172)⟩,
        ⟨(some 174), none, .pick (.t 169) (.c (.bool true)) (.t 173)⟩,
        ⟨(some 29), none, .mv (.t 174)⟩])))
    (.ops [
      ⟨(some 175), none, .bin .add (.t 164) (.c (.int .i64 1))⟩,
      ⟨(some 164), none, .mv (.t 175)⟩]))))
def law53_AccountsKnown_l3 : IR :=
 (.seq (some ([0, 4, 20, 28, 29, 138, 139, 140, 144, 145, 146, 147], [19, 22, 31, 35, 73, 97]))
  (.ops [
    ⟨(some 147), none, .bin .lss (.t 146) (.t 145)⟩])
  (.seq (some ([0, 4, 20, 28, 29, 138, 139, 140, 144, 145, 146], [19, 22, 31, 35, 73, 97]))
   (.cond (.t 147)
    .skip
    (.exit 6))
   (.seq (some ([0, 4, 20, 28, 29, 138, 139, 140, 144, 145, 146], [19, 22, 31, 35, 73, 97]))
    (.block 7
     (.seq (some ([0, 4, 20, 28, 29, 31, 138, 139, 140, 144, 145, 146], [19, 22, 31, 35, 73, 97]))
      (.ops [
        ⟨(some 148), none, .iaddr 5 (.t 144) (.t 146)⟩,
        ⟨(some 149), none, .load true 5 (.t 148)⟩,
        ⟨(some 31), none, .alloc [(.int .i64 0), (.int .i64 0), (.int .i64 0), (.int .i64 0), (.int .i64 0)]⟩,
        ⟨none, none, .store 5 (.t 31) (.t 149)⟩])
      (.seq (some ([0, 4, 20, 28, 29, 32, 33, 138, 139, 140, 144, 145, 146], [19, 22, 31, 35, 73, 97]))
       (.ops [
         ⟨(some 151), none, .mv (.t 0)⟩,
         ⟨(some 152), none, .faddr 1 (.t 31)⟩,
         ⟨(some 153), none, .load false 1 (.t 152)⟩,
         ⟨(some 154), none, .faddr 3 (.t 31)⟩,
         ⟨(some 155), none, .load false 1 (.t 154)⟩,
         ⟨(some 156), none, .mv (.t 4)⟩,
         ⟨(some 157), none, .call (.f budgets_Standing_id) [(.t 151), (.t 153), (.t 155), (.t 156)]⟩,
         ⟨(some 150), none, .mv (.t 157)⟩,
         ⟨(some 158), none, .ext (.t 150) 0⟩,
         ⟨(some 159), none, .ext (.t 150) 1⟩,
         ⟨(some 32), none, .mv (.t 158)⟩,
         ⟨(some 33), none, .mv (.t 159)⟩])
       (.seq (some ([0, 4, 20, 28, 29, 32, 138, 139, 140, 144, 145, 146], [19, 22, 31, 35, 73, 97]))
        (.seq (some ([0, 4, 20, 28, 29, 32, 138, 139, 140, 144, 145, 146, 161], [19, 22, 31, 35, 73, 97]))
         (.ops [
           ⟨(some 160), none, .mv (.t 33)⟩,
           ⟨(some 161), none, .bin .neq (.t 160) (.c (.int .i64 0))⟩])
         (.cond (.t 161)
          (.seq none
           (.ops [
             ⟨(some 12), none, .mv (.c (.bool false))⟩])
           .ret)
          .skip))
        (.seq (some ([0, 4, 20, 28, 29, 138, 139, 140, 144, 145, 146, 162, 163, 164], [19, 22, 31, 35, 73, 97]))
         (.ops [
           ⟨(some 162), none, .mv (.t 32)⟩,
           ⟨(some 163), none, .blen .slice (.t 162)⟩,
           ⟨(some 164), none, .mv (.c (.int .i64 0))⟩])
         (.block 8
          (.loop law53_AccountsKnown_l2)))))))
    (.ops [
      ⟨(some 176), none, .bin .add (.t 146) (.c (.int .i64 1))⟩,
      ⟨(some 146), none, .mv (.t 176)⟩]))))
def law53_AccountsKnown_l4 : IR :=
 (.seq (some ([0, 4, 20, 138, 139, 140, 141], [19, 22, 31, 73, 97]))
  (.ops [
    ⟨(some 141), none, .bin .lss (.t 140) (.t 139)⟩])
  (.seq (some ([0, 4, 20, 138, 139, 140], [19, 22, 31, 73, 97]))
   (.cond (.t 141)
    .skip
    (.exit 4))
   (.seq (some ([0, 4, 20, 138, 139, 140], [19, 22, 31, 73, 97]))
    (.block 5
     (.seq (some ([0, 4, 20, 28, 138, 139, 140], [19, 22, 31, 73, 97]))
      (.ops [
        ⟨(some 142), none, .iaddr 1 (.t 138) (.t 140)⟩,
        ⟨(some 143), none, .load false 1 (.t 142)⟩,
        ⟨(some 28), none, .mv (.t 143)⟩])
      (.seq (some ([0, 4, 20, 28, 29, 138, 139, 140], [19, 22, 31, 35, 73, 97]))
       (.ops [
         ⟨(some 29), none, .mv (.c (.bool false))⟩])
       (.seq (some ([0, 4, 20, 29, 138, 139, 140], [19, 22, 31, 35, 73, 97]))
        (.seq (some ([0, 4, 20, 28, 29, 138, 139, 140, 144, 145, 146], [19, 22, 31, 35, 73, 97]))
         (.ops [
           ⟨(some 144), none, .mv (.t 20)⟩,
           ⟨(some 145), none, .blen .slice (.t 144)⟩,
           ⟨(some 146), none, .mv (.c (.int .i64 0))⟩])
         (.block 6
          (.loop law53_AccountsKnown_l3)))
        (.seq (some ([0, 4, 20, 138, 139, 140, 178], [19, 22, 31, 35, 73, 97]))
         (.ops [
           ⟨(some 177), none, .mv (.t 29)⟩,
           ⟨(some 178), none, .un .not (.t 177)⟩])
         (.cond (.t 178)
          (.seq none
           (.ops [
             ⟨(some 12), none, .mv (.c (.bool false))⟩])
           .ret)
          .skip))))))
    (.ops [
      ⟨(some 179), none, .bin .add (.t 140) (.c (.int .i64 1))⟩,
      ⟨(some 140), none, .mv (.t 179)⟩]))))
/-- signatory/signatorylaw53.AccountsKnown -/
def law53_AccountsKnown : FnIR := ⟨6, 180, [.t 12],
 (.seq (some ([0, 1, 2, 3, 4, 5], []))
  (.ops [
    ⟨(some 12), none, .mv (.c (.bool false))⟩])
  (.seq (some ([0, 1, 2, 3, 4, 5], []))
   (.seq (some ([0, 1, 2, 3, 4, 5, 37], []))
    (.ops [
      ⟨(some 36), none, .call (.f law53_sane_id) []⟩,
      ⟨(some 37), none, .un .not (.t 36)⟩])
    (.cond (.t 37)
     (.seq none
      (.ops [
        ⟨(some 12), none, .mv (.c (.bool false))⟩])
      .ret)
     .skip))
   (.seq (some ([0, 1, 2, 3, 4, 5], []))
    (.seq (some ([0, 1, 2, 3, 4, 5, 43], []))
     (.ops [
       ⟨(some 38), none, .mv (.t 0)⟩,
       ⟨(some 39), none, .mv (.t 1)⟩,
       ⟨(some 40), none, .mv (.t 4)⟩,
       ⟨(some 41), none, .bslice false 1 false [(.int .i64 0)] 1 [(0, (.t 40))]⟩,
       ⟨(some 42), none, .call (.f law53_right_id) [(.t 38), (.t 39), (.t 41)]⟩,
       ⟨(some 43), none, .un .not (.t 42)⟩])
     (.cond (.t 43)
      (.seq none
       (.ops [
         ⟨(some 12), none, .mv (.c (.bool true))⟩])
       .ret)
      .skip))
    (.seq (some ([0, 1, 2, 3, 4, 5, 13, 14], []))
     (.ops [
       ⟨(some 45), none, .mv (.t 0)⟩,
       ⟨(some 46), none, .mv (.t 1)⟩,
       ⟨(some 47), none, .mv (.t 4)⟩,
       ⟨(some 48), none, .call (.f accounts_Over_id) [(.t 45), (.t 46), (.t 47)]⟩,
       ⟨(some 44), none, .mv (.t 48)⟩,
       ⟨(some 49), none, .ext (.t 44) 0⟩,
       ⟨(some 50), none, .ext (.t 44) 1⟩,
       ⟨(some 13), none, .mv (.t 49)⟩,
       ⟨(some 14), none, .mv (.t 50)⟩])
     (.seq (some ([0, 1, 2, 3, 4, 5, 13, 14, 15, 16], []))
      (.ops [
        ⟨(some 52), none, .mv (.t 0)⟩,
        ⟨(some 53), none, .mv (.t 1)⟩,
        ⟨(some 54), none, .mv (.t 2)⟩,
        ⟨(some 55), none, .mv (.t 3)⟩,
        ⟨(some 56), none, .mv (.t 4)⟩,
        ⟨(some 57), none, .call (.f accounts_History_id) [(.t 52), (.t 53), (.t 54), (.t 55), (.t 56)]⟩,
        ⟨(some 51), none, .mv (.t 57)⟩,
        ⟨(some 58), none, .ext (.t 51) 0⟩,
        ⟨(some 59), none, .ext (.t 51) 1⟩,
        ⟨(some 15), none, .mv (.t 58)⟩,
        ⟨(some 16), none, .mv (.t 59)⟩])
      (.seq (some ([0, 1, 2, 3, 4, 5, 13, 14, 15, 16, 17], [19, 22, 31, 73, 97]))
       (.ops [
         ⟨(some 17), none, .mv (.c (.list [] true))⟩])
       (.seq (some ([0, 1, 2, 3, 4, 5, 13, 14, 15, 16, 17], [19, 22, 31, 73, 97]))
        (.seq (some ([0, 1, 2, 3, 4, 5, 13, 14, 15, 16, 17, 60, 61, 62], [19, 22, 31, 73, 97]))
         (.ops [
           ⟨(some 60), none, .mv (.t 0)⟩,
           ⟨(some 61), none, .blen .slice (.t 60)⟩,
           ⟨(some 62), none, .mv (.c (.int .i64 0))⟩])
         (.block 0
          (.loop law53_AccountsKnown_l0)))
        (.seq (some ([0, 1, 2, 3, 4, 5, 13, 14, 15, 16, 17, 20], [19, 22, 31, 73, 97]))
         (.ops [
           ⟨(some 20), none, .mv (.c (.list [] true))⟩])
         (.seq (some ([0, 2, 3, 4, 13, 14, 15, 16, 17, 20], [19, 22, 31, 73, 97]))
          (.seq (some ([0, 1, 2, 3, 4, 5, 13, 14, 15, 16, 17, 20, 76, 77], [19, 22, 31, 73, 97]))
           (.ops [
             ⟨(some 75), none, .mv (.t 1)⟩,
             ⟨(some 76), none, .blen .slice (.t 75)⟩,
             ⟨(some 77), none, .mv (.c (.int .i64 0))⟩])
           (.block 2
            (.loop law53_AccountsKnown_l1)))
          (.seq (some ([0, 2, 3, 4, 13, 14, 15, 16, 20, 23, 24], [19, 22, 31, 73, 97]))
           (.ops [
             ⟨(some 100), none, .mv (.t 17)⟩,
             ⟨(some 101), none, .mv (.t 20)⟩,
             ⟨(some 102), none, .mv (.t 4)⟩,
             ⟨(some 103), none, .call (.f accounts_Over_id) [(.t 100), (.t 101), (.t 102)]⟩,
             ⟨(some 99), none, .mv (.t 103)⟩,
             ⟨(some 104), none, .ext (.t 99) 0⟩,
             ⟨(some 105), none, .ext (.t 99) 1⟩,
             ⟨(some 23), none, .mv (.t 104)⟩,
             ⟨(some 24), none, .mv (.t 105)⟩])
           (.seq (some ([0, 4, 13, 14, 15, 16, 20, 23, 24, 25, 26], [19, 22, 31, 73, 97]))
            (.ops [
              ⟨(some 107), none, .mv (.t 0)⟩,
              ⟨(some 108), none, .mv (.t 20)⟩,
              ⟨(some 109), none, .mv (.t 2)⟩,
              ⟨(some 110), none, .mv (.t 3)⟩,
              ⟨(some 111), none, .mv (.t 4)⟩,
              ⟨(some 112), none, .call (.f accounts_History_id) [(.t 107), (.t 108), (.t 109), (.t 110), (.t 111)]⟩,
              ⟨(some 106), none, .mv (.t 112)⟩,
              ⟨(some 113), none, .ext (.t 106) 0⟩,
              ⟨(some 114), none, .ext (.t 106) 1⟩,
              ⟨(some 25), none, .mv (.t 113)⟩,
              ⟨(some 26), none, .mv (.t 114)⟩])
            (.seq (some ([0, 4, 13, 20], [19, 22, 31, 73, 97]))
             (.seq (some ([0, 4, 13, 20, 137], [19, 22, 31, 73, 97]))
              (.ops [
                ⟨(some 115), none, .mv (.t 14)⟩,
                ⟨(some 116), none, .bin .neq (.t 115) (.c (.int .i64 0))⟩,
                ⟨(some 117), none, .mv (.t 116)⟩,
                ⟨(some 118), (some (117, false)), .mv (.t 24)⟩,
                ⟨(some 119), (some (117, false)), .bin .neq (.t 118) (.c (.int .i64 0))⟩,
                ⟨(some 120), none, .pick (.t 117) (.c (.bool true)) (.t 119)⟩,
                ⟨(some 121), none, .mv (.t 120)⟩,
                ⟨(some 122), (some (121, false)), .mv (.t 13)⟩,
                ⟨(some 123), (some (121, false)), .mv (.t 23)⟩,
                ⟨(some 124), (some (121, false)), .call (.f ref53_SameInts_id) [(.t 122), (.t 123)]⟩,
                ⟨(some 125), (some (121, false)), .un .not (.t 124)⟩,
                ⟨(some 126), none, .pick (.t 121) (.c (.bool true)) (.t 125)⟩,
                ⟨(some 127), none, .mv (.t 126)⟩,
                ⟨(some 128), (some (127, false)), .mv (.t 16)⟩,
                ⟨(some 129), (some (127, false)), .mv (.t 26)⟩,
                ⟨(some 130), (some (127, false)), .bin .neq (.t 128) (.t 129)⟩,
                ⟨(some 131), none, .pick (.t 127) (.c (.bool true)) (.t 130)⟩,
                ⟨(some 132), none, .mv (.t 131)⟩,
                ⟨(some 133), (some (132, false)), .mv (.t 15)⟩,
                ⟨(some 134), (some (132, false)), .mv (.t 25)⟩,
                ⟨(some 135), (some (132, false)), .call (.f ref53_SameSteps_id) [(.t 133), (.t 134)]⟩,
                ⟨(some 136), (some (132, false)), .un .not (.t 135)⟩,
                ⟨(some 137), none, .pick (.t 132) (.c (.bool true)) (.t 136)⟩])
              (.cond (.t 137)
               (.seq none
                (.ops [
                  ⟨(some 12), none, .mv (.c (.bool false))⟩])
                .ret)
               .skip))
             (.seq (some ([], []))
              (.seq (some ([0, 4, 20, 138, 139, 140], [19, 22, 31, 73, 97]))
               (.ops [
                 ⟨(some 138), none, .mv (.t 13)⟩,
                 ⟨(some 139), none, .blen .slice (.t 138)⟩,
                 ⟨(some 140), none, .mv (.c (.int .i64 0))⟩])
               (.block 4
                (.loop law53_AccountsKnown_l4)))
              (.seq none
               (.ops [
                 ⟨(some 12), none, .mv (.c (.bool true))⟩])
               .ret))))))))))))))⟩

def law53_AccountsSteps_l0 : IR :=
 (.seq (some ([0, 1, 2, 3, 4, 12, 13, 15, 16, 18, 81, 82, 83, 84], [15, 18, 20]))
  (.ops [
    ⟨(some 84), none, .bin .lss (.t 83) (.t 82)⟩])
  (.seq (some ([0, 1, 2, 3, 4, 12, 13, 15, 16, 18, 81, 82, 83], [15, 18, 20]))
   (.cond (.t 84)
    .skip
    (.exit 0))
   (.seq (some ([0, 1, 2, 3, 4, 12, 13, 15, 16, 18, 81, 82, 83], [15, 18, 20]))
    (.block 1
     (.seq (some ([0, 1, 2, 3, 4, 12, 13, 15, 16, 18, 19, 20, 81, 82, 83], [15, 18, 20]))
      (.ops [
        ⟨(some 85), none, .mv (.t 83)⟩,
        ⟨(some 86), none, .iaddr 3 (.t 81) (.t 83)⟩,
        ⟨(some 87), none, .load true 3 (.t 86)⟩,
        ⟨(some 20), none, .alloc [(.int .i64 0), (.int .i64 0), (.bool false)]⟩,
        ⟨(some 19), none, .mv (.t 85)⟩,
        ⟨none, none, .store 3 (.t 20) (.t 87)⟩])
      (.seq (some ([0, 1, 2, 3, 4, 12, 13, 15, 16, 18, 19, 20, 21, 22, 23, 81, 82, 83], [15, 18, 20]))
       (.ops [
         ⟨(some 89), none, .mv (.t 0)⟩,
         ⟨(some 90), none, .mv (.t 1)⟩,
         ⟨(some 91), none, .mv (.t 2)⟩,
         ⟨(some 92), none, .faddr 0 (.t 20)⟩,
         ⟨(some 93), none, .load false 1 (.t 92)⟩,
         ⟨(some 94), none, .mv (.t 4)⟩,
         ⟨(some 95), none, .call (.f accounts_Spent_id) [(.t 89), (.t 90), (.t 91), (.t 93), (.t 94)]⟩,
         ⟨(some 88), none, .mv (.t 95)⟩,
         ⟨(some 96), none, .ext (.t 88) 0⟩,
         ⟨(some 97), none, .ext (.t 88) 1⟩,
         ⟨(some 98), none, .ext (.t 88) 2⟩,
         ⟨(some 21), none, .mv (.t 96)⟩,
         ⟨(some 22), none, .mv (.t 97)⟩,
         ⟨(some 23), none, .mv (.t 98)⟩])
       (.seq (some ([0, 1, 2, 3, 4, 12, 13, 15, 16, 18, 20, 81, 82, 83], [15, 18, 20]))
        (.seq (some ([0, 1, 2, 3, 4, 12, 13, 15, 16, 18, 20, 81, 82, 83, 164], [15, 18, 20]))
         (.ops [
           ⟨(some 99), none, .mv (.t 23)⟩,
           ⟨(some 100), none, .bin .neq (.t 99) (.c (.int .i64 0))⟩,
           ⟨(some 101), none, .mv (.t 100)⟩,
           ⟨(some 102), (some (101, false)), .faddr 1 (.t 20)⟩,
           ⟨(some 103), (some (101, false)), .load false 1 (.t 102)⟩,
           ⟨(some 104), (some (101, false)), .mv (.t 21)⟩,
           ⟨(some 105), (some (101, false)), .bin .neq (.t 103) (.t 104)⟩,
           ⟨(some 106), none, .pick (.t 101) (.c (.bool true)) (.t 105)⟩,
           ⟨(some 107), none, .mv (.t 106)⟩,
           ⟨(some 108), (some (107, false)), .faddr 2 (.t 20)⟩,
           ⟨(some 109), (some (107, false)), .load false 1 (.t 108)⟩,
           ⟨(some 110), (some (107, false)), .mv (.t 21)⟩,
           ⟨(some 111), (some (107, false)), .faddr 5 (.t 15)⟩,
           ⟨(some 112), (some (107, false)), .load false 1 (.t 111)⟩,
           ⟨(some 113), (some (107, false)), .bin .leq (.t 110) (.t 112)⟩,
           ⟨(some 114), (some (107, false)), .mv (.t 113)⟩,
           ⟨(some 115), (some (114, true)), .mv (.t 22)⟩,
           ⟨(some 116), (some (114, true)), .faddr 6 (.t 15)⟩,
           ⟨(some 117), (some (114, true)), .load false 1 (.t 116)⟩,
           ⟨(some 118), (some (114, true)), .bin .leq (.t 115) (.t 117)⟩,
           ⟨(some 119), (some (107, false)), .pick (.t 114) (.t 118) (.c (.bool false))⟩,
           ⟨(some 120), (some (107, false)), .eqb true (.t 109) (.t 119)⟩,
           ⟨(some 121), none, .pick (.t 107) (.c (.bool true)) (.t 120)⟩,
           ⟨(some 122), none, .mv (.t 121)⟩,
           ⟨(some 123), (some (122, false)), .faddr 0 (.t 20)⟩,
           ⟨(some 124), (some (122, false)), .load false 1 (.t 123)⟩,
           ⟨(some 125), (some (122, false)), .faddr 4 (.t 15)⟩,
           ⟨(some 126), (some (122, false)), .load false 1 (.t 125)⟩,
           ⟨(some 127), (some (122, false)), .bin .quo (.t 124) (.t 126)⟩,
           ⟨(some 128), (some (122, false)), .mv (.t 3)⟩,
           ⟨(some 129), (some (122, false)), .faddr 4 (.t 15)⟩,
           ⟨(some 130), (some (122, false)), .load false 1 (.t 129)⟩,
           ⟨(some 131), (some (122, false)), .bin .quo (.t 128) (.t 130)⟩,
           ⟨(some 132), (some (122, false)), .bin .neq (.t 127) (.t 131)⟩,
           ⟨(some 133), none, .pick (.t 122) (.c (.bool true)) (.t 132)⟩,
           ⟨(some 134), none, .mv (.t 133)⟩,
           ⟨(some 135), (some (134, false)), .faddr 0 (.t 20)⟩,
           ⟨(some 136), (some (134, false)), .load false 1 (.t 135)⟩,
           ⟨(some 137), (some (134, false)), .bin .lss (.t 136) (.c (.int .i64 0))⟩,
           ⟨(some 138), none, .pick (.t 134) (.c (.bool true)) (.t 137)⟩,
           ⟨(some 139), none, .mv (.t 138)⟩,
           ⟨(some 140), (some (139, false)), .mv (.t 19)⟩,
           ⟨(some 141), (some (139, false)), .bin .gtr (.t 140) (.c (.int .i64 0))⟩,
           ⟨(some 142), (some (139, false)), .mv (.t 141)⟩,
           ⟨(some 143), (some (142, true)), .mv (.t 16)⟩,
           ⟨(some 144), (some (142, true)), .mv (.t 19)⟩,
           ⟨(some 145), (some (142, true)), .bin .sub (.t 144) (.c (.int .i64 1))⟩,
           ⟨(some 146), (some (142, true)), .iaddr 3 (.t 143) (.t 145)⟩,
           ⟨(some 147), (some (142, true)), .faddr 0 (.t 146)⟩,
           ⟨(some 148), (some (142, true)), .load false 1 (.t 147)⟩,
           ⟨(some 149), (some (142, true)), .faddr 0 (.t 20)⟩,
           ⟨(some 150), (some (142, true)), .load false 1 (.t 149)⟩,
           ⟨(some 151), (some (142, true)), .bin .geq (.t 148) (.t 150)⟩,
           ⟨(some 152), (some (142, true)), .mv (.t 151)⟩,
           ⟨(some 153), (some (152, false)), .mv (.t 16)⟩,
           ⟨(some 154), (some (152, false)), .mv (.t 19)⟩,
           ⟨(some 155), (some (152, false)), .bin .sub (.t 154) (.c (.int .i64 1))⟩,
           ⟨(some 156), (some (152, false)), .iaddr 3 (.t 153) (.t 155)⟩,
           ⟨(some 157), (some (152, false)), .faddr 1 (.t 156)⟩,
           ⟨(some 158), (some (152, false)), .load false 1 (.t 157)⟩,
           ⟨(some 159), (some (152, false)), .faddr 1 (.t 20)⟩,
           ⟨(some 160), (some (152, false)), .load false 1 (.t 159)⟩,
           ⟨(some 161), (some (152, false)), .bin .geq (.t 158) (.t 160)⟩,
           ⟨(some 162), (some (142, true)), .pick (.t 152) (.c (.bool true)) (.t 161)⟩,
           ⟨(some 163), (some (139, false)), .pick (.t 142) (.t 162) (.c (.bool false))⟩,
           ⟨(some 164), none, .pick (.t 139) (.c (.bool true)) (.t 163)⟩])
         (.cond (.t 164)
          (.seq none
           (.ops [
             ⟨(some 10), none, .mv (.c (.bool false))⟩])
           .ret)
          .skip))
        (.seq (some ([0, 1, 2, 3, 4, 12, 13, 15, 16, 18, 20, 81, 82, 83, 168], [15, 18, 20]))
         (.ops [
           ⟨(some 165), none, .faddr 0 (.t 20)⟩,
           ⟨(some 166), none, .load false 1 (.t 165)⟩,
           ⟨(some 167), none, .mv (.t 3)⟩,
           ⟨(some 168), none, .bin .leq (.t 166) (.t 167)⟩])
         (.cond (.t 168)
          (.ops [
            ⟨(some 169), none, .load true 3 (.t 20)⟩,
            ⟨none, none, .store 3 (.t 18) (.t 169)⟩])
          .skip))))))
    (.ops [
      ⟨(some 170), none, .bin .add (.t 83) (.c (.int .i64 1))⟩,
      ⟨(some 83), none, .mv (.t 170)⟩]))))
/-- signatory/signatorylaw53.AccountsSteps -/
def law53_AccountsSteps : FnIR := ⟨5, 190, [.t 10],
 (.seq (some ([0, 1, 2, 3, 4], []))
  (.ops [
    ⟨(some 10), none, .mv (.c (.bool false))⟩])
  (.seq (some ([0, 1, 2, 3, 4], []))
   (.seq (some ([0, 1, 2, 3, 4, 25], []))
    (.ops [
      ⟨(some 24), none, .call (.f law53_sane_id) []⟩,
      ⟨(some 25), none, .un .not (.t 24)⟩])
    (.cond (.t 25)
     (.seq none
      (.ops [
        ⟨(some 10), none, .mv (.c (.bool false))⟩])
      .ret)
     .skip))
   (.seq (some ([0, 1, 2, 3, 4], []))
    (.seq (some ([0, 1, 2, 3, 4, 32], []))
     (.ops [
       ⟨(some 26), none, .mv (.t 0)⟩,
       ⟨(some 27), none, .mv (.t 1)⟩,
       ⟨(some 28), none, .mv (.t 3)⟩,
       ⟨(some 29), none, .mv (.t 4)⟩,
       ⟨(some 30), none, .bslice false 1 false [(.int .i64 0)] 2 [(0, (.t 28)), (1, (.t 29))]⟩,
       ⟨(some 31), none, .call (.f law53_right_id) [(.t 26), (.t 27), (.t 30)]⟩,
       ⟨(some 32), none, .un .not (.t 31)⟩])
     (.cond (.t 32)
      (.seq none
       (.ops [
         ⟨(some 10), none, .mv (.c (.bool true))⟩])
       .ret)
      .skip))
    (.seq (some ([0, 1, 2, 3, 4, 11], []))
     (.ops [
       ⟨(some 33), none, .mv (.t 0)⟩,
       ⟨(some 34), none, .mv (.t 2)⟩,
       ⟨(some 35), none, .call (.f ref53_Find_id) [(.t 33), (.t 34)]⟩,
       ⟨(some 11), none, .mv (.t 35)⟩])
     (.seq (some ([0, 1, 2, 3, 4, 11, 12, 13, 14], []))
      (.ops [
        ⟨(some 37), none, .mv (.t 0)⟩,
        ⟨(some 38), none, .mv (.t 1)⟩,
        ⟨(some 39), none, .mv (.t 2)⟩,
        ⟨(some 40), none, .mv (.t 3)⟩,
        ⟨(some 41), none, .mv (.t 4)⟩,
        ⟨(some 42), none, .call (.f accounts_Spent_id) [(.t 37), (.t 38), (.t 39), (.t 40), (.t 41)]⟩,
        ⟨(some 36), none, .mv (.t 42)⟩,
        ⟨(some 43), none, .ext (.t 36) 0⟩,
        ⟨(some 44), none, .ext (.t 36) 1⟩,
        ⟨(some 45), none, .ext (.t 36) 2⟩,
        ⟨(some 12), none, .mv (.t 43)⟩,
        ⟨(some 13), none, .mv (.t 44)⟩,
        ⟨(some 14), none, .mv (.t 45)⟩])
      (.seq (some ([0, 1, 2, 3, 4, 11, 12, 13, 14], []))
       (.seq (some ([0, 1, 2, 3, 4, 11, 12, 13, 14, 47], []))
        (.ops [
          ⟨(some 46), none, .mv (.t 11)⟩,
          ⟨(some 47), none, .bin .lss (.t 46) (.c (.int .i64 0))⟩])
        (.cond (.t 47)
         (.seq none
          (.ops [
            ⟨(some 48), none, .mv (.t 14)⟩,
            ⟨(some 49), none, .bin .eql (.t 48) (.c (.int .i64 1))⟩,
            ⟨(some 50), none, .mv (.t 49)⟩,
            ⟨(some 51), (some (50, true)), .mv (.t 12)⟩,
            ⟨(some 52), (some (50, true)), .bin .eql (.t 51) (.c (.int .i64 0))⟩,
            ⟨(some 53), none, .pick (.t 50) (.t 52) (.c (.bool false))⟩,
            ⟨(some 54), none, .mv (.t 53)⟩,
            ⟨(some 55), (some (54, true)), .mv (.t 13)⟩,
            ⟨(some 56), (some (54, true)), .bin .eql (.t 55) (.c (.int .i64 0))⟩,
            ⟨(some 57), none, .pick (.t 54) (.t 56) (.c (.bool false))⟩,
            ⟨(some 10), none, .mv (.t 57)⟩])
          .ret)
         .skip))
       (.seq (some ([0, 1, 2, 3, 4, 12, 13, 14, 15], [15, 20]))
        (.ops [
          ⟨(some 58), none, .mv (.t 0)⟩,
          ⟨(some 59), none, .mv (.t 11)⟩,
          ⟨(some 60), none, .iaddr 8 (.t 58) (.t 59)⟩,
          ⟨(some 61), none, .load true 8 (.t 60)⟩,
          ⟨(some 15), none, .alloc [(.int .i64 0), (.int .i64 0), (.int .i64 0), (.int .i64 0), (.int .i64 0), (.int .i64 0), (.int .i64 0), (.bool false)]⟩,
          ⟨none, none, .store 8 (.t 15) (.t 61)⟩])
        (.seq (some ([0, 1, 2, 3, 4, 12, 13, 14, 15, 16, 17], [15, 20]))
         (.ops [
           ⟨(some 63), none, .mv (.t 0)⟩,
           ⟨(some 64), none, .mv (.t 1)⟩,
           ⟨(some 65), none, .mv (.t 2)⟩,
           ⟨(some 66), none, .mv (.t 3)⟩,
           ⟨(some 67), none, .faddr 4 (.t 15)⟩,
           ⟨(some 68), none, .load false 1 (.t 67)⟩,
           ⟨(some 69), none, .bin .quo (.t 66) (.t 68)⟩,
           ⟨(some 70), none, .mv (.t 4)⟩,
           ⟨(some 71), none, .call (.f accounts_History_id) [(.t 63), (.t 64), (.t 65), (.t 69), (.t 70)]⟩,
           ⟨(some 62), none, .mv (.t 71)⟩,
           ⟨(some 72), none, .ext (.t 62) 0⟩,
           ⟨(some 73), none, .ext (.t 62) 1⟩,
           ⟨(some 16), none, .mv (.t 72)⟩,
           ⟨(some 17), none, .mv (.t 73)⟩])
         (.seq (some ([0, 1, 2, 3, 4, 12, 13, 15, 16], [15, 20]))
          (.seq (some ([0, 1, 2, 3, 4, 12, 13, 15, 16, 79], [15, 20]))
           (.ops [
             ⟨(some 74), none, .mv (.t 14)⟩,
             ⟨(some 75), none, .bin .neq (.t 74) (.c (.int .i64 0))⟩,
             ⟨(some 76), none, .mv (.t 75)⟩,
             ⟨(some 77), (some (76, false)), .mv (.t 17)⟩,
             ⟨(some 78), (some (76, false)), .bin .neq (.t 77) (.c (.int .i64 0))⟩,
             ⟨(some 79), none, .pick (.t 76) (.c (.bool true)) (.t 78)⟩])
           (.cond (.t 79)
            (.seq none
             (.ops [
               ⟨(some 10), none, .mv (.c (.bool false))⟩])
             .ret)
            .skip))
          (.seq (some ([0, 1, 2, 3, 4, 12, 13, 15, 16, 18], [15, 18, 20]))
           (.ops [
             ⟨(some 80), none, .build [(.int .i64 0), (.int .i64 0), (.bool false)] [(2, 1, (.c (.bool true)))]⟩,
             ⟨(some 18), none, .alloc [(.int .i64 0), (.int .i64 0), (.bool false)]⟩,
             ⟨none, none, .store 3 (.t 18) (.t 80)⟩])
           (.seq (some ([12, 13, 15, 18], [15, 18, 20]))
            (.seq (some ([0, 1, 2, 3, 4, 12, 13, 15, 16, 18, 81, 82, 83], [15, 18, 20]))
             (.ops [
               ⟨(some 81), none, .mv (.t 16)⟩,
               ⟨(some 82), none, .blen .slice (.t 81)⟩,
               ⟨(some 83), none, .mv (.c (.int .i64 0))⟩])
             (.block 0
              (.loop law53_AccountsSteps_l0)))
            (.seq none
             (.ops [
               ⟨(some 171), none, .mv (.t 12)⟩,
               ⟨(some 172), none, .faddr 1 (.t 18)⟩,
               ⟨(some 173), none, .load false 1 (.t 172)⟩,
               ⟨(some 174), none, .bin .eql (.t 171) (.t 173)⟩,
               ⟨(some 175), none, .mv (.t 174)⟩,
               ⟨(some 176), (some (175, true)), .faddr 2 (.t 18)⟩,
               ⟨(some 177), (some (175, true)), .load false 1 (.t 176)⟩,
               ⟨(some 178), (some (175, true)), .mv (.t 12)⟩,
               ⟨(some 179), (some (175, true)), .faddr 5 (.t 15)⟩,
               ⟨(some 180), (some (175, true)), .load false 1 (.t 179)⟩,
               ⟨(some 181), (some (175, true)), .bin .leq (.t 178) (.t 180)⟩,
               ⟨(some 182), (some (175, true)), .mv (.t 181)⟩,
               ⟨(some 183), (some (182, true)), .mv (.t 13)⟩,
               ⟨(some 184), (some (182, true)), .faddr 6 (.t 15)⟩,
               ⟨(some 185), (some (182, true)), .load false 1 (.t 184)⟩,
               ⟨(some 186), (some (182, true)), .bin .leq (.t 183) (.t 185)⟩,
               ⟨(some 187), (some (175, true)), .pick (.t 182) (.t 186) (.c (.bool false))⟩,
               ⟨(some 188), (some (175, true)), .eqb false (.t 177) (.t 187)⟩,
               ⟨(some 189), none, .pick (.t 175) (.t 188) (.c (.bool false))⟩,
               ⟨(some 10), none, .mv (.t 189)⟩])
             .ret))))))))))))⟩

def law53_AccountsKinds_l0 : IR :=
 (.seq (some ([1, 2, 3, 4, 11, 12, 13, 14, 41, 42], [40]))
  (.ops [
    ⟨(some 42), none, .bin .lss (.t 41) (.c (.int .i64 16))⟩])
  (.seq (some ([1, 2, 3, 4, 11, 12, 13, 14, 41], [40]))
   (.cond (.t 42)
    .skip
    (.exit 0))
   (.seq (some ([1, 2, 3, 4, 11, 12, 13, 14, 41], [40]))
    (.block 1
     (.seq (some ([1, 2, 3, 4, 11, 12, 13, 14, 15, 41], [40]))
      (.ops [
        ⟨(some 43), none, .mv (.t 41)⟩,
        ⟨(some 15), none, .mv (.t 43)⟩])
      (.seq (some ([1, 2, 3, 4, 11, 12, 13, 14, 41], [40]))
       (.ops [
         ⟨(some 44), none, .mv (.t 14)⟩,
         ⟨(some 45), none, .mv (.t 11)⟩,
         ⟨(some 46), none, .mv (.t 15)⟩,
         ⟨(some 47), none, .iaddr 8 (.t 44) (.t 45)⟩,
         ⟨(some 48), none, .faddr 3 (.t 47)⟩,
         ⟨none, none, .store 1 (.t 48) (.t 46)⟩])
       (.seq (some ([1, 2, 3, 4, 11, 12, 13, 14, 16, 17, 18, 41], [40]))
        (.ops [
          ⟨(some 50), none, .mv (.t 14)⟩,
          ⟨(some 51), none, .mv (.t 1)⟩,
          ⟨(some 52), none, .mv (.t 2)⟩,
          ⟨(some 53), none, .mv (.t 3)⟩,
          ⟨(some 54), none, .mv (.t 4)⟩,
          ⟨(some 55), none, .call (.f accounts_Spent_id) [(.t 50), (.t 51), (.t 52), (.t 53), (.t 54)]⟩,
          ⟨(some 49), none, .mv (.t 55)⟩,
          ⟨(some 56), none, .ext (.t 49) 0⟩,
          ⟨(some 57), none, .ext (.t 49) 1⟩,
          ⟨(some 58), none, .ext (.t 49) 2⟩,
          ⟨(some 16), none, .mv (.t 56)⟩,
          ⟨(some 17), none, .mv (.t 57)⟩,
          ⟨(some 18), none, .mv (.t 58)⟩])
        (.seq (some ([1, 2, 3, 4, 11, 12, 13, 14, 16, 17, 41], [40]))
         (.seq (some ([1, 2, 3, 4, 11, 12, 13, 14, 16, 17, 41, 60], [40]))
          (.ops [
            ⟨(some 59), none, .mv (.t 18)⟩,
            ⟨(some 60), none, .bin .neq (.t 59) (.c (.int .i64 0))⟩])
          (.cond (.t 60)
           (.seq none
            (.ops [
              ⟨(some 10), none, .mv (.c (.bool false))⟩])
            .ret)
           .skip))
         (.ops [
           ⟨(some 61), none, .mv (.t 12)⟩,
           ⟨(some 62), none, .mv (.t 16)⟩,
           ⟨(some 63), none, .bin .add (.t 61) (.t 62)⟩,
           ⟨(some 64), none, .mv (.t 13)⟩,
           ⟨(some 65), none, .mv (.t 17)⟩,
           ⟨(some 66), none, .bin .add (.t 64) (.t 65)⟩,
           ⟨(some 12), none, .mv (.t 63)⟩,
           ⟨(some 13), none, .mv (.t 66)⟩]))))))
    (.ops [
      ⟨(some 67), none, .bin .add (.t 41) (.c (.int .i64 1))⟩,
      ⟨(some 41), none, .mv (.t 67)⟩]))))
/-- signatory/signatorylaw53.AccountsKinds -/
def law53_AccountsKinds : FnIR := ⟨5, 94, [.t 10],
 (.seq (some ([0, 1, 2, 3, 4], []))
  (.ops [
    ⟨(some 10), none, .mv (.c (.bool false))⟩])
  (.seq (some ([0, 1, 2, 3, 4], []))
   (.seq (some ([0, 1, 2, 3, 4, 23], []))
    (.ops [
      ⟨(some 22), none, .call (.f law53_sane_id) []⟩,
      ⟨(some 23), none, .un .not (.t 22)⟩])
    (.cond (.t 23)
     (.seq none
      (.ops [
        ⟨(some 10), none, .mv (.c (.bool false))⟩])
      .ret)
     .skip))
   (.seq (some ([0, 1, 2, 3, 4, 11], []))
    (.ops [
      ⟨(some 24), none, .mv (.t 0)⟩,
      ⟨(some 25), none, .mv (.t 2)⟩,
      ⟨(some 26), none, .call (.f ref53_Find_id) [(.t 24), (.t 25)]⟩,
      ⟨(some 11), none, .mv (.t 26)⟩])
    (.seq (some ([0, 1, 2, 3, 4, 11], []))
     (.seq (some ([0, 1, 2, 3, 4, 11, 37], []))
      (.ops [
        ⟨(some 27), none, .mv (.t 0)⟩,
        ⟨(some 28), none, .mv (.t 1)⟩,
        ⟨(some 29), none, .mv (.t 3)⟩,
        ⟨(some 30), none, .mv (.t 4)⟩,
        ⟨(some 31), none, .bslice false 1 false [(.int .i64 0)] 2 [(0, (.t 29)), (1, (.t 30))]⟩,
        ⟨(some 32), none, .call (.f law53_right_id) [(.t 27), (.t 28), (.t 31)]⟩,
        ⟨(some 33), none, .un .not (.t 32)⟩,
        ⟨(some 34), none, .mv (.t 33)⟩,
        ⟨(some 35), (some (34, false)), .mv (.t 11)⟩,
        ⟨(some 36), (some (34, false)), .bin .lss (.t 35) (.c (.int .i64 0))⟩,
        ⟨(some 37), none, .pick (.t 34) (.c (.bool true)) (.t 36)⟩])
      (.cond (.t 37)
       (.seq none
        (.ops [
          ⟨(some 10), none, .mv (.c (.bool true))⟩])
        .ret)
       .skip))
     (.seq (some ([0, 1, 2, 3, 4, 11, 12, 13], [40]))
      (.ops [
        ⟨(some 12), none, .mv (.c (.int .i64 0))⟩,
        ⟨(some 13), none, .mv (.c (.int .i64 0))⟩])
      (.seq (some ([1, 2, 3, 4, 11, 12, 13, 14], [40]))
       (.ops [
         ⟨(some 38), none, .bslice false 8 true [(.int .i64 0), (.int .i64 0), (.int .i64 0), (.int .i64 0), (.int .i64 0), (.int .i64 0), (.int .i64 0), (.bool false)] 0 []⟩,
         ⟨(some 39), none, .mv (.t 0)⟩,
         ⟨(some 40), none, .append true 8 true 64 (.t 38) (.t 39)⟩,
         ⟨(some 14), none, .mv (.t 40)⟩])
       (.seq (some ([1, 2, 3, 4, 11, 12, 13, 14], [40]))
        (.seq (some ([1, 2, 3, 4, 11, 12, 13, 14, 41], [40]))
         (.ops [
           ⟨(some 41), none, .mv (.c (.int .i64 0))⟩])
         (.block 0
          (.loop law53_AccountsKinds_l0)))
        (.seq (some ([1, 2, 3, 4, 12, 13, 14], [40]))
         (.ops [
           ⟨(some 68), none, .mv (.t 14)⟩,
           ⟨(some 69), none, .mv (.t 11)⟩,
           ⟨(some 70), none, .iaddr 8 (.t 68) (.t 69)⟩,
           ⟨(some 71), none, .faddr 3 (.t 70)⟩,
           ⟨none, none, .store 1 (.t 71) (.c (.int .i64 (-1)))⟩])
         (.seq (some ([12, 13, 19, 20, 21], [40]))
          (.ops [
            ⟨(some 73), none, .mv (.t 14)⟩,
            ⟨(some 74), none, .mv (.t 1)⟩,
            ⟨(some 75), none, .mv (.t 2)⟩,
            ⟨(some 76), none, .mv (.t 3)⟩,
            ⟨(some 77), none, .mv (.t 4)⟩,
            ⟨(some 78), none, .call (.f accounts_Spent_id) [(.t 73), (.t 74), (.t 75), (.t 76), (.t 77)]⟩,
            ⟨(some 72), none, .mv (.t 78)⟩,
            ⟨(some 79), none, .ext (.t 72) 0⟩,
            ⟨(some 80), none, .ext (.t 72) 1⟩,
            ⟨(some 81), none, .ext (.t 72) 2⟩,
            ⟨(some 19), none, .mv (.t 79)⟩,
            ⟨(some 20), none, .mv (.t 80)⟩,
            ⟨(some 21), none, .mv (.t 81)⟩])
          (.seq none
           (.ops [
             ⟨(some 82), none, .mv (.t 21)⟩,
             ⟨(some 83), none, .bin .eql (.t 82) (.c (.int .i64 0))⟩,
             ⟨(some 84), none, .mv (.t 83)⟩,
             ⟨(some 85), (some (84, true)), .mv (.t 19)⟩,
             ⟨(some 86), (some (84, true)), .mv (.t 12)⟩,
             ⟨(some 87), (some (84, true)), .bin .eql (.t 85) (.t 86)⟩,
             ⟨(some 88), none, .pick (.t 84) (.t 87) (.c (.bool false))⟩,
             ⟨(some 89), none, .mv (.t 88)⟩,
             ⟨(some 90), (some (89, true)), .mv (.t 20)⟩,
             ⟨(some 91), (some (89, true)), .mv (.t 13)⟩,
             ⟨(some 92), (some (89, true)), .bin .eql (.t 90) (.t 91)⟩,
             ⟨(some 93), none, .pick (.t 89) (.t 92) (.c (.bool false))⟩,
             ⟨(some 10), none, .mv (.t 93)⟩])
           .ret))))))))))⟩

def law53_AccountsNever_l0 : IR :=
 (.seq (some ([0, 2, 7, 9, 10, 30, 31, 32], [9, 13, 57, 60, 64, 97, 100, 118]))
  (.seq (some ([0, 2, 7, 9, 10, 30, 31, 32, 50], [9, 13, 57, 60, 64, 97, 100, 118]))
   (.ops [
     ⟨(some 38), none, .mv (.t 10)⟩,
     ⟨(some 39), none, .bin .gtr (.t 38) (.c (.int .i64 0))⟩,
     ⟨(some 40), none, .mv (.t 39)⟩,
     ⟨(some 41), (some (40, true)), .mv (.t 7)⟩,
     ⟨(some 42), (some (40, true)), .mv (.t 10)⟩,
     ⟨(some 43), (some (40, true)), .bin .sub (.t 42) (.c (.int .i64 1))⟩,
     ⟨(some 44), (some (40, true)), .iaddr 5 (.t 41) (.t 43)⟩,
     ⟨(some 45), (some (40, true)), .faddr 3 (.t 44)⟩,
     ⟨(some 46), (some (40, true)), .load false 1 (.t 45)⟩,
     ⟨(some 47), (some (40, true)), .faddr 3 (.t 9)⟩,
     ⟨(some 48), (some (40, true)), .load false 1 (.t 47)⟩,
     ⟨(some 49), (some (40, true)), .bin .gtr (.t 46) (.t 48)⟩,
     ⟨(some 50), none, .pick (.t 40) (.t 49) (.c (.bool false))⟩])
   (.cond (.t 50)
    .skip
    (.exit 2)))
  (.block 3
   (.ops [
     ⟨(some 51), none, .mv (.t 10)⟩,
     ⟨(some 52), none, .bin .sub (.t 51) (.c (.int .i64 1))⟩,
     ⟨(some 10), none, .mv (.t 52)⟩])))
def law53_AccountsNever_l1 : IR :=
 (.seq (some ([0, 2, 7, 30, 31, 32, 33], [9, 13, 57, 60, 64, 97, 100, 118]))
  (.ops [
    ⟨(some 33), none, .bin .lss (.t 32) (.t 31)⟩])
  (.seq (some ([0, 2, 7, 30, 31, 32], [9, 13, 57, 60, 64, 97, 100, 118]))
   (.cond (.t 33)
    .skip
    (.exit 0))
   (.seq (some ([0, 2, 7, 30, 31, 32], [9, 13, 57, 60, 64, 97, 100, 118]))
    (.block 1
     (.seq (some ([0, 2, 7, 9, 30, 31, 32], [9, 13, 57, 60, 64, 97, 100, 118]))
      (.ops [
        ⟨(some 34), none, .iaddr 5 (.t 30) (.t 32)⟩,
        ⟨(some 35), none, .load true 5 (.t 34)⟩,
        ⟨(some 9), none, .alloc [(.int .i64 0), (.int .i64 0), (.int .i64 0), (.int .i64 0), (.int .i64 0)]⟩,
        ⟨none, none, .store 5 (.t 9) (.t 35)⟩])
      (.seq (some ([0, 2, 7, 9, 10, 30, 31, 32], [9, 13, 57, 60, 64, 97, 100, 118]))
       (.ops [
         ⟨(some 36), none, .mv (.t 7)⟩,
         ⟨(some 37), none, .blen .slice (.t 36)⟩,
         ⟨(some 10), none, .mv (.t 37)⟩])
       (.seq (some ([0, 2, 7, 9, 10, 30, 31, 32], [9, 13, 57, 60, 64, 97, 100, 118]))
        (.block 2
         (.loop law53_AccountsNever_l0))
        (.draw [
          ⟨0, false, ⟨(some 53), none, .bslice false 5 true [(.int .i64 0), (.int .i64 0), (.int .i64 0), (.int .i64 0), (.int .i64 0)] 0 []⟩⟩,
          ⟨1, false, ⟨(some 54), none, .mv (.t 7)⟩⟩,
          ⟨2, false, ⟨(some 55), none, .mv (.t 10)⟩⟩,
          ⟨3, false, ⟨(some 56), none, .slice 5 (.t 54) none (some (.t 55)) none⟩⟩,
          ⟨5, true, ⟨(some 58), none, .load true 5 (.t 9)⟩⟩,
          ⟨6, true, ⟨(some 59), none, .bslice false 5 true [(.int .i64 0), (.int .i64 0), (.int .i64 0), (.int .i64 0), (.int .i64 0)] 1 [(0, (.t 58))]⟩⟩,
          ⟨8, true, ⟨(some 61), none, .mv (.t 7)⟩⟩,
          ⟨9, true, ⟨(some 62), none, .mv (.t 10)⟩⟩,
          ⟨10, true, ⟨(some 63), none, .slice 5 (.t 61) (some (.t 62)) none none⟩⟩,
          ⟨4, false, ⟨(some 57), none, .append false 5 true 40 (.t 53) (.t 56)⟩⟩,
          ⟨7, false, ⟨(some 60), none, .append false 5 true 40 (.t 57) (.t 59)⟩⟩,
          ⟨11, false, ⟨(some 64), none, .append false 5 true 40 (.t 60) (.t 63)⟩⟩,
          ⟨12, false, ⟨(some 7), none, .mv (.t 64)⟩⟩])))))
    (.ops [
      ⟨(some 65), none, .bin .add (.t 32) (.c (.int .i64 1))⟩,
      ⟨(some 32), none, .mv (.t 65)⟩]))))
def law53_AccountsNever_l2 : IR :=
 (.seq (some ([0, 2, 11, 66, 67, 68, 69], [9, 13, 57, 60, 64, 97, 100, 118]))
  (.ops [
    ⟨(some 69), none, .bin .lss (.t 68) (.t 67)⟩])
  (.seq (some ([0, 2, 11, 66, 67, 68], [9, 13, 57, 60, 64, 97, 100, 118]))
   (.cond (.t 69)
    .skip
    (.exit 4))
   (.seq (some ([0, 2, 11, 66, 67, 68], [9, 13, 57, 60, 64, 97, 100, 118]))
    (.block 5
     (.seq (some ([0, 2, 11, 13, 66, 67, 68], [9, 13, 57, 60, 64, 97, 100, 118]))
      (.ops [
        ⟨(some 70), none, .iaddr 5 (.t 66) (.t 68)⟩,
        ⟨(some 71), none, .load true 5 (.t 70)⟩,
        ⟨(some 13), none, .alloc [(.int .i64 0), (.int .i64 0), (.int .i64 0), (.int .i64 0), (.int .i64 0)]⟩,
        ⟨none, none, .store 5 (.t 13) (.t 71)⟩])
      (.seq (some ([0, 2, 11, 13, 66, 67, 68], [9, 13, 57, 60, 64, 97, 100, 118]))
       (.ops [
         ⟨(some 72), none, .faddr 4 (.t 13)⟩,
         ⟨(some 73), none, .load false 1 (.t 72)⟩,
         ⟨(some 74), none, .mv (.t 2)⟩,
         ⟨(some 75), none, .mnmx false [(.t 73), (.t 74)]⟩,
         ⟨(some 76), none, .faddr 4 (.t 13)⟩,
         ⟨none, none, .store 1 (.t 76) (.t 75)⟩])
       (.seq (some ([0, 2, 11, 13, 15, 16, 66, 67, 68], [9, 13, 57, 60, 64, 97, 100, 118]))
        (.ops [
          ⟨(some 78), none, .mv (.t 0)⟩,
          ⟨(some 79), none, .mv (.t 11)⟩,
          ⟨(some 80), none, .faddr 1 (.t 13)⟩,
          ⟨(some 81), none, .load false 1 (.t 80)⟩,
          ⟨(some 82), none, .faddr 2 (.t 13)⟩,
          ⟨(some 83), none, .load false 1 (.t 82)⟩,
          ⟨(some 84), none, .faddr 3 (.t 13)⟩,
          ⟨(some 85), none, .load false 1 (.t 84)⟩,
          ⟨(some 86), none, .mv (.t 2)⟩,
          ⟨(some 87), none, .call (.f budgets_Room_id) [(.t 78), (.t 79), (.t 81), (.t 83), (.t 85), (.t 86)]⟩,
          ⟨(some 77), none, .mv (.t 87)⟩,
          ⟨(some 88), none, .ext (.t 77) 0⟩,
          ⟨(some 89), none, .ext (.t 77) 1⟩,
          ⟨(some 90), none, .ext (.t 77) 2⟩,
          ⟨(some 14), none, .mv (.t 88)⟩,
          ⟨(some 15), none, .mv (.t 89)⟩,
          ⟨(some 16), none, .mv (.t 90)⟩])
        (.seq (some ([0, 2, 11, 13, 15, 66, 67, 68], [9, 13, 57, 60, 64, 97, 100, 118]))
         (.seq (some ([0, 2, 11, 13, 15, 66, 67, 68, 92], [9, 13, 57, 60, 64, 97, 100, 118]))
          (.ops [
            ⟨(some 91), none, .mv (.t 16)⟩,
            ⟨(some 92), none, .bin .neq (.t 91) (.c (.int .i64 0))⟩])
          (.cond (.t 92)
           (.seq none
            (.ops [
              ⟨(some 6), none, .mv (.c (.bool false))⟩])
            .ret)
           .skip))
         (.seq (some ([0, 2, 11, 13, 66, 67, 68], [9, 13, 57, 60, 64, 97, 100, 118]))
          (.seq (some ([0, 2, 11, 13, 66, 67, 68, 94], [9, 13, 57, 60, 64, 97, 100, 118]))
           (.ops [
             ⟨(some 93), none, .mv (.t 15)⟩,
             ⟨(some 94), none, .un .not (.t 93)⟩])
           (.cond (.t 94)
            (.seq (some ([0, 2, 11, 17, 66, 67, 68], [9, 13, 57, 60, 64, 97, 100, 118]))
             (.draw [
               ⟨0, false, ⟨(some 95), none, .bslice false 5 true [(.int .i64 0), (.int .i64 0), (.int .i64 0), (.int .i64 0), (.int .i64 0)] 0 []⟩⟩,
               ⟨1, false, ⟨(some 96), none, .mv (.t 11)⟩⟩,
               ⟨3, true, ⟨(some 98), none, .load true 5 (.t 13)⟩⟩,
               ⟨4, true, ⟨(some 99), none, .bslice false 5 true [(.int .i64 0), (.int .i64 0), (.int .i64 0), (.int .i64 0), (.int .i64 0)] 1 [(0, (.t 98))]⟩⟩,
               ⟨2, false, ⟨(some 97), none, .append false 5 true 40 (.t 95) (.t 96)⟩⟩,
               ⟨5, false, ⟨(some 100), none, .append false 5 true 40 (.t 97) (.t 99)⟩⟩,
               ⟨6, false, ⟨(some 17), none, .mv (.t 100)⟩⟩])
             (.seq (some ([0, 2, 11, 18, 19, 66, 67, 68], [9, 13, 57, 60, 64, 97, 100, 118]))
              (.ops [
                ⟨(some 102), none, .mv (.t 0)⟩,
                ⟨(some 103), none, .mv (.t 17)⟩,
                ⟨(some 104), none, .mv (.t 2)⟩,
                ⟨(some 105), none, .call (.f accounts_Over_id) [(.t 102), (.t 103), (.t 104)]⟩,
                ⟨(some 101), none, .mv (.t 105)⟩,
                ⟨(some 106), none, .ext (.t 101) 0⟩,
                ⟨(some 107), none, .ext (.t 101) 1⟩,
                ⟨(some 18), none, .mv (.t 106)⟩,
                ⟨(some 19), none, .mv (.t 107)⟩])
              (.seq (some ([0, 2, 11, 66, 67, 68], [9, 13, 57, 60, 64, 97, 100, 118]))
               (.seq (some ([0, 2, 11, 66, 67, 68, 114], [9, 13, 57, 60, 64, 97, 100, 118]))
                (.ops [
                  ⟨(some 108), none, .mv (.t 19)⟩,
                  ⟨(some 109), none, .bin .neq (.t 108) (.c (.int .i64 0))⟩,
                  ⟨(some 110), none, .mv (.t 109)⟩,
                  ⟨(some 111), (some (110, false)), .mv (.t 18)⟩,
                  ⟨(some 112), (some (110, false)), .blen .slice (.t 111)⟩,
                  ⟨(some 113), (some (110, false)), .bin .eql (.t 112) (.c (.int .i64 0))⟩,
                  ⟨(some 114), none, .pick (.t 110) (.c (.bool true)) (.t 113)⟩])
                (.cond (.t 114)
                 (.seq none
                  (.ops [
                    ⟨(some 6), none, .mv (.c (.bool false))⟩])
                  .ret)
                 .skip))
               (.exit 5))))
            .skip))
          (.seq (some ([0, 2, 11, 66, 67, 68], [9, 13, 57, 60, 64, 97, 100, 118]))
           (.ops [
             ⟨(some 115), none, .mv (.t 11)⟩,
             ⟨(some 116), none, .load true 5 (.t 13)⟩,
             ⟨(some 117), none, .bslice false 5 true [(.int .i64 0), (.int .i64 0), (.int .i64 0), (.int .i64 0), (.int .i64 0)] 1 [(0, (.t 116))]⟩,
             ⟨(some 118), none, .append false 5 true 40 (.t 115) (.t 117)⟩,
             ⟨(some 11), none, .mv (.t 118)⟩])
           (.seq (some ([0, 2, 11, 20, 21, 66, 67, 68], [9, 13, 57, 60, 64, 97, 100, 118]))
            (.ops [
              ⟨(some 120), none, .mv (.t 0)⟩,
              ⟨(some 121), none, .mv (.t 11)⟩,
              ⟨(some 122), none, .mv (.t 2)⟩,
              ⟨(some 123), none, .call (.f accounts_Over_id) [(.t 120), (.t 121), (.t 122)]⟩,
              ⟨(some 119), none, .mv (.t 123)⟩,
              ⟨(some 124), none, .ext (.t 119) 0⟩,
              ⟨(some 125), none, .ext (.t 119) 1⟩,
              ⟨(some 20), none, .mv (.t 124)⟩,
              ⟨(some 21), none, .mv (.t 125)⟩])
            (.seq (some ([0, 2, 11, 66, 67, 68, 132], [9, 13, 57, 60, 64, 97, 100, 118]))
             (.ops [
               ⟨(some 126), none, .mv (.t 21)⟩,
               ⟨(some 127), none, .bin .neq (.t 126) (.c (.int .i64 0))⟩,
               ⟨(some 128), none, .mv (.t 127)⟩,
               ⟨(some 129), (some (128, false)), .mv (.t 20)⟩,
               ⟨(some 130), (some (128, false)), .blen .slice (.t 129)⟩,
               ⟨(some 131), (some (128, false)), .bin .neq (.t 130) (.c (.int .i64 0))⟩,
               ⟨(some 132), none, .pick (.t 128) (.c (.bool true)) (.t 131)⟩])
             (.cond (.t 132)
              (.seq none
               (.ops [
                 ⟨(some 6), none, .mv (.c (.bool false))⟩])
               .ret)
              .skip))))))))))
    (.ops [
      ⟨(some 133), none, .bin .add (.t 68) (.c (.int .i64 1))⟩,
      ⟨(some 68), none, .mv (.t 133)⟩]))))
/-- signatory/signatorylaw53.AccountsNever -/
def law53_AccountsNever : FnIR := ⟨3, 134, [.t 6],
 (.seq (some ([0, 1, 2], []))
  (.ops [
    ⟨(some 6), none, .mv (.c (.bool false))⟩])
  (.seq (some ([0, 1, 2], []))
   (.seq (some ([0, 1, 2, 23], []))
    (.ops [
      ⟨(some 22), none, .call (.f law53_sane_id) []⟩,
      ⟨(some 23), none, .un .not (.t 22)⟩])
    (.cond (.t 23)
     (.seq none
      (.ops [
        ⟨(some 6), none, .mv (.c (.bool false))⟩])
      .ret)
     .skip))
   (.seq (some ([0, 1, 2], []))
    (.seq (some ([0, 1, 2, 29], []))
     (.ops [
       ⟨(some 24), none, .mv (.t 0)⟩,
       ⟨(some 25), none, .mv (.t 1)⟩,
       ⟨(some 26), none, .mv (.t 2)⟩,
       ⟨(some 27), none, .bslice false 1 false [(.int .i64 0)] 1 [(0, (.t 26))]⟩,
       ⟨(some 28), none, .call (.f law53_right_id) [(.t 24), (.t 25), (.t 27)]⟩,
       ⟨(some 29), none, .un .not (.t 28)⟩])
     (.cond (.t 29)
      (.seq none
       (.ops [
         ⟨(some 6), none, .mv (.c (.bool true))⟩])
       .ret)
      .skip))
    (.seq (some ([0, 1, 2, 7], [9, 13, 57, 60, 64, 97, 100, 118]))
     (.ops [
       ⟨(some 7), none, .mv (.c (.list [] true))⟩])
     (.seq (some ([0, 2, 7], [9, 13, 57, 60, 64, 97, 100, 118]))
      (.seq (some ([0, 2, 7, 30, 31, 32], [9, 13, 57, 60, 64, 97, 100, 118]))
       (.ops [
         ⟨(some 30), none, .mv (.t 1)⟩,
         ⟨(some 31), none, .blen .slice (.t 30)⟩,
         ⟨(some 32), none, .mv (.c (.int .i64 0))⟩])
       (.block 0
        (.loop law53_AccountsNever_l1)))
      (.seq (some ([0, 2, 7, 11], [9, 13, 57, 60, 64, 97, 100, 118]))
       (.ops [
         ⟨(some 11), none, .mv (.c (.list [] true))⟩])
       (.seq (some ([], []))
        (.seq (some ([0, 2, 11, 66, 67, 68], [9, 13, 57, 60, 64, 97, 100, 118]))
         (.ops [
           ⟨(some 66), none, .mv (.t 7)⟩,
           ⟨(some 67), none, .blen .slice (.t 66)⟩,
           ⟨(some 68), none, .mv (.c (.int .i64 0))⟩])
         (.block 4
          (.loop law53_AccountsNever_l2)))
        (.seq none
         (.ops [
           ⟨(some 6), none, .mv (.c (.bool true))⟩])
         .ret))))))))⟩

/-- signatory/signatorylaw53.sane -/
def law53_sane : FnIR := ⟨0, 220, [.t 0],
 (.seq (some ([], []))
  (.ops [
    ⟨(some 0), none, .mv (.c (.bool false))⟩])
  (.seq (some ([1], []))
   (.ops [
     ⟨(some 35), none, .build [(.int .i64 0), (.int .i64 0), (.int .i64 0), (.int .i64 0), (.int .i64 0), (.int .i64 0), (.int .i64 0), (.bool false)] [(0, 1, (.c (.int .i64 3))), (3, 1, (.c (.int .i64 1))), (4, 1, (.c (.int .i64 10))), (5, 1, (.c (.int .i64 2))), (6, 1, (.c (.int .i64 100)))]⟩,
     ⟨(some 36), none, .build [(.int .i64 0), (.int .i64 0), (.int .i64 0), (.int .i64 0), (.int .i64 0), (.int .i64 0), (.int .i64 0), (.bool false)] [(0, 1, (.c (.int .i64 4))), (1, 1, (.c (.int .i64 0))), (2, 1, (.c (.int .i64 50))), (3, 1, (.c (.int .i64 1))), (4, 1, (.c (.int .i64 10))), (5, 1, (.c (.int .i64 1))), (6, 1, (.c (.int .i64 100)))]⟩,
     ⟨(some 37), none, .build [(.int .i64 0), (.int .i64 0), (.int .i64 0), (.int .i64 0), (.int .i64 0), (.int .i64 0), (.int .i64 0), (.bool false)] [(0, 1, (.c (.int .i64 9))), (3, 1, (.c (.int .i64 2))), (4, 1, (.c (.int .i64 7))), (7, 1, (.c (.bool true)))]⟩,
     ⟨(some 38), none, .bslice false 8 true [(.int .i64 0), (.int .i64 0), (.int .i64 0), (.int .i64 0), (.int .i64 0), (.int .i64 0), (.int .i64 0), (.bool false)] 3 [(0, (.t 35)), (1, (.t 36)), (2, (.t 37))]⟩,
     ⟨(some 1), none, .mv (.t 38)⟩])
   (.seq (some ([1, 2], []))
    (.ops [
      ⟨(some 39), none, .build [(.int .i64 0), (.int .i64 0), (.int .i64 0), (.int .i64 0), (.int .i64 0)] [(0, 1, (.c (.int .i64 1))), (1, 1, (.c (.int .i64 1))), (2, 1, (.c (.int .i64 60))), (3, 1, (.c (.int .i64 12)))]⟩,
      ⟨(some 40), none, .build [(.int .i64 0), (.int .i64 0), (.int .i64 0), (.int .i64 0), (.int .i64 0)] [(0, 1, (.c (.int .i64 2))), (1, 1, (.c (.int .i64 1))), (2, 1, (.c (.int .i64 30))), (3, 1, (.c (.int .i64 15)))]⟩,
      ⟨(some 41), none, .build [(.int .i64 0), (.int .i64 0), (.int .i64 0), (.int .i64 0), (.int .i64 0)] [(0, 1, (.c (.int .i64 3))), (1, 1, (.c (.int .i64 2))), (2, 1, (.c (.int .i64 5))), (3, 1, (.c (.int .i64 15)))]⟩,
      ⟨(some 42), none, .build [(.int .i64 0), (.int .i64 0), (.int .i64 0), (.int .i64 0), (.int .i64 0)] [(0, 1, (.c (.int .i64 5))), (1, 1, (.c (.int .i64 1))), (2, 1, (.c (.int .i64 1))), (3, 1, (.c (.int .i64 21))), (4, 1, (.c (.int .i64 30)))]⟩,
      ⟨(some 43), none, .bslice false 5 true [(.int .i64 0), (.int .i64 0), (.int .i64 0), (.int .i64 0), (.int .i64 0)] 4 [(0, (.t 39)), (1, (.t 40)), (2, (.t 41)), (3, (.t 42))]⟩,
      ⟨(some 2), none, .mv (.t 43)⟩])
    (.seq (some ([1, 2, 5], []))
     (.ops [
       ⟨(some 45), none, .call (.f accounts_Spent_id) [(.c (.list [] true)), (.c (.list [] true)), (.c (.int .i64 0)), (.c (.int .i64 0)), (.c (.int .i64 0))]⟩,
       ⟨(some 44), none, .mv (.t 45)⟩,
       ⟨(some 46), none, .ext (.t 44) 0⟩,
       ⟨(some 47), none, .ext (.t 44) 1⟩,
       ⟨(some 48), none, .ext (.t 44) 2⟩,
       ⟨(some 3), none, .mv (.t 46)⟩,
       ⟨(some 4), none, .mv (.t 47)⟩,
       ⟨(some 5), none, .mv (.t 48)⟩])
     (.seq (some ([1, 2, 5, 6, 7], []))
      (.ops [
        ⟨(some 50), none, .call (.f accounts_Over_id) [(.c (.list [] true)), (.c (.list [] true)), (.c (.int .i64 0))]⟩,
        ⟨(some 49), none, .mv (.t 50)⟩,
        ⟨(some 51), none, .ext (.t 49) 0⟩,
        ⟨(some 52), none, .ext (.t 49) 1⟩,
        ⟨(some 6), none, .mv (.t 51)⟩,
        ⟨(some 7), none, .mv (.t 52)⟩])
      (.seq (some ([1, 2, 5, 6, 7, 8, 9], []))
       (.ops [
         ⟨(some 54), none, .mv (.t 1)⟩,
         ⟨(some 55), none, .call (.f accounts_History_id) [(.t 54), (.c (.list [] true)), (.c (.int .i64 3)), (.c (.int .i64 0)), (.c (.int .i64 0))]⟩,
         ⟨(some 53), none, .mv (.t 55)⟩,
         ⟨(some 56), none, .ext (.t 53) 0⟩,
         ⟨(some 57), none, .ext (.t 53) 1⟩,
         ⟨(some 8), none, .mv (.t 56)⟩,
         ⟨(some 9), none, .mv (.t 57)⟩])
       (.seq (some ([1, 2, 5, 6, 7, 8, 9, 11], []))
        (.ops [
          ⟨(some 59), none, .build [(.int .i64 0), (.int .i64 0), (.int .i64 0), (.int .i64 0), (.int .i64 0)] [(1, 1, (.c (.int .i64 16)))]⟩,
          ⟨(some 60), none, .bslice false 5 true [(.int .i64 0), (.int .i64 0), (.int .i64 0), (.int .i64 0), (.int .i64 0)] 1 [(0, (.t 59))]⟩,
          ⟨(some 61), none, .call (.f accounts_Over_id) [(.c (.list [] true)), (.t 60), (.c (.int .i64 0))]⟩,
          ⟨(some 58), none, .mv (.t 61)⟩,
          ⟨(some 62), none, .ext (.t 58) 0⟩,
          ⟨(some 63), none, .ext (.t 58) 1⟩,
          ⟨(some 10), none, .mv (.t 62)⟩,
          ⟨(some 11), none, .mv (.t 63)⟩])
        (.seq (some ([1, 2, 5, 6, 7, 8, 9, 11, 12, 13, 14], []))
         (.ops [
           ⟨(some 65), none, .mv (.t 1)⟩,
           ⟨(some 66), none, .mv (.t 2)⟩,
           ⟨(some 67), none, .call (.f accounts_Spent_id) [(.t 65), (.t 66), (.c (.int .i64 3)), (.c (.int .i64 19)), (.c (.int .i64 0))]⟩,
           ⟨(some 64), none, .mv (.t 67)⟩,
           ⟨(some 68), none, .ext (.t 64) 0⟩,
           ⟨(some 69), none, .ext (.t 64) 1⟩,
           ⟨(some 70), none, .ext (.t 64) 2⟩,
           ⟨(some 12), none, .mv (.t 68)⟩,
           ⟨(some 13), none, .mv (.t 69)⟩,
           ⟨(some 14), none, .mv (.t 70)⟩])
         (.seq (some ([1, 2, 5, 6, 7, 8, 9, 11, 12, 13, 14, 15, 16, 17], []))
          (.ops [
            ⟨(some 72), none, .mv (.t 1)⟩,
            ⟨(some 73), none, .mv (.t 2)⟩,
            ⟨(some 74), none, .call (.f accounts_Spent_id) [(.t 72), (.t 73), (.c (.int .i64 3)), (.c (.int .i64 14)), (.c (.int .i64 0))]⟩,
            ⟨(some 71), none, .mv (.t 74)⟩,
            ⟨(some 75), none, .ext (.t 71) 0⟩,
            ⟨(some 76), none, .ext (.t 71) 1⟩,
            ⟨(some 77), none, .ext (.t 71) 2⟩,
            ⟨(some 15), none, .mv (.t 75)⟩,
            ⟨(some 16), none, .mv (.t 76)⟩,
            ⟨(some 17), none, .mv (.t 77)⟩])
          (.seq (some ([1, 2, 5, 6, 7, 8, 9, 11, 12, 13, 14, 15, 16, 17, 18, 20], []))
           (.ops [
             ⟨(some 79), none, .mv (.t 1)⟩,
             ⟨(some 80), none, .mv (.t 2)⟩,
             ⟨(some 81), none, .call (.f accounts_Spent_id) [(.t 79), (.t 80), (.c (.int .i64 3)), (.c (.int .i64 25)), (.c (.int .i64 29))]⟩,
             ⟨(some 78), none, .mv (.t 81)⟩,
             ⟨(some 82), none, .ext (.t 78) 0⟩,
             ⟨(some 83), none, .ext (.t 78) 1⟩,
             ⟨(some 84), none, .ext (.t 78) 2⟩,
             ⟨(some 18), none, .mv (.t 82)⟩,
             ⟨(some 19), none, .mv (.t 83)⟩,
             ⟨(some 20), none, .mv (.t 84)⟩])
           (.seq (some ([1, 2, 5, 6, 7, 8, 9, 11, 12, 13, 14, 15, 16, 17, 18, 20, 21, 23], []))
            (.ops [
              ⟨(some 86), none, .mv (.t 1)⟩,
              ⟨(some 87), none, .mv (.t 2)⟩,
              ⟨(some 88), none, .call (.f accounts_Spent_id) [(.t 86), (.t 87), (.c (.int .i64 3)), (.c (.int .i64 25)), (.c (.int .i64 30))]⟩,
              ⟨(some 85), none, .mv (.t 88)⟩,
              ⟨(some 89), none, .ext (.t 85) 0⟩,
              ⟨(some 90), none, .ext (.t 85) 1⟩,
              ⟨(some 91), none, .ext (.t 85) 2⟩,
              ⟨(some 21), none, .mv (.t 89)⟩,
              ⟨(some 22), none, .mv (.t 90)⟩,
              ⟨(some 23), none, .mv (.t 91)⟩])
            (.seq (some ([1, 2, 5, 6, 7, 8, 9, 11, 12, 13, 14, 15, 16, 17, 18, 20, 21, 23, 24, 25], []))
             (.ops [
               ⟨(some 93), none, .mv (.t 1)⟩,
               ⟨(some 94), none, .mv (.t 2)⟩,
               ⟨(some 95), none, .call (.f accounts_Over_id) [(.t 93), (.t 94), (.c (.int .i64 49))]⟩,
               ⟨(some 92), none, .mv (.t 95)⟩,
               ⟨(some 96), none, .ext (.t 92) 0⟩,
               ⟨(some 97), none, .ext (.t 92) 1⟩,
               ⟨(some 24), none, .mv (.t 96)⟩,
               ⟨(some 25), none, .mv (.t 97)⟩])
             (.seq (some ([1, 2, 5, 6, 7, 8, 9, 11, 12, 13, 14, 15, 16, 17, 18, 20, 21, 23, 24, 25, 26, 27], []))
              (.ops [
                ⟨(some 99), none, .mv (.t 1)⟩,
                ⟨(some 100), none, .mv (.t 2)⟩,
                ⟨(some 101), none, .call (.f accounts_Over_id) [(.t 99), (.t 100), (.c (.int .i64 50))]⟩,
                ⟨(some 98), none, .mv (.t 101)⟩,
                ⟨(some 102), none, .ext (.t 98) 0⟩,
                ⟨(some 103), none, .ext (.t 98) 1⟩,
                ⟨(some 26), none, .mv (.t 102)⟩,
                ⟨(some 27), none, .mv (.t 103)⟩])
              (.seq (some ([1, 2, 5, 6, 7, 8, 9, 11, 12, 13, 14, 15, 16, 17, 18, 20, 21, 23, 24, 25, 26, 27, 28, 29], []))
               (.ops [
                 ⟨(some 105), none, .mv (.t 1)⟩,
                 ⟨(some 106), none, .mv (.t 2)⟩,
                 ⟨(some 107), none, .call (.f accounts_History_id) [(.t 105), (.t 106), (.c (.int .i64 4)), (.c (.int .i64 1)), (.c (.int .i64 0))]⟩,
                 ⟨(some 104), none, .mv (.t 107)⟩,
                 ⟨(some 108), none, .ext (.t 104) 0⟩,
                 ⟨(some 109), none, .ext (.t 104) 1⟩,
                 ⟨(some 28), none, .mv (.t 108)⟩,
                 ⟨(some 29), none, .mv (.t 109)⟩])
               (.seq (some ([1, 2, 5, 6, 7, 8, 9, 11, 12, 13, 14, 15, 16, 17, 18, 20, 21, 23, 24, 25, 26, 27, 28, 29, 32], []))
                (.ops [
                  ⟨(some 111), none, .mv (.t 1)⟩,
                  ⟨(some 112), none, .mv (.t 2)⟩,
                  ⟨(some 113), none, .call (.f accounts_Spent_id) [(.t 111), (.t 112), (.c (.int .i64 9)), (.c (.int .i64 0)), (.c (.int .i64 0))]⟩,
                  ⟨(some 110), none, .mv (.t 113)⟩,
                  ⟨(some 114), none, .ext (.t 110) 0⟩,
                  ⟨(some 115), none, .ext (.t 110) 1⟩,
                  ⟨(some 116), none, .ext (.t 110) 2⟩,
                  ⟨(some 30), none, .mv (.t 114)⟩,
                  ⟨(some 31), none, .mv (.t 115)⟩,
                  ⟨(some 32), none, .mv (.t 116)⟩])
                (.seq (some ([5, 6, 7, 8, 9, 11, 12, 13, 14, 15, 16, 17, 18, 20, 21, 23, 24, 25, 26, 27, 28, 29, 32, 34], []))
                 (.ops [
                   ⟨(some 118), none, .mv (.t 1)⟩,
                   ⟨(some 119), none, .mv (.t 2)⟩,
                   ⟨(some 120), none, .call (.f accounts_History_id) [(.t 118), (.t 119), (.c (.int .i64 3)), (.c (.int .i64 109951162778)), (.c (.int .i64 0))]⟩,
                   ⟨(some 117), none, .mv (.t 120)⟩,
                   ⟨(some 121), none, .ext (.t 117) 0⟩,
                   ⟨(some 122), none, .ext (.t 117) 1⟩,
                   ⟨(some 33), none, .mv (.t 121)⟩,
                   ⟨(some 34), none, .mv (.t 122)⟩])
                 (.seq (some ([6, 8, 12, 13, 15, 16, 18, 21, 24, 26, 28], []))
                  (.seq (some ([6, 8, 12, 13, 15, 16, 18, 21, 24, 26, 28, 172], []))
                   (.ops [
                     ⟨(some 123), none, .mv (.t 5)⟩,
                     ⟨(some 124), none, .bin .neq (.t 123) (.c (.int .i64 1))⟩,
                     ⟨(some 125), none, .mv (.t 124)⟩,
                     ⟨(some 126), (some (125, false)), .mv (.t 7)⟩,
                     ⟨(some 127), (some (125, false)), .bin .neq (.t 126) (.c (.int .i64 0))⟩,
                     ⟨(some 128), none, .pick (.t 125) (.c (.bool true)) (.t 127)⟩,
                     ⟨(some 129), none, .mv (.t 128)⟩,
                     ⟨(some 130), (some (129, false)), .mv (.t 9)⟩,
                     ⟨(some 131), (some (129, false)), .bin .neq (.t 130) (.c (.int .i64 0))⟩,
                     ⟨(some 132), none, .pick (.t 129) (.c (.bool true)) (.t 131)⟩,
                     ⟨(some 133), none, .mv (.t 132)⟩,
                     ⟨(some 134), (some (133, false)), .mv (.t 11)⟩,
                     ⟨(some 135), (some (133, false)), .bin .neq (.t 134) (.c (.int .i64 180))⟩,
                     ⟨(some 136), none, .pick (.t 133) (.c (.bool true)) (.t 135)⟩,
                     ⟨(some 137), none, .mv (.t 136)⟩,
                     ⟨(some 138), (some (137, false)), .mv (.t 14)⟩,
                     ⟨(some 139), (some (137, false)), .bin .neq (.t 138) (.c (.int .i64 0))⟩,
                     ⟨(some 140), none, .pick (.t 137) (.c (.bool true)) (.t 139)⟩,
                     ⟨(some 141), none, .mv (.t 140)⟩,
                     ⟨(some 142), (some (141, false)), .mv (.t 17)⟩,
                     ⟨(some 143), (some (141, false)), .bin .neq (.t 142) (.c (.int .i64 0))⟩,
                     ⟨(some 144), none, .pick (.t 141) (.c (.bool true)) (.t 143)⟩,
                     ⟨(some 145), none, .mv (.t 144)⟩,
                     ⟨(some 146), (some (145, false)), .mv (.t 20)⟩,
                     ⟨(some 147), (some (145, false)), .bin .neq (.t 146) (.c (.int .i64 0))⟩,
                     ⟨(some 148), none, .pick (.t 145) (.c (.bool true)) (.t 147)⟩,
                     ⟨(some 149), none, .mv (.t 148)⟩,
                     ⟨(some 150), (some (149, false)), .mv (.t 23)⟩,
                     ⟨(some 151), (some (149, false)), .bin .neq (.t 150) (.c (.int .i64 0))⟩,
                     ⟨(some 152), none, .pick (.t 149) (.c (.bool true)) (.t 151)⟩,
                     ⟨(some 153), none, .mv (.t 152)⟩,
                     ⟨(some 154), (some (153, false)), .mv (.t 25)⟩,
                     ⟨(some 155), (some (153, false)), .bin .neq (.t 154) (.c (.int .i64 0))⟩,
                     ⟨(some 156), none, .pick (.t 153) (.c (.bool true)) (.t 155)⟩,
                     ⟨(some 157), none, .mv (.t 156)⟩,
                     ⟨(some 158), (some (157, false)), .mv (.t 27)⟩,
                     ⟨(some 159), (some (157, false)), .bin .neq (.t 158) (.c (.int .i64 0))⟩,
                     ⟨(some 160), none, .pick (.t 157) (.c (.bool true)) (.t 159)⟩,
                     ⟨(some 161), none, .mv (.t 160)⟩,
                     ⟨(some 162), (some (161, false)), .mv (.t 29)⟩,
                     ⟨(some 163), (some (161, false)), .bin .neq (.t 162) (.c (.int .i64 0))⟩,
                     ⟨(some 164), none, .pick (.t 161) (.c (.bool true)) (.t 163)⟩,
                     ⟨(some 165), none, .mv (.t 164)⟩,
                     ⟨(some 166), (some (165, false)), .mv (.t 32)⟩,
                     ⟨(some 167), (some (165, false)), .bin .neq (.t 166) (.c (.int .i64 1))⟩,
                     ⟨(some 168), none, .pick (.t 165) (.c (.bool true)) (.t 167)⟩,
                     ⟨(some 169), none, .mv (.t 168)⟩,
                     ⟨(some 170), (some (169, false)), .mv (.t 34)⟩,
                     ⟨(some 171), (some (169, false)), .bin .neq (.t 170) (.c (.int .i64 1))⟩,
                     ⟨(some 172), none, .pick (.t 169) (.c (.bool true)) (.t 171)⟩])
                   (.cond (.t 172)
                    (.seq none
                     (.ops [
                       ⟨(some 0), none, .mv (.c (.bool false))⟩])
                     .ret)
                    .skip))
                  (.seq (some ([26, 28], []))
                   (.seq (some ([26, 28, 209], []))
                    (.ops [
                      ⟨(some 173), none, .mv (.t 6)⟩,
                      ⟨(some 174), none, .blen .slice (.t 173)⟩,
                      ⟨(some 175), none, .bin .neq (.t 174) (.c (.int .i64 0))⟩,
                      ⟨(some 176), none, .mv (.t 175)⟩,
                      ⟨(some 177), (some (176, false)), .mv (.t 8)⟩,
                      ⟨(some 178), (some (176, false)), .blen .slice (.t 177)⟩,
                      ⟨(some 179), (some (176, false)), .bin .neq (.t 178) (.c (.int .i64 0))⟩,
                      ⟨(some 180), none, .pick (.t 176) (.c (.bool true)) (.t 179)⟩,
                      ⟨(some 181), none, .mv (.t 180)⟩,
                      ⟨(some 182), (some (181, false)), .mv (.t 12)⟩,
                      ⟨(some 183), (some (181, false)), .bin .neq (.t 182) (.c (.int .i64 2))⟩,
                      ⟨(some 184), none, .pick (.t 181) (.c (.bool true)) (.t 183)⟩,
                      ⟨(some 185), none, .mv (.t 184)⟩,
                      ⟨(some 186), (some (185, false)), .mv (.t 13)⟩,
                      ⟨(some 187), (some (185, false)), .bin .neq (.t 186) (.c (.int .i64 90))⟩,
                      ⟨(some 188), none, .pick (.t 185) (.c (.bool true)) (.t 187)⟩,
                      ⟨(some 189), none, .mv (.t 188)⟩,
                      ⟨(some 190), (some (189, false)), .mv (.t 15)⟩,
                      ⟨(some 191), (some (189, false)), .bin .neq (.t 190) (.c (.int .i64 1))⟩,
                      ⟨(some 192), none, .pick (.t 189) (.c (.bool true)) (.t 191)⟩,
                      ⟨(some 193), none, .mv (.t 192)⟩,
                      ⟨(some 194), (some (193, false)), .mv (.t 16)⟩,
                      ⟨(some 195), (some (193, false)), .bin .neq (.t 194) (.c (.int .i64 60))⟩,
                      ⟨(some 196), none, .pick (.t 193) (.c (.bool true)) (.t 195)⟩,
                      ⟨(some 197), none, .mv (.t 196)⟩,
                      ⟨(some 198), (some (197, false)), .mv (.t 18)⟩,
                      ⟨(some 199), (some (197, false)), .bin .neq (.t 198) (.c (.int .i64 0))⟩,
                      ⟨(some 200), none, .pick (.t 197) (.c (.bool true)) (.t 199)⟩,
                      ⟨(some 201), none, .mv (.t 200)⟩,
                      ⟨(some 202), (some (201, false)), .mv (.t 21)⟩,
                      ⟨(some 203), (some (201, false)), .bin .neq (.t 202) (.c (.int .i64 1))⟩,
                      ⟨(some 204), none, .pick (.t 201) (.c (.bool true)) (.t 203)⟩,
                      ⟨(some 205), none, .mv (.t 204)⟩,
                      ⟨(some 206), (some (205, false)), .mv (.t 24)⟩,
                      ⟨(some 207), (some (205, false)), .blen .slice (.t 206)⟩,
                      ⟨(some 208), (some (205, false)), .bin .neq (.t 207) (.c (.int .i64 0))⟩,
                      ⟨(some 209), none, .pick (.t 205) (.c (.bool true)) (.t 208)⟩])
                    (.cond (.t 209)
                     (.seq none
                      (.ops [
                        ⟨(some 0), none, .mv (.c (.bool false))⟩])
                      .ret)
                     .skip))
                   (.seq none
                    (.ops [
                      ⟨(some 210), none, .mv (.t 26)⟩,
                      ⟨(some 211), none, .bslice false 1 false [(.int .i64 0)] 1 [(0, (.c (.int .i64 4)))]⟩,
                      ⟨(some 212), none, .call (.f ref53_SameInts_id) [(.t 210), (.t 211)]⟩,
                      ⟨(some 213), none, .mv (.t 212)⟩,
                      ⟨(some 214), (some (213, true)), .mv (.t 28)⟩,
                      ⟨(some 215), (some (213, true)), .build [(.int .i64 0), (.int .i64 0), (.bool false)] [(0, 1, (.c (.int .i64 12))), (1, 1, (.c (.int .i64 1))), (2, 1, (.c (.bool true)))]⟩,
                      ⟨(some 216), (some (213, true)), .build [(.int .i64 0), (.int .i64 0), (.bool false)] [(0, 1, (.c (.int .i64 15))), (1, 1, (.c (.int .i64 2)))]⟩,
                      ⟨(some 217), (some (213, true)), .bslice false 3 true [(.int .i64 0), (.int .i64 0), (.bool false)] 2 [(0, (.t 215)), (1, (.t 216))]⟩,
                      ⟨(some 218), (some (213, true)), .call (.f ref53_SameSteps_id) [(.t 214), (.t 217)]⟩,
                      ⟨(some 219), none, .pick (.t 213) (.t 218) (.c (.bool false))⟩,
                      ⟨(some 0), none, .mv (.t 219)⟩])
                    .ret)))))))))))))))))))⟩

/-- signatory/signatoryref53.Few -/
def ref53_Few : FnIR := ⟨2, 33, [.t 4],
 (.seq (some ([0, 1], []))
  (.ops [
    ⟨(some 4), none, .mv (.c (.bool false))⟩])
  (.seq none
   (.ops [
     ⟨(some 5), none, .mv (.t 0)⟩,
     ⟨(some 6), none, .blen .slice (.t 5)⟩,
     ⟨(some 7), none, .bin .leq (.t 6) (.c (.int .i64 20))⟩,
     ⟨(some 8), none, .mv (.t 7)⟩,
     ⟨(some 9), (some (8, false)), .mv (.t 0)⟩,
     ⟨(some 10), (some (8, false)), .blen .slice (.t 9)⟩,
     ⟨(some 11), (some (8, false)), .bin .gtr (.t 10) (.c (.int .i64 4096))⟩,
     ⟨(some 12), (some (8, false)), .mv (.t 11)⟩,
     ⟨(some 13), (some (12, true)), .mv (.t 0)⟩,
     ⟨(some 14), (some (12, true)), .blen .slice (.t 13)⟩,
     ⟨(some 15), (some (12, true)), .bin .leq (.t 14) (.c (.int .i64 4200))⟩,
     ⟨(some 16), (some (8, false)), .pick (.t 12) (.t 15) (.c (.bool false))⟩,
     ⟨(some 17), none, .pick (.t 8) (.c (.bool true)) (.t 16)⟩,
     ⟨(some 18), none, .mv (.t 17)⟩,
     ⟨(some 19), (some (18, true)), .mv (.t 1)⟩,
     ⟨(some 20), (some (18, true)), .blen .slice (.t 19)⟩,
     ⟨(some 21), (some (18, true)), .bin .leq (.t 20) (.c (.int .i64 20))⟩,
     ⟨(some 22), (some (18, true)), .mv (.t 21)⟩,
     ⟨(some 23), (some (22, false)), .mv (.t 1)⟩,
     ⟨(some 24), (some (22, false)), .blen .slice (.t 23)⟩,
     ⟨(some 25), (some (22, false)), .bin .gtr (.t 24) (.c (.int .i64 4096))⟩,
     ⟨(some 26), (some (22, false)), .mv (.t 25)⟩,
     ⟨(some 27), (some (26, true)), .mv (.t 1)⟩,
     ⟨(some 28), (some (26, true)), .blen .slice (.t 27)⟩,
     ⟨(some 29), (some (26, true)), .bin .leq (.t 28) (.c (.int .i64 4200))⟩,
     ⟨(some 30), (some (22, false)), .pick (.t 26) (.t 29) (.c (.bool false))⟩,
     ⟨(some 31), (some (18, true)), .pick (.t 22) (.c (.bool true)) (.t 30)⟩,
     ⟨(some 32), none, .pick (.t 18) (.t 31) (.c (.bool false))⟩,
     ⟨(some 4), none, .mv (.t 32)⟩])
   .ret))⟩

/-- signatory/accounts.Spent -/
def accounts_Spent : FnIR := ⟨5, 47, [.t 10, .t 11, .t 12],
 (.seq (some ([0, 1, 2, 3, 4], []))
  (.ops [
    ⟨(some 10), none, .mv (.c (.int .i64 0))⟩,
    ⟨(some 11), none, .mv (.c (.int .i64 0))⟩,
    ⟨(some 12), none, .mv (.c (.int .i64 0))⟩])
  (.seq (some ([0, 1, 2, 3, 4], []))
   (.seq (some ([0, 1, 2, 3, 4, 13], []))
    (.ops [
      ⟨(some 17), none, .mv (.t 0)⟩,
      ⟨(some 18), none, .mv (.t 1)⟩,
      ⟨(some 19), none, .call (.f accounts_examine_id) [(.t 17), (.t 18)]⟩,
      ⟨(some 13), none, .mv (.t 19)⟩])
    (.seq (some ([0, 1, 2, 3, 4, 13, 21], []))
     (.ops [
       ⟨(some 20), none, .mv (.t 13)⟩,
       ⟨(some 21), none, .bin .neq (.t 20) (.c (.int .i64 0))⟩])
     (.cond (.t 21)
      (.seq none
       (.ops [
         ⟨(some 22), none, .mv (.t 13)⟩,
         ⟨(some 10), none, .mv (.c (.int .i64 0))⟩,
         ⟨(some 11), none, .mv (.c (.int .i64 0))⟩,
         ⟨(some 12), none, .mv (.t 22)⟩])
       .ret)
      .skip)))
   (.seq (some ([3, 4, 14, 15], [14]))
    (.ops [
      ⟨(some 24), none, .mv (.t 0)⟩,
      ⟨(some 25), none, .mv (.t 1)⟩,
      ⟨(some 26), none, .mv (.t 2)⟩,
      ⟨(some 27), none, .mv (.t 4)⟩,
      ⟨(some 28), none, .call (.f accounts_find_id) [(.t 24), (.t 25), (.t 26), (.t 27)]⟩,
      ⟨(some 23), none, .mv (.t 28)⟩,
      ⟨(some 29), none, .ext (.t 23) 0⟩,
      ⟨(some 30), none, .ext (.t 23) 1⟩,
      ⟨(some 14), none, .alloc [(.int .i64 0), (.int .i64 0), (.int .i64 0), (.int .i64 0), (.int .i64 0), (.int .i64 0), (.int .i64 0), (.bool false), (.list [] true), (.int .i64 0)]⟩,
      ⟨none, none, .store 10 (.t 14) (.t 29)⟩,
      ⟨(some 15), none, .mv (.t 30)⟩])
    (.seq (some ([3, 14], [14]))
     (.seq (some ([3, 14, 39], [14]))
      (.ops [
        ⟨(some 31), none, .mv (.t 15)⟩,
        ⟨(some 32), none, .un .not (.t 31)⟩,
        ⟨(some 33), none, .mv (.t 32)⟩,
        ⟨(some 34), (some (33, false)), .mv (.t 3)⟩,
        ⟨(some 35), (some (33, false)), .mv (.t 4)⟩,
        ⟨(some 36), (some (33, false)), .bslice false 1 false [(.int .i64 0)] 2 [(0, (.t 34)), (1, (.t 35))]⟩,
        ⟨(some 37), (some (33, false)), .call (.f accounts_within_id) [(.c (.int .i64 1099511627776)), (.t 36)]⟩,
        ⟨(some 38), (some (33, false)), .un .not (.t 37)⟩,
        ⟨(some 39), none, .pick (.t 33) (.c (.bool true)) (.t 38)⟩])
      (.cond (.t 39)
       (.seq none
        (.ops [
          ⟨(some 10), none, .mv (.c (.int .i64 0))⟩,
          ⟨(some 11), none, .mv (.c (.int .i64 0))⟩,
          ⟨(some 12), none, .mv (.c (.int .i64 1))⟩])
        .ret)
       .skip))
     (.seq (some ([16], [14, 16]))
      (.ops [
        ⟨(some 40), none, .load true 10 (.t 14)⟩,
        ⟨(some 41), none, .mv (.t 3)⟩,
        ⟨(some 42), none, .call (.f accounts_book_spent_id) [(.t 40), (.t 41)]⟩,
        ⟨(some 16), none, .alloc [(.int .i64 0), (.int .i64 0)]⟩,
        ⟨none, none, .store 2 (.t 16) (.t 42)⟩])
      (.seq none
       (.ops [
         ⟨(some 43), none, .faddr 0 (.t 16)⟩,
         ⟨(some 44), none, .load false 1 (.t 43)⟩,
         ⟨(some 45), none, .faddr 1 (.t 16)⟩,
         ⟨(some 46), none, .load false 1 (.t 45)⟩,
         ⟨(some 10), none, .mv (.t 44)⟩,
         ⟨(some 11), none, .mv (.t 46)⟩,
         ⟨(some 12), none, .mv (.c (.int .i64 0))⟩])
       .ret))))))⟩

/-- signatory/signatoryref53.Spent -/
def ref53_Spent : FnIR := ⟨5, 51, [.t 10, .t 11, .t 12],
 (.seq (some ([0, 1, 2, 3, 4], []))
  (.ops [
    ⟨(some 10), none, .mv (.c (.int .i64 0))⟩,
    ⟨(some 11), none, .mv (.c (.int .i64 0))⟩,
    ⟨(some 12), none, .mv (.c (.int .i64 0))⟩])
  (.seq (some ([0, 1, 2, 3, 4, 13], []))
   (.ops [
     ⟨(some 17), none, .mv (.t 0)⟩,
     ⟨(some 18), none, .mv (.t 1)⟩,
     ⟨(some 19), none, .call (.f ref53_Error_id) [(.t 17), (.t 18)]⟩,
     ⟨(some 13), none, .mv (.t 19)⟩])
   (.seq (some ([0, 1, 2, 3, 4], []))
    (.seq (some ([0, 1, 2, 3, 4, 13, 21], []))
     (.ops [
       ⟨(some 20), none, .mv (.t 13)⟩,
       ⟨(some 21), none, .bin .neq (.t 20) (.c (.int .i64 0))⟩])
     (.cond (.t 21)
      (.seq none
       (.ops [
         ⟨(some 22), none, .mv (.t 13)⟩,
         ⟨(some 10), none, .mv (.c (.int .i64 0))⟩,
         ⟨(some 11), none, .mv (.c (.int .i64 0))⟩,
         ⟨(some 12), none, .mv (.t 22)⟩])
       .ret)
      .skip))
    (.seq (some ([0, 1, 3, 4, 14], []))
     (.ops [
       ⟨(some 23), none, .mv (.t 0)⟩,
       ⟨(some 24), none, .mv (.t 2)⟩,
       ⟨(some 25), none, .call (.f ref53_Find_id) [(.t 23), (.t 24)]⟩,
       ⟨(some 14), none, .mv (.t 25)⟩])
     (.seq (some ([0, 1, 3, 4, 14], []))
      (.seq (some ([0, 1, 3, 4, 14, 37], []))
       (.ops [
         ⟨(some 26), none, .mv (.t 14)⟩,
         ⟨(some 27), none, .bin .lss (.t 26) (.c (.int .i64 0))⟩,
         ⟨(some 28), none, .mv (.t 27)⟩,
         ⟨(some 29), (some (28, false)), .mv (.t 3)⟩,
         ⟨(some 30), (some (28, false)), .call (.f ref53_Time_id) [(.t 29)]⟩,
         ⟨(some 31), (some (28, false)), .un .not (.t 30)⟩,
         ⟨(some 32), none, .pick (.t 28) (.c (.bool true)) (.t 31)⟩,
         ⟨(some 33), none, .mv (.t 32)⟩,
         ⟨(some 34), (some (33, false)), .mv (.t 4)⟩,
         ⟨(some 35), (some (33, false)), .call (.f ref53_Time_id) [(.t 34)]⟩,
         ⟨(some 36), (some (33, false)), .un .not (.t 35)⟩,
         ⟨(some 37), none, .pick (.t 33) (.c (.bool true)) (.t 36)⟩])
       (.cond (.t 37)
        (.seq none
         (.ops [
           ⟨(some 10), none, .mv (.c (.int .i64 0))⟩,
           ⟨(some 11), none, .mv (.c (.int .i64 0))⟩,
           ⟨(some 12), none, .mv (.c (.int .i64 1))⟩])
         .ret)
        .skip))
      (.seq (some ([15, 16], []))
       (.ops [
         ⟨(some 39), none, .mv (.t 0)⟩,
         ⟨(some 40), none, .mv (.t 14)⟩,
         ⟨(some 41), none, .iaddr 8 (.t 39) (.t 40)⟩,
         ⟨(some 42), none, .load true 8 (.t 41)⟩,
         ⟨(some 43), none, .mv (.t 1)⟩,
         ⟨(some 44), none, .mv (.t 3)⟩,
         ⟨(some 45), none, .mv (.t 4)⟩,
         ⟨(some 46), none, .call (.f ref53_spent_id) [(.t 42), (.t 43), (.t 44), (.t 45)]⟩,
         ⟨(some 38), none, .mv (.t 46)⟩,
         ⟨(some 47), none, .ext (.t 38) 0⟩,
         ⟨(some 48), none, .ext (.t 38) 1⟩,
         ⟨(some 15), none, .mv (.t 47)⟩,
         ⟨(some 16), none, .mv (.t 48)⟩])
       (.seq none
        (.ops [
          ⟨(some 49), none, .mv (.t 15)⟩,
          ⟨(some 50), none, .mv (.t 16)⟩,
          ⟨(some 10), none, .mv (.t 49)⟩,
          ⟨(some 11), none, .mv (.t 50)⟩,
          ⟨(some 12), none, .mv (.c (.int .i64 0))⟩])
        .ret)))))))⟩

def accounts_Over_l0 : IR :=
 (.seq (some ([0, 1, 2, 9, 11, 29, 30, 31, 52, 53, 54, 55], [11, 15, 16, 28]))
  (.ops [
    ⟨(some 55), none, .bin .lss (.t 54) (.t 53)⟩])
  (.seq (some ([0, 1, 2, 9, 11, 29, 30, 31, 52, 53, 54], [11, 15, 16, 28]))
   (.cond (.t 55)
    .skip
    (.exit 2))
   (.seq (some ([0, 1, 2, 9, 11, 29, 30, 31, 52, 53, 54], [11, 15, 16, 28]))
    (.block 3
     (.seq (some ([0, 1, 2, 9, 11, 15, 29, 30, 31, 52, 53, 54], [11, 15, 16, 28]))
      (.ops [
        ⟨(some 56), none, .iaddr 8 (.t 52) (.t 54)⟩,
        ⟨(some 57), none, .load true 8 (.t 56)⟩,
        ⟨(some 15), none, .alloc [(.int .i64 0), (.int .i64 0), (.int .i64 0), (.int .i64 0), (.int .i64 0), (.int .i64 0), (.int .i64 0), (.bool false)]⟩,
        ⟨none, none, .store 8 (.t 15) (.t 57)⟩])
      (.seq (some ([0, 1, 2, 9, 11, 15, 16, 29, 30, 31, 52, 53, 54], [11, 15, 16, 28]))
       (.ops [
         ⟨(some 58), none, .load true 8 (.t 15)⟩,
         ⟨(some 59), none, .mv (.t 1)⟩,
         ⟨(some 60), none, .mv (.t 2)⟩,
         ⟨(some 61), none, .build [(.int .i64 0), (.int .i64 0), (.int .i64 0), (.int .i64 0), (.int .i64 0), (.int .i64 0), (.int .i64 0), (.bool false), (.list [] true), (.int .i64 0)] [(0, 8, (.t 58)), (8, 1, (.t 59)), (9, 1, (.t 60))]⟩,
         ⟨(some 16), none, .alloc [(.int .i64 0), (.int .i64 0), (.int .i64 0), (.int .i64 0), (.int .i64 0), (.int .i64 0), (.int .i64 0), (.bool false), (.list [] true), (.int .i64 0)]⟩,
         ⟨none, none, .store 10 (.t 16) (.t 61)⟩])
       (.seq (some ([0, 1, 2, 9, 11, 15, 16, 17, 29, 30, 31, 52, 53, 54], [11, 15, 16, 28]))
        (.ops [
          ⟨(some 62), none, .load true 10 (.t 16)⟩,
          ⟨(some 63), none, .mkfn accounts_book_fine_id [(.t 62)] []⟩,
          ⟨(some 17), none, .mv (.t 63)⟩])
        (.seq (some ([0, 1, 2, 9, 11, 15, 29, 30, 31, 52, 53, 54, 70], [11, 15, 16, 28]))
         (.ops [
           ⟨(some 64), none, .mv (.t 17)⟩,
           ⟨(some 65), none, .load true 10 (.t 16)⟩,
           ⟨(some 66), none, .faddr 3 (.t 11)⟩,
           ⟨(some 67), none, .load false 1 (.t 66)⟩,
           ⟨(some 68), none, .call (.f accounts_book_spent_id) [(.t 65), (.t 67)]⟩,
           ⟨(some 69), none, .call (.t 64) [(.t 68)]⟩,
           ⟨(some 70), none, .un .not (.t 69)⟩])
         (.cond (.t 70)
          (.ops [
            ⟨(some 71), none, .mv (.t 9)⟩,
            ⟨(some 72), none, .faddr 0 (.t 15)⟩,
            ⟨(some 73), none, .load false 1 (.t 72)⟩,
            ⟨none, none, .mapset (.c .i) (.t 71) (.t 73) (.c (.bool true))⟩])
          .skip))))))
    (.ops [
      ⟨(some 74), none, .bin .add (.t 54) (.c (.int .i64 1))⟩,
      ⟨(some 54), none, .mv (.t 74)⟩]))))
def accounts_Over_l1 : IR :=
 (.seq (some ([0, 1, 2, 9, 29, 30, 31, 32], [11, 15, 16, 28]))
  (.ops [
    ⟨(some 32), none, .bin .lss (.t 31) (.t 30)⟩])
  (.seq (some ([0, 1, 2, 9, 29, 30, 31], [11, 15, 16, 28]))
   (.cond (.t 32)
    .skip
    (.exit 0))
   (.seq (some ([0, 1, 2, 9, 29, 30, 31], [11, 15, 16, 28]))
    (.block 1
     (.seq (some ([0, 1, 2, 9, 11, 29, 30, 31], [11, 15, 16, 28]))
      (.ops [
        ⟨(some 33), none, .iaddr 5 (.t 29) (.t 31)⟩,
        ⟨(some 34), none, .load true 5 (.t 33)⟩,
        ⟨(some 11), none, .alloc [(.int .i64 0), (.int .i64 0), (.int .i64 0), (.int .i64 0), (.int .i64 0)]⟩,
        ⟨none, none, .store 5 (.t 11) (.t 34)⟩])
      (.seq (some ([0, 1, 2, 9, 11, 29, 30, 31], [11, 15, 16, 28]))
       (.seq (some ([0, 1, 2, 9, 11, 29, 30, 31, 38], [11, 15, 16, 28]))
        (.ops [
          ⟨(some 35), none, .faddr 4 (.t 11)⟩,
          ⟨(some 36), none, .load false 1 (.t 35)⟩,
          ⟨(some 37), none, .mv (.t 2)⟩,
          ⟨(some 38), none, .bin .gtr (.t 36) (.t 37)⟩])
        (.cond (.t 38)
         (.exit 1)
         .skip))
       (.seq (some ([0, 1, 2, 9, 11, 12, 13, 29, 30, 31], [11, 15, 16, 28]))
        (.ops [
          ⟨(some 40), none, .mv (.t 0)⟩,
          ⟨(some 41), none, .faddr 1 (.t 11)⟩,
          ⟨(some 42), none, .load false 1 (.t 41)⟩,
          ⟨(some 43), none, .faddr 3 (.t 11)⟩,
          ⟨(some 44), none, .load false 1 (.t 43)⟩,
          ⟨(some 45), none, .mv (.t 2)⟩,
          ⟨(some 46), none, .call (.f budgets_Standing_id) [(.t 40), (.t 42), (.t 44), (.t 45)]⟩,
          ⟨(some 39), none, .mv (.t 46)⟩,
          ⟨(some 47), none, .ext (.t 39) 0⟩,
          ⟨(some 48), none, .ext (.t 39) 1⟩,
          ⟨(some 12), none, .mv (.t 47)⟩,
          ⟨(some 13), none, .mv (.t 48)⟩])
        (.seq (some ([0, 1, 2, 9, 11, 12, 29, 30, 31], [11, 15, 16, 28]))
         (.seq (some ([0, 1, 2, 9, 11, 12, 13, 29, 30, 31, 50], [11, 15, 16, 28]))
          (.ops [
            ⟨(some 49), none, .mv (.t 13)⟩,
            ⟨(some 50), none, .bin .neq (.t 49) (.c (.int .i64 0))⟩])
          (.cond (.t 50)
           (.seq none
            (.ops [
              ⟨(some 51), none, .mv (.t 13)⟩,
              ⟨(some 6), none, .mv (.c (.list [] true))⟩,
              ⟨(some 7), none, .mv (.t 51)⟩])
            .ret)
           .skip))
         (.seq (some ([0, 1, 2, 9, 11, 29, 30, 31, 52, 53, 54], [11, 15, 16, 28]))
          (.ops [
            ⟨(some 52), none, .mv (.t 12)⟩,
            ⟨(some 53), none, .blen .slice (.t 52)⟩,
            ⟨(some 54), none, .mv (.c (.int .i64 0))⟩])
          (.block 2
           (.loop accounts_Over_l0))))))))
    (.ops [
      ⟨(some 75), none, .bin .add (.t 31) (.c (.int .i64 1))⟩,
      ⟨(some 31), none, .mv (.t 75)⟩]))))
/-- signatory/accounts.Over -/
def accounts_Over : FnIR := ⟨3, 79, [.t 6, .t 7],
 (.seq (some ([0, 1, 2], []))
  (.ops [
    ⟨(some 6), none, .mv (.c (.list [] true))⟩,
    ⟨(some 7), none, .mv (.c (.int .i64 0))⟩])
  (.seq (some ([0, 1, 2], []))
   (.seq (some ([0, 1, 2, 8], []))
    (.ops [
      ⟨(some 18), none, .mv (.t 0)⟩,
      ⟨(some 19), none, .mv (.t 1)⟩,
      ⟨(some 20), none, .call (.f accounts_examine_id) [(.t 18), (.t 19)]⟩,
      ⟨(some 8), none, .mv (.t 20)⟩])
    (.seq (some ([0, 1, 2, 8, 22], []))
     (.ops [
       ⟨(some 21), none, .mv (.t 8)⟩,
       ⟨(some 22), none, .bin .neq (.t 21) (.c (.int .i64 0))⟩])
     (.cond (.t 22)
      (.seq none
       (.ops [
         ⟨(some 23), none, .mv (.t 8)⟩,
         ⟨(some 6), none, .mv (.c (.list [] true))⟩,
         ⟨(some 7), none, .mv (.t 23)⟩])
       .ret)
      .skip)))
   (.seq (some ([0, 1, 2], []))
    (.seq (some ([0, 1, 2, 27], []))
     (.ops [
       ⟨(some 24), none, .mv (.t 2)⟩,
       ⟨(some 25), none, .bslice false 1 false [(.int .i64 0)] 1 [(0, (.t 24))]⟩,
       ⟨(some 26), none, .call (.f accounts_within_id) [(.c (.int .i64 1099511627776)), (.t 25)]⟩,
       ⟨(some 27), none, .un .not (.t 26)⟩])
     (.cond (.t 27)
      (.seq none
       (.ops [
         ⟨(some 6), none, .mv (.c (.list [] true))⟩,
         ⟨(some 7), none, .mv (.c (.int .i64 1))⟩])
       .ret)
      .skip))
    (.seq (some ([0, 1, 2, 9], [11, 15, 16, 28]))
     (.ops [
       ⟨(some 28), none, .mkmap⟩,
       ⟨(some 9), none, .mv (.t 28)⟩])
     (.seq (some ([9], [11, 15, 16, 28]))
      (.seq (some ([0, 1, 2, 9, 29, 30, 31], [11, 15, 16, 28]))
       (.ops [
         ⟨(some 29), none, .mv (.t 1)⟩,
         ⟨(some 30), none, .blen .slice (.t 29)⟩,
         ⟨(some 31), none, .mv (.c (.int .i64 0))⟩])
       (.block 0
        (.loop accounts_Over_l1)))
      (.seq none
       (.ops [
         ⟨(some 76), none, .mv (.t 9)⟩,
         ⟨(some 77), none, .call (.f maps_Keys_map_int_bool_int_bool_id) [(.t 76)]⟩,
         ⟨(some 78), none, .call (.f slices_Sorted_int_id) [(.t 77)]⟩,
         ⟨(some 6), none, .mv (.t 78)⟩,
         ⟨(some 7), none, .mv (.c (.int .i64 0))⟩])
       .ret))))))⟩

def ref53_Over_l0 : IR :=
 (.seq (some ([0, 1, 2, 9, 10], [42]))
  (.seq (some ([0, 1, 2, 9, 10, 24], [42]))
   (.ops [
     ⟨(some 21), none, .mv (.t 10)⟩,
     ⟨(some 22), none, .mv (.t 0)⟩,
     ⟨(some 23), none, .blen .slice (.t 22)⟩,
     ⟨(some 24), none, .bin .lss (.t 21) (.t 23)⟩])
   (.cond (.t 24)
    .skip
    (.exit 0)))
  (.seq (some ([0, 1, 2, 9, 10], [42]))
   (.block 1
    (.seq (some ([0, 1, 2, 9, 10, 34], [42]))
     (.ops [
       ⟨(some 27), none, .mv (.t 0)⟩,
       ⟨(some 28), none, .mv (.t 0)⟩,
       ⟨(some 29), none, .mv (.t 10)⟩,
       ⟨(some 30), none, .iaddr 8 (.t 28) (.t 29)⟩,
       ⟨(some 31), none, .load true 8 (.t 30)⟩,
       ⟨(some 32), none, .mv (.t 1)⟩,
       ⟨(some 33), none, .mv (.t 2)⟩,
       ⟨(some 34), none, .call (.f ref53_over_id) [(.t 27), (.t 31), (.t 32), (.t 33)]⟩])
     (.cond (.t 34)
      (.ops [
        ⟨(some 35), none, .mv (.t 9)⟩,
        ⟨(some 36), none, .mv (.t 0)⟩,
        ⟨(some 37), none, .mv (.t 10)⟩,
        ⟨(some 38), none, .iaddr 8 (.t 36) (.t 37)⟩,
        ⟨(some 39), none, .faddr 0 (.t 38)⟩,
        ⟨(some 40), none, .load false 1 (.t 39)⟩,
        ⟨(some 41), none, .bslice false 1 false [(.int .i64 0)] 1 [(0, (.t 40))]⟩,
        ⟨(some 42), none, .append false 1 false 8 (.t 35) (.t 41)⟩,
        ⟨(some 9), none, .mv (.t 42)⟩])
      .skip)))
   (.ops [
     ⟨(some 25), none, .mv (.t 10)⟩,
     ⟨(some 26), none, .bin .add (.t 25) (.c (.int .i64 1))⟩,
     ⟨(some 10), none, .mv (.t 26)⟩])))
/-- signatory/signatoryref53.Over -/
def ref53_Over : FnIR := ⟨3, 44, [.t 6, .t 7],
 (.seq (some ([0, 1, 2], []))
  (.ops [
    ⟨(some 6), none, .mv (.c (.list [] true))⟩,
    ⟨(some 7), none, .mv (.c (.int .i64 0))⟩])
  (.seq (some ([0, 1, 2, 8], []))
   (.ops [
     ⟨(some 11), none, .mv (.t 0)⟩,
     ⟨(some 12), none, .mv (.t 1)⟩,
     ⟨(some 13), none, .call (.f ref53_Error_id) [(.t 11), (.t 12)]⟩,
     ⟨(some 8), none, .mv (.t 13)⟩])
   (.seq (some ([0, 1, 2], []))
    (.seq (some ([0, 1, 2, 8, 15], []))
     (.ops [
       ⟨(some 14), none, .mv (.t 8)⟩,
       ⟨(some 15), none, .bin .neq (.t 14) (.c (.int .i64 0))⟩])
     (.cond (.t 15)
      (.seq none
       (.ops [
         ⟨(some 16), none, .mv (.t 8)⟩,
         ⟨(some 6), none, .mv (.c (.list [] true))⟩,
         ⟨(some 7), none, .mv (.t 16)⟩])
       .ret)
      .skip))
    (.seq (some ([0, 1, 2], []))
     (.seq (some ([0, 1, 2, 19], []))
      (.ops [
        ⟨(some 17), none, .mv (.t 2)⟩,
        ⟨(some 18), none, .call (.f ref53_Time_id) [(.t 17)]⟩,
        ⟨(some 19), none, .un .not (.t 18)⟩])
      (.cond (.t 19)
       (.seq none
        (.ops [
          ⟨(some 6), none, .mv (.c (.list [] true))⟩,
          ⟨(some 7), none, .mv (.c (.int .i64 1))⟩])
        .ret)
       .skip))
     (.seq (some ([0, 1, 2, 9], [42]))
      (.ops [
        ⟨(some 20), none, .bslice false 1 false [(.int .i64 0)] 0 []⟩,
        ⟨(some 9), none, .mv (.t 20)⟩])
      (.seq (some ([9], [42]))
       (.seq (some ([0, 1, 2, 9, 10], [42]))
        (.ops [
          ⟨(some 10), none, .mv (.c (.int .i64 0))⟩])
        (.block 0
         (.loop ref53_Over_l0)))
       (.seq none
        (.ops [
          ⟨(some 43), none, .mv (.t 9)⟩,
          ⟨(some 6), none, .mv (.t 43)⟩,
          ⟨(some 7), none, .mv (.c (.int .i64 0))⟩])
        .ret)))))))⟩

def ref53_SameInts_l0 : IR :=
 (.seq (some ([0, 1, 5], []))
  (.seq (some ([0, 1, 5, 14], []))
   (.ops [
     ⟨(some 11), none, .mv (.t 5)⟩,
     ⟨(some 12), none, .mv (.t 0)⟩,
     ⟨(some 13), none, .blen .slice (.t 12)⟩,
     ⟨(some 14), none, .bin .lss (.t 11) (.t 13)⟩])
   (.cond (.t 14)
    .skip
    (.exit 0)))
  (.seq (some ([0, 1, 5], []))
   (.block 1
    (.seq (some ([0, 1, 5, 25], []))
     (.ops [
       ⟨(some 17), none, .mv (.t 0)⟩,
       ⟨(some 18), none, .mv (.t 5)⟩,
       ⟨(some 19), none, .iaddr 1 (.t 17) (.t 18)⟩,
       ⟨(some 20), none, .load false 1 (.t 19)⟩,
       ⟨(some 21), none, .mv (.t 1)⟩,
       ⟨(some 22), none, .mv (.t 5)⟩,
       ⟨(some 23), none, .iaddr 1 (.t 21) (.t 22)⟩,
       ⟨(some 24), none, .load false 1 (.t 23)⟩,
       ⟨(some 25), none, .bin .neq (.t 20) (.t 24)⟩])
     (.cond (.t 25)
      (.seq none
       (.ops [
         ⟨(some 4), none, .mv (.c (.bool false))⟩])
       .ret)
      .skip)))
   (.ops [
     ⟨(some 15), none, .mv (.t 5)⟩,
     ⟨(some 16), none, .bin .add (.t 15) (.c (.int .i64 1))⟩,
     ⟨(some 5), none, .mv (.t 16)⟩])))
/-- signatory/signatoryref53.SameInts -/
def ref53_SameInts : FnIR := ⟨2, 26, [.t 4],
 (.seq (some ([0, 1], []))
  (.ops [
    ⟨(some 4), none, .mv (.c (.bool false))⟩])
  (.seq (some ([0, 1], []))
   (.seq (some ([0, 1, 10], []))
    (.ops [
      ⟨(some 6), none, .mv (.t 0)⟩,
      ⟨(some 7), none, .blen .slice (.t 6)⟩,
      ⟨(some 8), none, .mv (.t 1)⟩,
      ⟨(some 9), none, .blen .slice (.t 8)⟩,
      ⟨(some 10), none, .bin .neq (.t 7) (.t 9)⟩])
    (.cond (.t 10)
     (.seq none
      (.ops [
        ⟨(some 4), none, .mv (.c (.bool false))⟩])
      .ret)
     .skip))
   (.seq (some ([], []))
    (.seq (some ([0, 1, 5], []))
     (.ops [
       ⟨(some 5), none, .mv (.c (.int .i64 0))⟩])
     (.block 0
      (.loop ref53_SameInts_l0)))
    (.seq none
     (.ops [
       ⟨(some 4), none, .mv (.c (.bool true))⟩])
     .ret))))⟩

def accounts_History_a0 : IR :=
 (.ops [
   ⟨(some 16), none, .alloc [(.int .i64 0), (.int .i64 0), (.int .i64 0), (.int .i64 0), (.int .i64 0)]⟩,
   ⟨none, none, .store 5 (.t 16) (.t 58)⟩])
def accounts_History_b0 : IR :=
 (.block 1
  (.draw [
    ⟨0, false, ⟨(some 59), none, .load false 1 (.t 15)⟩⟩,
    ⟨1, false, ⟨(some 60), none, .faddr 3 (.t 16)⟩⟩,
    ⟨2, false, ⟨(some 61), none, .load false 1 (.t 60)⟩⟩,
    ⟨3, false, ⟨(some 62), none, .load false 1 (.t 15)⟩⟩,
    ⟨4, false, ⟨(some 63), none, .faddr 3 (.t 16)⟩⟩,
    ⟨5, false, ⟨(some 64), none, .load false 1 (.t 63)⟩⟩,
    ⟨6, false, ⟨(some 65), none, .lookup (.c .i) (.agg [(.int .i64 0), (.int .i64 0)]) false (.t 62) (.t 64)⟩⟩,
    ⟨7, false, ⟨(some 66), none, .load true 5 (.t 16)⟩⟩,
    ⟨8, false, ⟨(some 67), none, .call (.f accounts_sum_add_id) [(.t 65), (.t 66)]⟩⟩,
    ⟨9, false, ⟨none, none, .mapset (.c .i) (.t 59) (.t 61) (.t 67)⟩⟩]))
def accounts_History_l1 : IR :=
 (.seq (some ([10, 13, 15, 17, 70, 71, 72, 73], [13, 15, 16, 17, 54, 100]))
  (.ops [
    ⟨(some 73), none, .bin .lss (.t 72) (.t 71)⟩])
  (.seq (some ([10, 13, 15, 17, 70, 71, 72], [13, 15, 16, 17, 54, 100]))
   (.cond (.t 73)
    .skip
    (.exit 2))
   (.seq (some ([10, 13, 15, 17, 70, 71, 72], [13, 15, 16, 17, 54, 100]))
    (.block 3
     (.seq (some ([10, 13, 15, 17, 19, 70, 71, 72], [13, 15, 16, 17, 54, 100]))
      (.ops [
        ⟨(some 74), none, .iaddr 1 (.t 70) (.t 72)⟩,
        ⟨(some 75), none, .load false 1 (.t 74)⟩,
        ⟨(some 19), none, .mv (.t 75)⟩])
      (.seq (some ([10, 13, 15, 17, 19, 70, 71, 72], [13, 15, 16, 17, 54, 100]))
       (.ops [
         ⟨(some 76), none, .faddr 0 (.t 17)⟩,
         ⟨(some 77), none, .load false 1 (.t 76)⟩,
         ⟨(some 78), none, .load false 1 (.t 15)⟩,
         ⟨(some 79), none, .mv (.t 19)⟩,
         ⟨(some 80), none, .lookup (.c .i) (.agg [(.int .i64 0), (.int .i64 0)]) false (.t 78) (.t 79)⟩,
         ⟨(some 81), none, .field false 0 1 (.t 80)⟩,
         ⟨(some 82), none, .bin .add (.t 77) (.t 81)⟩,
         ⟨(some 83), none, .faddr 1 (.t 17)⟩,
         ⟨(some 84), none, .load false 1 (.t 83)⟩,
         ⟨(some 85), none, .load false 1 (.t 15)⟩,
         ⟨(some 86), none, .mv (.t 19)⟩,
         ⟨(some 87), none, .lookup (.c .i) (.agg [(.int .i64 0), (.int .i64 0)]) false (.t 85) (.t 86)⟩,
         ⟨(some 88), none, .field false 1 1 (.t 87)⟩,
         ⟨(some 89), none, .bin .add (.t 84) (.t 88)⟩,
         ⟨(some 90), none, .build [(.int .i64 0), (.int .i64 0)] [(0, 1, (.t 82)), (1, 1, (.t 89))]⟩,
         ⟨none, none, .store 2 (.t 17) (.t 90)⟩])
       (.draw [
         ⟨0, false, ⟨(some 91), none, .mv (.t 10)⟩⟩,
         ⟨1, false, ⟨(some 92), none, .mv (.t 19)⟩⟩,
         ⟨2, false, ⟨(some 93), none, .faddr 0 (.t 17)⟩⟩,
         ⟨3, false, ⟨(some 94), none, .load false 1 (.t 93)⟩⟩,
         ⟨4, false, ⟨(some 95), none, .load true 10 (.t 13)⟩⟩,
         ⟨5, false, ⟨(some 96), none, .load true 2 (.t 17)⟩⟩,
         ⟨6, false, ⟨(some 97), none, .call (.f accounts_book_fine_id) [(.t 95), (.t 96)]⟩⟩,
         ⟨7, false, ⟨(some 98), none, .build [(.int .i64 0), (.int .i64 0), (.bool false)] [(0, 1, (.t 92)), (1, 1, (.t 94)), (2, 1, (.t 97))]⟩⟩,
         ⟨8, false, ⟨(some 99), none, .bslice false 3 true [(.int .i64 0), (.int .i64 0), (.bool false)] 1 [(0, (.t 98))]⟩⟩,
         ⟨9, false, ⟨(some 100), none, .append false 3 true 24 (.t 91) (.t 99)⟩⟩,
         ⟨10, false, ⟨(some 10), none, .mv (.t 100)⟩⟩]))))
    (.ops [
      ⟨(some 101), none, .bin .add (.t 72) (.c (.int .i64 1))⟩,
      ⟨(some 72), none, .mv (.t 101)⟩]))))
/-- signatory/accounts.History -/
def accounts_History : FnIR := ⟨5, 103, [.t 10, .t 11],
 (.seq (some ([0, 1, 2, 3, 4, 10], [13, 15, 16, 17, 54, 100]))
  (.ops [
    ⟨(some 10), none, .mv (.c (.list [] true))⟩,
    ⟨(some 11), none, .mv (.c (.int .i64 0))⟩])
  (.seq (some ([0, 1, 2, 3, 4, 10], [13, 15, 16, 17, 54, 100]))
   (.seq (some ([0, 1, 2, 3, 4, 10, 12], [13, 15, 16, 17, 54, 100]))
    (.ops [
      ⟨(some 20), none, .mv (.t 0)⟩,
      ⟨(some 21), none, .mv (.t 1)⟩,
      ⟨(some 22), none, .call (.f accounts_examine_id) [(.t 20), (.t 21)]⟩,
      ⟨(some 12), none, .mv (.t 22)⟩])
    (.seq (some ([0, 1, 2, 3, 4, 10, 12, 24], [13, 15, 16, 17, 54, 100]))
     (.ops [
       ⟨(some 23), none, .mv (.t 12)⟩,
       ⟨(some 24), none, .bin .neq (.t 23) (.c (.int .i64 0))⟩])
     (.cond (.t 24)
      (.seq none
       (.ops [
         ⟨(some 25), none, .mv (.t 12)⟩,
         ⟨(some 10), none, .mv (.c (.list [] true))⟩,
         ⟨(some 11), none, .mv (.t 25)⟩])
       .ret)
      .skip)))
   (.seq (some ([3, 4, 10, 13, 14], [13, 15, 16, 17, 54, 100]))
    (.ops [
      ⟨(some 27), none, .mv (.t 0)⟩,
      ⟨(some 28), none, .mv (.t 1)⟩,
      ⟨(some 29), none, .mv (.t 2)⟩,
      ⟨(some 30), none, .mv (.t 4)⟩,
      ⟨(some 31), none, .call (.f accounts_find_id) [(.t 27), (.t 28), (.t 29), (.t 30)]⟩,
      ⟨(some 26), none, .mv (.t 31)⟩,
      ⟨(some 32), none, .ext (.t 26) 0⟩,
      ⟨(some 33), none, .ext (.t 26) 1⟩,
      ⟨(some 13), none, .alloc [(.int .i64 0), (.int .i64 0), (.int .i64 0), (.int .i64 0), (.int .i64 0), (.int .i64 0), (.int .i64 0), (.bool false), (.list [] true), (.int .i64 0)]⟩,
      ⟨none, none, .store 10 (.t 13) (.t 32)⟩,
      ⟨(some 14), none, .mv (.t 33)⟩])
    (.seq (some ([3, 10, 13], [13, 15, 16, 17, 54, 100]))
     (.seq (some ([3, 10, 13, 53], [13, 15, 16, 17, 54, 100]))
      (.ops [
        ⟨(some 34), none, .mv (.t 14)⟩,
        ⟨(some 35), none, .un .not (.t 34)⟩,
        ⟨(some 36), none, .mv (.t 35)⟩,
        ⟨(some 37), (some (36, false)), .mv (.t 3)⟩,
        ⟨(some 38), (some (36, false)), .bin .lss (.t 37) (.c (.int .i64 0))⟩,
        ⟨(some 39), none, .pick (.t 36) (.c (.bool true)) (.t 38)⟩,
        ⟨(some 40), none, .mv (.t 39)⟩,
        ⟨(some 41), (some (40, false)), .mv (.t 3)⟩,
        ⟨(some 42), (some (40, false)), .faddr 0 (.t 13)⟩,
        ⟨(some 43), (some (40, false)), .faddr 4 (.t 42)⟩,
        ⟨(some 44), (some (40, false)), .load false 1 (.t 43)⟩,
        ⟨(some 45), (some (40, false)), .bin .quo (.c (.int .i64 1099511627775)) (.t 44)⟩,
        ⟨(some 46), (some (40, false)), .bin .gtr (.t 41) (.t 45)⟩,
        ⟨(some 47), none, .pick (.t 40) (.c (.bool true)) (.t 46)⟩,
        ⟨(some 48), none, .mv (.t 47)⟩,
        ⟨(some 49), (some (48, false)), .mv (.t 4)⟩,
        ⟨(some 50), (some (48, false)), .bslice false 1 false [(.int .i64 0)] 1 [(0, (.t 49))]⟩,
        ⟨(some 51), (some (48, false)), .call (.f accounts_within_id) [(.c (.int .i64 1099511627776)), (.t 50)]⟩,
        ⟨(some 52), (some (48, false)), .un .not (.t 51)⟩,
        ⟨(some 53), none, .pick (.t 48) (.c (.bool true)) (.t 52)⟩])
      (.cond (.t 53)
       (.seq none
        (.ops [
          ⟨(some 10), none, .mv (.c (.list [] true))⟩,
          ⟨(some 11), none, .mv (.c (.int .i64 1))⟩])
        .ret)
       .skip))
     (.seq (some ([3, 10, 13, 15], [13, 15, 16, 17, 54, 100]))
      (.ops [
        ⟨(some 54), none, .mkmap⟩,
        ⟨(some 15), none, .alloc [.nilmap]⟩,
        ⟨none, none, .store 1 (.t 15) (.t 54)⟩])
      (.seq (some ([10, 13, 15], [13, 15, 16, 17, 54, 100]))
       (.seq (some ([10, 13, 15, 57], [13, 15, 16, 17, 54, 100]))
        (.ops [
          ⟨(some 55), none, .load true 10 (.t 13)⟩,
          ⟨(some 56), none, .mv (.t 3)⟩,
          ⟨(some 57), none, .call (.f accounts_book_in_id) [(.t 55), (.t 56)]⟩])
        (.block 0
         (.rangef (.t 57) [58] accounts_History_a0 accounts_History_b0)))
       (.seq (some ([10, 13, 15, 17], [13, 15, 16, 17, 54, 100]))
        (.ops [
          ⟨(some 17), none, .alloc [(.int .i64 0), (.int .i64 0)]⟩])
        (.seq (some ([10], [13, 15, 16, 17, 54, 100]))
         (.seq (some ([10, 13, 15, 17, 70, 71, 72], [13, 15, 16, 17, 54, 100]))
          (.ops [
            ⟨(some 68), none, .load false 1 (.t 15)⟩,
            ⟨(some 69), none, .call (.f maps_Keys_map_int_accounts_sum_int_accounts_sum_id) [(.t 68)]⟩,
            ⟨(some 70), none, .call (.f slices_Sorted_int_id) [(.t 69)]⟩,
            ⟨(some 71), none, .blen .slice (.t 70)⟩,
            ⟨(some 72), none, .mv (.c (.int .i64 0))⟩])
          (.block 2
           (.loop accounts_History_l1)))
         (.seq none
          (.ops [
            ⟨(some 102), none, .mv (.t 10)⟩,
            ⟨(some 10), none, .mv (.t 102)⟩,
            ⟨(some 11), none, .mv (.c (.int .i64 0))⟩])
          .ret)))))))))⟩

def ref53_History_l0 : IR :=
 (.seq (some ([0, 1, 3, 4, 13, 14, 15], []))
  (.seq (some ([0, 1, 3, 4, 13, 14, 15, 54], []))
   (.ops [
     ⟨(some 51), none, .mv (.t 15)⟩,
     ⟨(some 52), none, .mv (.t 1)⟩,
     ⟨(some 53), none, .blen .slice (.t 52)⟩,
     ⟨(some 54), none, .bin .lss (.t 51) (.t 53)⟩])
   (.cond (.t 54)
    .skip
    (.exit 0)))
  (.seq (some ([0, 1, 3, 4, 13, 14, 15], []))
   (.block 1
    (.seq (some ([0, 1, 3, 4, 13, 14, 15, 81], []))
     (.ops [
       ⟨(some 57), none, .mv (.t 0)⟩,
       ⟨(some 58), none, .mv (.t 13)⟩,
       ⟨(some 59), none, .iaddr 8 (.t 57) (.t 58)⟩,
       ⟨(some 60), none, .load true 8 (.t 59)⟩,
       ⟨(some 61), none, .mv (.t 1)⟩,
       ⟨(some 62), none, .mv (.t 15)⟩,
       ⟨(some 63), none, .iaddr 5 (.t 61) (.t 62)⟩,
       ⟨(some 64), none, .load true 5 (.t 63)⟩,
       ⟨(some 65), none, .mv (.t 4)⟩,
       ⟨(some 66), none, .call (.f ref53_of_id) [(.t 60), (.t 64), (.t 65)]⟩,
       ⟨(some 67), none, .mv (.t 66)⟩,
       ⟨(some 68), (some (67, true)), .mv (.t 1)⟩,
       ⟨(some 69), (some (67, true)), .mv (.t 15)⟩,
       ⟨(some 70), (some (67, true)), .iaddr 5 (.t 68) (.t 69)⟩,
       ⟨(some 71), (some (67, true)), .faddr 3 (.t 70)⟩,
       ⟨(some 72), (some (67, true)), .load false 1 (.t 71)⟩,
       ⟨(some 73), (some (67, true)), .mv (.t 0)⟩,
       ⟨(some 74), (some (67, true)), .mv (.t 13)⟩,
       ⟨(some 75), (some (67, true)), .iaddr 8 (.t 73) (.t 74)⟩,
       ⟨(some 76), (some (67, true)), .faddr 4 (.t 75)⟩,
       ⟨(some 77), (some (67, true)), .load false 1 (.t 76)⟩,
       ⟨(some 78), (some (67, true)), .bin .quo (.t 72) (.t 77)⟩,
       ⟨(some 79), (some (67, true)), .mv (.t 3)⟩,
       ⟨(some 80), (some (67, true)), .bin .eql (.t 78) (.t 79)⟩,
       ⟨(some 81), none, .pick (.t 67) (.t 80) (.c (.bool false))⟩])
     (.cond (.t 81)
      (.ops [
        ⟨(some 82), none, .mv (.t 14)⟩,
        ⟨(some 83), none, .mv (.t 1)⟩,
        ⟨(some 84), none, .mv (.t 15)⟩,
        ⟨(some 85), none, .iaddr 5 (.t 83) (.t 84)⟩,
        ⟨(some 86), none, .faddr 3 (.t 85)⟩,
        ⟨(some 87), none, .load false 1 (.t 86)⟩,
        ⟨(some 88), none, .call (.f ref53_put_id) [(.t 82), (.t 87)]⟩,
        ⟨(some 14), none, .mv (.t 88)⟩])
      .skip)))
   (.ops [
     ⟨(some 55), none, .mv (.t 15)⟩,
     ⟨(some 56), none, .bin .add (.t 55) (.c (.int .i64 1))⟩,
     ⟨(some 15), none, .mv (.t 56)⟩])))
def ref53_History_l1 : IR :=
 (.seq (some ([0, 1, 4, 13, 14, 16, 17], [130]))
  (.seq (some ([0, 1, 4, 13, 14, 16, 17, 93], [130]))
   (.ops [
     ⟨(some 90), none, .mv (.t 17)⟩,
     ⟨(some 91), none, .mv (.t 14)⟩,
     ⟨(some 92), none, .blen .slice (.t 91)⟩,
     ⟨(some 93), none, .bin .lss (.t 90) (.t 92)⟩])
   (.cond (.t 93)
    .skip
    (.exit 2)))
  (.seq (some ([0, 1, 4, 13, 14, 16, 17], [130]))
   (.block 3
    (.seq (some ([0, 1, 4, 13, 14, 16, 17, 18], [130]))
     (.ops [
       ⟨(some 97), none, .mv (.t 0)⟩,
       ⟨(some 98), none, .mv (.t 13)⟩,
       ⟨(some 99), none, .iaddr 8 (.t 97) (.t 98)⟩,
       ⟨(some 100), none, .load true 8 (.t 99)⟩,
       ⟨(some 101), none, .mv (.t 1)⟩,
       ⟨(some 102), none, .mv (.t 14)⟩,
       ⟨(some 103), none, .mv (.t 17)⟩,
       ⟨(some 104), none, .iaddr 1 (.t 102) (.t 103)⟩,
       ⟨(some 105), none, .load false 1 (.t 104)⟩,
       ⟨(some 106), none, .mv (.t 4)⟩,
       ⟨(some 107), none, .call (.f ref53_spent_id) [(.t 100), (.t 101), (.t 105), (.t 106)]⟩,
       ⟨(some 96), none, .mv (.t 107)⟩,
       ⟨(some 108), none, .ext (.t 96) 0⟩,
       ⟨(some 109), none, .ext (.t 96) 1⟩,
       ⟨(some 18), none, .mv (.t 108)⟩,
       ⟨(some 19), none, .mv (.t 109)⟩])
     (.draw [
       ⟨0, false, ⟨(some 110), none, .mv (.t 16)⟩⟩,
       ⟨1, false, ⟨(some 111), none, .mv (.t 14)⟩⟩,
       ⟨2, false, ⟨(some 112), none, .mv (.t 17)⟩⟩,
       ⟨3, false, ⟨(some 113), none, .iaddr 1 (.t 111) (.t 112)⟩⟩,
       ⟨4, false, ⟨(some 114), none, .load false 1 (.t 113)⟩⟩,
       ⟨5, false, ⟨(some 115), none, .mv (.t 18)⟩⟩,
       ⟨6, false, ⟨(some 116), none, .mv (.t 0)⟩⟩,
       ⟨7, false, ⟨(some 117), none, .mv (.t 13)⟩⟩,
       ⟨8, false, ⟨(some 118), none, .iaddr 8 (.t 116) (.t 117)⟩⟩,
       ⟨9, false, ⟨(some 119), none, .load true 8 (.t 118)⟩⟩,
       ⟨10, false, ⟨(some 120), none, .mv (.t 1)⟩⟩,
       ⟨11, false, ⟨(some 121), none, .mv (.t 14)⟩⟩,
       ⟨12, false, ⟨(some 122), none, .mv (.t 17)⟩⟩,
       ⟨13, false, ⟨(some 123), none, .iaddr 1 (.t 121) (.t 122)⟩⟩,
       ⟨14, false, ⟨(some 124), none, .load false 1 (.t 123)⟩⟩,
       ⟨15, false, ⟨(some 125), none, .mv (.t 4)⟩⟩,
       ⟨16, false, ⟨(some 126), none, .call (.f ref53_tooMuch_id) [(.t 119), (.t 120), (.t 124), (.t 125)]⟩⟩,
       ⟨17, false, ⟨(some 127), none, .un .not (.t 126)⟩⟩,
       ⟨18, false, ⟨(some 128), none, .build [(.int .i64 0), (.int .i64 0), (.bool false)] [(0, 1, (.t 114)), (1, 1, (.t 115)), (2, 1, (.t 127))]⟩⟩,
       ⟨19, false, ⟨(some 129), none, .bslice false 3 true [(.int .i64 0), (.int .i64 0), (.bool false)] 1 [(0, (.t 128))]⟩⟩,
       ⟨20, false, ⟨(some 130), none, .append false 3 true 24 (.t 110) (.t 129)⟩⟩,
       ⟨21, false, ⟨(some 16), none, .mv (.t 130)⟩⟩])))
   (.ops [
     ⟨(some 94), none, .mv (.t 17)⟩,
     ⟨(some 95), none, .bin .add (.t 94) (.c (.int .i64 1))⟩,
     ⟨(some 17), none, .mv (.t 95)⟩])))
/-- signatory/signatoryref53.History -/
def ref53_History : FnIR := ⟨5, 132, [.t 10, .t 11],
 (.seq (some ([0, 1, 2, 3, 4], []))
  (.ops [
    ⟨(some 10), none, .mv (.c (.list [] true))⟩,
    ⟨(some 11), none, .mv (.c (.int .i64 0))⟩])
  (.seq (some ([0, 1, 2, 3, 4, 12], []))
   (.ops [
     ⟨(some 20), none, .mv (.t 0)⟩,
     ⟨(some 21), none, .mv (.t 1)⟩,
     ⟨(some 22), none, .call (.f ref53_Error_id) [(.t 20), (.t 21)]⟩,
     ⟨(some 12), none, .mv (.t 22)⟩])
   (.seq (some ([0, 1, 2, 3, 4], []))
    (.seq (some ([0, 1, 2, 3, 4, 12, 24], []))
     (.ops [
       ⟨(some 23), none, .mv (.t 12)⟩,
       ⟨(some 24), none, .bin .neq (.t 23) (.c (.int .i64 0))⟩])
     (.cond (.t 24)
      (.seq none
       (.ops [
         ⟨(some 25), none, .mv (.t 12)⟩,
         ⟨(some 10), none, .mv (.c (.list [] true))⟩,
         ⟨(some 11), none, .mv (.t 25)⟩])
       .ret)
      .skip))
    (.seq (some ([0, 1, 3, 4, 13], []))
     (.ops [
       ⟨(some 26), none, .mv (.t 0)⟩,
       ⟨(some 27), none, .mv (.t 2)⟩,
       ⟨(some 28), none, .call (.f ref53_Find_id) [(.t 26), (.t 27)]⟩,
       ⟨(some 13), none, .mv (.t 28)⟩])
     (.seq (some ([0, 1, 3, 4, 13], []))
      (.seq (some ([0, 1, 3, 4, 13, 49], []))
       (.ops [
         ⟨(some 29), none, .mv (.t 13)⟩,
         ⟨(some 30), none, .bin .lss (.t 29) (.c (.int .i64 0))⟩,
         ⟨(some 31), none, .mv (.t 30)⟩,
         ⟨(some 32), (some (31, false)), .mv (.t 3)⟩,
         ⟨(some 33), (some (31, false)), .bin .lss (.t 32) (.c (.int .i64 0))⟩,
         ⟨(some 34), none, .pick (.t 31) (.c (.bool true)) (.t 33)⟩,
         ⟨(some 35), none, .mv (.t 34)⟩,
         ⟨(some 36), (some (35, false)), .mv (.t 3)⟩,
         ⟨(some 37), (some (35, false)), .mv (.t 0)⟩,
         ⟨(some 38), (some (35, false)), .mv (.t 13)⟩,
         ⟨(some 39), (some (35, false)), .iaddr 8 (.t 37) (.t 38)⟩,
         ⟨(some 40), (some (35, false)), .faddr 4 (.t 39)⟩,
         ⟨(some 41), (some (35, false)), .load false 1 (.t 40)⟩,
         ⟨(some 42), (some (35, false)), .bin .quo (.c (.int .i64 1099511627775)) (.t 41)⟩,
         ⟨(some 43), (some (35, false)), .bin .gtr (.t 36) (.t 42)⟩,
         ⟨(some 44), none, .pick (.t 35) (.c (.bool true)) (.t 43)⟩,
         ⟨(some 45), none, .mv (.t 44)⟩,
         ⟨(some 46), (some (45, false)), .mv (.t 4)⟩,
         ⟨(some 47), (some (45, false)), .call (.f ref53_Time_id) [(.t 46)]⟩,
         ⟨(some 48), (some (45, false)), .un .not (.t 47)⟩,
         ⟨(some 49), none, .pick (.t 45) (.c (.bool true)) (.t 48)⟩])
       (.cond (.t 49)
        (.seq none
         (.ops [
           ⟨(some 10), none, .mv (.c (.list [] true))⟩,
           ⟨(some 11), none, .mv (.c (.int .i64 1))⟩])
         .ret)
        .skip))
      (.seq (some ([0, 1, 3, 4, 13, 14], []))
       (.ops [
         ⟨(some 50), none, .bslice false 1 false [(.int .i64 0)] 0 []⟩,
         ⟨(some 14), none, .mv (.t 50)⟩])
       (.seq (some ([0, 1, 4, 13, 14], []))
        (.seq (some ([0, 1, 3, 4, 13, 14, 15], []))
         (.ops [
           ⟨(some 15), none, .mv (.c (.int .i64 0))⟩])
         (.block 0
          (.loop ref53_History_l0)))
        (.seq (some ([0, 1, 4, 13, 14, 16], [130]))
         (.ops [
           ⟨(some 89), none, .bslice false 3 true [(.int .i64 0), (.int .i64 0), (.bool false)] 0 []⟩,
           ⟨(some 16), none, .mv (.t 89)⟩])
         (.seq (some ([16], [130]))
          (.seq (some ([0, 1, 4, 13, 14, 16, 17], [130]))
           (.ops [
             ⟨(some 17), none, .mv (.c (.int .i64 0))⟩])
           (.block 2
            (.loop ref53_History_l1)))
          (.seq none
           (.ops [
             ⟨(some 131), none, .mv (.t 16)⟩,
             ⟨(some 10), none, .mv (.t 131)⟩,
             ⟨(some 11), none, .mv (.c (.int .i64 0))⟩])
           .ret))))))))))⟩

def ref53_SameSteps_l0 : IR :=
 (.seq (some ([0, 1, 5], []))
  (.seq (some ([0, 1, 5, 14], []))
   (.ops [
     ⟨(some 11), none, .mv (.t 5)⟩,
     ⟨(some 12), none, .mv (.t 0)⟩,
     ⟨(some 13), none, .blen .slice (.t 12)⟩,
     ⟨(some 14), none, .bin .lss (.t 11) (.t 13)⟩])
   (.cond (.t 14)
    .skip
    (.exit 0)))
  (.seq (some ([0, 1, 5], []))
   (.block 1
    (.seq (some ([0, 1, 5, 25], []))
     (.ops [
       ⟨(some 17), none, .mv (.t 0)⟩,
       ⟨(some 18), none, .mv (.t 5)⟩,
       ⟨(some 19), none, .iaddr 3 (.t 17) (.t 18)⟩,
       ⟨(some 20), none, .load true 3 (.t 19)⟩,
       ⟨(some 21), none, .mv (.t 1)⟩,
       ⟨(some 22), none, .mv (.t 5)⟩,
       ⟨(some 23), none, .iaddr 3 (.t 21) (.t 22)⟩,
       ⟨(some 24), none, .load true 3 (.t 23)⟩,
       ⟨(some 25), none, .eqs true [.i, .i, .b] (.t 20) (.t 24)⟩])
     (.cond (.t 25)
      (.seq none
       (.ops [
         ⟨(some 4), none, .mv (.c (.bool false))⟩])
       .ret)
      .skip)))
   (.ops [
     ⟨(some 15), none, .mv (.t 5)⟩,
     ⟨(some 16), none, .bin .add (.t 15) (.c (.int .i64 1))⟩,
     ⟨(some 5), none, .mv (.t 16)⟩])))
/-- signatory/signatoryref53.SameSteps -/
def ref53_SameSteps : FnIR := ⟨2, 26, [.t 4],
 (.seq (some ([0, 1], []))
  (.ops [
    ⟨(some 4), none, .mv (.c (.bool false))⟩])
  (.seq (some ([0, 1], []))
   (.seq (some ([0, 1, 10], []))
    (.ops [
      ⟨(some 6), none, .mv (.t 0)⟩,
      ⟨(some 7), none, .blen .slice (.t 6)⟩,
      ⟨(some 8), none, .mv (.t 1)⟩,
      ⟨(some 9), none, .blen .slice (.t 8)⟩,
      ⟨(some 10), none, .bin .neq (.t 7) (.t 9)⟩])
    (.cond (.t 10)
     (.seq none
      (.ops [
        ⟨(some 4), none, .mv (.c (.bool false))⟩])
      .ret)
     .skip))
   (.seq (some ([], []))
    (.seq (some ([0, 1, 5], []))
     (.ops [
       ⟨(some 5), none, .mv (.c (.int .i64 0))⟩])
     (.block 0
      (.loop ref53_SameSteps_l0)))
    (.seq none
     (.ops [
       ⟨(some 4), none, .mv (.c (.bool true))⟩])
     .ret))))⟩

def law53_right_l0 : IR :=
 (.seq (some ([0, 1, 9, 10, 11, 12], []))
  (.ops [
    ⟨(some 12), none, .bin .lss (.t 11) (.t 10)⟩])
  (.seq (some ([0, 1, 9, 10, 11], []))
   (.cond (.t 12)
    .skip
    (.exit 0))
   (.seq (some ([0, 1, 9, 10, 11], []))
    (.block 1
     (.seq (some ([0, 1, 8, 9, 10, 11], []))
      (.ops [
        ⟨(some 13), none, .iaddr 1 (.t 9) (.t 11)⟩,
        ⟨(some 14), none, .load false 1 (.t 13)⟩,
        ⟨(some 8), none, .mv (.t 14)⟩])
      (.seq (some ([0, 1, 9, 10, 11, 17], []))
       (.ops [
         ⟨(some 15), none, .mv (.t 8)⟩,
         ⟨(some 16), none, .call (.f ref53_Time_id) [(.t 15)]⟩,
         ⟨(some 17), none, .un .not (.t 16)⟩])
       (.cond (.t 17)
        (.seq none
         (.ops [
           ⟨(some 6), none, .mv (.c (.bool false))⟩])
         .ret)
        .skip))))
    (.ops [
      ⟨(some 18), none, .bin .add (.t 11) (.c (.int .i64 1))⟩,
      ⟨(some 11), none, .mv (.t 18)⟩]))))
/-- signatory/signatorylaw53.right -/
def law53_right : FnIR := ⟨3, 33, [.t 6],
 (.seq (some ([0, 1, 2], []))
  (.ops [
    ⟨(some 6), none, .mv (.c (.bool false))⟩])
  (.seq (some ([0, 1], []))
   (.seq (some ([0, 1, 9, 10, 11], []))
    (.ops [
      ⟨(some 9), none, .mv (.t 2)⟩,
      ⟨(some 10), none, .blen .slice (.t 9)⟩,
      ⟨(some 11), none, .mv (.c (.int .i64 0))⟩])
    (.block 0
     (.loop law53_right_l0)))
   (.seq none
    (.ops [
      ⟨(some 19), none, .mv (.t 0)⟩,
      ⟨(some 20), none, .blen .slice (.t 19)⟩,
      ⟨(some 21), none, .bin .leq (.t 20) (.c (.int .i64 20))⟩,
      ⟨(some 22), none, .mv (.t 21)⟩,
      ⟨(some 23), (some (22, true)), .mv (.t 1)⟩,
      ⟨(some 24), (some (22, true)), .blen .slice (.t 23)⟩,
      ⟨(some 25), (some (22, true)), .bin .leq (.t 24) (.c (.int .i64 20))⟩,
      ⟨(some 26), none, .pick (.t 22) (.t 25) (.c (.bool false))⟩,
      ⟨(some 27), none, .mv (.t 26)⟩,
      ⟨(some 28), (some (27, true)), .mv (.t 0)⟩,
      ⟨(some 29), (some (27, true)), .mv (.t 1)⟩,
      ⟨(some 30), (some (27, true)), .call (.f ref53_Error_id) [(.t 28), (.t 29)]⟩,
      ⟨(some 31), (some (27, true)), .bin .eql (.t 30) (.c (.int .i64 0))⟩,
      ⟨(some 32), none, .pick (.t 27) (.t 31) (.c (.bool false))⟩,
      ⟨(some 6), none, .mv (.t 32)⟩])
    .ret)))⟩

/-- signatory/budgets.Standing -/
def budgets_Standing : FnIR := ⟨4, 32, [.t 8, .t 9],
 (.seq (some ([0, 1, 2, 3], []))
  (.ops [
    ⟨(some 8), none, .mv (.c (.list [] true))⟩,
    ⟨(some 9), none, .mv (.c (.int .i64 0))⟩])
  (.seq (some ([0, 1, 2, 3], []))
   (.seq (some ([0, 1, 2, 3, 10], []))
    (.ops [
      ⟨(some 11), none, .mv (.t 0)⟩,
      ⟨(some 12), none, .call (.f budgets_Check_id) [(.t 11)]⟩,
      ⟨(some 10), none, .mv (.t 12)⟩])
    (.seq (some ([0, 1, 2, 3, 10, 14], []))
     (.ops [
       ⟨(some 13), none, .mv (.t 10)⟩,
       ⟨(some 14), none, .bin .neq (.t 13) (.c (.int .i64 0))⟩])
     (.cond (.t 14)
      (.seq none
       (.ops [
         ⟨(some 15), none, .mv (.t 10)⟩,
         ⟨(some 8), none, .mv (.c (.list [] true))⟩,
         ⟨(some 9), none, .mv (.t 15)⟩])
       .ret)
      .skip)))
   (.seq (some ([0, 1, 2, 3], []))
    (.seq (some ([0, 1, 2, 3, 26], []))
     (.ops [
       ⟨(some 16), none, .mv (.t 1)⟩,
       ⟨(some 17), none, .bslice false 1 false [(.int .i64 0)] 1 [(0, (.t 16))]⟩,
       ⟨(some 18), none, .call (.f budgets_between_id) [(.c (.int .i64 0)), (.c (.int .i64 15)), (.t 17)]⟩,
       ⟨(some 19), none, .un .not (.t 18)⟩,
       ⟨(some 20), none, .mv (.t 19)⟩,
       ⟨(some 21), (some (20, false)), .mv (.t 2)⟩,
       ⟨(some 22), (some (20, false)), .mv (.t 3)⟩,
       ⟨(some 23), (some (20, false)), .bslice false 1 false [(.int .i64 0)] 2 [(0, (.t 21)), (1, (.t 22))]⟩,
       ⟨(some 24), (some (20, false)), .call (.f budgets_between_id) [(.c (.int .i64 0)), (.c (.int .i64 1099511627775)), (.t 23)]⟩,
       ⟨(some 25), (some (20, false)), .un .not (.t 24)⟩,
       ⟨(some 26), none, .pick (.t 20) (.c (.bool true)) (.t 25)⟩])
     (.cond (.t 26)
      (.seq none
       (.ops [
         ⟨(some 8), none, .mv (.c (.list [] true))⟩,
         ⟨(some 9), none, .mv (.c (.int .i64 1))⟩])
       .ret)
      .skip))
    (.seq none
     (.ops [
       ⟨(some 27), none, .mv (.t 0)⟩,
       ⟨(some 28), none, .mv (.t 1)⟩,
       ⟨(some 29), none, .mv (.t 2)⟩,
       ⟨(some 30), none, .mv (.t 3)⟩,
       ⟨(some 31), none, .call (.f budgets_standing_id) [(.t 27), (.t 28), (.t 29), (.t 30)]⟩,
       ⟨(some 8), none, .mv (.t 31)⟩,
       ⟨(some 9), none, .mv (.c (.int .i64 0))⟩])
     .ret))))⟩

def ref53_Find_l0 : IR :=
 (.seq (some ([0, 1, 5], []))
  (.seq (some ([0, 1, 5, 9], []))
   (.ops [
     ⟨(some 6), none, .mv (.t 5)⟩,
     ⟨(some 7), none, .mv (.t 0)⟩,
     ⟨(some 8), none, .blen .slice (.t 7)⟩,
     ⟨(some 9), none, .bin .lss (.t 6) (.t 8)⟩])
   (.cond (.t 9)
    .skip
    (.exit 0)))
  (.seq (some ([0, 1, 5], []))
   (.block 1
    (.seq (some ([0, 1, 5, 26], []))
     (.ops [
       ⟨(some 12), none, .mv (.t 0)⟩,
       ⟨(some 13), none, .mv (.t 5)⟩,
       ⟨(some 14), none, .iaddr 8 (.t 12) (.t 13)⟩,
       ⟨(some 15), none, .faddr 0 (.t 14)⟩,
       ⟨(some 16), none, .load false 1 (.t 15)⟩,
       ⟨(some 17), none, .mv (.t 1)⟩,
       ⟨(some 18), none, .bin .eql (.t 16) (.t 17)⟩,
       ⟨(some 19), none, .mv (.t 18)⟩,
       ⟨(some 20), (some (19, true)), .mv (.t 0)⟩,
       ⟨(some 21), (some (19, true)), .mv (.t 5)⟩,
       ⟨(some 22), (some (19, true)), .iaddr 8 (.t 20) (.t 21)⟩,
       ⟨(some 23), (some (19, true)), .faddr 7 (.t 22)⟩,
       ⟨(some 24), (some (19, true)), .load false 1 (.t 23)⟩,
       ⟨(some 25), (some (19, true)), .un .not (.t 24)⟩,
       ⟨(some 26), none, .pick (.t 19) (.t 25) (.c (.bool false))⟩])
     (.cond (.t 26)
      (.seq none
       (.ops [
         ⟨(some 27), none, .mv (.t 5)⟩,
         ⟨(some 4), none, .mv (.t 27)⟩])
       .ret)
      .skip)))
   (.ops [
     ⟨(some 10), none, .mv (.t 5)⟩,
     ⟨(some 11), none, .bin .add (.t 10) (.c (.int .i64 1))⟩,
     ⟨(some 5), none, .mv (.t 11)⟩])))
/-- signatory/signatoryref53.Find -/
def ref53_Find : FnIR := ⟨2, 28, [.t 4],
 (.seq (some ([0, 1], []))
  (.ops [
    ⟨(some 4), none, .mv (.c (.int .i64 0))⟩])
  (.seq (some ([], []))
   (.seq (some ([0, 1, 5], []))
    (.ops [
      ⟨(some 5), none, .mv (.c (.int .i64 0))⟩])
    (.block 0
     (.loop ref53_Find_l0)))
   (.seq none
    (.ops [
      ⟨(some 4), none, .mv (.c (.int .i64 (-1)))⟩])
    .ret)))⟩

def budgets_Room_a0 : IR :=
 (.ops [
   ⟨(some 20), none, .mv (.t 65)⟩])
def budgets_Room_b0 : IR :=
 (.block 3
  (.seq (some ([1, 3, 4, 5, 17, 18, 19, 20, 53, 54, 55, 65], [17, 18, 19]))
   (.ops [
     ⟨(some 66), none, .load false 1 (.t 18)⟩,
     ⟨(some 67), none, .bin .add (.t 66) (.c (.int .i64 1))⟩,
     ⟨none, none, .store 1 (.t 18) (.t 67)⟩])
   (.ops [
     ⟨(some 68), none, .load false 1 (.t 19)⟩,
     ⟨(some 69), none, .mv (.t 20)⟩,
     ⟨(some 70), none, .bin .add (.t 68) (.t 69)⟩,
     ⟨none, none, .store 1 (.t 19) (.t 70)⟩])))
def budgets_Room_l1 : IR :=
 (.seq (some ([1, 3, 4, 5, 53, 54, 55, 56], []))
  (.ops [
    ⟨(some 56), none, .bin .lss (.t 55) (.t 54)⟩])
  (.seq (some ([1, 3, 4, 5, 53, 54, 55], []))
   (.cond (.t 56)
    .skip
    (.exit 0))
   (.seq (some ([1, 3, 4, 5, 53, 54, 55], []))
    (.block 1
     (.seq (some ([1, 3, 4, 5, 17, 53, 54, 55], [17]))
      (.ops [
        ⟨(some 57), none, .iaddr 8 (.t 53) (.t 55)⟩,
        ⟨(some 58), none, .load true 8 (.t 57)⟩,
        ⟨(some 17), none, .alloc [(.int .i64 0), (.int .i64 0), (.int .i64 0), (.int .i64 0), (.int .i64 0), (.int .i64 0), (.int .i64 0), (.bool false)]⟩,
        ⟨none, none, .store 8 (.t 17) (.t 58)⟩])
      (.seq (some ([1, 3, 4, 5, 17, 18, 19, 53, 54, 55], [17, 18, 19]))
       (.ops [
         ⟨(some 59), none, .mv (.t 3)⟩,
         ⟨(some 18), none, .alloc [(.int .i64 0)]⟩,
         ⟨(some 19), none, .alloc [(.int .i64 0)]⟩,
         ⟨none, none, .store 1 (.t 18) (.c (.int .i64 1))⟩,
         ⟨none, none, .store 1 (.t 19) (.t 59)⟩])
       (.seq (some ([1, 3, 4, 5, 17, 18, 19, 53, 54, 55], [17, 18, 19]))
        (.seq (some ([1, 3, 4, 5, 17, 18, 19, 53, 54, 55, 64], [17, 18, 19]))
         (.ops [
           ⟨(some 60), none, .load true 8 (.t 17)⟩,
           ⟨(some 61), none, .mv (.t 1)⟩,
           ⟨(some 62), none, .mv (.t 4)⟩,
           ⟨(some 63), none, .mv (.t 5)⟩,
           ⟨(some 64), none, .call (.f budgets_used_id) [(.t 60), (.t 61), (.t 62), (.t 63)]⟩])
         (.block 2
          (.rangef (.t 64) [65] budgets_Room_a0 budgets_Room_b0)))
        (.seq (some ([1, 3, 4, 5, 17, 53, 54, 55, 80], [17, 18, 19]))
         (.ops [
           ⟨(some 71), none, .load false 1 (.t 18)⟩,
           ⟨(some 72), none, .faddr 5 (.t 17)⟩,
           ⟨(some 73), none, .load false 1 (.t 72)⟩,
           ⟨(some 74), none, .bin .gtr (.t 71) (.t 73)⟩,
           ⟨(some 75), none, .mv (.t 74)⟩,
           ⟨(some 76), (some (75, false)), .load false 1 (.t 19)⟩,
           ⟨(some 77), (some (75, false)), .faddr 6 (.t 17)⟩,
           ⟨(some 78), (some (75, false)), .load false 1 (.t 77)⟩,
           ⟨(some 79), (some (75, false)), .bin .gtr (.t 76) (.t 78)⟩,
           ⟨(some 80), none, .pick (.t 75) (.c (.bool true)) (.t 79)⟩])
         (.cond (.t 80)
          (.seq none
           (.ops [
             ⟨(some 81), none, .faddr 0 (.t 17)⟩,
             ⟨(some 82), none, .load false 1 (.t 81)⟩,
             ⟨(some 12), none, .mv (.t 82)⟩,
             ⟨(some 13), none, .mv (.c (.bool false))⟩,
             ⟨(some 14), none, .mv (.c (.int .i64 0))⟩])
           .ret)
          .skip))))))
    (.ops [
      ⟨(some 83), none, .bin .add (.t 55) (.c (.int .i64 1))⟩,
      ⟨(some 55), none, .mv (.t 83)⟩]))))
/-- signatory/budgets.Room -/
def budgets_Room : FnIR := ⟨6, 84, [.t 12, .t 13, .t 14],
 (.seq (some ([0, 1, 2, 3, 4, 5], []))
  (.ops [
    ⟨(some 12), none, .mv (.c (.int .i64 0))⟩,
    ⟨(some 13), none, .mv (.c (.bool false))⟩,
    ⟨(some 14), none, .mv (.c (.int .i64 0))⟩])
  (.seq (some ([0, 1, 2, 3, 4, 5], []))
   (.seq (some ([0, 1, 2, 3, 4, 5, 15], []))
    (.ops [
      ⟨(some 21), none, .mv (.t 0)⟩,
      ⟨(some 22), none, .call (.f budgets_Check_id) [(.t 21)]⟩,
      ⟨(some 15), none, .mv (.t 22)⟩])
    (.seq (some ([0, 1, 2, 3, 4, 5, 15, 24], []))
     (.ops [
       ⟨(some 23), none, .mv (.t 15)⟩,
       ⟨(some 24), none, .bin .neq (.t 23) (.c (.int .i64 0))⟩])
     (.cond (.t 24)
      (.seq none
       (.ops [
         ⟨(some 25), none, .mv (.t 15)⟩,
         ⟨(some 12), none, .mv (.c (.int .i64 0))⟩,
         ⟨(some 13), none, .mv (.c (.bool false))⟩,
         ⟨(some 14), none, .mv (.t 25)⟩])
       .ret)
      .skip)))
   (.seq (some ([0, 1, 2, 3, 4, 5], []))
    (.seq (some ([0, 1, 2, 3, 4, 5, 28], []))
     (.ops [
       ⟨(some 26), none, .mv (.t 1)⟩,
       ⟨(some 27), none, .blen .slice (.t 26)⟩,
       ⟨(some 28), none, .bin .gtr (.t 27) (.c (.int .i64 4096))⟩])
     (.cond (.t 28)
      (.seq none
       (.ops [
         ⟨(some 12), none, .mv (.c (.int .i64 0))⟩,
         ⟨(some 13), none, .mv (.c (.bool false))⟩,
         ⟨(some 14), none, .mv (.c (.int .i64 2))⟩])
       .ret)
      .skip))
    (.seq (some ([0, 1, 2, 3, 4, 5], []))
     (.seq (some ([0, 1, 2, 3, 4, 5, 31], []))
      (.ops [
        ⟨(some 29), none, .mv (.t 1)⟩,
        ⟨(some 30), none, .call (.f budgets_uses_id) [(.t 29)]⟩,
        ⟨(some 31), none, .un .not (.t 30)⟩])
      (.cond (.t 31)
       (.seq none
        (.ops [
          ⟨(some 12), none, .mv (.c (.int .i64 0))⟩,
          ⟨(some 13), none, .mv (.c (.bool false))⟩,
          ⟨(some 14), none, .mv (.c (.int .i64 180))⟩])
        .ret)
       .skip))
     (.seq (some ([0, 1, 2, 3, 4, 5], []))
      (.seq (some ([0, 1, 2, 3, 4, 5, 48], []))
       (.ops [
         ⟨(some 32), none, .mv (.t 2)⟩,
         ⟨(some 33), none, .bslice false 1 false [(.int .i64 0)] 1 [(0, (.t 32))]⟩,
         ⟨(some 34), none, .call (.f budgets_between_id) [(.c (.int .i64 0)), (.c (.int .i64 15)), (.t 33)]⟩,
         ⟨(some 35), none, .un .not (.t 34)⟩,
         ⟨(some 36), none, .mv (.t 35)⟩,
         ⟨(some 37), (some (36, false)), .mv (.t 3)⟩,
         ⟨(some 38), (some (36, false)), .bslice false 1 false [(.int .i64 0)] 1 [(0, (.t 37))]⟩,
         ⟨(some 39), (some (36, false)), .call (.f budgets_between_id) [(.c (.int .i64 0)), (.c (.int .i64 1099511627776)), (.t 38)]⟩,
         ⟨(some 40), (some (36, false)), .un .not (.t 39)⟩,
         ⟨(some 41), none, .pick (.t 36) (.c (.bool true)) (.t 40)⟩,
         ⟨(some 42), none, .mv (.t 41)⟩,
         ⟨(some 43), (some (42, false)), .mv (.t 4)⟩,
         ⟨(some 44), (some (42, false)), .mv (.t 5)⟩,
         ⟨(some 45), (some (42, false)), .bslice false 1 false [(.int .i64 0)] 2 [(0, (.t 43)), (1, (.t 44))]⟩,
         ⟨(some 46), (some (42, false)), .call (.f budgets_between_id) [(.c (.int .i64 0)), (.c (.int .i64 1099511627775)), (.t 45)]⟩,
         ⟨(some 47), (some (42, false)), .un .not (.t 46)⟩,
         ⟨(some 48), none, .pick (.t 42) (.c (.bool true)) (.t 47)⟩])
       (.cond (.t 48)
        (.seq none
         (.ops [
           ⟨(some 12), none, .mv (.c (.int .i64 0))⟩,
           ⟨(some 13), none, .mv (.c (.bool false))⟩,
           ⟨(some 14), none, .mv (.c (.int .i64 1))⟩])
         .ret)
        .skip))
      (.seq (some ([], []))
       (.seq (some ([1, 3, 4, 5, 53, 54, 55], []))
        (.ops [
          ⟨(some 49), none, .mv (.t 0)⟩,
          ⟨(some 50), none, .mv (.t 2)⟩,
          ⟨(some 51), none, .mv (.t 4)⟩,
          ⟨(some 52), none, .mv (.t 5)⟩,
          ⟨(some 53), none, .call (.f budgets_standing_id) [(.t 49), (.t 50), (.t 51), (.t 52)]⟩,
          ⟨(some 54), none, .blen .slice (.t 53)⟩,
          ⟨(some 55), none, .mv (.c (.int .i64 0))⟩])
        (.block 0
         (.loop budgets_Room_l1)))
       (.seq none
        (.ops [
          ⟨(some 12), none, .mv (.c (.int .i64 (-1)))⟩,
          ⟨(some 13), none, .mv (.c (.bool true))⟩,
          ⟨(some 14), none, .mv (.c (.int .i64 0))⟩])
        .ret)))))))⟩

def accounts_examine_l0 : IR :=
 (.seq (some ([6, 18, 19, 20, 21], [8, 17]))
  (.ops [
    ⟨(some 21), none, .bin .lss (.t 20) (.t 19)⟩])
  (.seq (some ([6, 18, 19, 20], [8, 17]))
   (.cond (.t 21)
    .skip
    (.exit 0))
   (.seq (some ([6, 18, 19, 20], [8, 17]))
    (.block 1
     (.seq (some ([6, 8, 18, 19, 20], [8, 17]))
      (.ops [
        ⟨(some 22), none, .iaddr 5 (.t 18) (.t 20)⟩,
        ⟨(some 23), none, .load true 5 (.t 22)⟩,
        ⟨(some 8), none, .alloc [(.int .i64 0), (.int .i64 0), (.int .i64 0), (.int .i64 0), (.int .i64 0)]⟩,
        ⟨none, none, .store 5 (.t 8) (.t 23)⟩])
      (.seq (some ([6, 8, 18, 19, 20], [8, 17]))
       (.seq (some ([6, 8, 18, 19, 20, 57], [8, 17]))
        (.ops [
          ⟨(some 24), none, .faddr 0 (.t 8)⟩,
          ⟨(some 25), none, .load false 1 (.t 24)⟩,
          ⟨(some 26), none, .bslice false 1 false [(.int .i64 0)] 1 [(0, (.t 25))]⟩,
          ⟨(some 27), none, .call (.f accounts_within_id) [(.c (.int .i64 4096)), (.t 26)]⟩,
          ⟨(some 28), none, .un .not (.t 27)⟩,
          ⟨(some 29), none, .mv (.t 28)⟩,
          ⟨(some 30), (some (29, false)), .faddr 1 (.t 8)⟩,
          ⟨(some 31), (some (29, false)), .load false 1 (.t 30)⟩,
          ⟨(some 32), (some (29, false)), .bslice false 1 false [(.int .i64 0)] 1 [(0, (.t 31))]⟩,
          ⟨(some 33), (some (29, false)), .call (.f accounts_within_id) [(.c (.int .i64 16)), (.t 32)]⟩,
          ⟨(some 34), (some (29, false)), .un .not (.t 33)⟩,
          ⟨(some 35), none, .pick (.t 29) (.c (.bool true)) (.t 34)⟩,
          ⟨(some 36), none, .mv (.t 35)⟩,
          ⟨(some 37), (some (36, false)), .faddr 2 (.t 8)⟩,
          ⟨(some 38), (some (36, false)), .load false 1 (.t 37)⟩,
          ⟨(some 39), (some (36, false)), .bslice false 1 false [(.int .i64 0)] 1 [(0, (.t 38))]⟩,
          ⟨(some 40), (some (36, false)), .call (.f accounts_within_id) [(.c (.int .i64 1099511627777)), (.t 39)]⟩,
          ⟨(some 41), (some (36, false)), .un .not (.t 40)⟩,
          ⟨(some 42), none, .pick (.t 36) (.c (.bool true)) (.t 41)⟩,
          ⟨(some 43), none, .mv (.t 42)⟩,
          ⟨(some 44), (some (43, false)), .faddr 3 (.t 8)⟩,
          ⟨(some 45), (some (43, false)), .load false 1 (.t 44)⟩,
          ⟨(some 46), (some (43, false)), .faddr 4 (.t 8)⟩,
          ⟨(some 47), (some (43, false)), .load false 1 (.t 46)⟩,
          ⟨(some 48), (some (43, false)), .bslice false 1 false [(.int .i64 0)] 2 [(0, (.t 45)), (1, (.t 47))]⟩,
          ⟨(some 49), (some (43, false)), .call (.f accounts_within_id) [(.c (.int .i64 1099511627776)), (.t 48)]⟩,
          ⟨(some 50), (some (43, false)), .un .not (.t 49)⟩,
          ⟨(some 51), none, .pick (.t 43) (.c (.bool true)) (.t 50)⟩,
          ⟨(some 52), none, .mv (.t 51)⟩,
          ⟨(some 53), (some (52, false)), .mv (.t 6)⟩,
          ⟨(some 54), (some (52, false)), .faddr 0 (.t 8)⟩,
          ⟨(some 55), (some (52, false)), .load false 1 (.t 54)⟩,
          ⟨(some 56), (some (52, false)), .lookup (.c .i) (.bool false) false (.t 53) (.t 55)⟩,
          ⟨(some 57), none, .pick (.t 52) (.c (.bool true)) (.t 56)⟩])
        (.cond (.t 57)
         (.seq none
          (.ops [
            ⟨(some 4), none, .mv (.c (.int .i64 180))⟩])
          .ret)
         .skip))
       (.ops [
         ⟨(some 58), none, .mv (.t 6)⟩,
         ⟨(some 59), none, .faddr 0 (.t 8)⟩,
         ⟨(some 60), none, .load false 1 (.t 59)⟩,
         ⟨none, none, .mapset (.c .i) (.t 58) (.t 60) (.c (.bool true))⟩]))))
    (.ops [
      ⟨(some 61), none, .bin .add (.t 20) (.c (.int .i64 1))⟩,
      ⟨(some 20), none, .mv (.t 61)⟩]))))
/-- signatory/accounts.examine -/
def accounts_examine : FnIR := ⟨2, 62, [.t 4],
 (.seq (some ([0, 1], []))
  (.ops [
    ⟨(some 4), none, .mv (.c (.int .i64 0))⟩])
  (.seq (some ([1], []))
   (.seq (some ([1, 5], []))
    (.ops [
      ⟨(some 9), none, .mv (.t 0)⟩,
      ⟨(some 10), none, .call (.f budgets_Check_id) [(.t 9)]⟩,
      ⟨(some 5), none, .mv (.t 10)⟩])
    (.seq (some ([1, 5, 12], []))
     (.ops [
       ⟨(some 11), none, .mv (.t 5)⟩,
       ⟨(some 12), none, .bin .neq (.t 11) (.c (.int .i64 0))⟩])
     (.cond (.t 12)
      (.seq none
       (.ops [
         ⟨(some 13), none, .mv (.t 5)⟩,
         ⟨(some 4), none, .mv (.t 13)⟩])
       .ret)
      .skip)))
   (.seq (some ([1], []))
    (.seq (some ([1, 16], []))
     (.ops [
       ⟨(some 14), none, .mv (.t 1)⟩,
       ⟨(some 15), none, .blen .slice (.t 14)⟩,
       ⟨(some 16), none, .bin .gtr (.t 15) (.c (.int .i64 4096))⟩])
     (.cond (.t 16)
      (.seq none
       (.ops [
         ⟨(some 4), none, .mv (.c (.int .i64 2))⟩])
       .ret)
      .skip))
    (.seq (some ([1, 6], [8, 17]))
     (.ops [
       ⟨(some 17), none, .mkmap⟩,
       ⟨(some 6), none, .mv (.t 17)⟩])
     (.seq (some ([], []))
      (.seq (some ([6, 18, 19, 20], [8, 17]))
       (.ops [
         ⟨(some 18), none, .mv (.t 1)⟩,
         ⟨(some 19), none, .blen .slice (.t 18)⟩,
         ⟨(some 20), none, .mv (.c (.int .i64 0))⟩])
       (.block 0
        (.loop accounts_examine_l0)))
      (.seq none
       (.ops [
         ⟨(some 4), none, .mv (.c (.int .i64 0))⟩])
       .ret))))))⟩

def accounts_find_l0 : IR :=
 (.seq (some ([1, 2, 3, 8, 12, 13, 14, 15], [8, 11]))
  (.ops [
    ⟨(some 15), none, .bin .lss (.t 14) (.t 13)⟩])
  (.seq (some ([1, 2, 3, 8, 12, 13, 14], [8, 11]))
   (.cond (.t 15)
    .skip
    (.exit 0))
   (.seq (some ([1, 2, 3, 8, 12, 13, 14], [8, 11]))
    (.block 1
     (.seq (some ([1, 2, 3, 8, 11, 12, 13, 14], [8, 11]))
      (.ops [
        ⟨(some 16), none, .iaddr 8 (.t 12) (.t 14)⟩,
        ⟨(some 17), none, .load true 8 (.t 16)⟩,
        ⟨(some 11), none, .alloc [(.int .i64 0), (.int .i64 0), (.int .i64 0), (.int .i64 0), (.int .i64 0), (.int .i64 0), (.int .i64 0), (.bool false)]⟩,
        ⟨none, none, .store 8 (.t 11) (.t 17)⟩])
      (.seq (some ([1, 2, 3, 8, 11, 12, 13, 14, 26], [8, 11]))
       (.ops [
         ⟨(some 18), none, .faddr 0 (.t 11)⟩,
         ⟨(some 19), none, .load false 1 (.t 18)⟩,
         ⟨(some 20), none, .mv (.t 2)⟩,
         ⟨(some 21), none, .bin .eql (.t 19) (.t 20)⟩,
         ⟨(some 22), none, .mv (.t 21)⟩,
         ⟨(some 23), (some (22, true)), .faddr 7 (.t 11)⟩,
         ⟨(some 24), (some (22, true)), .load false 1 (.t 23)⟩,
         ⟨(some 25), (some (22, true)), .un .not (.t 24)⟩,
         ⟨(some 26), none, .pick (.t 22) (.t 25) (.c (.bool false))⟩])
       (.cond (.t 26)
        (.seq none
         (.ops [
           ⟨(some 27), none, .load true 8 (.t 11)⟩,
           ⟨(some 28), none, .mv (.t 1)⟩,
           ⟨(some 29), none, .mv (.t 3)⟩,
           ⟨(some 30), none, .build [(.int .i64 0), (.int .i64 0), (.int .i64 0), (.int .i64 0), (.int .i64 0), (.int .i64 0), (.int .i64 0), (.bool false), (.list [] true), (.int .i64 0)] [(0, 8, (.t 27)), (8, 1, (.t 28)), (9, 1, (.t 29))]⟩,
           ⟨none, none, .store 10 (.t 8) (.t 30)⟩,
           ⟨(some 9), none, .mv (.c (.bool true))⟩])
         .ret)
        .skip))))
    (.ops [
      ⟨(some 31), none, .bin .add (.t 14) (.c (.int .i64 1))⟩,
      ⟨(some 14), none, .mv (.t 31)⟩]))))
/-- signatory/accounts.find -/
def accounts_find : FnIR := ⟨4, 33, [.cell 8 true 10, .t 9],
 (.seq (some ([0, 1, 2, 3, 8], [8, 11]))
  (.ops [
    ⟨(some 8), none, .alloc [(.int .i64 0), (.int .i64 0), (.int .i64 0), (.int .i64 0), (.int .i64 0), (.int .i64 0), (.int .i64 0), (.bool false), (.list [] true), (.int .i64 0)]⟩,
    ⟨(some 9), none, .mv (.c (.bool false))⟩])
  (.seq (some ([8], [8, 11]))
   (.seq (some ([1, 2, 3, 8, 12, 13, 14], [8, 11]))
    (.ops [
      ⟨(some 12), none, .mv (.t 0)⟩,
      ⟨(some 13), none, .blen .slice (.t 12)⟩,
      ⟨(some 14), none, .mv (.c (.int .i64 0))⟩])
    (.block 0
     (.loop accounts_find_l0)))
   (.seq none
    (.ops [
      ⟨(some 32), none, .load true 10 (.t 8)⟩,
      ⟨none, none, .store 10 (.t 8) (.t 32)⟩,
      ⟨(some 9), none, .mv (.c (.bool false))⟩])
    .ret)))⟩

def accounts_within_l0 : IR :=
 (.seq (some ([0, 7, 8, 9, 10], []))
  (.ops [
    ⟨(some 10), none, .bin .lss (.t 9) (.t 8)⟩])
  (.seq (some ([0, 7, 8, 9], []))
   (.cond (.t 10)
    .skip
    (.exit 0))
   (.seq (some ([0, 7, 8, 9], []))
    (.block 1
     (.seq (some ([0, 6, 7, 8, 9], []))
      (.ops [
        ⟨(some 11), none, .iaddr 1 (.t 7) (.t 9)⟩,
        ⟨(some 12), none, .load false 1 (.t 11)⟩,
        ⟨(some 6), none, .mv (.t 12)⟩])
      (.seq (some ([0, 7, 8, 9, 19], []))
       (.ops [
         ⟨(some 13), none, .mv (.t 6)⟩,
         ⟨(some 14), none, .bin .lss (.t 13) (.c (.int .i64 0))⟩,
         ⟨(some 15), none, .mv (.t 14)⟩,
         ⟨(some 16), (some (15, false)), .mv (.t 6)⟩,
         ⟨(some 17), (some (15, false)), .mv (.t 0)⟩,
         ⟨(some 18), (some (15, false)), .bin .geq (.t 16) (.t 17)⟩,
         ⟨(some 19), none, .pick (.t 15) (.c (.bool true)) (.t 18)⟩])
       (.cond (.t 19)
        (.seq none
         (.ops [
           ⟨(some 4), none, .mv (.c (.bool false))⟩])
         .ret)
        .skip))))
    (.ops [
      ⟨(some 20), none, .bin .add (.t 9) (.c (.int .i64 1))⟩,
      ⟨(some 9), none, .mv (.t 20)⟩]))))
/-- signatory/accounts.within -/
def accounts_within : FnIR := ⟨2, 21, [.t 4],
 (.seq (some ([0, 1], []))
  (.ops [
    ⟨(some 4), none, .mv (.c (.bool false))⟩])
  (.seq (some ([], []))
   (.seq (some ([0, 7, 8, 9], []))
    (.ops [
      ⟨(some 7), none, .mv (.t 1)⟩,
      ⟨(some 8), none, .blen .slice (.t 7)⟩,
      ⟨(some 9), none, .mv (.c (.int .i64 0))⟩])
    (.block 0
     (.loop accounts_within_l0)))
   (.seq none
    (.ops [
      ⟨(some 4), none, .mv (.c (.bool true))⟩])
    .ret)))⟩

def accounts_book_spent_a0 : IR :=
 (.ops [
   ⟨(some 5), none, .alloc [(.int .i64 0), (.int .i64 0), (.int .i64 0), (.int .i64 0), (.int .i64 0)]⟩,
   ⟨none, none, .store 5 (.t 5) (.t 13)⟩])
def accounts_book_spent_b0 : IR :=
 (.block 1
  (.seq (some ([3, 4, 5, 13, 17], [2, 3, 4, 5]))
   (.ops [
     ⟨(some 14), none, .faddr 3 (.t 5)⟩,
     ⟨(some 15), none, .load false 1 (.t 14)⟩,
     ⟨(some 16), none, .load false 1 (.t 3)⟩,
     ⟨(some 17), none, .bin .leq (.t 15) (.t 16)⟩])
   (.cond (.t 17)
    (.ops [
      ⟨(some 18), none, .load true 2 (.t 4)⟩,
      ⟨(some 19), none, .load true 5 (.t 5)⟩,
      ⟨(some 20), none, .call (.f accounts_sum_add_id) [(.t 18), (.t 19)]⟩,
      ⟨none, none, .store 2 (.t 4) (.t 20)⟩])
    .skip)))
/-- (signatory/accounts.book).spent -/
def accounts_book_spent : FnIR := ⟨2, 22, [.cell 4 true 2],
 (.seq (some ([2, 3, 4], [2, 3, 4, 5]))
  (.ops [
    ⟨(some 2), none, .box 10 (.t 0)⟩,
    ⟨(some 3), none, .box 1 (.t 1)⟩,
    ⟨(some 4), none, .alloc [(.int .i64 0), (.int .i64 0)]⟩])
  (.seq (some ([4], [4, 5]))
   (.seq (some ([3, 4, 12], [2, 3, 4, 5]))
    (.ops [
      ⟨(some 6), none, .load true 10 (.t 2)⟩,
      ⟨(some 7), none, .load false 1 (.t 3)⟩,
      ⟨(some 8), none, .faddr 0 (.t 2)⟩,
      ⟨(some 9), none, .faddr 4 (.t 8)⟩,
      ⟨(some 10), none, .load false 1 (.t 9)⟩,
      ⟨(some 11), none, .bin .quo (.t 7) (.t 10)⟩,
      ⟨(some 12), none, .call (.f accounts_book_in_id) [(.t 6), (.t 11)]⟩])
    (.block 0
     (.rangef (.t 12) [13] accounts_book_spent_a0 accounts_book_spent_b0)))
   (.seq none
    (.ops [
      ⟨(some 21), none, .load true 2 (.t 4)⟩,
      ⟨none, none, .store 2 (.t 4) (.t 21)⟩])
    .ret)))⟩

/-- signatory/signatoryref53.Error -/
def ref53_Error : FnIR := ⟨2, 17, [.t 4],
 (.seq (some ([0, 1], []))
  (.ops [
    ⟨(some 4), none, .mv (.c (.int .i64 0))⟩])
  (.seq (some ([1, 5], []))
   (.ops [
     ⟨(some 6), none, .mv (.t 0)⟩,
     ⟨(some 7), none, .call (.f ref18_Check_id) [(.t 6)]⟩,
     ⟨(some 5), none, .mv (.t 7)⟩])
   (.seq (some ([1], []))
    (.seq (some ([1, 5, 9], []))
     (.ops [
       ⟨(some 8), none, .mv (.t 5)⟩,
       ⟨(some 9), none, .bin .neq (.t 8) (.c (.int .i64 0))⟩])
     (.cond (.t 9)
      (.seq none
       (.ops [
         ⟨(some 10), none, .mv (.t 5)⟩,
         ⟨(some 4), none, .mv (.t 10)⟩])
       .ret)
      .skip))
    (.seq (some ([1], []))
     (.seq (some ([1, 13], []))
      (.ops [
        ⟨(some 11), none, .mv (.t 1)⟩,
        ⟨(some 12), none, .blen .slice (.t 11)⟩,
        ⟨(some 13), none, .bin .gtr (.t 12) (.c (.int .i64 4096))⟩])
      (.cond (.t 13)
       (.seq none
        (.ops [
          ⟨(some 4), none, .mv (.c (.int .i64 2))⟩])
        .ret)
       .skip))
     (.seq (some ([], []))
      (.seq (some ([16], []))
       (.ops [
         ⟨(some 14), none, .mv (.t 1)⟩,
         ⟨(some 15), none, .call (.f ref18_Uses_id) [(.t 14)]⟩,
         ⟨(some 16), none, .un .not (.t 15)⟩])
       (.cond (.t 16)
        (.seq none
         (.ops [
           ⟨(some 4), none, .mv (.c (.int .i64 180))⟩])
         .ret)
        .skip))
      (.seq none
       (.ops [
         ⟨(some 4), none, .mv (.c (.int .i64 0))⟩])
       .ret))))))⟩

/-- signatory/signatoryref53.Time -/
def ref53_Time : FnIR := ⟨1, 9, [.t 2],
 (.seq (some ([0], []))
  (.ops [
    ⟨(some 2), none, .mv (.c (.bool false))⟩])
  (.seq none
   (.ops [
     ⟨(some 3), none, .mv (.t 0)⟩,
     ⟨(some 4), none, .bin .geq (.t 3) (.c (.int .i64 0))⟩,
     ⟨(some 5), none, .mv (.t 4)⟩,
     ⟨(some 6), (some (5, true)), .mv (.t 0)⟩,
     ⟨(some 7), (some (5, true)), .bin .lss (.t 6) (.c (.int .i64 1099511627776))⟩,
     ⟨(some 8), none, .pick (.t 5) (.t 7) (.c (.bool false))⟩,
     ⟨(some 2), none, .mv (.t 8)⟩])
   .ret))⟩

def ref53_spent_l0 : IR :=
 (.seq (some ([1, 2, 3, 4, 10, 11, 12], [4]))
  (.seq (some ([1, 2, 3, 4, 10, 11, 12, 16], [4]))
   (.ops [
     ⟨(some 13), none, .mv (.t 12)⟩,
     ⟨(some 14), none, .mv (.t 1)⟩,
     ⟨(some 15), none, .blen .slice (.t 14)⟩,
     ⟨(some 16), none, .bin .lss (.t 13) (.t 15)⟩])
   (.cond (.t 16)
    .skip
    (.exit 0)))
  (.seq (some ([1, 2, 3, 4, 10, 11, 12], [4]))
   (.block 1
    (.seq (some ([1, 2, 3, 4, 10, 11, 12, 49], [4]))
     (.ops [
       ⟨(some 19), none, .load true 8 (.t 4)⟩,
       ⟨(some 20), none, .mv (.t 1)⟩,
       ⟨(some 21), none, .mv (.t 12)⟩,
       ⟨(some 22), none, .iaddr 5 (.t 20) (.t 21)⟩,
       ⟨(some 23), none, .load true 5 (.t 22)⟩,
       ⟨(some 24), none, .mv (.t 3)⟩,
       ⟨(some 25), none, .call (.f ref53_of_id) [(.t 19), (.t 23), (.t 24)]⟩,
       ⟨(some 26), none, .mv (.t 25)⟩,
       ⟨(some 27), (some (26, true)), .mv (.t 1)⟩,
       ⟨(some 28), (some (26, true)), .mv (.t 12)⟩,
       ⟨(some 29), (some (26, true)), .iaddr 5 (.t 27) (.t 28)⟩,
       ⟨(some 30), (some (26, true)), .faddr 3 (.t 29)⟩,
       ⟨(some 31), (some (26, true)), .load false 1 (.t 30)⟩,
       ⟨(some 32), (some (26, true)), .mv (.t 2)⟩,
       ⟨(some 33), (some (26, true)), .bin .leq (.t 31) (.t 32)⟩,
       ⟨(some 34), none, .pick (.t 26) (.t 33) (.c (.bool false))⟩,
       ⟨(some 35), none, .mv (.t 34)⟩,
       ⟨(some 36), (some (35, true)), .mv (.t 1)⟩,
       ⟨(some 37), (some (35, true)), .mv (.t 12)⟩,
       ⟨(some 38), (some (35, true)), .iaddr 5 (.t 36) (.t 37)⟩,
       ⟨(some 39), (some (35, true)), .faddr 3 (.t 38)⟩,
       ⟨(some 40), (some (35, true)), .load false 1 (.t 39)⟩,
       ⟨(some 41), (some (35, true)), .faddr 4 (.t 4)⟩,
       ⟨(some 42), (some (35, true)), .load false 1 (.t 41)⟩,
       ⟨(some 43), (some (35, true)), .bin .quo (.t 40) (.t 42)⟩,
       ⟨(some 44), (some (35, true)), .mv (.t 2)⟩,
       ⟨(some 45), (some (35, true)), .faddr 4 (.t 4)⟩,
       ⟨(some 46), (some (35, true)), .load false 1 (.t 45)⟩,
       ⟨(some 47), (some (35, true)), .bin .quo (.t 44) (.t 46)⟩,
       ⟨(some 48), (some (35, true)), .bin .eql (.t 43) (.t 47)⟩,
       ⟨(some 49), none, .pick (.t 35) (.t 48) (.c (.bool false))⟩])
     (.cond (.t 49)
      (.seq (some ([1, 2, 3, 4, 10, 11, 12], [4]))
       (.ops [
         ⟨(some 50), none, .mv (.t 10)⟩,
         ⟨(some 51), none, .bin .add (.t 50) (.c (.int .i64 1))⟩,
         ⟨(some 10), none, .mv (.t 51)⟩])
       (.ops [
         ⟨(some 52), none, .mv (.t 11)⟩,
         ⟨(some 53), none, .mv (.t 1)⟩,
         ⟨(some 54), none, .mv (.t 12)⟩,
         ⟨(some 55), none, .iaddr 5 (.t 53) (.t 54)⟩,
         ⟨(some 56), none, .faddr 2 (.t 55)⟩,
         ⟨(some 57), none, .load false 1 (.t 56)⟩,
         ⟨(some 58), none, .bin .add (.t 52) (.t 57)⟩,
         ⟨(some 11), none, .mv (.t 58)⟩]))
      .skip)))
   (.ops [
     ⟨(some 17), none, .mv (.t 12)⟩,
     ⟨(some 18), none, .bin .add (.t 17) (.c (.int .i64 1))⟩,
     ⟨(some 12), none, .mv (.t 18)⟩])))
/-- signatory/signatoryref53.spent -/
def ref53_spent : FnIR := ⟨4, 61, [.t 8, .t 9],
 (.seq (some ([1, 2, 3, 4], [4]))
  (.ops [
    ⟨(some 4), none, .box 8 (.t 0)⟩,
    ⟨(some 8), none, .mv (.c (.int .i64 0))⟩,
    ⟨(some 9), none, .mv (.c (.int .i64 0))⟩])
  (.seq (some ([1, 2, 3, 4, 10], [4]))
   (.ops [
     ⟨(some 10), none, .mv (.c (.int .i64 0))⟩])
   (.seq (some ([1, 2, 3, 4, 10, 11], [4]))
    (.ops [
      ⟨(some 11), none, .mv (.c (.int .i64 0))⟩])
    (.seq (some ([10, 11], []))
     (.seq (some ([1, 2, 3, 4, 10, 11, 12], [4]))
      (.ops [
        ⟨(some 12), none, .mv (.c (.int .i64 0))⟩])
      (.block 0
       (.loop ref53_spent_l0)))
     (.seq none
      (.ops [
        ⟨(some 59), none, .mv (.t 10)⟩,
        ⟨(some 60), none, .mv (.t 11)⟩,
        ⟨(some 8), none, .mv (.t 59)⟩,
        ⟨(some 9), none, .mv (.t 60)⟩])
      .ret)))))⟩

/-- (signatory/accounts.book).fine -/
def accounts_book_fine : FnIR := ⟨2, 19, [.t 4],
 (.seq (some ([2, 3], [2, 3]))
  (.ops [
    ⟨(some 2), none, .box 10 (.t 0)⟩,
    ⟨(some 3), none, .box 2 (.t 1)⟩,
    ⟨(some 4), none, .mv (.c (.bool false))⟩])
  (.seq none
   (.ops [
     ⟨(some 5), none, .faddr 0 (.t 3)⟩,
     ⟨(some 6), none, .load false 1 (.t 5)⟩,
     ⟨(some 7), none, .faddr 0 (.t 2)⟩,
     ⟨(some 8), none, .faddr 5 (.t 7)⟩,
     ⟨(some 9), none, .load false 1 (.t 8)⟩,
     ⟨(some 10), none, .bin .leq (.t 6) (.t 9)⟩,
     ⟨(some 11), none, .mv (.t 10)⟩,
     ⟨(some 12), (some (11, true)), .faddr 1 (.t 3)⟩,
     ⟨(some 13), (some (11, true)), .load false 1 (.t 12)⟩,
     ⟨(some 14), (some (11, true)), .faddr 0 (.t 2)⟩,
     ⟨(some 15), (some (11, true)), .faddr 6 (.t 14)⟩,
     ⟨(some 16), (some (11, true)), .load false 1 (.t 15)⟩,
     ⟨(some 17), (some (11, true)), .bin .leq (.t 13) (.t 16)⟩,
     ⟨(some 18), none, .pick (.t 11) (.t 17) (.c (.bool false))⟩,
     ⟨(some 4), none, .mv (.t 18)⟩])
   .ret))⟩
end Go.Abs
