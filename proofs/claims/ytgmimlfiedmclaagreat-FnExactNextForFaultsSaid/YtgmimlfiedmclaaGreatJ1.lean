/- The evaluator of the model's code and the functions' specs, part 1. Each part begins with a line that says what it holds. -/
import Derived.Calls
import Derived.WalkKit
import Derived.RowKit3
import Derived.Below
import Derived.Maps.AppendAt
import Derived.Laws.StructEq
section
/- An evaluator over the model's code, with values of its own: rows that nobody writes are plain lists, rows of the run's own have numbers. Definitions. -/
set_option linter.unusedVariables false
namespace Go.Proofs.Ev
open Go

/-- Values. 'imm x es': a row that nobody writes ('x': its capacity is its length), element by element, each a list of cells; 'own': a row of the run's own, by its number; 'elem s i o': the address of cell o of element i of s; 'junk': nothing is known. -/
inductive AV where
  | lit (v : Value)
  | junk
  | nilS
  | imm (x : Bool) (es : List (List AV))
  | own (id : Nat)
  | elem (s : AV) (i o : Nat)
  | agg (cs : List AV)
  | tup (vs : List AV)
  | fn (f : FuncId) (first cap : List AV)
  deriving Inhabited

abbrev I (n : Int) : AV := .lit (.int .i64 n)
abbrev Bo (b : Bool) : AV := .lit (.bool b)
abbrev Str (s : ByteArray) : AV := .lit (.string s)

structure Row where
  ty : TypeId
  sz : Nat
  es : List (List AV)

/-- The rows of the run's own: those that live, the next number, and the number from which on they may be written. -/
structure Hp where
  rows : Nat → Option Row
  next : Nat
  lo : Nat

abbrev Fr := Nat → AV

inductive Ex where
  | normal | exit (id : Nat) | ret
  deriving DecidableEq

abbrev R := Option (Ex × Fr × Hp)
/-- What the functions give; those that leave the heap alone. -/
structure CT where
  run : FuncId → List AV → Hp → Option (AV × Hp)
  still : FuncId → Bool
  ok : ∀ f, still f = true → ∀ a h v h', run f a h = some (v, h') → h' = h
instance : CoeFun CT (fun _ => FuncId → List AV → Hp → Option (AV × Hp)) := ⟨CT.run⟩

/-- The kinds of cells that '==' of a struct looks at. -/
inductive PK where
  | int (k : IntKind) | bool | str
  deriving DecidableEq

/-! What is known of the types. -/
structure TE where
  kind : Option IntKind := none
  str : Bool := false
  bool : Bool := false
  sl : Option TypeId := none
  st : Option (List (Nat × Nat × Bool)) := none
  ar : Option (Nat × TypeId) := none
  sz : Nat := 1
  bytes : Nat := 1
  zero : List AV := []
  agg : Bool := false
  plain : Option (List PK) := none

abbrev TT := TypeId → Option TE

/-! Operations. -/
def Hp.get (h : Hp) : AV → Option (List (List AV))
  | .nilS => some []
  | .imm _ es => some es
  | .own id => (h.rows id).map (·.es)
  | _ => none

def AV.cells : AV → List AV
  | .agg cs => cs
  | v => [v]

/-- Fits into one cell. -/
def AV.one : AV → Bool
  | .lit (.tuple _) | .lit (.agg _) | .junk | .tup _ | .agg _ => false
  | _ => true

def upd (s : Fr) (t : Nat) (v : AV) : Fr := fun j => if j = t then v else s j
def updR (s : Nat → Option Row) (t : Nat) (v : Option Row) : Nat → Option Row := fun j => if j = t then v else s j

def intBin (op : BinOp) (k : IntKind) (a b : Int) : Option AV :=
  match op with
  | .add => some (.lit (.int k (k.wrap (a + b))))
  | .sub => some (.lit (.int k (k.wrap (a - b))))
  | .mul => some (.lit (.int k (k.wrap (a * b))))
  | .quo => if b = 0 then none else some (.lit (.int k (k.wrap (a.tdiv b))))
  | .rem => if b = 0 then none else some (.lit (.int k (a.tmod b)))
  | .and => some (.lit (.int k (k.wrap (BitVec.ofInt k.bits a &&& BitVec.ofInt k.bits b).toNat)))
  | .or => some (.lit (.int k (k.wrap (BitVec.ofInt k.bits a ||| BitVec.ofInt k.bits b).toNat)))
  | .xor => some (.lit (.int k (k.wrap (BitVec.ofInt k.bits a ^^^ BitVec.ofInt k.bits b).toNat)))
  | .eql => some (Bo (a == b))
  | .neq => some (Bo (a != b))
  | .lss => some (Bo (decide (a < b)))
  | .leq => some (Bo (decide (a ≤ b)))
  | .gtr => some (Bo (decide (a > b)))
  | .geq => some (Bo (decide (a ≥ b)))
  | _ => none

def strBin (op : BinOp) (x y : ByteArray) : Option AV :=
  match op with
  | .add => if ((x.size + y.size : Nat) : Int) > IntKind.i64.max then none else some (Str (x ++ y))
  | .eql => some (Bo (x.toList == y.toList))
  | .neq => some (Bo (!(x.toList == y.toList)))
  | _ => none

/-- One cell against one cell, in a struct. -/
def cellEq : PK → AV → AV → Option Bool
  | .int k0, .lit (.int k a), .lit (.int k' b) => if k = k0 ∧ k' = k0 then some (a == b) else none
  | .bool, .lit (.bool a), .lit (.bool b) => some (a == b)
  | .str, .lit (.string a), .lit (.string b) => some (a == b)
  | _, _, _ => none

def cellsEq : List PK → List AV → List AV → Option Bool
  | [], [], [] => some true
  | k :: ks, x :: xs, y :: ys => match cellEq k x y, cellsEq ks xs ys with
    | some a, some b => some (a && b)
    | _, _ => none
  | _, _, _ => none

def isNil : AV → Option Bool
  | .nilS => some true
  | .imm _ _ | .own _ => some false
  | _ => none

def bin (T : TT) (op : BinOp) (t : TypeId) (x y : AV) : Option AV :=
  match x, y with
  | .lit (.int k a), .lit (.int k' b) =>
    match op with
    | .shl => if b < 0 then none else some (.lit (.int k (k.wrap (a * 2 ^ (min b.toNat k.bits)))))
    | .shr => if b < 0 then none else some (.lit (.int k (a.fdiv (2 ^ (min b.toNat k.bits)))))
    | _ => if k = k' then intBin op k a b else none
  | .lit (.string a), .lit (.string b) => strBin op a b
  | .lit (.bool a), .lit (.bool b) => match ((T t).map (·.bool)).getD false, op with
    | true, .eql => some (Bo (a == b))
    | true, .neq => some (Bo (!(a == b)))
    | _, _ => none
  | .agg xs, .agg ys => match (T t).bind (·.plain), op with
    | some ks, .eql => (cellsEq ks xs ys).map Bo
    | some ks, .neq => (cellsEq ks xs ys).map (fun b => Bo (!b))
    | _, _ => none
  | s, .nilS => match ((T t).bind (·.sl)).isSome, op with
    | true, .eql => (isNil s).map Bo
    | true, .neq => (isNil s).map (fun b => Bo (!b))
    | _, _ => none
  | _, _ => none

def un (op : UnOp) (x : AV) : Option AV :=
  match op, x with
  | .not, .lit (.bool b) => some (Bo (!b))
  | .neg, .lit (.int k n) => some (.lit (.int k (k.wrap (0 - n))))
  | .xor, .lit (.int k n) => some (.lit (.int k (k.wrap (BitVec.ofInt k.bits (if k.signed then -1 else k.max) ^^^ BitVec.ofInt k.bits n).toNat)))
  | _, _ => none

def pick : AV → AV → AV → Option AV
  | .lit (.bool c), a, b => some (if c then a else b)
  | _, _, _ => none

def extr : AV → Nat → Option AV
  | .tup vs, i => vs[i]?
  | _, _ => none

def part (T : TT) (t : TypeId) (cs : List AV) (off : Nat) : Option AV :=
  match T t with
  | some e => if e.agg then (if off + e.sz ≤ cs.length then some (.agg ((cs.drop off).take e.sz)) else none) else cs[off]?
  | none => none

def fld (T : TT) (t : TypeId) (x : AV) (f : Nat) : Option AV :=
  match x, (T t).bind (·.st) with
  | .agg cs, some fs => match fs[f]? with
    | some (off, n, true) => if off + n ≤ cs.length then some (.agg ((cs.drop off).take n)) else none
    | some (off, _, false) => cs[off]?
    | none => none
  | _, _ => none

def fldAddr (T : TT) (t : TypeId) (x : AV) (f : Nat) : Option AV :=
  match x, ((T t).bind (·.st)).bind (·[f]?) with
  | .elem s i o, some (off, n, _) => if n = 0 then none else some (.elem s i (o + off))
  | _, _ => none

def idxAddr (T : TT) (h : Hp) (t : TypeId) (x ix : AV) : Option AV :=
  match ix with
  | .lit (.int k i) => match (T t).bind (·.sl) with
    | some e => match h.get x, T e with
      | some es, some te => if 0 ≤ i then match es[i.toNat]? with
        | some c => if c.length = te.sz then some (.elem x i.toNat 0) else none
        | none => none else none
      | _, _ => none
    | none => match (T t).bind (·.ar), x with
      | some (n, e), .elem s j o => match T e with
        | some te => if 0 ≤ i ∧ i < n then some (.elem s j (o + i.toNat * te.sz)) else none
        | none => none
      | _, _ => none
  | _ => none

def ld (T : TT) (h : Hp) (t : TypeId) (x : AV) : Option AV :=
  match x with
  | .elem s i o => match h.get s with
    | some es => match es[i]? with
      | some e => part T t e o
      | none => none
    | none => none
  | _ => none

/-- Cells put over others from a place on. -/
def splice (e : List AV) (o : Nat) (cs : List AV) : List AV := e.take o ++ cs ++ e.drop (o + cs.length)

def stor (T : TT) (h : Hp) (t : TypeId) (x v : AV) : Option Hp :=
  match x with
  | .elem (.own id) i o => match h.rows id, T t with
    | some r, some te => match r.es[i]? with
      | some e =>
        if h.lo ≤ id ∧ v.cells.length = te.sz ∧ o + te.sz ≤ e.length ∧ v.cells.all AV.one = true then
          some { h with rows := updR h.rows id (some { r with es := r.es.set i (splice e o v.cells) }) }
        else none
      | none => none
    | _, _ => none
  | _ => none

/-- A new row. -/
def addRow (h : Hp) (ty : TypeId) (sz : Nat) (es : List (List AV)) : Hp := { h with rows := updR h.rows h.next (some ⟨ty, sz, es⟩), next := h.next + 1 }

def box (T : TT) (h : Hp) (t : TypeId) (v : AV) : Option (AV × Hp) :=
  match T t with
  | some te => if v.cells.length = te.sz ∧ 0 < te.sz ∧ v.cells.all AV.one = true then some (.elem (.own h.next) 0 0, addRow h t te.sz [v.cells]) else none
  | none => none

def zeroOf (T : TT) (t : TypeId) : Option (List AV) := (T t).map (·.zero)

def alloc (T : TT) (h : Hp) (t : TypeId) : Option (AV × Hp) :=
  match T t with
  | some te => if 0 < te.sz then some (.elem (.own h.next) 0 0, addRow h t te.sz [te.zero]) else none
  | none => none

/-- Parts put into cells. -/
def fillA (place : Nat → Option (Nat × Nat)) (cells : List AV) : List (Nat × AV) → Option (List AV)
  | [] => some cells
  | (i, v) :: rest => match place i with
    | none => none
    | some (off, size) => if v.cells.length = size ∧ off + size ≤ cells.length ∧ v.cells.all AV.one = true then fillA place (splice cells off v.cells) rest else none

def build (T : TT) (t : TypeId) (parts : List (Nat × AV)) : Option AV :=
  match T t with
  | some te => match te.st with
    | some fs => (fillA (fun i => (fs[i]?).map fun f => (f.1, f.2.1)) te.zero parts).map .agg
    | none => match te.ar with
      | some (n, e) => match T e with
        | some ee => (fillA (fun i => some (i * ee.sz, ee.sz)) te.zero parts).map .agg
        | none => none
      | none => none
  | none => none

/-- A literal's elements, all given, in order. -/
def lits (sz k : Nat) : List (Nat × AV) → Option (List (List AV))
  | [] => some []
  | (i, v) :: rest => if i = k ∧ v.cells.length = sz ∧ v.cells.all AV.one = true then (lits sz (k + 1) rest).map (v.cells :: ·) else none

def buildSlice (T : TT) (t : TypeId) (len : Nat) (parts : List (Nat × AV)) : Option AV :=
  match (T t).bind (·.sl) with
  | some e => match T e with
    | some te => if parts.length = len ∧ 0 < te.sz ∧ len * te.sz ≤ 65536 then (lits te.sz 0 parts).map (.imm true) else none
    | none => none
  | none => none

def makeSl (T : TT) (h : Hp) (t : TypeId) (l c : AV) : Option (AV × Hp) :=
  match l, c, (T t).bind (·.sl) with
  | .lit (.int .i64 n), .lit (.int .i64 m), some e => match T e with
    | some te => if n = m ∧ 0 ≤ n ∧ n ≤ 4294967296 ∧ 0 < te.sz then some (.own h.next, addRow h e te.sz (List.replicate n.toNat te.zero)) else none
    | none => none
  | _, _, _ => none

def strT (T : TT) (t : TypeId) : Bool := match T t with
  | some e => e.str
  | none => false
def slT (T : TT) (t : TypeId) : Bool := match T t with
  | some e => e.sl.isSome
  | none => false

/-- Every element has so many cells, each fit for one. -/
def rowOk (sz : Nat) (es : List (List AV)) : Bool := es.all fun c => c.length == sz && c.all AV.one

/-- A bound of a cut, or what stands for it where there is none. -/
def bnd (d : Int) : Option AV → Option Int
  | none => some d
  | some (.lit (.int _ i)) => some i
  | _ => none

def cut (T : TT) (h : Hp) (t : TypeId) (x : AV) (lo hi : Option AV) : Option AV :=
  match x with
  | .lit (.string s) => if strT T t then match bnd 0 lo, bnd s.size hi with
    | some l, some u => if 0 ≤ l ∧ l ≤ u ∧ u ≤ s.size then some (Str (s.extract l.toNat u.toNat)) else none
    | _, _ => none else none
  | .imm _ es => match (T t).bind (·.sl) with
    | some e => match T e, bnd 0 lo, bnd es.length hi with
      | some te, some l, some u => if (0 ≤ l ∧ l ≤ u ∧ u ≤ es.length) ∧ rowOk te.sz es = true then some (.imm false ((es.take u.toNat).drop l.toNat)) else none
      | _, _, _ => none
    | none => none
  | .nilS => match (T t).bind (·.sl) with
    | some e => match T e, bnd 0 lo, bnd 0 hi with
      | some _, some l, some u => if l = 0 ∧ u = 0 then some .nilS else none
      | _, _, _ => none
    | none => none
  | _ => none

def lenA (T : TT) (h : Hp) (t : TypeId) : AV → Option AV
  | .lit (.string s) => if strT T t then some (I s.size) else none
  | v => if slT T t then (h.get v).map fun es => I es.length else none

/-- The most elements that a row is let grow to. -/
def most : Nat := 4294967296

def app (T : TT) (h : Hp) (t : TypeId) (x y : AV) : Option (AV × Hp) :=
  match (T t).bind (·.sl) with
  | none => none
  | some e => match T e with
    | none => none
    | some te => match h.get y with
      | none => none
      | some ys =>
        if ¬ (0 < te.sz ∧ rowOk te.sz ys = true) then none else
        match x with
        | .nilS => if ys = [] then some (.nilS, h) else if ys.length ≤ most then some (.own h.next, addRow h e te.sz ys) else none
        | .imm true es => if ys = [] then some (.imm true es, h) else
          if es.length + ys.length ≤ most ∧ rowOk te.sz es = true then some (.own h.next, addRow h e te.sz (es ++ ys)) else none
        | .own id => match h.rows id with
          | some r => if h.lo ≤ id ∧ r.ty = e ∧ r.sz = te.sz ∧ r.es.length + ys.length ≤ most then
              some (.own h.next, { h with rows := updR (updR h.rows id none) h.next (some ⟨e, te.sz, r.es ++ ys⟩), next := h.next + 1 })
            else none
          | none => none
        | _ => none

def conv (T : TT) (src dst : TypeId) (x : AV) : Option AV :=
  match x, T src, (T dst).bind (·.kind) with
  | .lit (.int _ n), some _, some k => some (.lit (.int k (k.wrap n)))
  | _, _, _ => none

def indexStr (T : TT) (t : TypeId) (x ix : AV) : Option AV :=
  match x, ix, strT T t with
  | .lit (.string s), .lit (.int _ i), true => match (if 0 ≤ i then s[i.toNat]? else none) with
    | some b => some (.lit (.int .u8 b.toNat))
    | none => none
  | _, _, _ => none

def nilChk : AV → Option AV
  | .elem s i o => some (.elem s i o)
  | .fn f a c => some (.fn f a c)
  | _ => none

def minmax (mx : Bool) : AV → AV → Option AV
  | .lit (.int k x), .lit (.int _ y) => some (.lit (.int k (if mx then (if y > x then y else x) else (if y < x then y else x))))
  | _, _ => none

def bltin (T : TT) (h : Hp) (b : Builtin) (argTypes : Array TypeId) (args : List AV) : Option (AV × Hp) :=
  match b, args, argTypes.toList with
  | .len, [x], [t] => (lenA T h t x).map (·, h)
  | .max, [x, y], _ => (minmax true x y).map (·, h)
  | .min, [x, y], _ => (minmax false x y).map (·, h)
  | .append, [x, y], [t, t'] => if t = t' then app T h t x y else none
  | _, _, _ => none

def pairUp (ρ : Operand → AV) (ps : Array (Nat × Operand)) : List (Nat × AV) := ps.toList.map fun p => (p.1, ρ p.2)

def evOp (T : TT) (C : CT) (o : Oper) (ρ : Operand → AV) (h : Hp) : Option (AV × Hp) :=
  match o.op with
  | .move x | .assign x => some (ρ x, h)
  | .pick c a b => (pick (ρ c) (ρ a) (ρ b)).map (·, h)
  | .alloc t => alloc T h t
  | .box t x => box T h t (ρ x)
  | .build t ps => (build T t (pairUp ρ ps)).map (·, h)
  | .buildSlice t n ps => (buildSlice T t n (pairUp ρ ps)).map (·, h)
  | .load t x => (ld T h t (ρ x)).map (·, h)
  | .store t x v => (stor T h t (ρ x) (ρ v)).map (.lit undef, ·)
  | .nilCheck x => (nilChk (ρ x)).map (·, h)
  | .binOp op t x y _ => (bin T op t (ρ x) (ρ y)).map (·, h)
  | .unOp op _ x => (un op (ρ x)).map (·, h)
  | .convert s d x => (conv T s d (ρ x)).map (·, h)
  | .makeFunc (.func f) first cap => some (.fn f (first.toList.map ρ) (cap.toList.map ρ), h)
  | .makeSlice t l c => makeSl T h t (ρ l) (ρ c)
  | .slice t x lo hi none => (cut T h t (ρ x) (lo.map ρ) (hi.map ρ)).map (·, h)
  | .fieldAddr t x f => (fldAddr T t (ρ x) f).map (·, h)
  | .field t x f => (fld T t (ρ x) f).map (·, h)
  | .indexAddr t x ix => (idxAddr T h t (ρ x) (ρ ix)).map (·, h)
  | .index t x ix => (indexStr T t (ρ x) (ρ ix)).map (·, h)
  | .extract x i => (extr (ρ x) i).map (·, h)
  | .call c => match c.callee with
    | .builtin b => bltin T h b c.argTypes (c.args.toList.map ρ)
    | .value f => match ρ f with
      | .fn g first cap => C g (first ++ c.args.toList.map ρ ++ cap) h
      | _ => none
    | .invoke .. => none
  | _ => none

/-! Regions. -/
abbrev Loc := List (Nat × AV)
def look (l : Loc) (s : Fr) (K : Nat → Bool) (t : Nat) : AV :=
  match l with
  | [] => if K t then s t else .junk
  | (u, v) :: l => if t = u then v else look l s K t

def rhoOf (f : Nat → AV) : Operand → AV
  | .tmp t => f t
  | .const (.slice none 0 0) => .nilS
  | .const v => .lit v
  | .func f => .fn f [] []
  | .global _ => .junk

abbrev rho (l : Loc) (s : Fr) (K : Nat → Bool) : Operand → AV := rhoOf (look l s K)

/-- Is the operation wanted? -/
def want (ops : Array Oper) (o : Oper) (f : Nat → AV) : Option Bool :=
  match o.guard with
  | none => some true
  | some (j, b) => match ((ops[j]?).bind (·.dst)) with
    | some d => match f d with
      | .lit (.bool c) => some (c == b)
      | .lit (.tuple _) => some false
      | _ => none
    | none => none

def bindL (dst : Option Tmp) (v : AV) (l : Loc) : Loc := match dst with | some d => (d, v) :: l | none => l

def dstOk (nt : Nat) : Option Tmp → Bool
  | some d => decide (d < nt)
  | none => true

def evOps (T : TT) (C : CT) (ops : Array Oper) (K : Nat → Bool) (nt : Nat) (s : Fr) : List Oper → Loc → Hp → Option (Loc × Hp)
  | [], l, h => some (l, h)
  | o :: rest, l, h =>
    if dstOk nt o.dst = true then
      match want ops o (look l s K) with
      | none => none
      | some false => evOps T C ops K nt s rest (bindL o.dst (.lit undef) l) h
      | some true => match evOp T C o (rho l s K) h with
        | none => none
        | some (v, h') => evOps T C ops K nt s rest (bindL o.dst v l) h'
    else none

def commit (K : Nat → Bool) : Loc → Fr → Fr
  | [], s => s
  | (t, v) :: l, s => if K t then upd (commit K l s) t v else commit K l s

/-! Code. -/
def seqR (x : R) (k : Fr → Hp → R) : R :=
  match x with
  | some (.normal, s, h) => k s h
  | r => r

def blockR (id : Nat) (x : R) : R :=
  match x with
  | some (.exit id', s, h) => if id' = id then some (.normal, s, h) else some (.exit id', s, h)
  | r => r

def condR (c : AV) (x y : R) : R :=
  match c with
  | .lit (.bool true) => x
  | .lit (.bool false) => y
  | _ => none

def loopN (b : Fr → Hp → R) : Nat → Fr → Hp → R
  | 0, _, _ => none
  | n + 1, s, h => match b s h with
    | some (.normal, s', h') => loopN b n s' h'
    | r => r

open Classical in
noncomputable def Loop (b : Fr → Hp → R) (s : Fr) (h : Hp) : R :=
  if H : ∃ n r, loopN b n s h = some r then some H.choose_spec.choose else none

/-- Whatever order is picked for a region that draws: the same comes out. Which operations touch the heap, and how: 0 not at all; 1 they read; 2 they may turn it. -/
def touches (S : FuncId → Bool) (o : Oper) : Nat :=
  match o.op with
  | .load .. | .indexAddr .. | .slice .. => 1
  | .alloc _ | .box .. | .store .. | .makeSlice .. => 2
  | .call c => match c.callee with
    | .builtin .append => 2
    | .builtin _ => 1
    | .value (.func f) => if S f then 1 else 2
    | _ => 2
  | _ => 0

/-- Does operation j wait for operation i (over edges)? 'b': Region.before. -/
def waits (b : Array Nat) (i j : Nat) : Bool := (b.getD j 0).testBit i

/-- From i on up to j nothing is put where operation i looks or puts. -/
def steady (ops : Array Oper) (oi : Oper) (i j : Nat) : Bool :=
  oi.dst.isSome && (List.range j).all fun k => decide (k < i) || (match ops[k]? with
    | some ok => (match ok.dst with
      | some d => !(oi.looksAt ops).contains d && (k == i || oi.dst != some d)
      | none => true)
    | none => true)

/-- A read ahead of a turn that may come up after it. -/
def early (S : FuncId → Bool) (ops : Array Oper) (oi oj : Oper) (i j : Nat) : Bool := touches S oi == 1 && touches S oj == 2 && steady ops oi i j

def bads (S : FuncId → Bool) (ops : Array Oper) (j : Nat) : List Nat :=
  (List.range j).filter fun i => !waits (Region.before ops) i j && (match ops[i]?, ops[j]? with
    | some oi, some oj => touches S oi == 1 && touches S oj == 2
    | _, _ => false)

def okDraw (S : FuncId → Bool) (ops : Array Oper) : Bool :=
  let b := Region.before ops
  let l := ops.toList.zipIdx
  l.all fun (oj, j) =>
    (oj.after.all fun e => e.on < j) && (!(oj.op matches .select ..)) &&
    l.all fun (oi, i) => !(decide (i < j)) || waits b i j ||
      ((decide (touches S oi + touches S oj < 3) || early S ops oi oj i j) && oi.apart ops oj)

/-- The reads that a turn may come up ahead of give the same after it. -/
def again (T : TT) (C : CT) (ops : Array Oper) (K : Nat → Bool) (s : Fr) (n : Nat) (l : Loc) (h : Hp) : Prop :=
  ∀ i ∈ bads C.still ops n, ∀ oi d, ops[i]? = some oi → oi.dst = some d → want ops oi (look l s K) = some true → evOp T C oi (rho l s K) h = some (look l s K d, h)

def chk (T : TT) (C : CT) (ops : Array Oper) (K : Nat → Bool) (s : Fr) : List Oper → Nat → Loc → Hp → Prop
  | [], _, _, _ => True
  | o :: rest, n, l, h => match want ops o (look l s K) with
    | none => True
    | some false => again T C ops K s n l h ∧ chk T C ops K s rest (n + 1) (bindL o.dst (.lit undef) l) h
    | some true => match evOp T C o (rho l s K) h with
      | none => True
      | some (v, h') => again T C ops K s n l h' ∧ chk T C ops K s rest (n + 1) (bindL o.dst v l) h'

open Classical in
noncomputable def evReg (T : TT) (C : CT) (K : Nat → Bool) (nt : Nat) (ops : Array Oper) (draw : Bool) (s : Fr) (h : Hp) : R :=
  if (draw && !okDraw C.still ops) = true then none else
  if draw = true ∧ ¬ chk T C ops K s ops.toList 0 [] h then none else
  match evOps T C ops K nt s ops.toList [] h with
  | some (l, h') => some (.normal, commit K l s, h')
  | none => none

noncomputable def ev (T : TT) (C : CT) (K : Nat → Bool) (nt : Nat) : Code → Fr → Hp → R
  | .skip, s, h => some (.normal, s, h)
  | .region _ ops draw, s, h => evReg T C K nt ops draw s h
  | .seq a b, s, h => seqR (ev T C K nt a s h) (fun s h => ev T C K nt b s h)
  | .cond c a b, s, h => condR (rho [] s K c) (ev T C K nt a s h) (ev T C K nt b s h)
  | .block id c, s, h => blockR id (ev T C K nt c s h)
  | .loop c, s, h => Loop (fun s h => ev T C K nt c s h) s h
  | .exit id, s, h => some (.exit id, s, h)
  | .ret, s, h => some (.ret, s, h)
  | _, _, _ => none

def resOf (T : TT) (K : Nat → Bool) (s : Fr) (h : Hp) : ResultVar → Option AV
  | .tmp t => if K t then some (s t) else none
  | .cell a t => if K a then ld T h t (s a) else none

def allSome {α β : Type} (f : α → Option β) : List α → Option (List β)
  | [] => some []
  | x :: l => match f x, allSome f l with
    | some y, some ys => some (y :: ys)
    | _, _ => none

def results1 (vs : List AV) : AV :=
  match vs with
  | [v] => v
  | vs => .tup vs

noncomputable def body (T : TT) (C : CT) (K : Nat → Bool) (fn : Func) (args : List AV) (h : Hp) : Option (AV × Hp) :=
  if args.length ≤ fn.ntmps then
    match fn.body with
    | some c => match ev T C K fn.ntmps c (fun t => args.getD t (.lit undef)) h with
      | some (.normal, s, h') => (allSome (resOf T K s h') fn.results.toList).map fun vs => (results1 vs, h')
      | some (.ret, s, h') => (allSome (resOf T K s h') fn.results.toList).map fun vs => (results1 vs, h')
      | _ => none
    | none => none
  else none

/-! Results that are handed back as rows that nobody writes. -/
mutual
def frz (h : Hp) (n0 : Nat) : Nat → AV → Option AV
  | 0, _ => none
  | k + 1, .own id => if n0 ≤ id then match h.rows id with
    | some r => (frzEs h n0 k r.es).map (.imm false)
    | none => none
    else some (.own id)
  | k + 1, .agg cs => (frzL h n0 k cs).map .agg
  | k + 1, .tup cs => (frzL h n0 k cs).map .tup
  | k + 1, .imm x es => (frzEs h n0 k es).map (.imm x)
  | _ + 1, .lit v => some (.lit v)
  | _ + 1, .nilS => some .nilS
  | _ + 1, _ => none
def frzL (h : Hp) (n0 : Nat) : Nat → List AV → Option (List AV)
  | 0, _ => none
  | _ + 1, [] => some []
  | k + 1, c :: cs => match frz h n0 k c, frzL h n0 (k + 1) cs with
    | some c, some cs => some (c :: cs)
    | _, _ => none
def frzEs (h : Hp) (n0 : Nat) : Nat → List (List AV) → Option (List (List AV))
  | 0, _ => none
  | _ + 1, [] => some []
  | k + 1, c :: cs => match frzL h n0 k c, frzEs h n0 (k + 1) cs with
    | some c, some cs => some (c :: cs)
    | _, _ => none
end

/-- What a program's run is over: the program, its types' table, the slots that count, the functions whose results are handed back as rows that nobody writes, functions of the library by their own words. -/
structure Pk where
  P : Program
  T : TT
  K : FuncId → Nat → Bool
  fz : FuncId → Bool
  X : FuncId → Option (List AV → Hp → Option (AV × Hp))

noncomputable def callF (p : Pk) (C : CT) (f : FuncId) (args : List AV) (h : Hp) : Option (AV × Hp) :=
  match p.X f with
  | some sem => sem args h
  | none => match p.P.funcs[f]? with
    | none => none
    | some fn =>
      if p.fz f then
        match body p.T C (p.K f) fn args { h with lo := h.next } with
        | some (v, h') => (frz h' h.next 40 v).map (·, h)
        | none => none
      else body p.T C (p.K f) fn args h

def Pk.still (p : Pk) (f : FuncId) : Bool := (p.X f).isNone && p.fz f

theorem callF_still (p : Pk) (C : CT) : ∀ f, p.still f = true → ∀ a h v h', callF p C f a h = some (v, h') → h' = h := by
  intro f hf a h v h' e
  unfold Pk.still at hf
  simp only [Bool.and_eq_true, Option.isNone_iff_eq_none] at hf
  unfold callF at e
  rw [hf.1] at e
  simp only [hf.2, if_true] at e
  split at e
  · cases e
  · split at e
    · obtain ⟨v2, _, e2⟩ := Option.map_eq_some_iff.1 e
      injection e2 with _ e3
      exact e3.symm
    · cases e

noncomputable def pcN (p : Pk) : Nat → CT
  | 0 => ⟨fun _ _ _ => none, p.still, fun _ _ _ _ _ _ e => by cases e⟩
  | n + 1 => ⟨callF p (pcN p n), p.still, callF_still p (pcN p n)⟩

open Classical in
noncomputable def PcR (p : Pk) (f : FuncId) (args : List AV) (h : Hp) : Option (AV × Hp) :=
  if H : ∃ n r, pcN p n f args h = some r then some H.choose_spec.choose else none

theorem pcN_stills (p : Pk) : ∀ n, (pcN p n).still = p.still
  | 0 => rfl
  | _ + 1 => rfl

noncomputable def Pc (p : Pk) : CT := ⟨PcR p, p.still, fun f hf a h v h' e => by
  unfold PcR at e
  split at e
  · rename_i H
    have h1 := H.choose_spec.choose_spec
    rw [Option.some.inj e] at h1
    exact (pcN p _).ok f (by rw [pcN_stills]; exact hf) a h v h' h1
  · cases e⟩

end Go.Proofs.Ev
end
section
/- The evaluator's values and heap against the machine's: the relation, and how it lives on. -/
set_option linter.unusedVariables false
namespace Go.Proofs.Ev
open Go Go.RowKit

/-- Where a row of the run's own lies. -/
structure Lc where
  blk : Nat
  len : Nat
  cap : Nat
  sz : Nat
  deriving Inhabited

/-- A world, the blocks that may be written, the places of the own rows, the next number. -/
structure En where
  w : World
  O : Nat → Prop
  m : Nat → Lc
  N : Nat

def Sz (E : En) : AV → Nat → Prop
  | .own id, sz => (E.m id).sz = sz
  | .imm _ es, sz => ∀ e ∈ es, e.length = sz
  | _, _ => False

inductive VRel (E : En) : AV → Value → Prop
  | lit (v : Value) : VRel E (.lit v) v
  | junk (v : Value) : VRel E .junk v
  | nilS : VRel E .nilS (.slice none 0 0)
  | own (id : Nat) (h : id < E.N) : VRel E (.own id) (.slice (some ⟨(E.m id).blk, 0, none⟩) (E.m id).len (E.m id).cap)
  | imm (x : Bool) (es : List (List AV)) (sz : Nat) (a : Addr) (c : Nat) (us : List Value) (hsz : ∀ e ∈ es, e.length = sz)
      (hl : us.length = es.flatten.length) (hc : ∀ j u, us[j]? = some u → E.w.cell? (a.add j) = some u) (hO : us ≠ [] → ¬ E.O a.block)
      (hcap : es.length ≤ c) (hx : x = true → c = es.length) (hm : c ≤ maxLen)
      (hv : ∀ j (h1 : j < es.flatten.length) (h2 : j < us.length), VRel E (es.flatten[j]) (us[j])) : VRel E (.imm x es) (.slice (some a) es.length c)
  | elem (s : AV) (i o : Nat) (a : Addr) (n c sz : Nat) (hs : VRel E s (.slice (some a) n c)) (hz : Sz E s sz) :
      VRel E (.elem s i o) (.pointer (some (a.add (i * sz + o))))
  | agg (cs : List AV) (us : List Value) (hl : us.length = cs.length)
      (hv : ∀ j (h1 : j < cs.length) (h2 : j < us.length), VRel E (cs[j]) (us[j])) : VRel E (.agg cs) (.agg us.toArray)
  | tup (cs : List AV) (us : List Value) (hl : us.length = cs.length)
      (hv : ∀ j (h1 : j < cs.length) (h2 : j < us.length), VRel E (cs[j]) (us[j])) : VRel E (.tup cs) (.tuple us.toArray)
  | fn (f : FuncId) (xs ys : List AV) (us vs : List Value) (hl : us.length = xs.length) (hk : vs.length = ys.length)
      (hu : ∀ j (h1 : j < xs.length) (h2 : j < us.length), VRel E (xs[j]) (us[j]))
      (hv : ∀ j (h1 : j < ys.length) (h2 : j < vs.length), VRel E (ys[j]) (vs[j])) : VRel E (.fn f xs ys) (.func (.func f) us.toArray vs.toArray)

/-- Lists, place by place. -/
def LRel (E : En) (xs : List AV) (us : List Value) : Prop :=
  us.length = xs.length ∧ ∀ j (h1 : j < xs.length) (h2 : j < us.length), VRel E (xs[j]) (us[j])

/-- One environment behind another. -/
structure Ext (E E' : En) : Prop where
  N : E.N ≤ E'.N
  m : ∀ id, id < E.N → E'.m id = E.m id
  old : ∀ b, b < E.w.heap.size → ¬ E.O b → ¬ E'.O b ∧ E'.w.heap[b]? = E.w.heap[b]?

theorem Ext.refl (E : En) : Ext E E := ⟨Nat.le_refl _, fun _ _ => rfl, fun _ _ h => ⟨h, rfl⟩⟩

/-- Every own row that a value names lies below the next number. -/
theorem own_lt_of {E : En} {s : AV} {v : Value} (h : VRel E s v) {id : Nat} (e : s = .own id) : id < E.N := by
  subst e
  cases h
  assumption

theorem Sz.ext {E E' : En} (h : Ext E E') {s : AV} {v : Value} (hv : VRel E s v) {sz : Nat} (hz : Sz E s sz) : Sz E' s sz := by
  cases s with
  | own id =>
    have := own_lt_of hv rfl
    simp only [Sz] at hz ⊢
    rw [h.m id this]
    exact hz
  | imm x es => exact hz
  | _ => exact hz

theorem VRel.ext {E E' : En} (h : Ext E E') {x : AV} {v : Value} (hv : VRel E x v) : VRel E' x v := by
  induction hv with
  | lit v => exact .lit v
  | junk v => exact .junk v
  | nilS => exact .nilS
  | own id hi => rw [← h.m id hi]; exact .own id (Nat.lt_of_lt_of_le hi h.N)
  | imm x es sz a c us hsz hl hc hO hcap hx hm hv ih =>
    have hb : us ≠ [] → a.block < E.w.heap.size := by
      intro hne
      cases us with
      | nil => exact absurd rfl hne
      | cons u us =>
        have := World.block_lt_of_cell? E.w _ (hc 0 u rfl)
        simpa [Addr.add] using this
    refine .imm x es sz a c us hsz hl (fun j u hu => ?_) (fun hne => (h.old _ (hb hne) (hO hne)).1) hcap hx hm ih
    have hne : us ≠ [] := by rintro rfl; simp at hu
    have hblk : (a.add j).block = a.block := by unfold Addr.add; split <;> rfl
    have := h.old _ (hb hne) (hO hne)
    rw [World.cell?_of_block (w := E.w) (w' := E'.w) (a := a.add j) (by rw [hblk]; exact this.2)]
    exact hc j u hu
  | elem s i o a n c sz hs hz ih => exact .elem s i o a n c sz ih (hz.ext h hs)
  | agg cs us hl hv ih => exact .agg cs us hl ih
  | tup cs us hl hv ih => exact .tup cs us hl ih
  | fn f xs ys us vs hl hk hu hv ih1 ih2 => exact .fn f xs ys us vs hl hk ih1 ih2

theorem LRel.ext {E E' : En} (h : Ext E E') {xs : List AV} {us : List Value} (hv : LRel E xs us) : LRel E' xs us :=
  ⟨hv.1, fun j h1 h2 => (hv.2 j h1 h2).ext h⟩

theorem LRel.nil (E : En) : LRel E [] [] := ⟨rfl, fun j h => by simp at h⟩
theorem LRel.cons {E : En} {x : AV} {u : Value} {xs : List AV} {us : List Value} (h : VRel E x u) (hs : LRel E xs us) : LRel E (x :: xs) (u :: us) := by
  refine ⟨by simp [hs.1], fun j h1 h2 => ?_⟩
  cases j with
  | zero => exact h
  | succ j => exact hs.2 j (by simpa using h1) (by simpa using h2)
theorem LRel.append {E : En} {xs ys : List AV} {us vs : List Value} (h : LRel E xs us) (k : LRel E ys vs) : LRel E (xs ++ ys) (us ++ vs) := by
  refine ⟨by simp [h.1, k.1], fun j h1 h2 => ?_⟩
  simp only [List.getElem_append]
  have := h.1
  split
  · rename_i hj
    rw [dif_pos (by omega)]
    exact h.2 j _ _
  · rename_i hj
    rw [dif_neg (by omega)]
    have e : j - us.length = j - xs.length := by omega
    simp only [e]
    exact k.2 _ _ _
theorem LRel.take {E : En} {xs : List AV} {us : List Value} (h : LRel E xs us) (n : Nat) : LRel E (xs.take n) (us.take n) := by
  refine ⟨by simp [h.1], fun j h1 h2 => ?_⟩
  simp only [List.getElem_take]
  exact h.2 j _ _
theorem LRel.drop {E : En} {xs : List AV} {us : List Value} (h : LRel E xs us) (n : Nat) : LRel E (xs.drop n) (us.drop n) := by
  refine ⟨by simp [h.1], fun j h1 h2 => ?_⟩
  simp only [List.getElem_drop]
  exact h.2 _ _ _
theorem LRel.get {E : En} {xs : List AV} {us : List Value} (h : LRel E xs us) {j : Nat} {x : AV} (hx : xs[j]? = some x) : ∃ u, us[j]? = some u ∧ VRel E x u := by
  obtain ⟨h1, rfl⟩ := List.getElem?_eq_some_iff.1 hx
  exact ⟨us[j]'(by have := h.1; omega), by simp [h.1, h1], h.2 j h1 (by have := h.1; omega)⟩
theorem LRel.replicate {E : En} {xs : List AV} {us : List Value} (h : LRel E xs us) (n : Nat) : LRel E (List.replicate n xs).flatten (List.replicate n us).flatten := by
  induction n with
  | zero => exact LRel.nil E
  | succ n ih => simpa [List.replicate_succ] using h.append ih

/-- Lists of rows of cells, laid flat: place i, cell o. -/
theorem flatten_at {α : Type} {sz : Nat} : ∀ (es : List (List α)), (∀ e ∈ es, e.length = sz) → ∀ (i o : Nat), o < sz → es.flatten[i * sz + o]? = (es[i]?).bind (·[o]?)
  | [], _, i, o, _ => by simp
  | e :: es, h, 0, o, ho => by
    have he := h e (by simp)
    simp only [Nat.zero_mul, Nat.zero_add, List.flatten_cons, List.getElem?_cons_zero, Option.bind_some]
    rw [List.getElem?_append_left (by omega)]
  | e :: es, h, i + 1, o, ho => by
    have he := h e (by simp)
    simp only [List.flatten_cons, List.getElem?_cons_succ]
    rw [List.getElem?_append_right (by rw [he, Nat.add_mul]; omega)]
    rw [show (i + 1) * sz + o - e.length = i * sz + o by rw [he, Nat.add_mul]; omega]
    exact flatten_at es (fun e he => h e (by simp [he])) i o ho
theorem flatten_length {α : Type} {sz : Nat} : ∀ (es : List (List α)), (∀ e ∈ es, e.length = sz) → es.flatten.length = es.length * sz
  | [], _ => by simp
  | e :: es, h => by
    rw [List.flatten_cons, List.length_append, flatten_length es (fun e he => h e (by simp [he])), h e (by simp), List.length_cons, Nat.add_mul]
    omega
theorem flatten_take {α : Type} {sz : Nat} : ∀ (es : List (List α)), (∀ e ∈ es, e.length = sz) → ∀ k, (es.take k).flatten = es.flatten.take (k * sz)
  | [], _, k => by simp
  | e :: es, h, 0 => by simp
  | e :: es, h, k + 1 => by
    have he := h e (by simp)
    rw [List.take_succ_cons, List.flatten_cons, List.flatten_cons, flatten_take es (fun e he => h e (by simp [he])) k, List.take_append, he]
    rw [List.take_of_length_le (l := e) (by rw [he, Nat.add_mul]; omega)]
    congr 2
    rw [Nat.add_mul]; omega
theorem flatten_drop {α : Type} {sz : Nat} : ∀ (es : List (List α)), (∀ e ∈ es, e.length = sz) → ∀ k, (es.drop k).flatten = es.flatten.drop (k * sz)
  | [], _, k => by simp
  | e :: es, h, 0 => by simp
  | e :: es, h, k + 1 => by
    have he := h e (by simp)
    rw [List.drop_succ_cons, List.flatten_cons, flatten_drop es (fun e he => h e (by simp [he])) k, List.drop_append, he]
    rw [List.drop_eq_nil_of_le (as := e) (by rw [he, Nat.add_mul]; omega)]
    simp only [List.nil_append]
    congr 1
    rw [Nat.add_mul]; omega

/-- A row of the run's own in the machine's heap. -/
structure RRel (E : En) (r : Row) (l : Lc) : Prop where
  len : l.len = r.es.length
  sz : l.sz = r.sz
  pos : 0 < r.sz
  uni : ∀ e ∈ r.es, e.length = r.sz
  cap : l.len ≤ l.cap
  max : l.cap ≤ maxLen
  cells : ∃ cur us, E.w.heap[l.blk]? = some (.cells cur r.ty (0, 0)) ∧ cur.size = l.cap * r.sz ∧ cur.toList.take (r.es.length * r.sz) = us ∧ LRel E r.es.flatten us

structure SRel (h : Hp) (B : Nat) (E : En) : Prop where
  N : E.N = h.next
  lo : h.lo ≤ h.next
  bs : B ≤ E.w.heap.size
  O : ∀ b, E.O b ↔ ∃ id r, h.rows id = some r ∧ (E.m id).blk = b
  lt : ∀ id r, h.rows id = some r → id < h.next
  base : ∀ id r, h.rows id = some r → B ≤ (E.m id).blk
  rows : ∀ id r, h.rows id = some r → RRel E r (E.m id)
  inj : ∀ id r id' r', h.rows id = some r → h.rows id' = some r' → (E.m id).blk = (E.m id').blk → id = id'

/-- One state behind another: what has been written are living rows from 'lo' on, and new blocks. -/
structure Stp (h h' : Hp) (E E' : En) : Prop where
  lo : h'.lo = h.lo
  next : h.next ≤ h'.next
  low : ∀ id, id < h.lo → h'.rows id = h.rows id
  m : ∀ id, id < h.next → E'.m id = E.m id
  os : E'.w.os = E.w.os
  tape : E'.w.tape = E.w.tape
  output : E'.w.output = E.w.output
  size : E.w.heap.size ≤ E'.w.heap.size
  frame : ∀ b, b < E.w.heap.size → (∀ id r, h.rows id = some r → h.lo ≤ id → (E.m id).blk ≠ b) → E'.w.heap[b]? = E.w.heap[b]?
  sub : ∀ id r, h'.rows id = some r → h.lo ≤ id → (E'.m id).blk < E.w.heap.size → ∃ id0 r0, h.rows id0 = some r0 ∧ h.lo ≤ id0 ∧ (E.m id0).blk = (E'.m id).blk

theorem Stp.refl (h : Hp) (E : En) : Stp h h E E :=
  ⟨rfl, Nat.le_refl _, fun _ _ => rfl, fun _ _ => rfl, rfl, rfl, rfl, Nat.le_refl _, fun _ _ _ => rfl, fun id r hr hl hb => ⟨id, r, hr, hl, rfl⟩⟩

theorem Stp.trans {h h1 h2 : Hp} {E E1 E2 : En} (hl : h.lo ≤ h.next) (a : Stp h h1 E E1) (b : Stp h1 h2 E1 E2) : Stp h h2 E E2 := by
  refine ⟨b.lo.trans a.lo, Nat.le_trans a.next b.next, fun id hi => (b.low id (by rw [a.lo]; exact hi)).trans (a.low id hi), fun id hi => (b.m id (Nat.lt_of_lt_of_le hi a.next)).trans (a.m id hi),
    b.os.trans a.os, b.tape.trans a.tape, b.output.trans a.output, Nat.le_trans a.size b.size, fun k hk hn => ?_, fun id r hr hi hb => ?_⟩
  · refine (b.frame k (Nat.lt_of_lt_of_le hk a.size) fun id r hr hi e => ?_).trans (a.frame k hk hn)
    rw [a.lo] at hi
    obtain ⟨id0, r0, h0, hl0, e0⟩ := a.sub id r hr hi (by omega)
    exact hn id0 r0 h0 hl0 (e0.trans e)
  · obtain ⟨id1, r1, h1', hl1, e1⟩ := b.sub id r hr (by rw [a.lo]; exact hi) (Nat.lt_of_lt_of_le hb a.size)
    rw [a.lo] at hl1
    obtain ⟨id0, r0, h0, hl0, e0⟩ := a.sub id1 r1 h1' hl1 (by omega)
    exact ⟨id0, r0, h0, hl0, e0.trans e1⟩

theorem Stp.ext {h h' : Hp} {B B' : Nat} {E E' : En} (s : SRel h B E) (s' : SRel h' B' E') (t : Stp h h' E E') : Ext E E' := by
  refine ⟨by rw [s.N, s'.N]; exact t.next, fun id hi => t.m id (by rw [← s.N]; exact hi), fun b hb hO => ⟨fun hO' => ?_, t.frame b hb fun id r hr _ e => hO ((s.O b).2 ⟨id, r, hr, e⟩)⟩⟩
  obtain ⟨id, r, hr, e⟩ := (s'.O b).1 hO'
  by_cases hi : h.lo ≤ id
  · obtain ⟨id0, r0, h0, _, e0⟩ := t.sub id r hr hi (by omega)
    exact hO ((s.O b).2 ⟨id0, r0, h0, e0.trans e⟩)
  · have h0 : h.rows id = some r := by rw [← t.low id (by omega)]; exact hr
    refine hO ((s.O b).2 ⟨id, r, h0, ?_⟩)
    rw [← t.m id (s.lt id r h0)]
    exact e

/-- The world alone goes on, where no living row is touched. -/
def En.at (E : En) (w : World) : En := { E with w := w }

theorem addr_block (a : Addr) (n : Nat) : (a.add n).block = a.block := by unfold Addr.add; split <;> rfl
theorem addr_add_add (a : Addr) (m n : Nat) : (a.add m).add n = a.add (m + n) := by
  unfold Addr.add
  by_cases h1 : m = 0 <;> by_cases h2 : n = 0 <;> simp [h1, h2, Nat.add_assoc]
theorem addr_zero (g n : Nat) : (⟨g, 0, none⟩ : Addr).add n = ⟨g, n, none⟩ := by unfold Addr.add; split <;> simp_all

/-- Cells that are read. -/
structure Cells (E : En) (a : Addr) (sz : Nat) (es : List (List AV)) : Prop where
  uni : ∀ e ∈ es, e.length = sz
  us : ∃ us, LRel E es.flatten us ∧ ∀ j u, us[j]? = some u → E.w.cell? (a.add j) = some u

theorem get_rel {h : Hp} {B : Nat} {E : En} (s : SRel h B E) {x : AV} {v : Value} (hv : VRel E x v) {es : List (List AV)} (hg : h.get x = some es) :
    ∃ A c, v = .slice A es.length c ∧ es.length ≤ c ∧ c ≤ maxLen ∧ ((A = none ∧ es = [] ∧ c = 0 ∧ x = .nilS) ∨ ∃ a sz, A = some a ∧ Sz E x sz ∧ Cells E a sz es) := by
  cases x with
  | nilS =>
    obtain rfl : [] = es := Option.some.inj hg
    cases hv
    exact ⟨none, 0, rfl, Nat.le_refl _, by simp [maxLen], .inl ⟨rfl, rfl, rfl, rfl⟩⟩
  | imm b fs =>
    obtain rfl : fs = es := Option.some.inj hg
    cases hv with
    | imm _ _ sz a c us hsz hl hc hO hcap hx hm hv => exact ⟨some a, c, rfl, hcap, hm, .inr ⟨a, sz, rfl, hsz, hsz, us, ⟨hl, hv⟩, hc⟩⟩
  | own id =>
    simp only [Hp.get, Option.map_eq_some_iff] at hg
    obtain ⟨r, hr, rfl⟩ := hg
    have R := s.rows id r hr
    cases hv with
    | own _ hi =>
      obtain ⟨cur, us, h1, h2, h3, h4⟩ := R.cells
      refine ⟨_, (E.m id).cap, by rw [← R.len], by rw [← R.len]; exact R.cap, R.max, .inr ⟨_, r.sz, rfl, R.sz, R.uni, us, h4, fun j u hu => ?_⟩⟩
      rw [addr_zero, cell_of_row E.w _ j cur _ _ h1]
      rw [← h3, List.getElem?_take] at hu
      split at hu
      · simpa using hu
      · cases hu
  | _ => simp [Hp.get] at hg

/-- Element i of a row that is read, cell o of it. -/
theorem Cells.at_ {E : En} {a : Addr} {sz : Nat} {es : List (List AV)} (h : Cells E a sz es) {i : Nat} {e : List AV} (he : es[i]? = some e) :
    e.length = sz ∧ ∃ us, LRel E e us ∧ ∀ j u, us[j]? = some u → E.w.cell? (a.add (i * sz + j)) = some u := by
  obtain ⟨us, h1, h2⟩ := h.us
  have hl : e.length = sz := h.uni e (List.mem_of_getElem? he)
  have hfl := flatten_length es h.uni
  have hi : i < es.length := (List.getElem?_eq_some_iff.1 he).1
  have hle : i * sz + sz ≤ es.length * sz := by rw [← Nat.succ_mul]; exact Nat.mul_le_mul_right _ hi
  have hu : us.length = es.length * sz := by rw [h1.1, hfl]
  refine ⟨hl, (us.drop (i * sz)).take sz, ⟨by simp; omega, fun j j1 j2 => ?_⟩, fun j u hj => ?_⟩
  · have hf : es.flatten[i * sz + j]? = some e[j] := by
      rw [flatten_at es h.uni i j (by omega), he]
      simp [j1]
    obtain ⟨hx, hy⟩ := List.getElem?_eq_some_iff.1 hf
    have := h1.2 (i * sz + j) hx (by omega)
    rw [hy] at this
    simpa using this
  · rw [List.getElem?_take] at hj
    split at hj
    · rw [List.getElem?_drop] at hj
      exact h2 _ _ hj
    · cases hj

end Go.Proofs.Ev
end
section
/- How the relation lives on when the world grows, when a row is made, written, appended to. -/
set_option linter.unusedVariables false
namespace Go.Proofs.Ev
open Go Go.RowKit

def Oof (h : Hp) (m : Nat → Lc) : Nat → Prop := fun b => ∃ id r, h.rows id = some r ∧ (m id).blk = b

/-- What is asked of every step's world: the streams, and what it leaves alone. -/
structure Keeps (w w' : World) (W : Nat → Prop) : Prop where
  os : w'.os = w.os
  tape : w'.tape = w.tape
  output : w'.output = w.output
  size : w.heap.size ≤ w'.heap.size
  frame : ∀ b, b < w.heap.size → ¬ W b → w'.heap[b]? = w.heap[b]?

theorem Keeps.refl (w : World) (W : Nat → Prop) : Keeps w w W := ⟨rfl, rfl, rfl, Nat.le_refl _, fun _ _ _ => rfl⟩
theorem Keeps.trans {a b c : World} {W : Nat → Prop} (h : Keeps a b W) (k : Keeps b c W) : Keeps a c W :=
  ⟨k.os.trans h.os, k.tape.trans h.tape, k.output.trans h.output, Nat.le_trans h.size k.size, fun i hi hn => (k.frame i (Nat.lt_of_lt_of_le hi h.size) hn).trans (h.frame i hi hn)⟩
theorem Keeps.weaken {a b : World} {W W' : Nat → Prop} (h : Keeps a b W) (hw : ∀ i, W i → W' i) : Keeps a b W' :=
  ⟨h.os, h.tape, h.output, h.size, fun i hi hn => h.frame i hi fun hh => hn (hw i hh)⟩
theorem Keeps.drew (w : World) (W : Nat → Prop) : Keeps w { w with drawn := w.drawn + 1 } W := ⟨rfl, rfl, rfl, Nat.le_refl _, fun _ _ _ => rfl⟩
theorem Keeps.alloc (w : World) (o : Obj) (W : Nat → Prop) : Keeps w (w.alloc o) W := ⟨rfl, rfl, rfl, by simp, fun b hb _ => Below.heap_alloc w o b hb⟩
theorem Keeps.grownBy {w w' : World} {row : Option Nat} (h : w.grownBy w' row) : Keeps w w' (fun b => row = some b) :=
  ⟨h.os, h.tape, h.output, h.size, fun b hb hn => h.block b hb fun e => hn e.symm⟩

theorem RRel.ext {E E' : En} {r : Row} {l : Lc} (h : RRel E r l) (x : Ext E E') (hb : E'.w.heap[l.blk]? = E.w.heap[l.blk]?) : RRel E' r l := by
  obtain ⟨cur, us, h1, h2, h3, h4⟩ := h.cells
  exact ⟨h.len, h.sz, h.pos, h.uni, h.cap, h.max, cur, us, hb.trans h1, h2, h3, h4.ext x⟩

section
variable {h : Hp} {B : Nat} {E : En}

theorem SRel.blk_lt (s : SRel h B E) {id : Nat} {r : Row} (hr : h.rows id = some r) : (E.m id).blk < E.w.heap.size := by
  obtain ⟨cur, us, h1, _⟩ := (s.rows id r hr).cells
  exact (Array.getElem?_eq_some_iff.1 h1).1

/-- The world grows; no row is touched. -/
theorem SRel.grow (s : SRel h B E) {w' : World} (k : Keeps E.w w' (fun _ => False)) : SRel h B (E.at w') ∧ Stp h h E (E.at w') ∧ Ext E (E.at w') := by
  have hb : ∀ b, b < E.w.heap.size → w'.heap[b]? = E.w.heap[b]? := fun b hb => k.frame b hb (fun h => h)
  have x : Ext E (E.at w') := ⟨Nat.le_refl _, fun _ _ => rfl, fun b hl hO => ⟨hO, hb b hl⟩⟩
  refine ⟨⟨s.N, s.lo, Nat.le_trans s.bs k.size, s.O, s.lt, s.base, fun id r hr => (s.rows id r hr).ext x (hb _ (s.blk_lt hr)), s.inj⟩, ?_, x⟩
  exact ⟨rfl, Nat.le_refl _, fun _ _ => rfl, fun _ _ => rfl, k.os, k.tape, k.output, k.size, fun b hl _ => hb b hl, fun id r hr hl _ => ⟨id, r, hr, hl, rfl⟩⟩

/-- A new row, at a block that is new. -/
theorem SRel.new (s : SRel h B E) {ty sz : Nat} {es : List (List AV)} {w' : World} {g cap : Nat} (k : Keeps E.w w' (fun _ => False)) (hg : E.w.heap.size ≤ g)
    {cur : Array Value} (hcur : w'.heap[g]? = some (.cells cur ty (0, 0))) (hsz : 0 < sz) (huni : ∀ e ∈ es, e.length = sz) (hcap : es.length ≤ cap) (hmax : cap ≤ maxLen)
    (hcs : cur.size = cap * sz) {us : List Value} (htake : cur.toList.take (es.length * sz) = us) (hus : LRel E es.flatten us) :
    ∃ E', E'.w = w' ∧ SRel (addRow h ty sz es) B E' ∧ Stp h (addRow h ty sz es) E E' ∧ Ext E E' ∧ VRel E' (.own h.next) (.slice (some ⟨g, 0, none⟩) es.length cap) ∧ (E'.m h.next).sz = sz := by
  have hb : ∀ b, b < E.w.heap.size → w'.heap[b]? = E.w.heap[b]? := fun b hb => k.frame b hb (fun h => h)
  have hne : ∀ id r, h.rows id = some r → id ≠ h.next := fun id r hr => Nat.ne_of_lt (s.lt id r hr)
  let m' : Nat → Lc := fun i => if i = h.next then ⟨g, es.length, cap, sz⟩ else E.m i
  let E' : En := ⟨w', Oof (addRow h ty sz es) m', m', E.N + 1⟩
  have hm : ∀ id, id ≠ h.next → m' id = E.m id := fun id hi => if_neg hi
  have hm1 : m' h.next = ⟨g, es.length, cap, sz⟩ := if_pos rfl
  have hrow : ∀ id r, (addRow h ty sz es).rows id = some r → (id = h.next ∧ r = ⟨ty, sz, es⟩) ∨ (id ≠ h.next ∧ h.rows id = some r) := by
    intro id r hr
    simp only [addRow, updR] at hr
    split at hr
    · exact .inl ⟨‹_›, (Option.some.inj hr).symm⟩
    · exact .inr ⟨‹_›, hr⟩
  have hgl : g < w'.heap.size := (Array.getElem?_eq_some_iff.1 hcur).1
  have x : Ext E E' := by
    refine ⟨Nat.le_succ _, fun id hi => hm id (by rw [s.N] at hi; omega), fun b hl hO => ⟨?_, hb b hl⟩⟩
    rintro ⟨id, r, hr, e⟩
    rcases hrow id r hr with ⟨rfl, rfl⟩ | ⟨hi, hr⟩
    · rw [hm1] at e
      simp only at e
      omega
    · rw [hm id hi] at e
      exact hO ((s.O b).2 ⟨id, r, hr, e⟩)
  refine ⟨E', rfl, ⟨by show E.N + 1 = h.next + 1; rw [s.N], Nat.le_trans s.lo (Nat.le_succ _), Nat.le_trans s.bs k.size, fun b => Iff.rfl, ?_, ?_, ?_, ?_⟩, ?_, x, ?_, by show (m' h.next).sz = sz; rw [hm1]⟩
  · intro id r hr
    rcases hrow id r hr with ⟨rfl, rfl⟩ | ⟨hi, hr⟩
    · exact Nat.lt_succ_self _
    · exact Nat.lt_succ_of_lt (s.lt id r hr)
  · intro id r hr
    show B ≤ (m' id).blk
    rcases hrow id r hr with ⟨rfl, rfl⟩ | ⟨hi, hr⟩
    · rw [hm1]; exact Nat.le_trans s.bs hg
    · rw [hm id hi]; exact s.base id r hr
  · intro id r hr
    show RRel E' r (m' id)
    rcases hrow id r hr with ⟨rfl, rfl⟩ | ⟨hi, hr⟩
    · rw [hm1]
      exact ⟨rfl, rfl, hsz, huni, hcap, hmax, cur, us, hcur, hcs, htake, hus.ext x⟩
    · rw [hm id hi]
      exact (s.rows id r hr).ext x (hb _ (s.blk_lt hr))
  · intro id r id' r' hr hr' e
    have e : (m' id).blk = (m' id').blk := e
    rcases hrow id r hr with ⟨rfl, rfl⟩ | ⟨hi, hr⟩ <;> rcases hrow id' r' hr' with ⟨rfl, rfl⟩ | ⟨hi', hr'⟩
    · rfl
    · rw [hm1, hm id' hi'] at e
      have := s.blk_lt hr'
      simp only at e
      omega
    · rw [hm1, hm id hi] at e
      have := s.blk_lt hr
      simp only at e
      omega
    · rw [hm id hi, hm id' hi'] at e
      exact s.inj id r id' r' hr hr' e
  · refine ⟨rfl, Nat.le_succ _, fun id hi => ?_, fun id hi => hm id (by omega), k.os, k.tape, k.output, k.size, fun b hl _ => hb b hl, fun id r hr hl hb' => ?_⟩
    · show updR h.rows h.next _ id = h.rows id
      unfold updR
      rw [if_neg (by have := s.lo; omega)]
    · have hb' : (m' id).blk < E.w.heap.size := hb'
      rcases hrow id r hr with ⟨rfl, rfl⟩ | ⟨hi, hr⟩
      · rw [hm1] at hb'
        simp only at hb'
        omega
      · exact ⟨id, r, hr, hl, by show _ = (m' id).blk; rw [hm id hi]⟩
  · have := VRel.own (E := E') h.next (by show h.next < E.N + 1; rw [s.N]; omega)
    have e : E'.m h.next = ⟨g, es.length, cap, sz⟩ := hm1
    rw [e] at this
    exact this

/-- A living row is written. -/
theorem SRel.write (s : SRel h B E) {id : Nat} {r : Row} (hr : h.rows id = some r) (hlo : h.lo ≤ id) {es : List (List AV)} (hlen : es.length = r.es.length) (huni : ∀ e ∈ es, e.length = r.sz)
    {w' : World} (k : Keeps E.w w' (fun b => b = (E.m id).blk)) {cur : Array Value} (hcur : w'.heap[(E.m id).blk]? = some (.cells cur r.ty (0, 0))) (hcs : cur.size = (E.m id).cap * r.sz)
    {us : List Value} (htake : cur.toList.take (es.length * r.sz) = us) (hus : LRel E es.flatten us) :
    SRel { h with rows := updR h.rows id (some { r with es := es }) } B (E.at w') ∧ Stp h { h with rows := updR h.rows id (some { r with es := es }) } E (E.at w') ∧ Ext E (E.at w') := by
  have hrow : ∀ i q, updR h.rows id (some { r with es := es }) i = some q → (i = id ∧ q = { r with es := es }) ∨ (i ≠ id ∧ h.rows i = some q) := by
    intro i q hq
    simp only [updR] at hq
    split at hq
    · exact .inl ⟨‹_›, (Option.some.inj hq).symm⟩
    · exact .inr ⟨‹_›, hq⟩
  have hO : E.O (E.m id).blk := (s.O _).2 ⟨id, r, hr, rfl⟩
  have x : Ext E (E.at w') := ⟨Nat.le_refl _, fun _ _ => rfl, fun b hl hb => ⟨hb, k.frame b hl fun e => by subst e; exact hb hO⟩⟩
  have R := s.rows id r hr
  refine ⟨⟨s.N, s.lo, Nat.le_trans s.bs k.size, fun b => ?_, ?_, ?_, ?_, ?_⟩, ?_, x⟩
  · refine (s.O b).trans ⟨?_, ?_⟩
    · rintro ⟨i, q, hq, e⟩
      by_cases hi : i = id
      · subst hi
        exact ⟨i, _, if_pos rfl, e⟩
      · exact ⟨i, q, by show updR h.rows id _ i = _; unfold updR; rw [if_neg hi]; exact hq, e⟩
    · rintro ⟨i, q, hq, e⟩
      rcases hrow i q hq with ⟨rfl, rfl⟩ | ⟨hi, hq⟩
      · exact ⟨i, r, hr, e⟩
      · exact ⟨i, q, hq, e⟩
  · intro i q hq
    rcases hrow i q hq with ⟨rfl, rfl⟩ | ⟨hi, hq⟩
    · exact s.lt i r hr
    · exact s.lt i q hq
  · intro i q hq
    rcases hrow i q hq with ⟨rfl, rfl⟩ | ⟨hi, hq⟩
    · exact s.base i r hr
    · exact s.base i q hq
  · intro i q hq
    rcases hrow i q hq with ⟨rfl, rfl⟩ | ⟨hi, hq⟩
    · exact ⟨by show (E.m i).len = es.length; rw [R.len]; exact hlen.symm, R.sz, R.pos, huni, R.cap, R.max, cur, us, hcur, hcs, htake, hus.ext x⟩
    · exact (s.rows i q hq).ext x (k.frame _ (s.blk_lt hq) fun e => hi (s.inj i q id r hq hr e))
  · intro i q i' q' hq hq' e
    have e : (E.m i).blk = (E.m i').blk := e
    rcases hrow i q hq with ⟨h1, h2⟩ | ⟨hi, hq2⟩ <;> rcases hrow i' q' hq' with ⟨h1', h2'⟩ | ⟨hi', hq2'⟩
    · exact h1.trans h1'.symm
    · exact s.inj i r i' q' (by rw [h1]; exact hr) hq2' e
    · exact s.inj i q i' r hq2 (by rw [h1']; exact hr) e
    · exact s.inj i q i' q' hq2 hq2' e
  · refine ⟨rfl, Nat.le_refl _, fun i hi => ?_, fun _ _ => rfl, k.os, k.tape, k.output, k.size, fun b hl hn => k.frame b hl fun e => hn id r hr hlo e.symm, fun i q hq hl _ => ?_⟩
    · show updR h.rows id _ i = _
      unfold updR
      rw [if_neg (by omega)]
    · rcases hrow i q hq with ⟨rfl, rfl⟩ | ⟨hi, hq⟩
      · exact ⟨i, r, hr, hl, rfl⟩
      · exact ⟨i, q, hq, hl, rfl⟩

/-- A living row is appended to: it dies, the longer one has a number of its own, at the same block or at a new one. -/
theorem SRel.app (s : SRel h B E) {id : Nat} {r : Row} (hr : h.rows id = some r) (hlo : h.lo ≤ id) {es : List (List AV)} (huni : ∀ e ∈ es, e.length = r.sz)
    {w' : World} (k : Keeps E.w w' (fun b => b = (E.m id).blk)) {g cap : Nat} (hg : g = (E.m id).blk ∨ E.w.heap.size ≤ g) {cur : Array Value} (hcur : w'.heap[g]? = some (.cells cur r.ty (0, 0)))
    (hcap : es.length ≤ cap) (hmax : cap ≤ maxLen) (hcs : cur.size = cap * r.sz) {us : List Value} (htake : cur.toList.take (es.length * r.sz) = us) (hus : LRel E es.flatten us) :
    ∃ E', E'.w = w' ∧ SRel { h with rows := updR (updR h.rows id none) h.next (some ⟨r.ty, r.sz, es⟩), next := h.next + 1 } B E' ∧
      Stp h { h with rows := updR (updR h.rows id none) h.next (some ⟨r.ty, r.sz, es⟩), next := h.next + 1 } E E' ∧ Ext E E' ∧ VRel E' (.own h.next) (.slice (some ⟨g, 0, none⟩) es.length cap) := by
  have hid := s.lt id r hr
  have R := s.rows id r hr
  let m' : Nat → Lc := fun i => if i = h.next then ⟨g, es.length, cap, r.sz⟩ else E.m i
  let h' : Hp := { h with rows := updR (updR h.rows id none) h.next (some ⟨r.ty, r.sz, es⟩), next := h.next + 1 }
  let E' : En := ⟨w', Oof h' m', m', E.N + 1⟩
  have hm : ∀ i, i ≠ h.next → m' i = E.m i := fun i hi => if_neg hi
  have hm1 : m' h.next = ⟨g, es.length, cap, r.sz⟩ := if_pos rfl
  have hrow : ∀ i q, h'.rows i = some q → (i = h.next ∧ q = ⟨r.ty, r.sz, es⟩) ∨ (i ≠ h.next ∧ i ≠ id ∧ h.rows i = some q) := by
    intro i q hq
    simp only [h', updR] at hq
    split at hq
    · exact .inl ⟨‹_›, (Option.some.inj hq).symm⟩
    · split at hq
      · cases hq
      · exact .inr ⟨‹_›, ‹_›, hq⟩
  have hother : ∀ i q, i ≠ id → h.rows i = some q → (E.m i).blk ≠ (E.m id).blk := fun i q hi hq e => hi (s.inj i q id r hq hr e)
  have x : Ext E E' := by
    refine ⟨Nat.le_succ _, fun i hi => hm i (by rw [s.N] at hi; omega), fun b hl hO => ⟨?_, k.frame b hl fun e => by subst e; exact hO ((s.O _).2 ⟨id, r, hr, rfl⟩)⟩⟩
    rintro ⟨i, q, hq, e⟩
    rcases hrow i q hq with ⟨rfl, rfl⟩ | ⟨hi, _, hq⟩
    · rw [hm1] at e
      simp only at e
      rcases hg with hg | hg
      · exact hO ((s.O b).2 ⟨id, r, hr, by omega⟩)
      · omega
    · rw [hm i hi] at e
      exact hO ((s.O b).2 ⟨i, q, hq, e⟩)
  refine ⟨E', rfl, ⟨by show E.N + 1 = h.next + 1; rw [s.N], Nat.le_trans s.lo (Nat.le_succ _), Nat.le_trans s.bs k.size, fun b => Iff.rfl, ?_, ?_, ?_, ?_⟩, ?_, x, ?_⟩
  · intro i q hq
    rcases hrow i q hq with ⟨rfl, rfl⟩ | ⟨hi, _, hq⟩
    · exact Nat.lt_succ_self _
    · exact Nat.lt_succ_of_lt (s.lt i q hq)
  · intro i q hq
    show B ≤ (m' i).blk
    rcases hrow i q hq with ⟨rfl, rfl⟩ | ⟨hi, _, hq⟩
    · rw [hm1]
      rcases hg with hg | hg
      · show B ≤ g; rw [hg]; exact s.base id r hr
      · exact Nat.le_trans s.bs hg
    · rw [hm i hi]; exact s.base i q hq
  · intro i q hq
    show RRel E' q (m' i)
    rcases hrow i q hq with ⟨rfl, rfl⟩ | ⟨hi, hi2, hq⟩
    · rw [hm1]
      exact ⟨rfl, rfl, R.pos, huni, hcap, hmax, cur, us, hcur, hcs, htake, hus.ext x⟩
    · rw [hm i hi]
      exact (s.rows i q hq).ext x (k.frame _ (s.blk_lt hq) (hother i q hi2 hq))
  · intro i q i' q' hq hq' e
    have e : (m' i).blk = (m' i').blk := e
    rcases hrow i q hq with ⟨rfl, rfl⟩ | ⟨hi, hi2, hq⟩ <;> rcases hrow i' q' hq' with ⟨rfl, rfl⟩ | ⟨hi', hi2', hq'⟩
    · rfl
    · rw [hm1, hm i' hi'] at e
      have := s.blk_lt hq'
      have := hother i' q' hi2' hq'
      simp only at e
      omega
    · rw [hm1, hm i hi] at e
      have := s.blk_lt hq
      have := hother i q hi2 hq
      simp only at e
      omega
    · rw [hm i hi, hm i' hi'] at e
      exact s.inj i q i' q' hq hq' e
  · refine ⟨rfl, Nat.le_succ _, fun i hi => ?_, fun i hi => hm i (by omega), k.os, k.tape, k.output, k.size, fun b hl hn => k.frame b hl fun e => hn id r hr hlo e.symm, fun i q hq hl hb' => ?_⟩
    · show updR (updR h.rows id none) h.next _ i = h.rows i
      unfold updR
      rw [if_neg (by have := s.lo; omega), if_neg (by omega)]
    · have hb' : (m' i).blk < E.w.heap.size := hb'
      rcases hrow i q hq with ⟨rfl, rfl⟩ | ⟨hi, _, hq⟩
      · rw [hm1] at hb'
        refine ⟨id, r, hr, hlo, ?_⟩
        show _ = (m' h.next).blk
        rw [hm1]
        simp only at hb' ⊢
        omega
      · exact ⟨i, q, hq, hl, by show _ = (m' i).blk; rw [hm i hi]⟩
  · have := VRel.own (E := E') h.next (by show h.next < E.N + 1; rw [s.N]; omega)
    have e : E'.m h.next = ⟨g, es.length, cap, r.sz⟩ := hm1
    rw [e] at this
    exact this
end
end Go.Proofs.Ev
end
section
/- The types' table, and the operations that touch no row: each run of the machine's gives what the evaluator gives. -/
set_option linter.unusedVariables false
namespace Go.Proofs.Ev
open Go Go.RowKit

def concVal : AV → Value
  | .lit v => v
  | _ => .slice none 0 0
def closedB : AV → Bool
  | .lit (.tuple _) | .lit (.agg _) => false
  | .lit _ | .nilS => true
  | _ => false
def aggB (P : Program) (t : TypeId) : Bool := match P.underlying t with
  | some (.struct _) | some (.array _ _) => true
  | _ => false
def stOf (P : Program) (t : TypeId) : Option (List (Nat × Nat × Bool)) := match P.underlying t with
  | some (.struct fs) => allSome (fun f => if (P.underlying f.type).isSome then (P.info? f.type).map fun i => (f.offset, i.size, aggB P f.type) else none) fs.toList
  | _ => none
/-- Structs of whole numbers, bools and strings alone: '==' goes cell by cell. -/
def pkOf (P : Program) (t : TypeId) : Option PK := match P.underlying t with
  | some (.int k) => some (.int k)
  | some .bool => some .bool
  | some .string => some .str
  | _ => none
def pksOf (P : Program) : Nat → List Field → Option (List PK)
  | _, [] => some []
  | i, f :: fs => if (f.name == "_") = false ∧ f.offset = i ∧ ((P.info? f.type).map (·.size)) = some 1 then match pkOf P f.type, pksOf P (i + 1) fs with
    | some k, some ks => some (k :: ks)
    | _, _ => none else none
def plainOf (P : Program) (t : TypeId) : Option (List PK) :=
  if P.eqGuardType P.depth t = false ∧ P.stoodInHeld t = false then match P.underlying t with
  | some (.struct fs) => pksOf P 0 fs.toList
  | _ => none else none

structure TEOk (P : Program) (t : TypeId) (e : TE) : Prop where
  info : (P.info? t).map (fun i => (i.zero.map (·.cells.toList), i.size, i.bytes)) = some (some (e.zero.map concVal), e.sz, e.bytes)
  closed : e.zero.all closedB = true
  zlen : e.zero.length = e.sz
  small : e.bytes ≤ 1024
  agg : aggB P t = e.agg
  und : (P.underlying t).isSome = true
  kind : ∀ k, e.kind = some k → P.underlying t = some (.int k)
  str : e.str = true → P.underlying t = some .string
  bool : e.bool = true → P.underlying t = some .bool
  sl : ∀ el, e.sl = some el → P.underlying t = some (.slice el)
  st : ∀ fs, e.st = some fs → stOf P t = some fs
  ar : ∀ n el, e.ar = some (n, el) → P.underlying t = some (.array n el)
  plain : ∀ ks, e.plain = some ks → plainOf P t = some ks

def TOk (P : Program) (T : TT) : Prop := ∀ t e, T t = some e → TEOk P t e

section
variable {P : Program} {T : TT} {t : TypeId} {e : TE}
theorem TEOk.info' (h : TEOk P t e) : ∃ i z, P.info? t = some i ∧ i.zero = some z ∧ z.cells.toList = e.zero.map concVal ∧ i.size = e.sz ∧ i.bytes = e.bytes := by
  have := h.info
  simp only [Option.map_eq_some_iff, Prod.mk.injEq] at this
  obtain ⟨i, hi, ⟨z, hz, hc⟩, h2, h3⟩ := this
  exact ⟨i, z, hi, hz, hc, h2, h3⟩
theorem TEOk.run_sizeOf (h : TEOk P t e) (w : World) : (sizeOf t).run P w = .ok e.sz w := by
  obtain ⟨i, z, hi, _, _, h2, _⟩ := h.info'
  simp [sizeOf, typeInfo, hi, h2]
theorem TEOk.run_isAgg (h : TEOk P t e) (w : World) : (isAgg t).run P w = .ok e.agg w := by
  have h1 := h.agg
  have h2 := h.und
  unfold aggB at h1
  unfold isAgg underlying
  cases hu : P.underlying t with
  | none => simp [hu] at h2
  | some d =>
    rw [hu] at h1
    simp only [Sem.run_bind, run_program, Result.andThen_ok, hu]
    cases d <;> simp at h1 ⊢ <;> exact h1
theorem closed_rel {E : En} {x : AV} (h : closedB x = true) : VRel E x (concVal x) := by
  cases x with
  | lit v => exact .lit v
  | nilS => exact .nilS
  | _ => simp [closedB] at h
theorem TEOk.zero_rel (h : TEOk P t e) (E : En) : LRel E e.zero (e.zero.map concVal) := by
  refine ⟨by simp, fun j h1 h2 => ?_⟩
  simp only [List.getElem_map]
  exact closed_rel (List.all_eq_true.1 h.closed _ (List.getElem_mem h1))
theorem closed_one {x : AV} (h : closedB x = true) : AV.one x = true := by
  cases x with
  | lit v => cases v <;> simp_all [closedB, AV.one]
  | nilS => rfl
  | _ => simp [closedB] at h
theorem concVal_one {x : AV} (h : closedB x = true) : (concVal x).oneCell' = true := by
  cases x with
  | lit v => cases v <;> simp_all [closedB, concVal, Value.oneCell']
  | nilS => rfl
  | _ => simp [closedB] at h
theorem TEOk.run_zeroValue (h : TEOk P t e) (w : World) : ∃ z, (zeroValue t).run P w = .ok z w ∧ z.cells.toList = e.zero.map concVal := by
  obtain ⟨i, z, hi, hz, hc, _, _⟩ := h.info'
  exact ⟨z, by simp [zeroValue, typeInfo, hi, hz], hc⟩

/-- Field number f of a struct type that the table knows. -/
theorem stOf_field {fs : List (Nat × Nat × Bool)} (h : stOf P t = some fs) : ∃ fields : Array Field, P.underlying t = some (.struct fields) ∧
    ∀ (i off n : Nat) (g : Bool), fs[i]? = some (off, n, g) → ∃ f : Field, fields[i]? = some f ∧ f.offset = off ∧ (∀ w, (sizeOf f.type).run P w = .ok n w) ∧ (∀ w, (isAgg f.type).run P w = .ok g w) := by
  unfold stOf at h
  cases hu : P.underlying t with
  | none => simp [hu] at h
  | some d =>
    rw [hu] at h
    cases d with
    | struct fields =>
      refine ⟨fields, rfl, ?_⟩
      simp only at h
      obtain ⟨l, hl⟩ : ∃ l, fields.toList = l := ⟨_, rfl⟩
      have key : ∀ (l : List Field) (fs : List (Nat × Nat × Bool)), allSome (fun f => if (P.underlying f.type).isSome then (P.info? f.type).map fun i => (f.offset, i.size, aggB P f.type) else none) l = some fs →
          ∀ (i off n : Nat) (g : Bool), fs[i]? = some (off, n, g) → ∃ f : Field, l[i]? = some f ∧ f.offset = off ∧ (P.underlying f.type).isSome ∧ ∃ inf, P.info? f.type = some inf ∧ inf.size = n ∧ aggB P f.type = g := by
        intro l
        induction l with
        | nil =>
          intro fs h i off n g hi
          simp only [allSome, Option.some.injEq] at h
          subst h
          simp at hi
        | cons f l ih =>
          intro fs h i off n g hi
          simp only [allSome] at h
          split at h
          · rename_i y ys hy hys
            obtain rfl := Option.some.inj h
            cases i with
            | zero =>
              simp only [List.getElem?_cons_zero, Option.some.injEq] at hi
              subst hi
              split at hy
              · rename_i hsome
                simp only [Option.map_eq_some_iff, Prod.mk.injEq] at hy
                obtain ⟨inf, h1, h2, h3, h4⟩ := hy
                exact ⟨f, rfl, h2, hsome, inf, h1, h3, h4⟩
              · cases hy
            | succ i =>
              obtain ⟨f', h1, h2⟩ := ih ys hys i off n g (by simpa using hi)
              exact ⟨f', by simpa using h1, h2⟩
          · cases h
      intro i off n g hi
      rw [hl] at h
      obtain ⟨f, h1, h2, h3, inf, h4, h5, h6⟩ := key l fs h i off n g hi
      refine ⟨f, by rw [← Array.getElem?_toList, hl]; exact h1, h2, fun w => by simp [sizeOf, typeInfo, h4, h5], fun w => ?_⟩
      unfold aggB at h6
      unfold isAgg underlying
      cases hv : P.underlying f.type with
      | none => simp [hv] at h3
      | some d =>
        rw [hv] at h6
        simp only [Sem.run_bind, run_program, Result.andThen_ok, hv]
        cases d <;> simp at h6 ⊢ <;> exact h6
    | _ => simp at h
end

/-! ### What a run comes to -/
def RunOk (P : Program) (s : Sem Value) (h : Hp) (B : Nat) (E : En) (x : AV) (h' : Hp) : Prop :=
  ∃ u E', s.run P E.w = .ok u E'.w ∧ SRel h' B E' ∧ Stp h h' E E' ∧ VRel E' x u

theorem RunOk.still {P : Program} {s : Sem Value} {h : Hp} {B : Nat} {E : En} {x : AV} {u : Value} (sr : SRel h B E) (hr : s.run P E.w = .ok u E.w) (hv : VRel E x u) : RunOk P s h B E x h :=
  ⟨u, E, hr, sr, Stp.refl h E, hv⟩

/-- Cells of a value. -/
theorem cells_rel {E : En} {x : AV} {u : Value} (h : VRel E x u) (h1 : x.cells.all AV.one = true) : LRel E x.cells u.cells.toList ∧ ∀ c ∈ u.cells.toList, c.oneCell' = true := by
  have base : ∀ {x : AV} {u : Value}, VRel E x u → AV.one x = true → u.oneCell' = true := by
    intro x u h h1
    cases h with
    | lit => cases u <;> simp_all [AV.one, Value.oneCell']
    | _ => first | rfl | simp [AV.one] at h1
  have single : ∀ {x : AV} {u : Value}, VRel E x u → AV.one x = true → (∀ cs, x ≠ .agg cs) → LRel E x.cells u.cells.toList ∧ ∀ c ∈ u.cells.toList, c.oneCell' = true := by
    intro x u h h1 hne
    have hu := base h h1
    have hc : u.cells = #[u] := by cases u <;> simp_all [Value.cells, Value.oneCell']
    have hx : x.cells = [x] := by cases x <;> simp_all [AV.cells]
    rw [hc, hx]
    exact ⟨LRel.cons h (LRel.nil E), by simpa using hu⟩
  cases h with
  | agg cs us hl hv =>
    refine ⟨⟨by simpa [Value.cells, AV.cells] using hl, by simpa [Value.cells, AV.cells] using hv⟩, ?_⟩
    intro c hc
    simp only [Value.cells] at hc
    obtain ⟨j, hj, rfl⟩ := List.getElem_of_mem hc
    have hj' : j < us.length := by simpa using hj
    exact base (hv j (by omega) hj') (List.all_eq_true.1 h1 _ (List.getElem_mem _))
  | lit => exact single (.lit _) (by simpa [AV.cells] using h1) (by simp)
  | junk => simp [AV.cells, AV.one] at h1
  | tup cs us hl hv => simp [AV.cells, AV.one] at h1
  | nilS => exact single .nilS (by simpa [AV.cells] using h1) (by simp)
  | own id hi => exact single (.own id hi) (by simpa [AV.cells] using h1) (by simp)
  | imm x es sz a c us hsz hl hc hO hcap hx hm hv => exact single (.imm x es sz a c us hsz hl hc hO hcap hx hm hv) (by simpa [AV.cells] using h1) (by simp)
  | elem s i o a n c sz hs hz => exact single (.elem s i o a n c sz hs hz) (by simpa [AV.cells] using h1) (by simp)
  | fn f xs ys us vs hl hk hu hv => exact single (.fn f xs ys us vs hl hk hu hv) (by simpa [AV.cells] using h1) (by simp)

section
variable {P : Program} {T : TT} {h : Hp} {B : Nat} {E : En}

theorem run_pick {c a b : AV} {vc va vb : Value} (hc : VRel E c vc) (ha : VRel E a va) (hb : VRel E b vb) {x : AV} (hx : pick c a b = some x) :
    ∃ u, (do pure (.value (if ← asBool vc then va else vb)) : Sem Next).run P E.w = .ok (.value u) E.w ∧ VRel E x u := by
  unfold pick at hx
  split at hx
  · obtain rfl := Option.some.inj hx
    cases hc
    rename_i c
    cases c
    · exact ⟨vb, by simp [asBool], by simpa using hb⟩
    · exact ⟨va, by simp [asBool], by simpa using ha⟩
  · cases hx

theorem ev_intBin (s : SRel h B E) {op : BinOp} {k : IntKind} {a b : Int} {x : AV} (hx : intBin op k a b = some x) {t : TypeId} (h1 : op ≠ .shl) (h2 : op ≠ .shr) :
    ∃ u, (binOp op t (.int k a) (.int k b)).run P E.w = .ok u E.w ∧ VRel E x u := by
  unfold intBin at hx
  cases op <;> simp at hx h1 h2 <;>
    first
    | (subst hx; exact ⟨_, by simp only [binOp, Op.intArith, Op.intBits, Op.intCmp, ne_eq, not_true_eq_false, if_false]; rfl, .lit _⟩)
    | (obtain ⟨hb, hx⟩ := hx; subst hx; exact ⟨_, by simp only [binOp, Op.intDiv, ne_eq, not_true_eq_false, if_false]; rw [if_neg hb]; rfl, .lit _⟩)

theorem ev_strBin {op : BinOp} {a b : ByteArray} {x : AV} (hx : strBin op a b = some x) {t : TypeId} : ∃ u, (binOp op t (.string a) (.string b)).run P E.w = .ok u E.w ∧ VRel E x u := by
  unfold strBin at hx
  cases op <;> simp at hx <;>
    first
    | (subst hx; exact ⟨_, by simp only [binOp, Op.stringOp]; rfl, .lit _⟩)
    | (obtain ⟨hb, hx⟩ := hx; subst hx; exact ⟨.string (a ++ b), by simp only [binOp, Op.stringOp]; rw [if_neg (by rw [show IntKind.i64.max = 9223372036854775807 from rfl]; push_cast; omega)]; rfl, .lit _⟩)
end
end Go.Proofs.Ev
end
section
/- Operations that make no row and write none. -/
set_option linter.unusedVariables false
namespace Go.Proofs.Ev
open Go Go.RowKit

section
variable {P : Program} {T : TT} {h : Hp} {B : Nat} {E : En}

/-- What an operation that changes nothing comes to: a value in the same world. -/
def Same (P : Program) (E : En) (s : Sem Value) (x : AV) : Prop := ∃ u, s.run P E.w = .ok u E.w ∧ VRel E x u

theorem run_part_cell {us : List Value} {t : TypeId} {i : Nat} {u : Value} {k : PK} (hk : pkOf P t = some k) (hu : us[i]? = some u) (w : World) : (Go.part t us.toArray i).run P w = .ok u w := by
  have hi : (isAgg t).run P w = .ok false w := by
    unfold pkOf at hk
    unfold isAgg underlying
    cases hd : P.underlying t with
    | none => simp [hd] at hk
    | some d =>
      rw [hd] at hk
      simp only [Sem.run_bind, run_program, Result.andThen_ok, hd]
      cases d <;> simp at hk ⊢
  simp [Go.part, hi, hu]

theorem run_cellEq {k : PK} {x y : AV} {u v : Value} {t : TypeId} {b : Bool} (hk : pkOf P t = some k) (hx : VRel E x u) (hy : VRel E y v) (he : cellEq k x y = some b) (d : Nat) :
    (Op.equalIn (d + 1) t u v).run P E.w = .ok b E.w := by
  unfold pkOf at hk
  unfold cellEq at he
  split at he
  · split at he
    · rename_i h12
      obtain ⟨rfl, rfl⟩ := h12
      obtain rfl := Option.some.inj he
      cases hx
      cases hy
      cases hd : P.underlying t with
      | none => simp [hd] at hk
      | some dd =>
        rw [hd] at hk
        cases dd <;> simp at hk
        simp [Op.equalIn, run_underlying hd]
    · cases he
  · obtain rfl := Option.some.inj he
    cases hx
    cases hy
    cases hd : P.underlying t with
    | none => simp [hd] at hk
    | some dd =>
      rw [hd] at hk
      cases dd <;> simp at hk
      simp [Op.equalIn, run_underlying hd]
  · obtain rfl := Option.some.inj he
    cases hx
    cases hy
    cases hd : P.underlying t with
    | none => simp [hd] at hk
    | some dd =>
      rw [hd] at hk
      cases dd <;> simp at hk
      simp [Op.equalIn, run_underlying hd]
  · cases he

theorem run_eqFields (d : Nat) : ∀ (fs : List Field) (i : Nat) (ks : List PK) (xs ys : List AV) (us vs : List Value) (b : Bool), LRel E xs us → LRel E ys vs → pksOf P i fs = some ks →
    cellsEq ks (xs.drop i) (ys.drop i) = some b → (Op.eqFields (d + 1) us.toArray vs.toArray fs).run P E.w = .ok b E.w := by
  intro fs
  induction fs with
  | nil =>
    intro i ks xs ys us vs b hx hy hk he
    obtain rfl : [] = ks := Option.some.inj hk
    unfold cellsEq at he
    split at he
    · obtain rfl := Option.some.inj he
      simp [Op.eqFields]
    · rename_i h1 h2 h3
      cases h1
    · cases he
  | cons f fs ih =>
    intro i ks xs ys us vs b hx hy hk he
    simp only [pksOf] at hk
    split at hk
    · rename_i hf
      obtain ⟨hn, ho, hz⟩ := hf
      split at hk
      · rename_i k ks' hk1 hk2
        obtain rfl := Option.some.inj hk
        cases hxd : xs.drop i with
        | nil => rw [hxd] at he; simp [cellsEq] at he
        | cons x xs' =>
          cases hyd : ys.drop i with
          | nil => rw [hxd, hyd] at he; simp [cellsEq] at he
          | cons y ys' =>
            have hxi : xs[i]? = some x := by have := congrArg (·[0]?) hxd; simpa using this
            have hyi : ys[i]? = some y := by have := congrArg (·[0]?) hyd; simpa using this
            have hx' : xs.drop (i + 1) = xs' := by rw [← List.drop_drop, hxd]; simp
            have hy' : ys.drop (i + 1) = ys' := by rw [← List.drop_drop, hyd]; simp
            rw [hxd, hyd] at he
            simp only [cellsEq] at he
            split at he
            · rename_i a c ha hc
              obtain rfl := Option.some.inj he
              obtain ⟨u, hu, ru⟩ := hx.get hxi
              obtain ⟨v, hv, rv⟩ := hy.get hyi
              have hn' : f.name ≠ "_" := by simpa using hn
              have he1 := run_cellEq (P := P) hk1 ru rv ha d
              have hr := ih (i + 1) ks' xs ys us vs c hx hy hk2 (by rw [hx', hy']; exact hc)
              rw [Op.eqFields]
              simp only [if_pos hn', Sem.run_bind, ho, run_part_cell hk1 hu, run_part_cell hk1 hv, he1, Result.andThen_ok]
              cases a
              · simp
              · simpa using hr
            · cases he
      · cases hk
    · cases hk

theorem run_eqAgg {t : TypeId} {ks : List PK} (hp : plainOf P t = some ks) {xs ys : List AV} {us vs : List Value} (hx : LRel E xs us) (hy : LRel E ys vs) {b : Bool} (he : cellsEq ks xs ys = some b) :
    P.eqGuardType P.depth t = false ∧ (Op.equal t (.agg us.toArray) (.agg vs.toArray)).run P E.w = .ok b E.w := by
  unfold plainOf at hp
  split at hp
  · rename_i h12
    refine ⟨h12.1, ?_⟩
    split at hp
    · rename_i fs hu
      have hf : P.fieldsOf t = fs := by simp [Program.fieldsOf, hu]
      show (Op.equalIn (9999 + 1) t _ _).run P E.w = _
      rw [run_equalIn_struct (P := P) E.w 9999 t _ _ (by rw [hf]; exact hu) h12.2, hf]
      exact run_eqFields 9998 fs.toList 0 ks xs ys us vs b hx hy hp (by simpa using he)
    · cases hp
  · cases hp

theorem run_eq_bool {t : TypeId} (hu : P.underlying t = some .bool) (a b : Bool) (w : World) : (Op.equal t (.bool a) (.bool b)).run P w = .ok (a == b) w := by
  have key : ∀ d, (Op.equalIn (d + 1) t (.bool a) (.bool b)).run P w = .ok (a == b) w := fun d => by simp [Op.equalIn, run_underlying hu]
  exact key 9999
theorem run_eq_nil {t e : TypeId} (hu : P.underlying t = some (.slice e)) (A : Option Addr) (n c : Nat) (w : World) : (Op.equal t (.slice A n c) (.slice none 0 0)).run P w = .ok A.isNone w := by
  have key : ∀ d, (Op.equalIn (d + 1) t (.slice A n c) (.slice none 0 0)).run P w = .ok A.isNone w := fun d => by cases A <;> simp [Op.equalIn, run_underlying hu]
  exact key 9999

theorem no_guard (op : BinOp) (t : TypeId) (X Y : Operand) {u v : Value} (h1 : ∀ a b : Array Value, ¬ (u = .agg a ∧ v = .agg b)) (h2 : ¬ (u = .nilIface ∧ v = .nilIface)) (w : World) :
    (eqGuard op t X Y u v).run P w = .ok () w := by
  cases u <;> cases v <;> first
    | exact absurd ⟨rfl, rfl⟩ h2
    | exact absurd ⟨rfl, rfl⟩ (h1 _ _)
    | (cases op <;> rfl)

theorem ev_bin (hT : TOk P T) {op : BinOp} {t : TypeId} {x y z : AV} {u v : Value} (X Y : Operand) (hx : VRel E x u) (hy : VRel E y v) (he : bin T op t x y = some z) :
    ∃ r, (do eqGuard op t X Y u v; binOp op t u v : Sem Value).run P E.w = .ok r E.w ∧ VRel E z r := by
  have noGuard := fun h1 h2 => no_guard (P := P) op t X Y (u := u) (v := v) h1 h2 E.w
  unfold bin at he
  split at he
  · -- two whole numbers
    rename_i k a k' b
    cases hx
    cases hy
    have hg := noGuard (by simp) (by simp)
    split at he
    · split at he
      · cases he
      · rename_i hb
        obtain rfl := Option.some.inj he
        exact ⟨_, by simp only [Sem.run_bind, hg, Result.andThen_ok, binOp, Op.shift, if_neg hb]; rfl, .lit _⟩
    · split at he
      · cases he
      · rename_i hb
        obtain rfl := Option.some.inj he
        exact ⟨_, by simp only [Sem.run_bind, hg, Result.andThen_ok, binOp, Op.shift, if_neg hb]; rfl, .lit _⟩
    · rename_i h1 h2
      split at he
      · rename_i hk
        subst hk
        unfold intBin at he
        cases op <;> simp at he h1 h2 <;>
          first
          | (subst he; exact ⟨_, by simp only [Sem.run_bind, hg, Result.andThen_ok, binOp, Op.intArith, Op.intBits, Op.intCmp, ne_eq, not_true_eq_false, if_false]; rfl, .lit _⟩)
          | (obtain ⟨hb, he⟩ := he; subst he; exact ⟨_, by simp only [Sem.run_bind, hg, Result.andThen_ok, binOp, Op.intDiv, ne_eq, not_true_eq_false, if_false]; rw [if_neg hb]; rfl, .lit _⟩)
      · cases he
  · cases hx
    cases hy
    have hg := noGuard (by simp) (by simp)
    obtain ⟨r, h1, h2⟩ := ev_strBin (P := P) (E := E) he (t := t)
    exact ⟨r, by simp only [Sem.run_bind, hg, Result.andThen_ok]; exact h1, h2⟩
  · cases hx
    cases hy
    have hg := noGuard (by simp) (by simp)
    have hu : ((T t).map (·.bool)).getD false = true → P.underlying t = some .bool := by
      intro hb
      cases ht : T t with
      | none => simp [ht] at hb
      | some e => rw [ht] at hb; exact (hT t e ht).bool (by simpa using hb)
    split at he
    · rename_i hb
      obtain rfl := Option.some.inj he
      exact ⟨_, by simp only [Sem.run_bind, hg, binOp, run_eq_bool (hu hb), Result.andThen_ok]; rfl, .lit _⟩
    · rename_i hb
      obtain rfl := Option.some.inj he
      exact ⟨_, by simp only [Sem.run_bind, hg, binOp, run_eq_bool (hu hb), Result.andThen_ok]; rfl, .lit _⟩
    · cases he
  · rename_i xs ys
    cases hx with
    | agg _ us hl hv =>
    cases hy with
    | agg _ vs hl' hv' =>
    have key : ∀ ks b, (T t).bind (·.plain) = some ks → cellsEq ks xs ys = some b → P.eqGuardType P.depth t = false ∧ (Op.equal t (.agg us.toArray) (.agg vs.toArray)).run P E.w = .ok b E.w := by
      intro ks b hk hb
      cases ht : T t with
      | none => simp [ht] at hk
      | some e =>
        rw [ht] at hk
        exact run_eqAgg ((hT t e ht).plain ks hk) ⟨hl, hv⟩ ⟨hl', hv'⟩ hb
    split at he
    · rename_i ks hk
      obtain ⟨b, hb, rfl⟩ := Option.map_eq_some_iff.1 he
      obtain ⟨h1, h2⟩ := key ks b hk hb
      exact ⟨_, by simp only [Sem.run_bind, run_eqGuard_agg (P := P) E.w _ t X Y _ _ h1, Result.andThen_ok, binOp, h2]; rfl, .lit _⟩
    · rename_i ks hk
      obtain ⟨b, hb, rfl⟩ := Option.map_eq_some_iff.1 he
      obtain ⟨h1, h2⟩ := key ks b hk hb
      exact ⟨_, by simp only [Sem.run_bind, run_eqGuard_agg (P := P) E.w _ t X Y _ _ h1, Result.andThen_ok, binOp, h2]; rfl, .lit _⟩
    · cases he
  · cases hy
    have hu : ((T t).bind (·.sl)).isSome = true → ∃ e, P.underlying t = some (.slice e) := by
      intro hb
      cases ht : T t with
      | none => simp [ht] at hb
      | some e =>
        rw [ht] at hb
        obtain ⟨el, hel⟩ := Option.isSome_iff_exists.1 hb
        exact ⟨el, (hT t e ht).sl el hel⟩
    have key : ∀ b, ((T t).bind (·.sl)).isSome = true → isNil x = some b → (Op.equal t u (.slice none 0 0)).run P E.w = .ok b E.w ∧ (∀ a b : Array Value, ¬ (u = .agg a ∧ (.slice none 0 0 : Value) = .agg b)) ∧ ∃ A n c, u = .slice A n c := by
      intro b hb hn
      obtain ⟨e, hu⟩ := hu hb
      unfold isNil at hn
      split at hn
      · obtain rfl := Option.some.inj hn
        cases hx
        exact ⟨run_eq_nil hu _ _ _ _, by simp, _, _, _, rfl⟩
      · obtain rfl := Option.some.inj hn
        cases hx
        exact ⟨run_eq_nil hu _ _ _ _, by simp, _, _, _, rfl⟩
      · obtain rfl := Option.some.inj hn
        cases hx
        exact ⟨run_eq_nil hu _ _ _ _, by simp, _, _, _, rfl⟩
      · cases hn
    split at he
    · rename_i hb
      obtain ⟨b, hn, rfl⟩ := Option.map_eq_some_iff.1 he
      obtain ⟨h1, h2, A, n, c, rfl⟩ := key b hb hn
      exact ⟨_, by simp only [Sem.run_bind, noGuard h2 (by simp), Result.andThen_ok, binOp, h1]; rfl, .lit _⟩
    · rename_i hb
      obtain ⟨b, hn, rfl⟩ := Option.map_eq_some_iff.1 he
      obtain ⟨h1, h2, A, n, c, rfl⟩ := key b hb hn
      exact ⟨_, by simp only [Sem.run_bind, noGuard h2 (by simp), Result.andThen_ok, binOp, h1]; rfl, .lit _⟩
    · cases he
  · cases he
end
end Go.Proofs.Ev
end
section
/- More operations that make no row and write none. -/
set_option linter.unusedVariables false
set_option linter.unusedSimpArgs false
namespace Go.Proofs.Ev
open Go Go.RowKit

section
variable {P : Program} {T : TT} {h : Hp} {B : Nat} {E : En}

theorem ev_un {op : UnOp} {x z : AV} {u : Value} (hx : VRel E x u) (he : un op x = some z) : Same P E (Op.unary op u) z := by
  unfold un at he
  split at he
  · obtain rfl := Option.some.inj he
    cases hx
    exact ⟨_, rfl, .lit _⟩
  · obtain rfl := Option.some.inj he
    cases hx
    exact ⟨_, rfl, .lit _⟩
  · obtain rfl := Option.some.inj he
    cases hx
    exact ⟨_, rfl, .lit _⟩
  · cases he

theorem ev_conv (hT : TOk P T) {s d : TypeId} {x z : AV} {u : Value} (hx : VRel E x u) (he : conv T s d x = some z) : Same P E (Go.convert s d u) z := by
  unfold conv at he
  split at he
  · rename_i k n es k' hts hk
    have hs := (hT s es hts).und
    obtain rfl := Option.some.inj he
    cases hx
    cases ht : T d with
    | none => simp [ht] at hk
    | some e =>
      rw [ht] at hk
      have hu := (hT d e ht).kind k' hk
      obtain ⟨ds, hds⟩ := Option.isSome_iff_exists.1 hs
      exact ⟨.int k' (k'.wrap n), by simp [Go.convert, run_underlying hds, run_underlying hu, Conv.intToInt], .lit _⟩
  · cases he

theorem ev_part (hT : TOk P T) {t : TypeId} {cs : List AV} {us : List Value} {off : Nat} {z : AV} (hc : LRel E cs us) (he : part T t cs off = some z) : Same P E (Go.part t us.toArray off) z := by
  unfold part at he
  split at he
  · rename_i e ht
    have ok := hT t e ht
    split at he
    · rename_i ha
      split at he
      · rename_i hl
        obtain rfl := Option.some.inj he
        refine ⟨.agg ((us.drop off).take e.sz).toArray, ?_, .agg _ _ ((hc.drop off).take e.sz).1 ((hc.drop off).take e.sz).2⟩
        simp [Go.part, ok.run_isAgg, ha, ok.run_sizeOf]
      · cases he
    · rename_i ha
      obtain ⟨u, hu, ru⟩ := hc.get he
      exact ⟨u, by simp [Go.part, ok.run_isAgg, ha, hu], ru⟩
  · cases he

theorem ev_fld (hT : TOk P T) {t : TypeId} {x z : AV} {u : Value} {f : Nat} (hx : VRel E x u) (he : fld T t x f = some z) : Same P E (Instr.field t u f) z := by
  unfold fld at he
  split at he
  · rename_i cs fs hf
    cases hx with
    | agg _ us hl hv =>
    have hc : LRel E cs us := ⟨hl, hv⟩
    cases ht : T t with
    | none => simp [ht] at hf
    | some e =>
      rw [ht] at hf
      obtain ⟨fields, hu, hfs⟩ := stOf_field ((hT t e ht).st fs hf)
      split at he
      · rename_i off n hi
        obtain ⟨fd, h1, h2, h3, h4⟩ := hfs f off n true hi
        split at he
        · obtain rfl := Option.some.inj he
          refine ⟨.agg ((us.drop off).take n).toArray, ?_, .agg _ _ ((hc.drop off).take n).1 ((hc.drop off).take n).2⟩
          simp [Instr.field, run_underlying hu, h1, asAgg, Go.part, h4, h3, h2]
        · cases he
      · rename_i off n hi
        obtain ⟨fd, h1, h2, h3, h4⟩ := hfs f off n false hi
        obtain ⟨v, hv', rv⟩ := hc.get he
        exact ⟨v, by simp [Instr.field, run_underlying hu, h1, asAgg, Go.part, h4, h2, hv'], rv⟩
      · cases he
  · cases he

theorem ev_fldAddr (hT : TOk P T) {t : TypeId} {x z : AV} {u : Value} {f : Nat} (hx : VRel E x u) (he : fldAddr T t x f = some z) : Same P E (Instr.fieldAt t u f) z := by
  unfold fldAddr at he
  split at he
  · rename_i s i o off n g hf
    split at he
    · cases he
    · rename_i hn
      obtain rfl := Option.some.inj he
      cases hx with
      | elem _ _ _ a m c sz hs hz =>
      cases ht : T t with
      | none => simp [ht] at hf
      | some e =>
        rw [ht] at hf
        cases hst : e.st with
        | none => simp [hst] at hf
        | some fs =>
          simp only [Option.bind_some, hst] at hf
          obtain ⟨fields, hu, hfs⟩ := stOf_field ((hT t e ht).st fs hst)
          obtain ⟨fd, h1, h2, h3, h4⟩ := hfs f off n g hf
          refine ⟨.pointer (some (a.add (i * sz + (o + off)))), ?_, .elem s i (o + off) a m c sz hs hz⟩
          simp only [Instr.fieldAt, Sem.run_bind, run_underlying hu, Result.andThen_ok, h1, Instr.sureAddr, Sem.run_pure, fieldPlace, h3, if_neg hn, h2, addr_add_add, Nat.add_assoc]
  · cases he

theorem ev_ld (hT : TOk P T) (s : SRel h B E) {t : TypeId} {x z : AV} {u : Value} (hx : VRel E x u) (he : ld T h t x = some z) : Same P E (Instr.loadAt t u) z := by
  unfold ld at he
  split at he
  · rename_i r i o
    split at he
    · rename_i es hg
      split at he
      · rename_i e hi
        cases hx with
        | elem _ _ _ a m c sz hs hz =>
        obtain ⟨A, c', hv, _, _, hor⟩ := get_rel s hs hg
        injection hv with hA _ _
        rcases hor with ⟨hA', _⟩ | ⟨a', sz', hA', hz', hc⟩
        · rw [hA'] at hA; cases hA
        · rw [hA'] at hA
          injection hA with hA
          subst hA
          have hsz : sz' = sz := by
            cases r with
            | own id => exact hz'.symm.trans hz
            | imm b es' =>
              have hes : es' = es := Option.some.inj hg
              subst hes
              have hm := List.mem_of_getElem? hi
              exact (hz' e hm).symm.trans (hz e hm)
            | _ => exact hz.elim
          subst hsz
          obtain ⟨hl, us, hu, hcell⟩ := hc.at_ hi
          unfold part at he
          split at he
          · rename_i te ht
            have ok := hT t te ht
            split at he
            · rename_i ha
              split at he
              · rename_i hle
                obtain rfl := Option.some.inj he
                have hus : us.length = e.length := hu.1
                refine ⟨.agg ((us.drop o).take te.sz).toArray, ?_, .agg _ _ ((hu.drop o).take te.sz).1 ((hu.drop o).take te.sz).2⟩
                have hlc := run_loadCells_list (P := P) E.w (a.add (i * sz' + o)) ((us.drop o).take te.sz) (fun j v hj => by
                  rw [addr_add_add, Nat.add_assoc]
                  rw [List.getElem?_take] at hj
                  split at hj
                  · rw [List.getElem?_drop] at hj
                    exact hcell _ _ hj
                  · cases hj)
                have hlen : ((us.drop o).take te.sz).length = te.sz := by simp; omega
                rw [hlen] at hlc
                simp only [Instr.loadAt, loadVar, Instr.sureAddr, Sem.run_bind, Sem.run_pure, Result.andThen_ok, ok.run_isAgg, ha, if_true, ok.run_sizeOf, hlc]
              · cases he
            · rename_i ha
              obtain ⟨v, hv', rv⟩ := hu.get he
              refine ⟨v, ?_, rv⟩
              have hcl := hcell o v hv'
              simp [Instr.loadAt, loadVar, Instr.sureAddr, ok.run_isAgg, ha, hcl]
          · cases he
      · cases he
    · cases he
  · cases he

theorem ev_idxAddr (hT : TOk P T) (s : SRel h B E) {t : TypeId} {x ix z : AV} {u v : Value} (hx : VRel E x u) (hi : VRel E ix v) (he : idxAddr T h t x ix = some z) : Same P E (Instr.indexAt t u v) z := by
  unfold idxAddr at he
  split at he
  · rename_i k i
    cases hi
    split at he
    · rename_i e hsl
      cases ht : T t with
      | none => simp [ht] at hsl
      | some te0 =>
        rw [ht] at hsl
        have hu := (hT t te0 ht).sl e hsl
        split at he
        · rename_i es te hg hte
          split at he
          · rename_i h0
            split at he
            · rename_i c hc
              split at he
              · rename_i hcl
                obtain rfl := Option.some.inj he
                have ok := hT e te hte
                obtain ⟨A, cap, rfl, _, _, hor⟩ := get_rel s hx hg
                have hlt : i.toNat < es.length := (List.getElem?_eq_some_iff.1 hc).1
                rcases hor with ⟨_, rfl, _⟩ | ⟨a, sz, rfl, hz, hcs⟩
                · simp at hlt
                · have hsz : sz = te.sz := by rw [← hcl]; exact (hcs.uni c (List.mem_of_getElem? hc)).symm
                  refine ⟨.pointer (some (a.add (i.toNat * sz + 0))), ?_, .elem x i.toNat 0 a _ _ sz hx hz⟩
                  have hil : i < (es.length : Int) := by omega
                  simp [Instr.indexAt, run_underlying hu, asIntOf, h0, hil, ok.run_sizeOf, hsz]
              · cases he
            · cases he
          · cases he
        · cases he
    · rename_i hnone
      split at he
      · rename_i n e r j o har
        split at he
        · rename_i te hte
          split at he
          · rename_i hin
            obtain rfl := Option.some.inj he
            cases ht : T t with
            | none => simp [ht] at har
            | some te0 =>
              rw [ht] at har
              have hu := (hT t te0 ht).ar n e har
              have ok := hT e te hte
              cases hx with
              | elem _ _ _ a m c sz hs hz =>
              refine ⟨.pointer (some (a.add (j * sz + (o + i.toNat * te.sz)))), ?_, .elem r j _ a m c sz hs hz⟩
              simp [Instr.indexAt, run_underlying hu, asIntOf, Instr.sureAddr, hin.1, hin.2, ok.run_sizeOf, addr_add_add, Nat.add_assoc]
          · cases he
        · cases he
      · cases he
  · cases he

theorem strT_spec (hT : TOk P T) {t : TypeId} (h : strT T t = true) : P.underlying t = some .string := by
  unfold strT at h
  split at h
  · rename_i e ht
    exact (hT t e ht).str h
  · cases h
theorem slT_spec (hT : TOk P T) {t : TypeId} (h : slT T t = true) : ∃ e, P.underlying t = some (.slice e) := by
  unfold slT at h
  split at h
  · rename_i e ht
    obtain ⟨el, hel⟩ := Option.isSome_iff_exists.1 h
    exact ⟨el, (hT t e ht).sl el hel⟩
  · cases h

theorem ev_index (hT : TOk P T) {t : TypeId} {x ix z : AV} {u v : Value} (hx : VRel E x u) (hi : VRel E ix v) (he : indexStr T t x ix = some z) : Same P E (Instr.index t u v) z := by
  unfold indexStr at he
  split at he
  · rename_i b k i hst
    cases hx
    cases hi
    split at he
    · rename_i c hc
      obtain rfl := Option.some.inj he
      refine ⟨.int .u8 c.toNat, ?_, .lit _⟩
      simp only [Instr.index, asIntOf, Sem.run_bind, Sem.run_pure, Result.andThen_ok, run_underlying (strT_spec hT hst), hc]
    · cases he
  · cases he

theorem ev_extr {x z : AV} {u : Value} {i : Nat} (hx : VRel E x u) (he : extr x i = some z) : Same P E (Instr.extract u i) z := by
  unfold extr at he
  split at he
  · rename_i vs
    cases hx with
    | tup _ us hl hv =>
    obtain ⟨v, h1, rv⟩ := LRel.get (E := E) (xs := vs) (us := us) ⟨hl, hv⟩ he
    exact ⟨v, by simp [Instr.extract, h1], rv⟩
  · cases he

theorem ev_minmax {mx : Bool} {x y z : AV} {u v : Value} (hx : VRel E x u) (hy : VRel E y v) (he : minmax mx x y = some z) : Same P E (if mx then Builtin.max2 u v else Builtin.min2 u v) z := by
  unfold minmax at he
  split at he
  · obtain rfl := Option.some.inj he
    cases hx
    cases hy
    cases mx
    · exact ⟨_, rfl, .lit _⟩
    · exact ⟨_, rfl, .lit _⟩
  · cases he

theorem ev_len (hT : TOk P T) (s : SRel h B E) {t ty : TypeId} {x z : AV} {u : Value} (hx : VRel E x u) (he : lenA T h t x = some z) : Same P E (Builtin.len_ #[t] ty #[u]) z := by
  unfold lenA at he
  split at he
  · rename_i b
    split at he
    · rename_i hs
      obtain rfl := Option.some.inj he
      cases hx
      exact ⟨.int .i64 b.size, by simp [Builtin.len_, run_underlying (strT_spec hT hs), goInt], .lit _⟩
    · cases he
  · rename_i hne
    split at he
    · rename_i hs
      obtain ⟨es, hg, rfl⟩ := Option.map_eq_some_iff.1 he
      obtain ⟨e, hu⟩ := slT_spec hT hs
      obtain ⟨A, c, rfl, _⟩ := get_rel s hx hg
      exact ⟨.int .i64 es.length, by simp [Builtin.len_, run_underlying hu, goInt], .lit _⟩
    · cases he

/-- A bound of a cut. -/
theorem run_bound {i : Int} {k : IntKind} {y : Nat} {c : BoundsCode} (h : 0 ≤ i ∧ i ≤ y) (w : World) : (Instr.sliceBound (.int k i) y c).run P w = .ok i.toNat w := by
  simp [Instr.sliceBound, asIntOf, h]

theorem rowOk_uni {sz : Nat} {es : List (List AV)} (h : rowOk sz es = true) : ∀ c ∈ es, c.length = sz := fun c hc => by
  have := List.all_eq_true.1 h c hc
  simp only [Bool.and_eq_true, beq_iff_eq] at this
  exact this.1
theorem rowOk_one {sz : Nat} {es : List (List AV)} (h : rowOk sz es = true) : ∀ x ∈ es.flatten, AV.one x = true := fun x hx => by
  obtain ⟨c, hc, hxc⟩ := List.mem_flatten.1 hx
  have := List.all_eq_true.1 h c hc
  simp only [Bool.and_eq_true] at this
  exact List.all_eq_true.1 this.2 x hxc

theorem bnd_spec {d l : Int} {lo : Option AV} (h : bnd d lo = some l) : (lo = none ∧ l = d) ∨ ∃ k, lo = some (.lit (.int k l)) := by
  unfold bnd at h
  split at h
  · exact .inl ⟨rfl, (Option.some.inj h).symm⟩
  · obtain rfl := Option.some.inj h
    exact .inr ⟨_, rfl⟩
  · cases h

/-- An optional operand against an optional value. -/
def ORel (E : En) : Option AV → Option Value → Prop
  | none, none => True
  | some a, some v => VRel E a v
  | _, _ => False

theorem run_bounds {isS : Bool} {len cap : Nat} {l r : Int} {lo hi : Option AV} {vlo vhi : Option Value} (rl : ORel E lo vlo) (rh : ORel E hi vhi) (hl : bnd 0 lo = some l) (hr : bnd len hi = some r)
    (h0 : 0 ≤ l) (h1 : l ≤ r) (h2 : r ≤ len) (h3 : len ≤ cap) (w : World) : (Instr.sliceBounds isS len cap vlo vhi none).run P w = .ok (l.toNat, r.toNat, cap) w := by
  have hh : ∀ {k : IntKind} {i : Int} {v : Value}, ORel E (some (.lit (.int k i))) (some v) → v = .int k i := by
    intro k i v h
    cases (h : VRel E _ v)
    rfl
  rcases bnd_spec hl with ⟨rfl, rfl⟩ | ⟨k, rfl⟩ <;> rcases bnd_spec hr with ⟨rfl, rfl⟩ | ⟨k', rfl⟩ <;> cases vlo <;> cases vhi <;> first
    | exact rl.elim
    | exact rh.elim
    | skip
  · simp [Instr.sliceBounds]
  · rw [hh rh]
    simp [Instr.sliceBounds, run_bound (P := P) (k := k') (i := r) (y := cap) ⟨by omega, by omega⟩]
  · rw [hh rl]
    simp [Instr.sliceBounds, run_bound (P := P) (k := k) (i := l) (y := len) ⟨h0, h1⟩]
  · rw [hh rh, hh rl]
    have h4 : (l : Int) ≤ (r.toNat : Nat) := by omega
    simp [Instr.sliceBounds, run_bound (P := P) (k := k') (i := r) (y := cap) ⟨by omega, by omega⟩, run_bound (P := P) (k := k) (i := l) (y := r.toNat) ⟨h0, h4⟩]

theorem ev_cut (hT : TOk P T) (s : SRel h B E) {t : TypeId} {x z : AV} {u : Value} {lo hi : Option AV} {vlo vhi : Option Value} (hx : VRel E x u) (rl : ORel E lo vlo) (rh : ORel E hi vhi)
    (he : cut T h t x lo hi = some z) : Same P E (Instr.sliceAt t u vlo vhi none) z := by
  unfold cut at he
  split at he
  · rename_i b
    split at he
    · rename_i hs
      have hu := strT_spec hT hs
      split at he
      · rename_i l r hl hr
        split at he
        · rename_i hb
          obtain rfl := Option.some.inj he
          cases hx
          have := run_bounds (P := P) (isS := false) (cap := b.size) rl rh hl hr hb.1 hb.2.1 hb.2.2 (Nat.le_refl _) E.w
          exact ⟨.string (b.extract l.toNat r.toNat), by simp [Instr.sliceAt, run_underlying hu, Instr.slice, this], .lit _⟩
        · cases he
      · cases he
    · cases he
  · rename_i bx es
    split at he
    · rename_i e hsl
      cases ht : T t with
      | none => simp [ht] at hsl
      | some te0 =>
      rw [ht] at hsl
      have hu := (hT t te0 ht).sl e hsl
      split at he
      · rename_i te l r hte hl hr
        split at he
        · rename_i hb
          obtain ⟨hb, hall⟩ := hb
          obtain rfl := Option.some.inj he
          have ok := hT e te hte
          have huni := rowOk_uni hall
          cases hx with
          | imm _ _ sz a c us hsz hlen hc hO hcap hx hm hv =>
          have hrun := run_bounds (P := P) (isS := true) (cap := c) rl rh hl hr hb.1 hb.2.1 hb.2.2 hcap E.w
          have hfl := flatten_length es huni
          have hes' : ((es.take r.toNat).drop l.toNat).length = r.toNat - l.toNat := by simp; omega
          have hf2 : ((es.take r.toNat).drop l.toNat).flatten = (es.flatten.take (r.toNat * te.sz)).drop (l.toNat * te.sz) := by
            rw [flatten_drop _ (fun c hc => huni c (List.mem_of_mem_take hc)), flatten_take _ huni]
          refine ⟨.slice (some (if c = l.toNat then a else a.add (l.toNat * te.sz))) (r.toNat - l.toNat) (c - l.toNat), ?_, ?_⟩
          · simp only [Instr.sliceAt, Instr.slice, Sem.run_bind, run_underlying hu, Result.andThen_ok, hrun, ok.run_sizeOf, Sem.run_pure, Option.map_some]
            split <;> rfl
          · have hrel : LRel E ((es.take r.toNat).drop l.toNat).flatten ((us.take (r.toNat * te.sz)).drop (l.toNat * te.sz)) := by
              rw [hf2]
              exact (LRel.take ⟨hlen, hv⟩ _).drop _
            have key := VRel.imm (E := E) false ((es.take r.toNat).drop l.toNat) te.sz (if c = l.toNat then a else a.add (l.toNat * te.sz)) (c - l.toNat) ((us.take (r.toNat * te.sz)).drop (l.toNat * te.sz))
              (fun c hc => huni c (List.mem_of_mem_take (List.mem_of_mem_drop hc))) hrel.1 (fun j u hj => ?_) (fun hne => ?_) (by rw [hes']; omega) (by simp) (by omega) hrel.2
            · rw [hes'] at key
              exact key
            · rw [List.getElem?_drop, List.getElem?_take] at hj
              split at hj
              · rename_i hlt
                have hcl : ¬ c = l.toNat := by
                  intro e
                  have : r.toNat ≤ l.toNat := by omega
                  have := Nat.mul_le_mul_right te.sz this
                  omega
                rw [if_neg hcl, addr_add_add]
                exact hc _ _ hj
              · cases hj
            · have hb' : (if c = l.toNat then a else a.add (l.toNat * te.sz)).block = a.block := by split <;> simp [addr_block]
              rw [hb']
              refine hO fun e => hne ?_
              rw [e]
              simp
        · cases he
      · cases he
    · cases he
  · split at he
    · rename_i e hsl
      cases ht : T t with
      | none => simp [ht] at hsl
      | some te0 =>
      rw [ht] at hsl
      have hu := (hT t te0 ht).sl e hsl
      split at he
      · rename_i te l r hte hl hr
        split at he
        · rename_i hb
          obtain ⟨rfl, rfl⟩ := hb
          obtain rfl := Option.some.inj he
          have ok := hT e te hte
          cases hx
          have hrun := run_bounds (P := P) (isS := true) (len := 0) (cap := 0) rl rh hl hr (by omega) (by omega) (by omega) (Nat.le_refl _) E.w
          refine ⟨.slice none 0 0, ?_, .nilS⟩
          simp [Instr.sliceAt, Instr.slice, run_underlying hu, hrun, ok.run_sizeOf]
        · cases he
      · cases he
    · cases he
  · cases he
end
end Go.Proofs.Ev
end
section
/- Operations that make rows or write them. -/
set_option linter.unusedVariables false
set_option linter.unusedSimpArgs false
namespace Go.Proofs.Ev
open Go Go.RowKit

section
variable {P : Program} {T : TT} {h : Hp} {B : Nat} {E : En}

theorem heap_new (w : World) (o : Obj) : (w.alloc o).heap[w.heap.size]? = some o := by
  show (w.heap.push o)[w.heap.size]? = some o
  simp
theorem flatten_one (l : List AV) : [l].flatten = l := by simp

/-- One new variable. -/
theorem new_var (s : SRel h B E) {t : TypeId} {sz : Nat} {cs : List AV} {us : Array Value} (hz : 0 < sz) (hl : cs.length = sz) (hr : LRel E cs us.toList) :
    ∃ E', E'.w = E.w.alloc (.cells us t) ∧ SRel (addRow h t sz [cs]) B E' ∧ Stp h (addRow h t sz [cs]) E E' ∧ VRel E' (.elem (.own h.next) 0 0) (.pointer (some ⟨E.w.heap.size, 0, none⟩)) := by
  have hus : us.size = sz := by have := hr.1; simp at this; omega
  obtain ⟨E', hw, s', st, x, hv, hsz⟩ := s.new (ty := t) (sz := sz) (es := [cs]) (w' := E.w.alloc (.cells us t)) (g := E.w.heap.size) (cap := 1) (Keeps.alloc _ _ _) (Nat.le_refl _) (cur := us)
    (heap_new E.w _) hz (by simp [hl]) (by simp) (by simp [maxLen]) (by simp [hus]) (us := us.toList) (by simp; rw [List.take_of_length_le (by simp [hus])]) (by simpa using hr)
  refine ⟨E', hw, s', st, ?_⟩
  have := VRel.elem (E := E') (.own h.next) 0 0 _ _ _ sz hv hsz
  simpa [addr_zero, Addr.add] using this

theorem ev_box (hT : TOk P T) (s : SRel h B E) {t : TypeId} {x z : AV} {u : Value} {h' : Hp} (hx : VRel E x u) (he : box T h t x = some (z, h')) : RunOk P (Instr.box t u) h B E z h' := by
  unfold box at he
  split at he
  · rename_i te ht
    split at he
    · rename_i hc
      obtain ⟨hl, hz, h1⟩ := hc
      simp only [Option.some.injEq, Prod.mk.injEq] at he
      obtain ⟨rfl, rfl⟩ := he
      obtain ⟨hr, _⟩ := cells_rel hx h1
      obtain ⟨E', hw, s', st, hv⟩ := new_var s (t := t) hz hl hr
      exact ⟨_, E', by rw [hw]; simp [Instr.box, newVar, newRow], s', st, hv⟩
    · cases he
  · cases he

theorem ev_alloc (hT : TOk P T) (s : SRel h B E) {t : TypeId} {z : AV} {h' : Hp} (he : alloc T h t = some (z, h')) : RunOk P (Instr.alloc t true (.tuple #[])) h B E z h' := by
  unfold alloc at he
  split at he
  · rename_i te ht
    split at he
    · rename_i hz
      simp only [Option.some.injEq, Prod.mk.injEq] at he
      obtain ⟨rfl, rfl⟩ := he
      have ok := hT t te ht
      obtain ⟨zv, hzr, hzc⟩ := ok.run_zeroValue E.w
      have hr : LRel E te.zero zv.cells.toList := by rw [hzc]; exact ok.zero_rel E
      obtain ⟨E', hw, s', st, hv⟩ := new_var s (t := t) hz ok.zlen hr
      exact ⟨_, E', by rw [hw]; simp [Instr.alloc, hzr, newVar, newRow], s', st, hv⟩
    · cases he
  · cases he

/-- Parts put over cells, on both sides. -/
theorem splice_length {e cs : List AV} {o : Nat} (h : o + cs.length ≤ e.length) : (splice e o cs).length = e.length := by simp [splice]; omega

theorem foldl_set {v : List Value} : ∀ (us : Array Value) (off k : Nat), off + k + v.length ≤ us.size →
    ((v.zipIdx k).foldl (fun cs (c, j) => cs.setIfInBounds (off + j) c) us).toList = us.toList.take (off + k) ++ v ++ us.toList.drop (off + k + v.length) := by
  induction v with
  | nil => intro us off k h; simp
  | cons a v ih =>
    intro us off k h
    simp only [List.length_cons] at h
    simp only [List.zipIdx_cons, List.foldl_cons]
    rw [ih _ off (k + 1) (by simp; omega)]
    simp only [Array.toList_setIfInBounds, List.length_cons]
    have := Go.list_seg_step us.toList (off + k) a v (by simp; omega)
    simpa [Nat.add_assoc, Nat.add_comm, Nat.add_left_comm] using this

theorem ev_fill {place : Nat → Option (Nat × Nat)} : ∀ (ps : List (Nat × AV)) (qs : List (Nat × Value)) (cs out : List AV) (us : Array Value), ps.map (·.1) = qs.map (·.1) →
    (∀ j (h1 : j < ps.length) (h2 : j < qs.length), VRel E (ps[j]).2 (qs[j]).2) → LRel E cs us.toList → fillA place cs ps = some out →
    ∃ vs, Instr.fill place us qs = some vs ∧ LRel E out vs.toList := by
  intro ps
  induction ps with
  | nil =>
    intro qs cs out us hm hv hr he
    cases qs with
    | nil =>
      obtain rfl : cs = out := Option.some.inj he
      exact ⟨us, rfl, hr⟩
    | cons q qs => simp at hm
  | cons p ps ih =>
    intro qs cs out us hm hv hr he
    cases qs with
    | nil => simp at hm
    | cons q qs =>
      obtain ⟨i, v⟩ := p
      obtain ⟨i', w⟩ := q
      simp only [List.map_cons, List.cons.injEq] at hm
      obtain ⟨rfl, hm⟩ := hm
      have h0 := hv 0 (by simp) (by simp)
      simp only [List.getElem_cons_zero] at h0
      simp only [fillA] at he
      split at he
      · cases he
      · rename_i off size hp
        split at he
        · rename_i hc
          obtain ⟨hc1, hc2, h1⟩ := hc
          obtain ⟨hcr, _⟩ := cells_rel h0 h1
          have hws : w.cells.size = size := by have := hcr.1; simp at this; omega
          have hus : us.size = cs.length := by have := hr.1; simpa using this
          have hfold := foldl_set (v := w.cells.toList) us off 0 (by simp; omega)
          obtain ⟨vs, hf, hrel⟩ := ih qs (splice cs off v.cells) out (w.cells.zipIdx.foldl (fun cs (c, j) => cs.setIfInBounds (off + j) c) us) hm
            (fun j j1 j2 => by
              have := hv (j + 1) (by simp; omega) (by simp; omega)
              simpa using this)
            (by
              have e : (w.cells.zipIdx.foldl (fun cs (c, j) => cs.setIfInBounds (off + j) c) us).toList = us.toList.take off ++ w.cells.toList ++ us.toList.drop (off + w.cells.toList.length) := by
                rw [← Array.foldl_toList, Array.toList_zipIdx]
                simpa using hfold
              rw [e]
              unfold splice
              rw [← hcr.1.symm]
              exact ((hr.take off).append hcr).append (hr.drop _))
            he
          refine ⟨vs, ?_, hrel⟩
          simp only [Instr.fill, hp]
          rw [if_neg (by simp; omega)]
          exact hf
        · cases he

theorem ev_build (hT : TOk P T) {t : TypeId} {ps : List (Nat × AV)} {qs : List (Nat × Value)} {z : AV} (hm : ps.map (·.1) = qs.map (·.1))
    (hv : ∀ j (h1 : j < ps.length) (h2 : j < qs.length), VRel E (ps[j]).2 (qs[j]).2) (he : build T t ps = some z) :
    Same P E (Instr.build t qs.toArray) z := by
  unfold build at he
  split at he
  · rename_i te ht
    have ok := hT t te ht
    obtain ⟨zv, hzr, hzc⟩ := ok.run_zeroValue E.w
    have hzrel : LRel E te.zero zv.cells.toList := by rw [hzc]; exact ok.zero_rel E
    split at he
    · rename_i fs hst
      obtain ⟨out, hout, rfl⟩ := Option.map_eq_some_iff.1 he
      obtain ⟨fields, hu, hfs⟩ := stOf_field (ok.st fs hst)
      have hlen : fs.length = fields.size := by
        have h2 := ok.st fs hst
        unfold stOf at h2
        rw [hu] at h2
        have key : ∀ {α β : Type} (f : α → Option β) (l : List α) (r : List β), allSome f l = some r → r.length = l.length := by
          intro α β f l
          induction l with
          | nil => intro r h; obtain rfl := Option.some.inj h; rfl
          | cons a l ih =>
            intro r h
            simp only [allSome] at h
            split at h
            · rename_i y ys _ h2
              obtain rfl := Option.some.inj h
              simp [ih _ h2]
            · cases h
        simpa using key _ _ _ h2
      have hmapM : ∃ places : Array (Nat × Nat), (fields.mapM (fun f => do pure (f.offset, ← sizeOf f.type) : Field → Sem (Nat × Nat))).run P E.w = .ok places E.w ∧ ∀ i : Nat, places[i]? = (fs[i]?).map (fun f => ((f.1, f.2.1) : Nat × Nat)) := by
        have key : ∀ (l : List Field) (fs : List (Nat × Nat × Bool)), l.length = fs.length → (∀ (i off n : Nat) (g : Bool), fs[i]? = some (off, n, g) → ∃ f : Field, l[i]? = some f ∧ f.offset = off ∧ ∀ w, (sizeOf f.type).run P w = .ok n w) →
            (l.mapM (fun f => do pure (f.offset, ← sizeOf f.type) : Field → Sem (Nat × Nat))).run P E.w = .ok (fs.map fun f => (f.1, f.2.1)) E.w := by
          intro l
          induction l with
          | nil =>
            intro fs hl _
            cases fs with
            | nil => rfl
            | cons a b => simp at hl
          | cons f l ih =>
            intro fs hl hh
            cases fs with
            | nil => simp at hl
            | cons a b =>
              obtain ⟨off, n, g⟩ := a
              obtain ⟨f', h1, h2, h3⟩ := hh 0 off n g rfl
              simp only [List.getElem?_cons_zero, Option.some.injEq] at h1
              subst h1
              have := ih b (by simpa using hl) (fun i o n g hi => by
                obtain ⟨f2, h4⟩ := hh (i + 1) o n g (by simpa using hi)
                exact ⟨f2, by simpa using h4⟩)
              simp only [List.mapM_cons, Sem.run_bind, h3, Result.andThen_ok, Sem.run_pure, this, h2, List.map_cons]
        have := key fields.toList fs (by simpa using hlen.symm) (fun i off n g hi => by
          obtain ⟨f, h1, h2, h3, _⟩ := hfs i off n g hi
          exact ⟨f, by simpa using h1, h2, h3⟩)
        refine ⟨(fs.map fun f => (f.1, f.2.1)).toArray, ?_, fun i => by simp⟩
        rw [Array.mapM_eq_mapM_toList]
        simp only [Sem.run_map, this, Result.andThen_ok]
      obtain ⟨places, hp1, hp2⟩ := hmapM
      obtain ⟨vs, hf, hrel⟩ := ev_fill (E := E) ps qs te.zero out zv.cells hm hv hzrel hout
      have hplace : (fun (i : Nat) => (fs[i]?).map (fun f => ((f.1, f.2.1) : Nat × Nat))) = (places[·]?) := by funext i; exact (hp2 i).symm
      rw [hplace] at hf
      refine ⟨.agg vs, ?_, by have := VRel.agg (E := E) out vs.toList hrel.1 hrel.2; simpa using this⟩
      simp only [Instr.build, Sem.run_bind, hzr, Result.andThen_ok, run_underlying hu, hp1, hf, Sem.run_pure]
    · rename_i hst
      split at he
      · rename_i n e har
        split at he
        · rename_i ee hee
          obtain ⟨out, hout, rfl⟩ := Option.map_eq_some_iff.1 he
          have oke := hT e ee hee
          have hu := ok.ar n e har
          obtain ⟨vs, hf, hrel⟩ := ev_fill (E := E) ps qs te.zero out zv.cells hm hv hzrel hout
          refine ⟨.agg vs, ?_, by have := VRel.agg (E := E) out vs.toList hrel.1 hrel.2; simpa using this⟩
          simp only [Instr.build, Sem.run_bind, hzr, Result.andThen_ok, run_underlying hu, oke.run_sizeOf, hf, Sem.run_pure]
        · cases he
      · cases he
  · cases he

theorem lits_uni {sz : Nat} : ∀ (ps : List (Nat × AV)) (k : Nat) (es : List (List AV)), lits sz k ps = some es → es.length = ps.length ∧ (∀ e ∈ es, e.length = sz) := by
  intro ps
  induction ps with
  | nil => intro k es h; obtain rfl := Option.some.inj h; simp
  | cons p ps ih =>
    intro k es h
    obtain ⟨i, v⟩ := p
    simp only [lits] at h
    split at h
    · rename_i hc
      obtain ⟨es', h1, rfl⟩ := Option.map_eq_some_iff.1 h
      obtain ⟨h2, h3⟩ := ih (k + 1) es' h1
      refine ⟨by simp [h2], fun e he => ?_⟩
      rcases List.mem_cons.1 he with rfl | he
      · exact hc.2.1
      · exact h3 e he
    · cases h

theorem fill_lits {sz : Nat} : ∀ (ps : List (Nat × AV)) (k : Nat) (es : List (List AV)) (cs : List AV), lits sz k ps = some es → (k + ps.length) * sz ≤ cs.length →
    fillA (fun i => some (i * sz, sz)) cs ps = some (cs.take (k * sz) ++ es.flatten ++ cs.drop ((k + ps.length) * sz)) := by
  intro ps
  induction ps with
  | nil =>
    intro k es cs h hl
    obtain rfl := Option.some.inj h
    simp [fillA]
  | cons p ps ih =>
    intro k es cs h hl
    obtain ⟨i, v⟩ := p
    simp only [lits] at h
    split at h
    · rename_i hc
      obtain ⟨rfl, hv, h1⟩ := hc
      obtain ⟨es', h2, rfl⟩ := Option.map_eq_some_iff.1 h
      simp only [List.length_cons] at hl
      have hle : i * sz + sz ≤ (i + (ps.length + 1)) * sz := by rw [← Nat.succ_mul]; exact Nat.mul_le_mul_right _ (by omega)
      simp only [fillA]
      rw [if_pos ⟨hv, by omega, h1⟩]
      have hsl : (splice cs (i * sz) v.cells).length = cs.length := splice_length (by omega)
      have := ih (i + 1) es' (splice cs (i * sz) v.cells) h2 (by rw [hsl]; have : (i + 1 + ps.length) * sz = (i + (ps.length + 1)) * sz := by congr 1; omega
                                                                 omega)
      rw [this]
      have e1 : (splice cs (i * sz) v.cells).take ((i + 1) * sz) = cs.take (i * sz) ++ v.cells := by
        unfold splice
        rw [List.take_append_of_le_length (by simp; rw [Nat.add_mul]; omega), List.take_of_length_le (by simp; rw [Nat.add_mul]; omega)]
      have e2 : (splice cs (i * sz) v.cells).drop ((i + 1 + ps.length) * sz) = cs.drop ((i + (ps.length + 1)) * sz) := by
        have e3 : (i + 1 + ps.length) * sz = (i + (ps.length + 1)) * sz := by congr 1; omega
        unfold splice
        rw [e3, List.drop_append, List.drop_eq_nil_of_le (by simp; omega), List.nil_append, List.drop_drop]
        congr 1
        simp
        omega
      rw [e1, e2]
      simp [List.append_assoc, Nat.add_assoc, Nat.add_comm]
    · cases h

theorem O_lt (s : SRel h B E) {b : Nat} (hb : E.O b) : b < E.w.heap.size := by
  obtain ⟨id, r, hr, rfl⟩ := (s.O b).1 hb
  exact s.blk_lt hr

/-- A new row that nobody will write. -/
theorem new_imm (s : SRel h B E) {sz cap : Nat} {es : List (List AV)} {us : Array Value} {t : TypeId} (x : Bool) (huni : ∀ e ∈ es, e.length = sz) (hr : LRel E es.flatten us.toList)
    (hc : es.length ≤ cap) (hx : x = true → cap = es.length) (hm : cap ≤ maxLen) :
    SRel h B (E.at (E.w.alloc (.cells us t))) ∧ Stp h h E (E.at (E.w.alloc (.cells us t))) ∧ VRel (E.at (E.w.alloc (.cells us t))) (.imm x es) (.slice (some ⟨E.w.heap.size, 0, none⟩) es.length cap) := by
  obtain ⟨s', st, ex⟩ := s.grow (w' := E.w.alloc (.cells us t)) (Keeps.alloc _ _ _)
  refine ⟨s', st, ?_⟩
  refine .imm x es sz _ _ us.toList huni hr.1 (fun j u hu => ?_) (fun _ hO => ?_) hc hx hm (hr.ext ex).2
  · rw [addr_zero]
    show (E.w.alloc (.cells us t)).cell? _ = _
    rw [World.cell?_alloc_new]
    simpa using hu
  · exact absurd (O_lt s hO) (by simp)

theorem ev_buildSlice (hT : TOk P T) (s : SRel h B E) {t : TypeId} {len : Nat} {ps : List (Nat × AV)} {qs : List (Nat × Value)} {z : AV} (hm : ps.map (·.1) = qs.map (·.1))
    (hv : ∀ j (h1 : j < ps.length) (h2 : j < qs.length), VRel E (ps[j]).2 (qs[j]).2) (he : buildSlice T t len ps = some z) : RunOk P (Instr.buildSlice t len qs.toArray) h B E z h := by
  unfold buildSlice at he
  split at he
  · rename_i e hsl
    cases ht : T t with
    | none => simp [ht] at hsl
    | some te0 =>
    rw [ht] at hsl
    have hu := (hT t te0 ht).sl e hsl
    split at he
    · rename_i te hte
      split at he
      · rename_i hc
        obtain ⟨hlen, hpos, hmax⟩ := hc
        obtain ⟨es, hes, rfl⟩ := Option.map_eq_some_iff.1 he
        have ok := hT e te hte
        obtain ⟨hel, huni⟩ := lits_uni ps 0 es hes
        obtain ⟨zv, hzr, hzc⟩ := ok.run_zeroValue E.w
        let zero : Array Value := if len * te.sz = 0 then #[] else zv.cells
        let us0 : Array Value := (Array.range (len * te.sz)).map (zero[· % zero.size]!)
        have hrel0 : LRel E (List.replicate (len * te.sz) AV.junk) us0.toList := by
          refine ⟨by simp [us0], fun j h1 h2 => ?_⟩
          simp only [List.getElem_replicate]
          exact .junk _
        have hfill := fill_lits ps 0 es (List.replicate (len * te.sz) AV.junk) hes (by simp; rw [hlen]; exact Nat.le_refl _)
        simp only [Nat.zero_mul, List.take_zero, List.nil_append, Nat.zero_add] at hfill
        rw [List.drop_eq_nil_of_le (by simp; rw [hlen]; exact Nat.le_refl _), List.append_nil] at hfill
        obtain ⟨vs, hf, hrel⟩ := ev_fill (E := E) ps qs _ _ us0 hm hv hrel0 hfill
        have hle : len ≤ maxLen := by
          have : len * 1 ≤ len * te.sz := Nat.mul_le_mul_left _ hpos
          simp only [maxLen]
          omega
        obtain ⟨s', st, hvr⟩ := new_imm (us := vs) (t := e) (cap := es.length) s true huni hrel (Nat.le_refl _) (fun _ => rfl) (by rw [hel, hlen]; exact hle)
        have hl2 : es.length = len := by rw [hel, hlen]
        refine ⟨_, _, ?_, s', st, hvr⟩
        simp only [Instr.buildSlice, Sem.run_bind, run_underlying hu, Result.andThen_ok, ok.run_sizeOf]
        rw [if_neg (by omega)]
        have hf' : Instr.fill (fun i => some (i * te.sz, te.sz)) ((Array.range (len * te.sz)).map (zero[· % zero.size]!)) qs = some vs := hf
        by_cases h0 : len * te.sz = 0
        · have hz : zero = #[] := if_pos h0
          rw [hz] at hf'
          rw [if_pos h0]
          simp only [Sem.run_bind, Sem.run_pure, Result.andThen_ok, hf']
          simp [newRow, hl2, En.at]
        · have hz : zero = zv.cells := if_neg h0
          rw [hz] at hf'
          rw [if_neg h0]
          simp only [Sem.run_bind, Sem.run_pure, Result.andThen_ok, hzr, hf']
          simp [newRow, hl2, En.at]
      · cases he
    · cases he
  · cases he
end
end Go.Proofs.Ev
end
section
/- make, store, append. -/
set_option linter.unusedVariables false
set_option linter.unusedSimpArgs false
namespace Go.Proofs.Ev
open Go Go.RowKit

theorem one_rel {E : En} {x : AV} {u : Value} (h : VRel E x u) (h1 : AV.one x = true) : u.oneCell' = true := by
  cases h with
  | lit => cases u <;> simp_all [AV.one, Value.oneCell']
  | _ => first | rfl | simp [AV.one] at h1
theorem ones_rel {E : En} {xs : List AV} {us : List Value} (h : LRel E xs us) (h1 : ∀ x ∈ xs, AV.one x = true) : ∀ u ∈ us, u.oneCell' = true := by
  intro u hu
  obtain ⟨j, hj, rfl⟩ := List.getElem_of_mem hu
  exact one_rel (h.2 j (by have := h.1; omega) hj) (h1 _ (List.getElem_mem _))

theorem flatten_replicate_at {α : Type} (l : List α) (n j : Nat) (hj : j < n * l.length) : (List.replicate n l).flatten[j]? = l[j % l.length]? := by
  have hpos : 0 < l.length := by
    rcases Nat.eq_zero_or_pos l.length with h | h
    · rw [h] at hj; simp at hj
    · exact h
  have h1 : j = (j / l.length) * l.length + j % l.length := by rw [Nat.mul_comm]; exact (Nat.div_add_mod j l.length).symm
  have h2 := flatten_at (List.replicate n l) (fun e he => by rw [(List.mem_replicate.1 he).2]) (j / l.length) (j % l.length) (Nat.mod_lt _ hpos)
  rw [← h1] at h2
  rw [h2, List.getElem?_replicate, if_pos (Nat.div_lt_of_lt_mul (by rw [Nat.mul_comm]; exact hj))]
  rfl

theorem made_cells (z : Array Value) (n sz : Nat) (hz : z.size = sz) : ((Array.range (n * sz)).map (z[· % z.size]!)).toList = (List.replicate n z.toList).flatten := by
  apply List.ext_getElem?
  intro j
  by_cases hj : j < n * sz
  · rw [flatten_replicate_at _ _ _ (by simpa [hz] using hj)]
    have hpos : 0 < sz := by
      rcases Nat.eq_zero_or_pos sz with h | h
      · rw [h] at hj; simp at hj
      · exact h
    have hm : j % z.size < z.size := Nat.mod_lt _ (by omega)
    simp [hj, hm, Array.getElem!_eq_getD, Array.getD]
  · rw [List.getElem?_eq_none (by simp; omega), List.getElem?_eq_none]
    have := flatten_length (List.replicate n z.toList) (sz := sz) (fun e he => by rw [(List.mem_replicate.1 he).2]; simpa using hz)
    rw [this]
    simp
    omega

section
variable {P : Program} {T : TT} {h : Hp} {B : Nat} {E : En}

theorem ev_makeSl (hT : TOk P T) (s : SRel h B E) {t : TypeId} {l c z : AV} {vl vc : Value} {h' : Hp} (hl : VRel E l vl) (hc : VRel E c vc) (he : makeSl T h t l c = some (z, h')) :
    RunOk P (Instr.makeSlice t vl vc) h B E z h' := by
  unfold makeSl at he
  split at he
  · rename_i n m e hsl
    cases hl
    cases hc
    cases ht : T t with
    | none => simp [ht] at hsl
    | some te0 =>
    rw [ht] at hsl
    have hu := (hT t te0 ht).sl e hsl
    split at he
    · rename_i te hte
      split at he
      · rename_i hcond
        obtain ⟨rfl, h0, hbig, hpos⟩ := hcond
        simp only [Option.some.injEq, Prod.mk.injEq] at he
        obtain ⟨rfl, rfl⟩ := he
        have ok := hT e te hte
        obtain ⟨inf, zv, hi, hz, hzc, hsize, hby⟩ := ok.info'
        obtain ⟨k, rfl⟩ := Int.eq_ofNat_of_zero_le h0
        have hzs : zv.cells.size = te.sz := by have := congrArg List.length hzc; simpa [ok.zlen] using this
        have hw : IntKind.i64.wrap (k : Int) = k := IntWalk.i64_in _ (by omega)
        have hsm := ok.small
        have hby2 : inf.bytes * (k : Int) ≤ 281474976710656 := by
          have : inf.bytes * k ≤ 1024 * 4294967296 := Nat.mul_le_mul (by omega) (by omega)
          omega
        have hrel : LRel E (List.replicate k te.zero).flatten (List.replicate k zv.cells.toList).flatten := by
          rw [hzc]
          exact (ok.zero_rel E).replicate k
        let cells : Array Value := (Array.range (k * te.sz)).map (zv.cells[· % zv.cells.size]!)
        have hcl : cells.toList = (List.replicate k zv.cells.toList).flatten := made_cells zv.cells k te.sz hzs
        have hcs : cells.size = k * te.sz := by simp [cells]
        obtain ⟨E', hw', s', st, _, hv, _⟩ := s.new (ty := e) (sz := te.sz) (es := List.replicate k te.zero) (w' := E.w.alloc (.cells cells e)) (g := E.w.heap.size) (cap := k) (Keeps.alloc _ _ _) (Nat.le_refl _)
          (cur := cells) (heap_new _ _) hpos (fun x hx => by rw [(List.mem_replicate.1 hx).2]; exact ok.zlen) (by simp) (by simp only [maxLen]; omega) hcs (us := (List.replicate k zv.cells.toList).flatten)
          (by rw [hcl, List.length_replicate]; exact List.take_of_length_le (by rw [← hcl]; simp [hcs])) hrel
        refine ⟨_, E', ?_, s', st, hv⟩
        rw [hw']
        have n1 : ¬ ((decide ((k : Int) < 0) || decide ((inf.bytes : Int) * k > 2 ^ 48)) || decide ((k : Int) < 0) || decide ((k : Int) > k)) = true := by
          simp
          omega
        simp only [Instr.makeSlice, Sem.run_bind, run_underlying hu, asInt, asIntOf, Sem.run_pure, Result.andThen_ok, typeInfo, run_program, hi, hw]
        rw [if_neg n1]
        simp only [Sem.run_bind, run_askRoom, Result.andThen_ok, ok.run_sizeOf, Int.toNat_natCast]
        by_cases hk : k * te.sz = 0
        · have hce : (Array.map (fun x => (#[] : Array Value)[x % (#[] : Array Value).size]!) (Array.range (k * te.sz))) = cells := by simp [cells, hk]
          rw [if_pos hk]
          simp only [Sem.run_bind, Sem.run_pure, Result.andThen_ok, hce]
          simp [newRow]
        · rw [if_neg hk]
          simp only [Sem.run_bind, zeroValue, typeInfo, run_program, Result.andThen_ok, hi, hz, Sem.run_pure]
          simp [newRow, cells]
      · cases he
    · cases he
  · cases he

theorem flatten_splice {sz : Nat} : ∀ (es : List (List AV)) (i o : Nat) (e cs : List AV), (∀ e ∈ es, e.length = sz) → es[i]? = some e → o + cs.length ≤ sz →
    (es.set i (splice e o cs)).flatten = splice es.flatten (i * sz + o) cs := by
  intro es
  induction es with
  | nil => intro i o e cs _ he _; simp at he
  | cons x es ih =>
    intro i o e cs hu he hl
    have hx := hu x (by simp)
    cases i with
    | zero =>
      obtain rfl : x = e := by simpa using he
      simp only [List.set_cons_zero, List.flatten_cons, Nat.zero_mul, Nat.zero_add, splice]
      rw [List.take_append_of_le_length (by omega), List.drop_append_of_le_length (by omega)]
      simp [List.append_assoc]
    | succ i =>
      have := ih i o e cs (fun e he => hu e (by simp [he])) (by simpa using he) hl
      rw [List.set_cons_succ, List.flatten_cons, this]
      unfold splice
      rw [List.flatten_cons]
      have h1 : (i + 1) * sz + o = x.length + (i * sz + o) := by rw [hx, Nat.add_mul]; omega
      have h2 : x.length + (i * sz + o) - x.length = i * sz + o := by omega
      have h3 : x.length + (i * sz + o) + cs.length - x.length = i * sz + o + cs.length := by omega
      rw [h1, List.take_append, List.drop_append, List.take_of_length_le (l := x) (by omega), List.drop_eq_nil_of_le (as := x) (by omega), h2, h3]
      simp only [List.nil_append, List.append_assoc]

theorem ev_stor (hT : TOk P T) (s : SRel h B E) {t : TypeId} {x v : AV} {u w : Value} {h' : Hp} (hx : VRel E x u) (hv : VRel E v w) (he : stor T h t x v = some h') :
    ∃ E', (Instr.storeAt t u w).run P E.w = .ok () E'.w ∧ SRel h' B E' ∧ Stp h h' E E' := by
  unfold stor at he
  split at he
  · rename_i id i o
    split at he
    · rename_i r te hr hte
      split at he
      · rename_i e hi
        split at he
        · rename_i hc
          obtain ⟨hlo, hlen, hle, h1⟩ := hc
          obtain rfl := Option.some.inj he
          have ok := hT t te hte
          have R := s.rows id r hr
          cases hx with
          | elem _ _ _ a n c sz hs hz =>
          cases hs with
          | own _ hid =>
          have hsz : sz = r.sz := by have : (E.m id).sz = sz := hz; rw [← this]; exact R.sz
          subst hsz
          obtain ⟨hcr, hone⟩ := cells_rel hv h1
          obtain ⟨cur, us, g1, g2, g3, g4⟩ := R.cells
          have hel : e.length = r.sz := R.uni e (List.mem_of_getElem? hi)
          have hil : i < r.es.length := (List.getElem?_eq_some_iff.1 hi).1
          have hcap := R.cap
          rw [R.len] at hcap
          have hfl := flatten_length r.es R.uni
          have hus : us.length = r.es.length * r.sz := by rw [g4.1, hfl]
          have hin : i * r.sz + r.sz ≤ r.es.length * r.sz := by rw [← Nat.succ_mul]; exact Nat.mul_le_mul_right _ hil
          have hcc : r.es.length * r.sz ≤ (E.m id).cap * r.sz := Nat.mul_le_mul_right _ hcap
          have hwl : w.cells.toList.length = te.sz := by rw [hcr.1]; exact hlen
          have hrun := run_storeCells_at P (E.m id).blk (i * r.sz + o) r.ty w.cells.toList 0 cur E.w g1 (by rw [hwl]; omega) hone
          obtain ⟨off, hoff0⟩ : ∃ off, i * r.sz + o = off := ⟨_, rfl⟩
          rw [hoff0, Nat.add_zero] at hrun
          let new : Array Value := (cur.toList.take off ++ w.cells.toList ++ cur.toList.drop (off + w.cells.toList.length)).toArray
          have hwsz : w.cells.size = te.sz := by simpa using hwl
          have hnew : new.size = cur.size := by simp only [new, List.size_toArray, List.length_append, List.length_take, List.length_drop, Array.length_toList]; omega
          have huni' : ∀ x ∈ r.es.set i (splice e o v.cells), x.length = r.sz := by
            intro x hx
            rcases List.mem_or_eq_of_mem_set hx with h | rfl
            · exact R.uni x h
            · rw [splice_length (by omega)]; exact hel
          have hflat : (r.es.set i (splice e o v.cells)).flatten = splice r.es.flatten off v.cells := by rw [← hoff0]; exact flatten_splice r.es i o e v.cells R.uni hi (by omega)
          have htake : new.toList.take ((r.es.set i (splice e o v.cells)).length * r.sz) = us.take off ++ w.cells.toList ++ us.drop (off + v.cells.length) := by
            rw [List.length_set]
            have hoff : off + te.sz ≤ r.es.length * r.sz := by omega
            have e1 : new.toList = cur.toList.take off ++ w.cells.toList ++ cur.toList.drop (off + te.sz) := by simp only [new, hwl]
            have hcl : r.es.length * r.sz ≤ cur.toList.length := by simp only [Array.length_toList]; omega
            rw [e1, hlen, ← g3]
            rw [List.take_append, List.take_of_length_le (l := cur.toList.take off ++ w.cells.toList) (by simp only [List.length_append, List.length_take, hwl]; omega)]
            have e2 : (cur.toList.take off ++ w.cells.toList).length = off + te.sz := by simp only [List.length_append, List.length_take, hwl]; omega
            rw [e2, List.take_take, Nat.min_eq_left (by omega), List.drop_take]
          have hrel : LRel E (r.es.set i (splice e o v.cells)).flatten (us.take off ++ w.cells.toList ++ us.drop (off + v.cells.length)) := by
            rw [hflat]
            exact ((g4.take off).append hcr).append (g4.drop _)
          have hk : Keeps E.w (E.w.setRow (E.m id).blk new) (fun b => b = (E.m id).blk) :=
            ⟨rfl, rfl, rfl, by simp, fun b _ hn => setRow_other _ _ _ _ hn⟩
          obtain ⟨s', st, _⟩ := s.write hr hlo (List.length_set ..) huni' hk (setRow_heap _ _ cur new r.ty (0, 0) g1) (by rw [hnew]; exact g2) htake hrel
          refine ⟨E.at (E.w.setRow (E.m id).blk new), ?_, s', st⟩
          simp only [Instr.storeAt, Instr.sureAddr, Sem.run_bind, Sem.run_pure, Result.andThen_ok, storeVar, ok.run_sizeOf]
          rw [if_neg (by simp [hwsz])]
          rw [addr_zero, hoff0]
          exact hrun
        · cases he
      · cases he
    · cases he
  · cases he
end
end Go.Proofs.Ev
end
section
/- append. -/
set_option linter.unusedVariables false
set_option linter.unusedSimpArgs false
namespace Go.Proofs.Ev
open Go Go.RowKit

section
variable {P : Program} {T : TT} {h : Hp} {B : Nat} {E : En}

/-- Nothing is appended: the very slice comes back. -/
theorem run_append_zero {t ty e : TypeId} {te : TE} (ok : TEOk P e te) (hu : P.underlying t = some (.slice e)) (A : Option Addr) (n c : Nat) (hn : n ≤ c) (A2 : Option Addr) (c2 : Nat) (w : World) :
    (Builtin.append_ #[t, t] ty #[.slice A n c, .slice A2 0 c2]).run P w = .ok (.slice A n c) w := by
  obtain ⟨inf, zv, hi, _, _, hsz, _⟩ := ok.info'
  have hf : (Builtin.firstCells inf.size 0 (.slice A2 0 c2)).run P w = .ok #[] w := by
    cases A2 <;> simp [Builtin.firstCells, loadCells, loadCellsFrom]
  cases A <;> simp [Builtin.append_, run_underlying hu, sizeOf, typeInfo, hi, Builtin.lenOf, hn, hf, storeCells]

theorem ev_app (hT : TOk P T) (s : SRel h B E) {t ty : TypeId} {x y z : AV} {u v : Value} {h' : Hp} (hx : VRel E x u) (hy : VRel E y v) (he : app T h t x y = some (z, h')) :
    RunOk P (Builtin.append_ #[t, t] ty #[u, v]) h B E z h' := by
  unfold app at he
  split at he
  · cases he
  · rename_i e hsl
    cases ht : T t with
    | none => simp [ht] at hsl
    | some te0 =>
    rw [ht] at hsl
    have hu := (hT t te0 ht).sl e hsl
    split at he
    · cases he
    · rename_i te hte
      have ok := hT e te hte
      split at he
      · cases he
      · rename_i ys hys
        split at he
        · cases he
        · rename_i hcond
          obtain ⟨hpos, hrow⟩ := Decidable.not_not.1 hcond
          obtain ⟨inf, zv, hi, hz, hzc, hsize, hby⟩ := ok.info'
          have hsm := ok.small
          have hzs : zv.cells.size = te.sz := by have := congrArg List.length hzc; simpa [ok.zlen] using this
          obtain ⟨A2, c2, rfl, hc2, hm2, hor⟩ := get_rel s hy hys
          have huniY := rowOk_uni hrow
          have honeY := rowOk_one hrow
          have hflY := flatten_length ys huniY
          -- the cells of what is appended, where there are any
          have hnews : ∀ (a : Addr), A2 = some a → ∃ news : List Value, news.length = ys.length * te.sz ∧ LRel E ys.flatten news ∧ (∀ j u, news[j]? = some u → E.w.cell? (a.add j) = some u) ∧ ∀ u ∈ news, u.oneCell' = true := by
            intro a ha
            rcases hor with ⟨h1, _⟩ | ⟨a', sz, h1, _, hc⟩
            · rw [h1] at ha; cases ha
            · rw [h1] at ha
              injection ha with ha
              subst ha
              obtain ⟨us, h2, h3⟩ := hc.us
              exact ⟨us, by rw [h2.1, hflY], h2, h3, ones_rel h2 honeY⟩
          have hsome : ys ≠ [] → ∃ a, A2 = some a := by
            intro hne
            rcases hor with ⟨_, h2, _⟩ | ⟨a, _, h1, _⟩
            · exact absurd h2 hne
            · exact ⟨a, h1⟩
          split at he
          · -- nil
            split at he
            · rename_i hnil
              simp only [Option.some.injEq, Prod.mk.injEq] at he
              obtain ⟨rfl, rfl⟩ := he
              subst hnil
              cases hx
              exact RunOk.still s (run_append_zero ok hu _ _ _ (Nat.le_refl _) _ _ _) .nilS
            · rename_i hne
              split at he
              · rename_i hmost
                simp only [Option.some.injEq, Prod.mk.injEq] at he
                obtain ⟨rfl, rfl⟩ := he
                cases hx
                obtain ⟨a, rfl⟩ := hsome hne
                obtain ⟨news, hl, hr, hc, h1⟩ := hnews a rfl
                have hy0 : 0 < ys.length := List.length_pos_iff.2 hne
                have hmost' : ys.length ≤ 4294967296 := hmost
                have hbytes : ys.length * inf.bytes ≤ 4294967296 * 1024 := Nat.mul_le_mul hmost' (by omega)
                have hrun := run_append_nil (P := P) E.w t ty e inf zv hu hi hz a ys.length c2 news (by rw [hl, hsize]) hc hy0 (by omega) (by omega)
                have hge := grownCap_ge E.w ys.length 0 e
                have hcm : grownCap E.w ys.length 0 e ≤ maxLen := grownCap_le_maxLen E.w _ 0 e (by simp only [maxLen]; omega)
                obtain ⟨E', hw', s', st, _, hvr, _⟩ := s.new (ty := e) (sz := te.sz) (es := ys)
                  (w' := E.w.drew.alloc (.cells (news.toArray ++ Builtin.zeroCells zv.cells (grownCap E.w ys.length 0 e - ys.length)) e)) (g := E.w.heap.size) (cap := grownCap E.w ys.length 0 e)
                  ((Keeps.drew E.w _).trans (Keeps.alloc _ _ _)) (Nat.le_refl _) (heap_new E.w.drew _) hpos huniY hge hcm
                  (by simp only [Array.size_append, List.size_toArray, size_zeroCells, hzs, hl, ← Nat.add_mul]; congr 1; omega) (us := news)
                  (by simp only [Array.toList_append]; rw [← hl]; exact List.take_left) hr
                exact ⟨_, E', by rw [hw']; exact hrun, s', st, hvr⟩
              · cases he
          · -- a literal
            rename_i es
            split at he
            · rename_i hnil
              simp only [Option.some.injEq, Prod.mk.injEq] at he
              obtain ⟨rfl, rfl⟩ := he
              subst hnil
              have hx' := hx
              cases hx with
              | imm _ _ sz a c us hsz hl hc hO hcap hxx hm hv => exact RunOk.still s (run_append_zero ok hu _ _ _ hcap _ _ _) hx'
            · rename_i hne
              split at he
              · rename_i hmost
                obtain ⟨hmost, hrowX⟩ := hmost
                simp only [Option.some.injEq, Prod.mk.injEq] at he
                obtain ⟨rfl, rfl⟩ := he
                cases hx with
                | imm _ _ sz a0 c us hsz hlx hcx hO hcap hxx hm hv =>
                obtain rfl := hxx rfl
                have huniX := rowOk_uni hrowX
                have hflX := flatten_length es huniX
                obtain ⟨a, rfl⟩ := hsome hne
                obtain ⟨news, hl, hr, hc, h1⟩ := hnews a rfl
                have hy0 : 0 < ys.length := List.length_pos_iff.2 hne
                have hmost' : es.length + ys.length ≤ 4294967296 := hmost
                have hbytes : (es.length + ys.length) * inf.bytes ≤ 4294967296 * 1024 := Nat.mul_le_mul hmost' (by omega)
                have husl : us.length = es.length * te.sz := by rw [hlx, hflX]
                have hrun := run_append_grow (P := P) E.w t ty e inf zv hu hi hz a0 es.length es.length us (by rw [husl, hsize]) hcx a ys.length c2 news (by rw [hl, hsize]) hc (by omega) (by omega) (growslice_fits (by omega) (by omega))
                have hge := grownCap_ge E.w (es.length + ys.length) es.length e
                have hcm : grownCap E.w (es.length + ys.length) es.length e ≤ maxLen := grownCap_le_maxLen E.w _ _ e (by simp only [maxLen]; omega)
                have hrel : LRel E (es ++ ys).flatten (us ++ news) := by rw [List.flatten_append]; exact LRel.append ⟨hlx, hv⟩ hr
                obtain ⟨E', hw', s', st, _, hvr, _⟩ := s.new (ty := e) (sz := te.sz) (es := es ++ ys)
                  (w' := E.w.drew.alloc (.cells (us.toArray ++ news.toArray ++ Builtin.zeroCells zv.cells (grownCap E.w (es.length + ys.length) es.length e - (es.length + ys.length))) e)) (g := E.w.heap.size) (cap := grownCap E.w (es.length + ys.length) es.length e)
                  ((Keeps.drew E.w _).trans (Keeps.alloc _ _ _)) (Nat.le_refl _) (heap_new E.w.drew _) hpos
                  (fun c hc => by rcases List.mem_append.1 hc with h | h; exact huniX c h; exact huniY c h) (by simpa using hge) hcm
                  (by simp only [Array.size_append, List.size_toArray, size_zeroCells, hzs, hl, husl, ← Nat.add_mul]; congr 1; omega) (us := us ++ news)
                  (by
                    have e1 : (us.toArray ++ news.toArray ++ Builtin.zeroCells zv.cells (grownCap E.w (es.length + ys.length) es.length e - (es.length + ys.length))).toList = (us ++ news) ++ (Builtin.zeroCells zv.cells (grownCap E.w (es.length + ys.length) es.length e - (es.length + ys.length))).toList := by simp
                    rw [e1, show (es ++ ys).length * te.sz = (us ++ news).length by simp [husl, hl, Nat.add_mul]]
                    exact List.take_left) hrel
                refine ⟨_, E', by rw [hw']; exact hrun, s', st, ?_⟩
                simpa using hvr
              · cases he
          · -- a row of the run's own
            rename_i id
            split at he
            · rename_i r hr
              split at he
              · rename_i hcnd
                obtain ⟨hlo, hty, hrs, hmost⟩ := hcnd
                simp only [Option.some.injEq, Prod.mk.injEq] at he
                obtain ⟨rfl, rfl⟩ := he
                have R := s.rows id r hr
                have hxr := hx
                cases hx with
                | own _ hid =>
                obtain ⟨cur, us, g1, g2, g3, g4⟩ := R.cells
                have hcap := R.cap
                have hmax := R.max
                have hlen := R.len
                have hfl := flatten_length r.es R.uni
                have husl : us.length = r.es.length * r.sz := by rw [g4.1, hfl]
                have hmost' : r.es.length + ys.length ≤ 4294967296 := hmost
                have huni : ∀ c ∈ r.es ++ ys, c.length = r.sz := fun c hc => by
                  rcases List.mem_append.1 hc with h | h
                  · exact R.uni c h
                  · rw [hrs]; exact huniY c h
                by_cases hne : ys = []
                · subst hne
                  have hrun := run_append_zero (ty := ty) ok hu (some ⟨(E.m id).blk, 0, none⟩) (E.m id).len (E.m id).cap hcap A2 c2 E.w
                  obtain ⟨E', hw', s', st, _, hvr⟩ := s.app hr hlo (es := r.es ++ []) (by simpa using huni) (w' := E.w) (Keeps.refl _ _) (g := (E.m id).blk) (cap := (E.m id).cap) (.inl rfl) g1
                    (by simp only [List.append_nil]; omega) hmax g2 (us := us) (by simpa using g3) (by simpa using g4)
                  rw [hty, hrs] at s' st
                  refine ⟨_, E', by rw [hw']; exact hrun, s', st, ?_⟩
                  have : (E.m id).len = (r.es ++ []).length := by simpa using hlen
                  rw [this]
                  exact hvr
                · obtain ⟨a, rfl⟩ := hsome hne
                  obtain ⟨news, hl, hrl, hc, h1⟩ := hnews a rfl
                  have hbytes : (r.es.length + ys.length) * te.bytes ≤ 4294967296 * 1024 := Nat.mul_le_mul hmost' (by omega)
                  have hown : E.w.ownsRow 0 e te.sz (.slice (some ⟨(E.m id).blk, 0, none⟩) (E.m id).len (E.m id).cap) (E.m id).len us :=
                    ⟨by rw [husl, hlen, hrs], .inr ⟨(E.m id).blk, (E.m id).cap, cur, rfl, Nat.zero_le _, by rw [← hty]; exact g1, hcap, hmax, by rw [← hrs]; exact g2, by rw [hlen, ← hrs]; exact g3⟩⟩
                  obtain ⟨v', w', hrun, hown', hg, _, hat⟩ := run_append_own_at (P := P) E.w 0 t ty e inf zv te.sz te.bytes hu hi hz hsize hby hzs hpos _ (E.m id).len us hown a ys.length c2 news hl hc h1
                    (by rw [hlen]; simp only [maxLen]; omega) (by rw [hlen]; omega) (Nat.zero_le _)
                  have hk : Keeps E.w w' (fun b => b = (E.m id).blk) := (Keeps.grownBy hg).weaken fun b hb => by simpa [Value.ownBlock] using hb.symm
                  rcases hown'.2 with ⟨_, h0⟩ | ⟨g, cap, cur', rfl, _, hgg, hc1, hc2', hc3, hc4⟩
                  · have hy0 : 0 < ys.length := List.length_pos_iff.2 hne
                    omega
                  · have hgb : g = (E.m id).blk ∨ E.w.heap.size ≤ g := by
                      rcases hat with h | h
                      · exact .inl (by simpa [Value.ownBlock] using h)
                      · exact .inr (by simp [Value.ownBlock] at h; omega)
                    have hrel : LRel E (r.es ++ ys).flatten (us ++ news) := by rw [List.flatten_append]; exact g4.append hrl
                    obtain ⟨E', hw', s', st, _, hvr⟩ := s.app hr hlo (es := r.es ++ ys) huni (w' := w') hk (g := g) (cap := cap) hgb (by rw [hty]; exact hgg)
                      (by simp only [List.length_append]; omega) hc2' (by rw [hrs]; exact hc3) (us := us ++ news) (by rw [← hc4, List.length_append, hlen, hrs]) hrel
                    rw [hty, hrs] at s' st
                    refine ⟨_, E', by rw [hw']; exact hrun, s', st, ?_⟩
                    have : (E.m id).len + ys.length = (r.es ++ ys).length := by simp [hlen]
                    rw [this]
                    exact hvr
              · cases he
            · cases he
          · cases he
end
end Go.Proofs.Ev
end
