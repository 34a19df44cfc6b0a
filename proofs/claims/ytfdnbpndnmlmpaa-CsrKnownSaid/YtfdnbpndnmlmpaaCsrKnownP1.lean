/-
A part of the proof: The mirror, part 1: an evaluator of the model's code on an abstract memory. A memory is a list of objects by number; a pointer is an object's number and a way into it;
numbers and truths stay Lean terms; what a run comes to is a tree: it parts at truths that are not known. Nothing here is trusted: part 2 proves it sound.
-/
import Derived.Calls
import Derived.Orders
import Derived.Laws.Cells
import Derived.Laws.Build
import Derived.Laws.Tables
import Derived.KernelRfl
import Derived.CheckFast

set_option linter.unusedVariables false
set_option linter.unusedSimpArgs false

namespace Go.Mir

/-! ### Numbers and truths: operations that stay closed to reduction -/
@[irreducible] def iAdd (k : IntKind) (a b : Int) : Int := k.wrap (a + b)
@[irreducible] def iSub (k : IntKind) (a b : Int) : Int := k.wrap (a - b)
@[irreducible] def iMul (k : IntKind) (a b : Int) : Int := k.wrap (a * b)
@[irreducible] def iQuo (k : IntKind) (a b : Int) : Int := k.wrap (a.tdiv b)
@[irreducible] def iRem (a b : Int) : Int := a.tmod b
@[irreducible] def iAnd (k : IntKind) (a b : Int) : Int := k.wrap ((BitVec.ofInt k.bits a &&& BitVec.ofInt k.bits b).toNat)
@[irreducible] def iOr (k : IntKind) (a b : Int) : Int := k.wrap ((BitVec.ofInt k.bits a ||| BitVec.ofInt k.bits b).toNat)
@[irreducible] def iXor (k : IntKind) (a b : Int) : Int := k.wrap ((BitVec.ofInt k.bits a ^^^ BitVec.ofInt k.bits b).toNat)
@[irreducible] def iAndNot (k : IntKind) (a b : Int) : Int := k.wrap ((BitVec.ofInt k.bits a &&& ~~~BitVec.ofInt k.bits b).toNat)
@[irreducible] def iShl (k : IntKind) (a b : Int) : Int := k.wrap (a * 2 ^ (min b.toNat k.bits))
@[irreducible] def iShr (k : IntKind) (a b : Int) : Int := a.fdiv (2 ^ (min b.toNat k.bits))
@[irreducible] def iCv (k : IntKind) (a : Int) : Int := k.wrap a
@[irreducible] def iNot (k : IntKind) (a : Int) : Int := k.wrap ((BitVec.ofInt k.bits (if k.signed then -1 else k.max) ^^^ BitVec.ofInt k.bits a).toNat)
@[irreducible] def iEq (a b : Int) : Bool := a == b
@[irreducible] def iLt (a b : Int) : Bool := decide (a < b)
@[irreducible] def iLe (a b : Int) : Bool := decide (a ≤ b)
@[irreducible] def bNot (a : Bool) : Bool := !a
@[irreducible] def bAnd (a b : Bool) : Bool := a && b
@[irreducible] def bEq (a b : Bool) : Bool := a == b
@[irreducible] def bIf (c a b : Bool) : Bool := bif c then a else b
@[irreducible] def iIf (c : Bool) (a b : Int) : Int := bif c then a else b
@[irreducible] def toN (a : Int) : Nat := a.toNat
@[irreducible] def ofN (a : Nat) : Int := (a : Int)
@[irreducible] def ltN (a b : Nat) : Prop := a < b
@[irreducible] def leN (a b : Nat) : Prop := a ≤ b
@[irreducible] def inB (i : Int) (n : Nat) : Prop := 0 ≤ i ∧ i < n
@[irreducible] def nz (i : Int) : Prop := i ≠ 0
@[irreducible] def nneg (i : Int) : Prop := 0 ≤ i
@[irreducible] def addN (a b : Nat) : Nat := a + b
@[irreducible] def subN (a b : Nat) : Nat := a - b
@[irreducible] def nEq (a b : Nat) : Bool := Nat.beq a b
@[irreducible] def allN (n : Nat) (f : Nat → Bool) : Bool := (List.range n).all f

/-! ### Typed values of the program -/
structure Cap where
  tag : Bool
  perms : Int
  type : Int
  mode : Int
  e : Int
  b : Int
  t : Int
  big : Bool
  addr : Int
  deriving DecidableEq, Inhabited

structure Hart where
  x : Nat → Cap
  pcc : Cap
  ddc : Cap
  stcc : Cap
  stdc : Cap
  sscr : Cap
  sepcc : Cap
  mtcc : Cap
  mtdc : Cap
  mscr : Cap
  mepcc : Cap
  priv : Int
  mstatus : Int
  medeleg : Int
  mideleg : Int
  mie : Int
  mip : Int
  mscratch : Int
  sscratch : Int
  mcause : Int
  scause : Int
  mtval : Int
  stval : Int
  satp : Int
  mcounteren : Int
  scounteren : Int
  cycle : Int
  instret : Int
  waiting : Bool

structure Trap where
  is : Bool
  cause : Int
  value : Int
  deriving DecidableEq, Inhabited

structure Rng where
  base : Int
  top : Int
  over : Bool
  deriving DecidableEq, Inhabited

@[irreducible] def capEq (a b : Cap) : Bool := decide (a = b)
@[irreducible] def trapEq (a b : Trap) : Bool := decide (a = b)
@[irreducible] def rngEq (a b : Rng) : Bool := decide (a = b)

/-- A row of some elements with one of them another one. -/
@[irreducible] def upd {α : Type} (f : Nat → α) (i : Nat) (v : α) : Nat → α := fun j => if j = i then v else f j

/-! ### Abstract values -/
inductive LN where
  | lit (n : Nat)
  | sym (n : Nat)

def LN.v : LN → Nat
  | .lit n => n
  | .sym n => n

inductive Stp where
  | fld (k off : Nat)
  | idx (i : LN) (s : Nat)

def Stp.off : Stp → Nat
  | .fld _ o => o
  | .idx i s => i.v * s

def poff : List Stp → Nat
  | [] => 0
  | s :: p => s.off + poff p

inductive AV where
  | unk
  | undef
  | tt
  | ff
  | bool (b : Bool)
  | lit (k : IntKind) (n : Nat)
  | int (k : IntKind) (n : Int)
  | str (s : ByteArray)
  | nilp
  | ptr (id : Nat) (p : List Stp)
  | nils
  | sl (id : Nat) (st len : LN) (s : Nat)
  | nilf
  | fn (f : Fn) (first caps : AV)
  | nili
  | ifc (t : TypeId) (v : AV)
  | opq (g : Nat)
  | nil
  | cons (h t : AV)
  | rcd (fs : AV)
  | vec (n : LN) (s : Nat) (f : Nat → AV)
  | row (n : LN) (s : Nat) (f : Nat → AV)
  | zro (d : Nat) (t : TypeId)
  | tup (vs : AV)
  | cap (c : Cap)
  | hart (h : Hart)
  | trap (t : Trap)
  | rng (r : Rng)

def AV.ofList : List AV → AV
  | [] => .nil
  | v :: r => .cons v (AV.ofList r)

/-! ### The table of types -/
inductive TyD where
  | bool
  | int (k : IntKind)
  | str
  | ptr (e : TypeId)
  | slc (e : TypeId)
  | arr (n : Nat) (e : TypeId)
  | st (fs : List (TypeId × Nat))
  | fnc
  | ifc
  | oth

abbrev Rows := List (TypeId × Nat × TyD)

def Rows.find : Rows → TypeId → Option (Nat × TyD)
  | [], _ => none
  | (u, s, d) :: r, t => bif Nat.beq t u then some (s, d) else Rows.find r t

def Rows.und (R : Rows) (t : TypeId) : TyD := match R.find t with | some (_, d) => d | none => .oth
def Rows.siz (R : Rows) (t : TypeId) : Nat := match R.find t with | some (s, _) => s | none => 0

/-- The cells of a type's zero value. -/
def Rows.zc (R : Rows) : Nat → TypeId → List Value
  | 0, _ => []
  | d + 1, t =>
    match R.und t with
    | .bool => [.bool false]
    | .int k => [.int k 0]
    | .str => [.string ByteArray.empty]
    | .ptr _ => [.pointer none]
    | .slc _ => [.slice none 0 0]
    | .arr n e => (List.range n).flatMap fun _ => Rows.zc R d e
    | .st fs => fs.flatMap fun f => Rows.zc R d f.1
    | .fnc => [.nilFunc]
    | .ifc => [.nilIface]
    | .oth => []

def Rows.zlen (R : Rows) : Nat → TypeId → Nat
  | 0, _ => 0
  | d + 1, t =>
    match R.und t with
    | .arr n e => n * Rows.zlen R d e
    | .st fs => fs.foldr (fun f a => Rows.zlen R d f.1 + a) 0
    | .oth => 0
    | _ => 1

/-! ### What an abstract value is, laid open one step -/
def xpCap (c : Cap) : AV :=
  .rcd (.cons (.bool c.tag) <| .cons (.int .i64 c.perms) <| .cons (.int .i64 c.type) <| .cons (.int .i64 c.mode) <| .cons (.int .i64 c.e) <| .cons (.int .i64 c.b) <|
    .cons (.int .i64 c.t) <| .cons (.bool c.big) <| .cons (.int .u64 c.addr) .nil)

def xpTrap (t : Trap) : AV := .rcd (.cons (.bool t.is) <| .cons (.int .i64 t.cause) <| .cons (.int .u64 t.value) .nil)
def xpRng (r : Rng) : AV := .rcd (.cons (.int .u64 r.base) <| .cons (.int .u64 r.top) <| .cons (.bool r.over) .nil)

def xpHart (h : Hart) : AV :=
  .rcd (.cons (.vec (.lit 32) 9 fun i => .cap (h.x i)) <| .cons (.cap h.pcc) <| .cons (.cap h.ddc) <| .cons (.cap h.stcc) <| .cons (.cap h.stdc) <| .cons (.cap h.sscr) <|
    .cons (.cap h.sepcc) <| .cons (.cap h.mtcc) <| .cons (.cap h.mtdc) <| .cons (.cap h.mscr) <| .cons (.cap h.mepcc) <| .cons (.int .i64 h.priv) <| .cons (.int .u64 h.mstatus) <|
    .cons (.int .u64 h.medeleg) <| .cons (.int .u64 h.mideleg) <| .cons (.int .u64 h.mie) <| .cons (.int .u64 h.mip) <| .cons (.int .u64 h.mscratch) <| .cons (.int .u64 h.sscratch) <|
    .cons (.int .u64 h.mcause) <| .cons (.int .u64 h.scause) <| .cons (.int .u64 h.mtval) <| .cons (.int .u64 h.stval) <| .cons (.int .u64 h.satp) <| .cons (.int .u64 h.mcounteren) <|
    .cons (.int .u64 h.scounteren) <| .cons (.int .u64 h.cycle) <| .cons (.int .u64 h.instret) <| .cons (.bool h.waiting) .nil)

def zroFields (d : Nat) : List (TypeId × Nat) → AV
  | [] => .nil
  | f :: r => .cons (.zro d f.1) (zroFields d r)

def xpZ (R : Rows) (d : Nat) (t : TypeId) : TyD → AV
  | .bool => .ff
  | .int k => .lit k 0
  | .str => .str ByteArray.empty
  | .ptr _ => .nilp
  | .slc _ => .nils
  | .arr n e => .vec (.lit n) (R.zlen d e) fun _ => .zro d e
  | .st fs => .rcd (zroFields d fs)
  | .fnc => .nilf
  | .ifc => .nili
  | .oth => .zro (d + 1) t

def xp (R : Rows) : AV → AV
  | .zro (d + 1) t => xpZ R d t (R.und t)
  | .cap c => xpCap c
  | .hart h => xpHart h
  | .trap t => xpTrap t
  | .rng r => xpRng r
  | v => v

/-- How many cells a value takes. -/
def sz (R : Rows) : AV → Nat
  | .nil => 0
  | .cons h t => sz R h + sz R t
  | .rcd fs => sz R fs
  | .vec n s _ => n.v * s
  | .row n s _ => n.v * s
  | .zro d t => R.zlen d t
  | .cap _ => 9
  | .hart _ => 396
  | .trap _ => 3
  | .rng _ => 3
  | _ => 1

/-- Is it a struct, or an array? -/
def isAgg (R : Rows) : AV → Bool
  | .rcd _ | .vec .. | .cap _ | .hart _ | .trap _ | .rng _ => true
  | .zro (_ + 1) t => match R.und t with | .arr .. | .st _ => true | _ => false
  | _ => false

def asBool (R : Rows) (v : AV) : Option Bool :=
  match xp R v with
  | .tt => some true
  | .ff => some false
  | .bool b => some b
  | _ => none

def asInt (R : Rows) (k : IntKind) (v : AV) : Option Int :=
  match xp R v with
  | .lit j n => match decide (j = k) with | true => some (Int.ofNat n) | false => none
  | .int j n => match decide (j = k) with | true => some n | false => none
  | _ => none

def asCap (R : Rows) : AV → Option Cap
  | .cap c => some c
  | v =>
    match xp R v with
    | .rcd (.cons a (.cons b (.cons c (.cons d (.cons e (.cons f (.cons g (.cons h (.cons i .nil))))))))) =>
      match asBool R a, asInt R .i64 b, asInt R .i64 c, asInt R .i64 d, asInt R .i64 e, asInt R .i64 f, asInt R .i64 g, asBool R h, asInt R .u64 i with
      | some a, some b, some c, some d, some e, some f, some g, some h, some i => some ⟨a, b, c, d, e, f, g, h, i⟩
      | _, _, _, _, _, _, _, _, _ => none
    | _ => none

def asTrap (R : Rows) : AV → Option Trap
  | .trap t => some t
  | v =>
    match xp R v with
    | .rcd (.cons a (.cons b (.cons c .nil))) =>
      match asBool R a, asInt R .i64 b, asInt R .u64 c with
      | some a, some b, some c => some ⟨a, b, c⟩
      | _, _, _ => none
    | _ => none

def asRng (R : Rows) : AV → Option Rng
  | .rng r => some r
  | v =>
    match xp R v with
    | .rcd (.cons a (.cons b (.cons c .nil))) =>
      match asInt R .u64 a, asInt R .u64 b, asBool R c with
      | some a, some b, some c => some ⟨a, b, c⟩
      | _, _, _ => none
    | _ => none

/-! ### Ways into a value -/
/-- The k-th of some fields, and how many cells stand ahead of it. -/
def fldAt (R : Rows) : AV → Nat → Option (Nat × AV)
  | .cons h _, 0 => some (0, h)
  | .cons h t, k + 1 => match fldAt R t k with | some (o, v) => some (sz R h + o, v) | none => none
  | _, _ => none

def chkIdx (i n : LN) : Option (List Prop) :=
  match i, n with
  | .lit a, .lit b => match Nat.blt a b with | true => some [] | false => none
  | i, n => some [ltN i.v n.v]

/-! An element of a row by a number that is not known: of a row of numbers, the number. -/
@[irreducible] def pickI (l : List Int) (j : Nat) : Int := l.getD j 0

def asI (R : Rows) (v : AV) : Option (IntKind × Int) :=
  match xp R v with
  | .lit k n => some (k, Int.ofNat n)
  | .int k n => some (k, n)
  | _ => none

def rowL (R : Rows) (k : IntKind) (f : Nat → AV) : List Nat → Option (List Int)
  | [] => some []
  | j :: r =>
    match asI R (f j), rowL R k f r with
    | some (k', n), some l => match decide (k' = k) with | true => some (n :: l) | false => none
    | _, _ => none

def atI (R : Rows) (n : LN) (f : Nat → AV) : LN → AV
  | .lit j => f j
  | .sym j =>
    match n with
    | .lit N =>
      match Nat.ble N 64, asI R (f 0) with
      | true, some (k, _) => match rowL R k f (List.range N) with | some l => .int k (pickI l j) | none => f j
      | _, _ => f j
    | .sym _ => f j

def nav (R : Rows) : AV → List Stp → Option (List Prop × AV)
  | v, [] => some ([], v)
  | v, .fld k o :: p =>
    match xp R v with
    | .rcd fs =>
      match fldAt R fs k with
      | some (o', u) => match Nat.beq o o' with | true => nav R u p | false => none
      | none => none
    | _ => none
  | v, .idx i s :: p =>
    match xp R v with
    | .vec n s' f =>
      match Nat.beq s s', chkIdx i n with
      | true, some ps => match nav R (atI R n f i) p with | some (qs, u) => some (ps ++ qs, u) | none => none
      | _, _ => none
    | .row n s' f =>
      match Nat.beq s s', chkIdx i n with
      | true, some ps => match nav R (atI R n f i) p with | some (qs, u) => some (ps ++ qs, u) | none => none
      | _, _ => none
    | _ => none

/-- Some fields, the k-th of them another one. -/
def fldSet : AV → Nat → AV → AV
  | .cons _ t, 0, v => .cons v t
  | .cons h t, k + 1, v => .cons h (fldSet t k v)
  | u, _, _ => u

def setCap (R : Rows) (c : Cap) (k : Nat) (v : AV) : Option Cap :=
  match k with
  | 0 => match asBool R v with | some x => some { c with tag := x } | none => none
  | 1 => match asInt R .i64 v with | some x => some { c with perms := x } | none => none
  | 2 => match asInt R .i64 v with | some x => some { c with type := x } | none => none
  | 3 => match asInt R .i64 v with | some x => some { c with mode := x } | none => none
  | 4 => match asInt R .i64 v with | some x => some { c with e := x } | none => none
  | 5 => match asInt R .i64 v with | some x => some { c with b := x } | none => none
  | 6 => match asInt R .i64 v with | some x => some { c with t := x } | none => none
  | 7 => match asBool R v with | some x => some { c with big := x } | none => none
  | 8 => match asInt R .u64 v with | some x => some { c with addr := x } | none => none
  | _ => none

def setHart (R : Rows) (h : Hart) (k : Nat) (v : AV) : Option Hart :=
  match k with
  | 1 => match asCap R v with | some c => some { h with pcc := c } | none => none
  | 2 => match asCap R v with | some c => some { h with ddc := c } | none => none
  | 3 => match asCap R v with | some c => some { h with stcc := c } | none => none
  | 4 => match asCap R v with | some c => some { h with stdc := c } | none => none
  | 5 => match asCap R v with | some c => some { h with sscr := c } | none => none
  | 6 => match asCap R v with | some c => some { h with sepcc := c } | none => none
  | 7 => match asCap R v with | some c => some { h with mtcc := c } | none => none
  | 8 => match asCap R v with | some c => some { h with mtdc := c } | none => none
  | 9 => match asCap R v with | some c => some { h with mscr := c } | none => none
  | 10 => match asCap R v with | some c => some { h with mepcc := c } | none => none
  | 11 => match asInt R .i64 v with | some x => some { h with priv := x } | none => none
  | 12 => match asInt R .u64 v with | some x => some { h with mstatus := x } | none => none
  | 13 => match asInt R .u64 v with | some x => some { h with medeleg := x } | none => none
  | 14 => match asInt R .u64 v with | some x => some { h with mideleg := x } | none => none
  | 15 => match asInt R .u64 v with | some x => some { h with mie := x } | none => none
  | 16 => match asInt R .u64 v with | some x => some { h with mip := x } | none => none
  | 17 => match asInt R .u64 v with | some x => some { h with mscratch := x } | none => none
  | 18 => match asInt R .u64 v with | some x => some { h with sscratch := x } | none => none
  | 19 => match asInt R .u64 v with | some x => some { h with mcause := x } | none => none
  | 20 => match asInt R .u64 v with | some x => some { h with scause := x } | none => none
  | 21 => match asInt R .u64 v with | some x => some { h with mtval := x } | none => none
  | 22 => match asInt R .u64 v with | some x => some { h with stval := x } | none => none
  | 23 => match asInt R .u64 v with | some x => some { h with satp := x } | none => none
  | 24 => match asInt R .u64 v with | some x => some { h with mcounteren := x } | none => none
  | 25 => match asInt R .u64 v with | some x => some { h with scounteren := x } | none => none
  | 26 => match asInt R .u64 v with | some x => some { h with cycle := x } | none => none
  | 27 => match asInt R .u64 v with | some x => some { h with instret := x } | none => none
  | 28 => match asBool R v with | some x => some { h with waiting := x } | none => none
  | _ => none

@[irreducible] def capIf (b : Bool) (c d : Cap) : Cap := bif b then c else d
@[irreducible] def trapIf (b : Bool) (c d : Trap) : Trap := bif b then c else d
@[irreducible] def rngIf (b : Bool) (c d : Rng) : Rng := bif b then c else d

/-- One of two values of one make. -/
def mrg (b : Bool) : AV → AV → AV
  | .int k x, .int j y => match decide (k = j) with | true => .int k (iIf b x y) | false => .unk
  | .lit k x, .lit j y => match decide (k = j) with | true => .int k (iIf b (Int.ofNat x) (Int.ofNat y)) | false => .unk
  | .lit k x, .int j y => match decide (k = j) with | true => .int k (iIf b (Int.ofNat x) y) | false => .unk
  | .int k x, .lit j y => match decide (k = j) with | true => .int k (iIf b x (Int.ofNat y)) | false => .unk
  | .bool x, .bool y => .bool (bIf b x y)
  | .tt, .bool y => .bool (bIf b true y)
  | .ff, .bool y => .bool (bIf b false y)
  | .bool x, .tt => .bool (bIf b x true)
  | .bool x, .ff => .bool (bIf b x false)
  | .tt, .tt => .tt
  | .ff, .ff => .ff
  | .tt, .ff => .bool b
  | .ff, .tt => .bool (bNot b)
  | .cap c, .cap d => .cap (capIf b c d)
  | .trap c, .trap d => .trap (trapIf b c d)
  | .rng c, .rng d => .rng (rngIf b c d)
  | .nil, .nil => .nil
  | .cons h t, .cons h' t' => .cons (mrg b h h') (mrg b t t')
  | .rcd x, .rcd y => .rcd (mrg b x y)
  | _, _ => .unk

/-- Are two values of one make? -/
def mrgOk : AV → AV → Bool
  | .int k _, .int j _ | .lit k _, .lit j _ | .lit k _, .int j _ | .int k _, .lit j _ => decide (k = j)
  | .bool _, .bool _ | .tt, .bool _ | .ff, .bool _ | .bool _, .tt | .bool _, .ff | .tt, .tt | .ff, .ff | .tt, .ff | .ff, .tt => true
  | .cap _, .cap _ | .trap _, .trap _ | .rng _, .rng _ | .nil, .nil => true
  | .cons h t, .cons h' t' => mrgOk h h' && mrgOk t t'
  | .rcd x, .rcd y => mrgOk x y
  | _, _ => false

/-- A truth for each of some numbers. -/
@[irreducible] def okN (n : Nat) (f : Nat → Bool) : Prop := ∀ i, i < n → f i = true

def updP (f : Nat → AV) (n : LN) (i : LN) (w : AV) : List Prop :=
  match i with
  | .lit _ => []
  | .sym _ => [okN n.v fun j => mrgOk w (f j)]

def updA (f : Nat → AV) (i : LN) (w : AV) : Nat → AV :=
  match i with
  | .lit n => fun j => bif Nat.beq j n then w else f j
  | .sym n => fun j => mrg (nEq j n) w (f j)

/-- A value with another one at a way into it. -/
def setp (R : Rows) : AV → List Stp → AV → Option (List Prop × AV)
  | v, [], u => match Nat.beq (sz R u) (sz R v) with | true => some ([], u) | false => none
  | .hart h, .fld 0 0 :: .idx i 9 :: p, u =>
    match chkIdx i (.lit 32), setp R (.cap (h.x i.v)) p u with
    | some ps, some (qs, w') => match asCap R w' with | some c => some (ps ++ qs, .hart { h with x := upd h.x i.v c }) | none => none
    | _, _ => none
  | v, .fld k o :: p, u =>
    match xp R v with
    | .rcd fs =>
      match fldAt R fs k with
      | some (o', w) =>
        match Nat.beq o o', setp R w p u with
        | true, some (ps, w') =>
          match v with
          | .cap c => match setCap R c k w' with | some c' => some (ps, .cap c') | none => none
          | .hart h => match setHart R h k w' with | some h' => some (ps, .hart h') | none => none
          | _ => some (ps, .rcd (fldSet fs k w'))
        | _, _ => none
      | none => none
    | _ => none
  | v, .idx i s :: p, u =>
    match xp R v with
    | .vec n s' f =>
      match Nat.beq s s', chkIdx i n, setp R (f i.v) p u with
      | true, some ps, some (qs, w') => some (ps ++ qs ++ updP f n i w', .vec n s' (updA f i w'))
      | _, _, _ => none
    | .row n s' f =>
      match Nat.beq s s', chkIdx i n, setp R (f i.v) p u with
      | true, some ps, some (qs, w') => some (ps ++ qs ++ updP f n i w', .row n s' (updA f i w'))
      | _, _, _ => none
    | _ => none

/-! ### Trees -/
inductive T (α : Type) where
  | ret (a : α)
  | br (b : Bool) (t e : T α)
  | need (p : Prop) (t : T α)
  | fail (why : Nat)

def T.holds {α : Type} (Q : α → Prop) : T α → Prop
  | .ret a => Q a
  | .br b t e => (b = true → t.holds Q) ∧ (b = false → e.holds Q)
  | .need p t => p ∧ t.holds Q
  | .fail _ => False

def T.needs {α : Type} : List Prop → T α → T α
  | [], t => t
  | p :: ps, t => .need p (T.needs ps t)

end Go.Mir

namespace Go.Mir

abbrev Env := List (Nat × AV)
abbrev Mem := List (Nat × AV)

def lk : List (Nat × AV) → Nat → AV
  | [], _ => .unk
  | (j, v) :: r, i => bif Nat.beq i j then v else lk r i

inductive Out where
  | ret (v : AV)
  | pan (v : AV)

/-- A function that writes nothing: what it needs, and what it gives. -/
abbrev PSpec := List AV → (Nat → AV) → Option (List Prop × AV)
/-- Any function: the tree behind it. -/
abbrev Spec := ∀ (α : Type), List AV → Mem → Nat → (Out → Mem → Nat → T α) → T α

inductive Ex where
  | normal
  | exit (id : Nat)
  | ret
  | pan (v : AV)

abbrev BSpec := ∀ (α : Type), Env → Mem → Nat → (Ex → Env → Mem → Nat → T α) → T α

structure Ctx where
  R : Rows
  Ψ : FuncId → Option PSpec
  Φ : FuncId → Option Spec
  B : Nat → Option BSpec
  gl : Nat → AV
  fuel : Nat

section
variable (C : Ctx)

def wide : IntKind → Bool
  | .i64 | .u64 => true
  | _ => false

def mkLit (k : IntKind) (n : Nat) : AV :=
  match wide k, Nat.blt n 9223372036854775808 with
  | true, true => .lit k n
  | _, _ => .int k (Int.ofNat n)

def ofConst : Value → AV
  | .bool true => .tt
  | .bool false => .ff
  | .int k (.ofNat n) => mkLit k n
  | .int k (.negSucc n) => .int k (.negSucc n)
  | .string s => .str s
  | .pointer none => .nilp
  | .slice none 0 0 => .nils
  | .nilFunc => .nilf
  | .nilIface => .nili
  | _ => .unk

def ev (s : Env) : Operand → AV
  | .tmp t => lk s t
  | .const v => ofConst v
  | .global g => C.gl g
  | .func f => .fn (.func f) .nil .nil

def isUnk : AV → Bool
  | .unk => true
  | _ => false

/-- A value that may lie in a cell. -/
def okv : AV → Bool
  | .tup _ | .undef | .unk | .opq _ | .nil | .cons .. | .row .. => false
  | _ => true

def okvs : List AV → Bool
  | [] => true
  | v :: r => bif okv v then okvs r else false

def toL : AV → List AV
  | .cons h t => h :: toL t
  | _ => []

/-- Lays a value's head bare (so that nothing is worked out twice). -/
def frc {α : Type} (v : AV) (K : AV → T α) : T α :=
  match v with
  | .unk => .fail 1
  | .undef => K .undef
  | .tt => K .tt
  | .ff => K .ff
  | .bool b => K (.bool b)
  | .lit k n => K (.lit k n)
  | .int k n => K (.int k n)
  | .str s => K (.str s)
  | .nilp => K .nilp
  | .ptr i p => K (.ptr i p)
  | .nils => K .nils
  | .sl i a b s => K (.sl i a b s)
  | .nilf => K .nilf
  | .fn f a c => K (.fn f a c)
  | .nili => K .nili
  | .ifc t v => K (.ifc t v)
  | .opq g => K (.opq g)
  | .nil => K .nil
  | .cons h t => K (.cons h t)
  | .rcd f => K (.rcd f)
  | .vec n s f => K (.vec n s f)
  | .row n s f => K (.row n s f)
  | .zro d t => K (.zro d t)
  | .tup v => K (.tup v)
  | .cap c => K (.cap c)
  | .hart h => K (.hart h)
  | .trap t => K (.trap t)
  | .rng r => K (.rng r)

/-! ### Operators -/
def toI : AV → Option (IntKind × Int)
  | .lit k n => some (k, Int.ofNat n)
  | .int k n => some (k, n)
  | _ => none

def top63 : Nat := 9223372036854775808

def fold2 (op : BinOp) (k : IntKind) (a b : Nat) : Option AV :=
  match wide k, Nat.blt a 9223372036854775808, Nat.blt b 9223372036854775808 with
  | true, true, true =>
    match op with
    | .add => match Nat.blt (a + b) 9223372036854775808 with | true => some (.lit k (a + b)) | false => none
    | .sub => match Nat.ble b a with | true => some (.lit k (a - b)) | false => none
    | .mul => match Nat.blt (a * b) 9223372036854775808 with | true => some (.lit k (a * b)) | false => none
    | .quo => match b with | 0 => none | _ + 1 => some (.lit k (a / b))
    | .rem => match b with | 0 => none | _ + 1 => some (.lit k (a % b))
    | .eql => match Nat.beq a b with | true => some .tt | false => some .ff
    | .neq => match Nat.beq a b with | true => some .ff | false => some .tt
    | .lss => match Nat.blt a b with | true => some .tt | false => some .ff
    | .leq => match Nat.ble a b with | true => some .tt | false => some .ff
    | .gtr => match Nat.blt b a with | true => some .tt | false => some .ff
    | .geq => match Nat.ble b a with | true => some .tt | false => some .ff
    | _ => none
  | _, _, _ => none

def foldSh (op : BinOp) (k : IntKind) (a b : Nat) : Option AV :=
  match wide k, Nat.blt a 9223372036854775808, Nat.ble b 64 with
  | true, true, true =>
    match op with
    | .shl => match Nat.blt (a * 2 ^ b) 9223372036854775808 with | true => some (.lit k (a * 2 ^ b)) | false => none
    | .shr => some (.lit k (a / 2 ^ b))
    | _ => none
  | _, _, _ => none

def nonneg : AV → List Prop
  | .lit _ _ => []
  | .int _ n => [nneg n]
  | _ => []

def nonzero : AV → List Prop
  | .lit _ (_ + 1) => []
  | .lit _ 0 => [False]
  | .int _ n => [nz n]
  | _ => []

def bin1 (op : BinOp) (k : IntKind) (y : AV) (a b : Int) : Option (List Prop × AV) :=
  match op with
  | .add => some ([], .int k (iAdd k a b))
  | .sub => some ([], .int k (iSub k a b))
  | .mul => some ([], .int k (iMul k a b))
  | .quo => some (nonzero y, .int k (iQuo k a b))
  | .rem => some (nonzero y, .int k (iRem a b))
  | .and => some ([], .int k (iAnd k a b))
  | .or => some ([], .int k (iOr k a b))
  | .xor => some ([], .int k (iXor k a b))
  | .andNot => some ([], .int k (iAndNot k a b))
  | .eql => some ([], .bool (iEq a b))
  | .neq => some ([], .bool (bNot (iEq a b)))
  | .lss => some ([], .bool (iLt a b))
  | .leq => some ([], .bool (iLe a b))
  | .gtr => some ([], .bool (iLt b a))
  | .geq => some ([], .bool (iLe b a))
  | _ => none

def nt : AV → Option AV
  | .tt => some .ff
  | .ff => some .tt
  | .bool b => some (.bool (bNot b))
  | _ => none

def andA : AV → AV → Option AV
  | .ff, _ => some .ff
  | _, .ff => some .ff
  | .tt, v => some v
  | v, .tt => some v
  | .bool a, .bool b => some (.bool (bAnd a b))
  | _, _ => none

def iseq (x y : AV) : Option AV :=
  match x, y with
  | .tt, .tt => some .tt
  | .ff, .ff => some .tt
  | .tt, .ff => some .ff
  | .ff, .tt => some .ff
  | .bool a, .tt => some (.bool a)
  | .tt, .bool a => some (.bool a)
  | .bool a, .ff => some (.bool (bNot a))
  | .ff, .bool a => some (.bool (bNot a))
  | .bool a, .bool b => some (.bool (bEq a b))
  | _, _ => none

def capFs : List (TypeId × Nat) → Rows → Bool
  | [(a, 0), (b, 1), (c, 2), (d, 3), (e, 4), (f, 5), (g, 6), (h, 7), (i, 8)], R =>
    match R.und a, R.und b, R.und c, R.und d, R.und e, R.und f, R.und g, R.und h, R.und i with
    | .bool, .int .i64, .int .i64, .int .i64, .int .i64, .int .i64, .int .i64, .bool, .int .u64 => true
    | _, _, _, _, _, _, _, _, _ => false
  | _, _ => false

def trapFs : List (TypeId × Nat) → Rows → Bool
  | [(a, 0), (b, 1), (c, 2)], R => match R.und a, R.und b, R.und c with | .bool, .int .i64, .int .u64 => true | _, _, _ => false
  | _, _ => false

def rngFs : List (TypeId × Nat) → Rows → Bool
  | [(a, 0), (b, 1), (c, 2)], R => match R.und a, R.und b, R.und c with | .int .u64, .int .u64, .bool => true | _, _, _ => false
  | _, _ => false

def capsEq (R : Rows) (n : Nat) (f g : Nat → AV) : List Prop × AV :=
  ([okN n fun i => match asCap R (f i), asCap R (g i) with | some _, some _ => true | _, _ => false],
    .bool (allN n fun i => match asCap R (f i), asCap R (g i) with | some c, some d => capEq c d | _, _ => false))

mutual
def eqT (R : Rows) : Nat → TypeId → AV → AV → Option (List Prop × AV)
  | 0, _, _, _ => none
  | d + 1, t, x, y =>
    match R.und t with
    | .bool => match iseq (xp R x) (xp R y) with | some v => some ([], v) | none => none
    | .int _ =>
      match toI (xp R x), toI (xp R y) with
      | some (j, a), some (k, b) => (match decide (j = k) with | true => some ([], .bool (iEq a b)) | false => none)
      | _, _ => none
    | .st fs =>
      match capFs fs R, trapFs fs R, rngFs fs R with
      | true, _, _ => match asCap R x, asCap R y with | some a, some b => some ([], .bool (capEq a b)) | _, _ => none
      | _, true, _ => match asTrap R x, asTrap R y with | some a, some b => some ([], .bool (trapEq a b)) | _, _ => none
      | _, _, true => match asRng R x, asRng R y with | some a, some b => some ([], .bool (rngEq a b)) | _, _ => none
      | _, _, _ =>
        match xp R x, xp R y with
        | .rcd u, .rcd v => eqF R d 0 fs u v
        | _, _ => none
    | .arr n e =>
      match R.und e, xp R x, xp R y with
      | .st fs, .vec (.lit a) s f, .vec (.lit b) s' g =>
        match capFs fs R, Nat.beq a n, Nat.beq b n, Nat.beq s 9, Nat.beq s' 9 with
        | true, true, true, true, true => some (capsEq R n f g)
        | _, _, _, _, _ => none
      | _, _, _ => none
    | _ => none
def eqF (R : Rows) : Nat → Nat → List (TypeId × Nat) → AV → AV → Option (List Prop × AV)
  | 0, _, _, _, _ => none
  | _ + 1, _, [], .nil, .nil => some ([], .tt)
  | d + 1, o, f :: fs, .cons a b, .cons a' b' =>
    match Nat.beq f.2 o, Nat.beq (sz R a) (R.siz f.1), Nat.beq (sz R a') (R.siz f.1), Nat.beq (R.siz f.1) 0, eqT R d f.1 a a', eqF R d (o + sz R a) fs b b' with
    | true, true, true, false, some (ps, v), some (qs, w) => (match andA v w with | some z => some (ps ++ qs, z) | none => none)
    | _, _, _, _, _, _ => none
  | _ + 1, _, _, _, _ => none
end

def eqv (t : TypeId) (x y : AV) : Option (List Prop × AV) :=
  match C.R.und t with
  | .ptr _ =>
    match x, y with
    | .nilp, .nilp => some ([], .tt)
    | .ptr _ _, .nilp => some ([], .ff)
    | .nilp, .ptr _ _ => some ([], .ff)
    | _, _ => none
  | .slc _ =>
    match x, y with
    | .nils, .nils => some ([], .tt)
    | .sl .., .nils => some ([], .ff)
    | .nils, .sl .. => some ([], .ff)
    | _, _ => none
  | .fnc =>
    match x, y with
    | .nilf, .nilf => some ([], .tt)
    | .fn .., .nilf => some ([], .ff)
    | .nilf, .fn .. => some ([], .ff)
    | _, _ => none
  | .ifc =>
    match x, y with
    | .ifc .., .nili => some ([], .ff)
    | .nili, .ifc .. => some ([], .ff)
    | _, _ => none
  | _ => eqT C.R 40 t x y

def shR (op : BinOp) (k : IntKind) (ps : List Prop) (a b : Int) : Option (List Prop × AV) :=
  match op with
  | .shl => some (ps, .int k (iShl k a b))
  | .shr => some (ps, .int k (iShr k a b))
  | _ => none

def binSh (op : BinOp) (x y : AV) : Option (List Prop × AV) :=
  match x, y with
  | .lit k a, .lit _ b => (match foldSh op k a b with | some v => some ([], v) | none => shR op k [] (Int.ofNat a) (Int.ofNat b))
  | x, y => (match toI x, toI y with | some (k, a), some (_, b) => shR op k (nonneg y) a b | _, _ => none)

def bin (op : BinOp) (t : TypeId) (x y : AV) : Option (List Prop × AV) :=
  match op with
  | .shl => binSh .shl x y
  | .shr => binSh .shr x y
  | op =>
    match x, y with
    | .lit k a, .lit j b =>
      match decide (k = j) with
      | true => (match fold2 op k a b with | some v => some ([], v) | none => bin1 op k y (Int.ofNat a) (Int.ofNat b))
      | false => none
    | x, y =>
      match toI x, toI y with
      | some (k, a), some (j, b) => (match decide (k = j) with | true => bin1 op k y a b | false => none)
      | _, _ =>
        match op, okv x, okv y with
        | .eql, true, true => eqv C t x y
        | .neq, true, true => (match eqv C t x y with | some (ps, v) => (match nt v with | some u => some (ps, u) | none => none) | none => none)
        | _, _, _ => none

def un (op : UnOp) (x : AV) : Option AV :=
  match op, x with
  | .not, x => nt x
  | .neg, x => match toI x with | some (k, n) => some (.int k (iSub k 0 n)) | none => none
  | .xor, x => match toI x with | some (k, n) => some (.int k (iNot k n)) | none => none
  | _, _ => none

def cv (dst : TypeId) (x : AV) : Option AV :=
  match C.R.und dst with
  | .int k =>
    match x with
    | .lit _ n => (match wide k, Nat.blt n 9223372036854775808 with | true, true => some (.lit k n) | _, _ => some (.int k (iCv k (Int.ofNat n))))
    | .int _ n => some (.int k (iCv k n))
    | _ => none
  | _ => none

/-! ### Making -/
def nthO {α : Type} : List α → Nat → Option α
  | [], _ => none
  | x :: _, 0 => some x
  | _ :: r, n + 1 => nthO r n

/-- Some fields, with parts laid over them. -/
def buildF (R : Rows) (fs : List (TypeId × Nat)) : AV → List (Nat × AV) → Option AV
  | cur, [] => some cur
  | cur, (i, v) :: r =>
    match fldAt R cur i, nthO fs i with
    | some (o, old), some (ft, off) =>
      (match Nat.beq o off, Nat.beq (sz R v) (R.siz ft), Nat.beq (sz R old) (R.siz ft), Nat.beq (R.siz ft) 0, okv v with
      | true, true, true, false, true => buildF R fs (fldSet cur i v) r
      | _, _, _, _, _ => none)
    | _, _ => none

def lnth : List AV → Nat → AV
  | [], _ => .unk
  | v :: _, 0 => v
  | _ :: r, n + 1 => lnth r n

def setL : List AV → Nat → AV → Option (List AV)
  | [], _, _ => none
  | _ :: r, 0, v => some (v :: r)
  | x :: r, n + 1, v => match setL r n v with | some l => some (x :: l) | none => none

/-- Some elements, with parts laid over them. -/
def buildE (R : Rows) (s : Nat) : List AV → List (Nat × AV) → Option (List AV)
  | cur, [] => some cur
  | cur, (i, v) :: r =>
    match Nat.beq (sz R v) s, okv v, setL cur i v with
    | true, true, some cur' => buildE R s cur' r
    | _, _, _ => none

def evParts (s : Env) : List (Nat × Operand) → List (Nat × AV)
  | [] => []
  | (i, x) :: r => (i, ev C s x) :: evParts s r

def evs (s : Env) : List Operand → List AV
  | [] => []
  | x :: r => ev C s x :: evs s r

def ofL : List AV → AV
  | [] => .nil
  | v :: r => .cons v (ofL r)

def addLN (a b : LN) : LN :=
  match a, b with
  | .lit x, .lit y => .lit (x + y)
  | .lit 0, .sym y => .sym y
  | a, b => .sym (addN a.v b.v)

def subLN (a b : LN) : LN :=
  match a, b with
  | .lit x, .lit y => .lit (x - y)
  | a, b => .sym (subN a.v b.v)

def intLN : AV → Option LN
  | .lit _ n => some (.lit n)
  | .int _ n => some (.sym (toN n))
  | _ => none

def ltP (a b : LN) : List Prop :=
  match a, b with
  | .lit x, .lit y => (match Nat.blt x y with | true => [] | false => [False])
  | a, b => [ltN a.v b.v]

def leP (a b : LN) : List Prop :=
  match a, b with
  | .lit x, .lit y => (match Nat.ble x y with | true => [] | false => [False])
  | a, b => [leN a.v b.v]

def idxOk (v : AV) (n : LN) : Option (List Prop) :=
  match v, n with
  | .lit _ a, .lit b => (match Nat.blt a b with | true => some [] | false => none)
  | .lit _ a, .sym b => some [ltN a b]
  | .int _ i, n => some [inB i n.v]
  | _, _ => none

def lenOf : LN → AV
  | .lit n => mkLit .i64 n
  | .sym n => .int .i64 (ofN n)

/-- A part, as a load of a type gives it. -/
def ldv (R : Rows) (t : TypeId) (v : AV) : Option AV :=
  match Nat.beq (sz R v) (R.siz t), Nat.beq (R.siz t) 0, R.und t with
  | true, false, .oth => none
  | true, false, .arr .. => (match isAgg R v with | true => some v | false => none)
  | true, false, .st _ => (match isAgg R v with | true => some v | false => none)
  | true, false, _ => (match isAgg R v with | true => none | false => some (xp R v))
  | _, _, _ => none

/-- Operations that write nothing and make nothing. -/
def qop (o : Op) (s : Env) (m : Nat → AV) : Option (List Prop × AV) :=
  match o with
  | .move x => some ([], ev C s x)
  | .assign x => some ([], ev C s x)
  | .pick c a b =>
    match ev C s c with
    | .tt => some ([], ev C s a)
    | .ff => some ([], ev C s b)
    | .bool x => (match mrgOk (ev C s a) (ev C s b), okv (ev C s a), okv (ev C s b) with | true, true, true => some ([], mrg x (ev C s a) (ev C s b)) | _, _, _ => none)
    | _ => none
  | .build t parts =>
    match C.R.und t with
    | .st fs => (match Nat.beq (C.R.siz t) 0, buildF C.R fs (zroFields 8 fs) (evParts C s parts.toList) with | false, some v => some ([], .rcd v) | _, _ => none)
    | .arr n e => (match Nat.beq (C.R.siz e) 0, Nat.beq (C.R.siz t) 0, Nat.beq (C.R.zlen 8 e) (C.R.siz e), buildE C.R (C.R.siz e) (List.replicate n (.zro 8 e)) (evParts C s parts.toList) with
      | false, false, true, some l => some ([], .vec (.lit n) (C.R.siz e) (lnth l)) | _, _, _, _ => none)
    | _ => none
  | .load t x =>
    match ev C s x with
    | .ptr i p =>
      match nav C.R (m i) p with
      | some (ps, v) => (match ldv C.R t v with | some v => some (ps, v) | none => none)
      | none => none
    | _ => none
  | .nilCheck x =>
    match ev C s x with
    | .ptr i p => some ([], .ptr i p)
    | .fn (.func f) a c => some ([], .fn (.func f) a c)
    | _ => none
  | .binOp op t x y _ => bin C op t (ev C s x) (ev C s y)
  | .unOp op _ x => match un op (ev C s x) with | some v => some ([], v) | none => none
  | .convert src dst x => (match C.R.und src, cv C dst (ev C s x) with | .oth, _ => none | _, some v => some ([], v) | _, none => none)
  | .makeFunc f a c => (match okvs (evs C s a.toList), okvs (evs C s c.toList) with | true, true => some ([], .fn f (ofL (evs C s a.toList)) (ofL (evs C s c.toList))) | _, _ => none)
  | .fieldAddr t x f =>
    match ev C s x, C.R.und t with
    | .ptr i p, .st fs =>
      match nthO fs f with
      | some (ft, o) => (match Nat.beq (C.R.siz ft) 0 with | true => none | false => some ([], .ptr i (p ++ [.fld f o])))
      | none => none
    | _, _ => none
  | .field t x f =>
    match C.R.und t with
    | .st fs =>
      match nthO fs f with
      | some (ft, o) =>
        match isAgg C.R (ev C s x), nav C.R (ev C s x) [.fld f o] with
        | true, some (ps, v) => (match ldv C.R ft v with | some v => some (ps, v) | none => none)
        | _, _ => none
      | none => none
    | _ => none
  | .indexAddr t x ix =>
    match C.R.und t, ev C s x with
    | .arr n e, .ptr i p =>
      match idxOk (ev C s ix) (.lit n), intLN (ev C s ix) with
      | some ps, some k => (match Nat.beq (C.R.siz e) 0 with | true => none | false => some (ps, .ptr i (p ++ [.idx k (C.R.siz e)])))
      | _, _ => none
    | .slc e, .sl i st len sz' =>
      match Nat.beq sz' (C.R.siz e), Nat.beq sz' 0, idxOk (ev C s ix) len, intLN (ev C s ix) with
      | true, false, some ps, some k => some (ps, .ptr i [.idx (addLN st k) sz'])
      | _, _, _, _ => none
    | _, _ => none
  | .index t x ix =>
    match C.R.und t with
    | .arr n e =>
      match idxOk (ev C s ix) (.lit n), intLN (ev C s ix) with
      | some ps, some k =>
        match isAgg C.R (ev C s x), nav C.R (ev C s x) [.idx k (C.R.siz e)] with
        | true, some (qs, v) => (match ldv C.R e v with | some v => some (ps ++ qs, v) | none => none)
        | _, _ => none
      | _, _ => none
    | _ => none
  | .extract x i =>
    match ev C s x with
    | .tup vs => some ([], lnth (toL vs) i)
    | _ => none
  | .slice t x lo hi none =>
    match C.R.und t, ev C s x with
    | .slc e, .sl i st len sz' =>
      match m i, Nat.beq sz' (C.R.siz e), Nat.beq sz' 0 with
      | .row n _ _, true, false =>
        match lo, hi with
        | none, none => some ([], .sl i st len sz')
        | none, some h =>
          (match intLN (ev C s h) with
          | some k => some (nonneg (ev C s h) ++ leP k len ++ leP (addLN st len) n, .sl i st k sz')
          | none => none)
        | some l, none =>
          (match intLN (ev C s l) with
          | some k => some (nonneg (ev C s l) ++ ltP k len ++ leP (addLN st len) n, .sl i (addLN st k) (subLN len k) sz')
          | none => none)
        | some l, some h =>
          (match intLN (ev C s l), intLN (ev C s h) with
          | some k, some j => some (nonneg (ev C s l) ++ (nonneg (ev C s h) ++ (ltP k len ++ (leP k j ++ (leP j len ++ leP (addLN st len) n)))), .sl i (addLN st k) (subLN j k) sz')
          | _, _ => none)
      | _, _, _ => none
    | _, _ => none
  | .makeInterface t x => (match C.R.und t, okv (ev C s x) with | .ifc, _ => none | .oth, _ => none | _, true => some ([], .ifc t (ev C s x)) | _, false => none)
  | .call c =>
    match c.callee with
    | .value f =>
      match ev C s f with
      | .fn (.func g) a b => (match C.Ψ g, okvs (evs C s c.args.toList) with | some S, true => S (toL a ++ evs C s c.args.toList ++ toL b) m | _, _ => none)
      | _ => none
    | .builtin .len =>
      match c.args.toList, c.argTypes.toList with
      | [x], [t] =>
        match C.R.und t, ev C s x with
        | .slc _, .sl _ _ len _ => some ([], lenOf len)
        | .slc _, .nils => some ([], .lit .i64 0)
        | .arr n _, _ => some ([], mkLit .i64 n)
        | _, _ => none
      | _, _ => none
    | .builtin .min =>
      match c.args.toList with
      | [x, y] => (match toI (ev C s x), toI (ev C s y) with
        | some (k, a), some (j, b) => (match decide (k = j) with | true => some ([], .int k (iIf (iLt b a) b a)) | false => none)
        | _, _ => none)
      | _ => none
    | .builtin .max =>
      match c.args.toList with
      | [x, y] => (match toI (ev C s x), toI (ev C s y) with
        | some (k, a), some (j, b) => (match decide (k = j) with | true => some ([], .int k (iIf (iLt a b) b a)) | false => none)
        | _, _ => none)
      | _ => none
    | _ => none
  | _ => none

def notOth : TyD → Bool
  | .oth => false
  | _ => true

/-- Operations that make one object, and give a value by its number. -/
def mkop (o : Op) (s : Env) : Option (AV × (Nat → AV)) :=
  match o with
  | .alloc e =>
    match notOth (C.R.und e), Nat.beq (C.R.siz e) 0 with
    | true, false => some (.zro 9 e, fun i => .ptr i [])
    | _, _ => none
  | .box _ v =>
    match okv (ev C s v), Nat.beq (sz C.R (ev C s v)) 0 with
    | true, false => some (ev C s v, fun i => .ptr i [])
    | _, _ => none
  | .buildSlice t len parts =>
    match C.R.und t with
    | .slc e =>
      match notOth (C.R.und e), Nat.beq (C.R.siz e) 0, Nat.beq (C.R.zlen 9 e) (C.R.siz e), Nat.ble (len * C.R.siz e) 1000000, buildE C.R (C.R.siz e) (List.replicate len (.zro 9 e)) (evParts C s parts.toList) with
      | true, false, true, true, some l => some (.row (.lit len) (C.R.siz e) (lnth l), fun i => .sl i (.lit 0) (.lit len) (C.R.siz e))
      | _, _, _, _, _ => none
    | _ => none
  | _ => none

/-- Any operation. -/
def gop {α : Type} (o : Op) (s : Env) (m : Mem) (nx : Nat) (Kp : AV → Mem → Nat → T α) (K : AV → Mem → Nat → T α) : T α :=
  match qop C o s (lk m) with
  | some (ps, v) => T.needs ps (frc v fun v => K v m nx)
  | none =>
    match mkop C o s with
    | some (v, f) => frc v fun v => K (f nx) ((nx, v) :: m) (nx + 1)
    | none =>
      match o with
      | .store t x y =>
        match ev C s x with
        | .ptr i p =>
          match isUnk (lk m i), Nat.beq (C.R.siz t) 0, Nat.beq (sz C.R (ev C s y)) (C.R.siz t), okv (ev C s y), setp C.R (lk m i) p (ev C s y) with
          | false, false, true, true, some (ps, v) => T.needs ps (frc v fun v => K .undef ((i, v) :: m) nx)
          | _, _, _, _, _ => .fail 20
        | _ => .fail 21
      | .call c =>
        match c.callee with
        | .value f =>
          match ev C s f with
          | .fn (.func g) a b =>
            match C.Φ g, okvs (evs C s c.args.toList) with
            | some S, true => S α (toL a ++ evs C s c.args.toList ++ toL b) m nx fun o m nx => match o with | .ret v => frc v fun v => K v m nx | .pan v => Kp v m nx
            | _, _ => .fail (100000 + g)
          | _ => .fail 22
        | _ => .fail 23
      | .panic x => (match ev C s x with | .ifc t v => Kp (.ifc t v) m nx | _ => .fail 24)
      | _ => .fail 25

/-! ### Regions -/
def dstOf : List Oper → Nat → Option Nat
  | [], _ => none
  | o :: _, 0 => o.dst
  | _ :: r, n + 1 => dstOf r n

def putE (d : Option Nat) (v : AV) (s : Env) : Env :=
  match d with
  | none => s
  | some d => (d, v) :: s

/-- The operations of a region in their order. -/
def mOps {α : Type} (all : List Oper) : List Oper → Env → Mem → Nat → (AV → Env → Mem → Nat → T α) → (Env → Mem → Nat → T α) → T α
  | [], s, m, nx, _, K => K s m nx
  | o :: r, s, m, nx, Kp, K =>
    match o.guard with
    | none =>
      gop C o.op s m nx (fun v m nx => Kp v s m nx) fun v m nx => match o.dst with | none => mOps all r s m nx Kp K | some d => mOps all r ((d, v) :: s) m nx Kp K
    | some (j, b) =>
      match dstOf all j with
      | none => .fail 30
      | some g =>
        match lk s g, b with
        | .tt, true => gop C o.op s m nx (fun v m nx => Kp v s m nx) fun v m nx => match o.dst with | none => mOps all r s m nx Kp K | some d => mOps all r ((d, v) :: s) m nx Kp K
        | .ff, false => gop C o.op s m nx (fun v m nx => Kp v s m nx) fun v m nx => match o.dst with | none => mOps all r s m nx Kp K | some d => mOps all r ((d, v) :: s) m nx Kp K
        | .tt, false => match o.dst with | none => mOps all r s m nx Kp K | some d => mOps all r ((d, .undef) :: s) m nx Kp K
        | .ff, true => match o.dst with | none => mOps all r s m nx Kp K | some d => mOps all r ((d, .undef) :: s) m nx Kp K
        | .undef, _ => match o.dst with | none => mOps all r s m nx Kp K | some d => mOps all r ((d, .undef) :: s) m nx Kp K
        | .bool t, true =>
          .br t (gop C o.op ((g, .tt) :: s) m nx (fun v m nx => Kp v ((g, .tt) :: s) m nx)
              fun v m nx => match o.dst with | none => mOps all r ((g, .tt) :: s) m nx Kp K | some d => mOps all r ((d, v) :: (g, .tt) :: s) m nx Kp K)
            (match o.dst with | none => mOps all r ((g, .ff) :: s) m nx Kp K | some d => mOps all r ((d, .undef) :: (g, .ff) :: s) m nx Kp K)
        | .bool t, false =>
          .br t (match o.dst with | none => mOps all r ((g, .tt) :: s) m nx Kp K | some d => mOps all r ((d, .undef) :: (g, .tt) :: s) m nx Kp K)
            (gop C o.op ((g, .ff) :: s) m nx (fun v m nx => Kp v ((g, .ff) :: s) m nx)
              fun v m nx => match o.dst with | none => mOps all r ((g, .ff) :: s) m nx Kp K | some d => mOps all r ((d, v) :: (g, .ff) :: s) m nx Kp K)
        | _, _ => .fail 31

/-! A region that draws its order: its head's operations write nothing, and may come in any order; its tail comes behind all of them, in its order. -/

/-- What has been done of the head: the operation's number, where it writes, what; the object that it made. -/
structure Did where
  i : Nat
  dst : Option Nat
  v : AV
  ob : Option (Nat × AV)

def isD (d : Option Nat) (t : Nat) : Bool :=
  match d with
  | none => false
  | some e => Nat.beq e t

/-- The temporaries behind those of the head's operations that are of 'p' (the last one first). -/
def envOf (p : Nat → Bool) : List Did → Env → Env
  | [], s => s
  | ⟨i, some d, v, _⟩ :: r, s => bif p i then (d, v) :: envOf p r s else envOf p r s
  | ⟨_, none, _, _⟩ :: r, s => envOf p r s

def memOf (p : Nat → Bool) : List Did → Mem → Mem
  | [], m => m
  | ⟨i, _, _, some (k, v)⟩ :: r, m => bif p i then (k, v) :: memOf p r m else memOf p r m
  | ⟨_, _, _, none⟩ :: r, m => memOf p r m

def looks (all : List Oper) (o : Oper) : List Nat :=
  (o.op.operands.toList.filterMap fun | .tmp t => some t | _ => none) ++ (match o.guard with | some (g, _) => (dstOf all g).toList | none => [])

def memN : Nat → List Nat → Bool
  | _, [] => false
  | n, k :: r => bif Nat.beq n k then true else memN n r

/-- Does an operation meet a slot that another one writes? -/
def meets (all : List Oper) (a b : Oper) : Bool :=
  match b.dst with
  | none => false
  | some d => (match a.dst with | some e => Nat.beq d e | none => false) || memN d (looks all a)

/-- Wherever two of a region's operations meet at a slot, the first is ahead of the second by the edges. -/
def apartB (all : List Oper) (bs : List Nat) : Bool :=
  all.zipIdx.all fun (o, j) => all.zipIdx.all fun (p, i) => !(Nat.blt i j) || !(meets all o p || meets all p o) || Nat.testBit (bs.getD j 0) i

/-- Are the numbers of those ahead right, and do all edges lead back? -/
def closedB (all : List Oper) (bs : List Nat) : Bool :=
  all.zipIdx.all fun (o, j) => Nat.beq (bs.getD j 0) (CheckFast.one (fun i => bs.getD i 0) o) && Nat.blt (bs.getD j 0) (2 ^ j) && o.after.toList.all fun e => !Region.binds .any e || Nat.blt e.on j

/-- Does each from number k on come behind all that stand ahead of it? -/
def tailB (all : List Oper) (bs : List Nat) (k : Nat) : Bool :=
  all.zipIdx.all fun (_, j) => Nat.blt j k || Nat.beq (Nat.land (bs.getD j 0) (2 ^ j - 1)) (2 ^ j - 1)

/-- From which operation on each comes behind all that stand ahead of it. -/
def tailFrom (bs : List Nat) : Nat → Nat
  | 0 => 0
  | n + 1 => bif Nat.beq (Nat.land (bs.getD n 0) (2 ^ n - 1)) (2 ^ n - 1) then tailFrom bs n else n + 1

def qmop (o : Op) (s : Env) (m : Mem) (nx : Nat) : Option (List Prop × AV × Option (Nat × AV)) :=
  match qop C o s (lk m) with
  | some (ps, v) => some (ps, v, none)
  | none =>
    match mkop C o s with
    | some (v, f) => some ([], f nx, some (nx, v))
    | none => none

/-- What has been done, the value that a slot now holds laid open. -/
def litDid (p : Nat → Bool) (g : Nat) (v : AV) : List Did → List Did
  | [] => []
  | ⟨i, d, u, ob⟩ :: r => bif (bif p i then isD d g else false) then ⟨i, d, v, ob⟩ :: r else ⟨i, d, u, ob⟩ :: litDid p g v r

def mHead {α : Type} (all : List Oper) (bs : List Nat) (s : Env) (m : Mem) : Nat → List Oper → List Did → Nat → (List Did → Nat → T α) → T α
  | _, [], acc, nx, K => K acc nx
  | i, o :: r, acc, nx, K =>
    match o.guard with
    | none =>
      match qmop C o.op (envOf (Nat.testBit (bs.getD i 0)) acc s) (memOf (Nat.testBit (bs.getD i 0)) acc m) nx with
      | some (ps, v, ob) => T.needs ps (frc v fun v => mHead all bs s m (i + 1) r (⟨i, o.dst, v, ob⟩ :: acc) (match ob with | none => nx | some _ => nx + 1) K)
      | none => .fail (4000 + i)
    | some (j, b) =>
      match dstOf all j with
      | none => .fail 40
      | some g =>
        match lk (envOf (Nat.testBit (bs.getD i 0)) acc s) g with
        | .undef => mHead all bs s m (i + 1) r (⟨i, o.dst, .undef, none⟩ :: acc) nx K
        | .tt =>
          match b with
          | true =>
            match qmop C o.op (envOf (Nat.testBit (bs.getD i 0)) acc s) (memOf (Nat.testBit (bs.getD i 0)) acc m) nx with
            | some (ps, v, ob) => T.needs ps (frc v fun v => mHead all bs s m (i + 1) r (⟨i, o.dst, v, ob⟩ :: acc) (match ob with | none => nx | some _ => nx + 1) K)
            | none => .fail (5000 + i)
          | false => mHead all bs s m (i + 1) r (⟨i, o.dst, .undef, none⟩ :: acc) nx K
        | .ff =>
          match b with
          | false =>
            match qmop C o.op (envOf (Nat.testBit (bs.getD i 0)) acc s) (memOf (Nat.testBit (bs.getD i 0)) acc m) nx with
            | some (ps, v, ob) => T.needs ps (frc v fun v => mHead all bs s m (i + 1) r (⟨i, o.dst, v, ob⟩ :: acc) (match ob with | none => nx | some _ => nx + 1) K)
            | none => .fail (6000 + i)
          | true => mHead all bs s m (i + 1) r (⟨i, o.dst, .undef, none⟩ :: acc) nx K
        | .bool t =>
          match b with
          | true =>
            .br t
              (match qmop C o.op (envOf (Nat.testBit (bs.getD i 0)) (litDid (Nat.testBit (bs.getD i 0)) g .tt acc) s) (memOf (Nat.testBit (bs.getD i 0)) acc m) nx with
              | some (ps, v, ob) => T.needs ps (frc v fun v => mHead all bs s m (i + 1) r (⟨i, o.dst, v, ob⟩ :: litDid (Nat.testBit (bs.getD i 0)) g .tt acc) (match ob with | none => nx | some _ => nx + 1) K)
              | none => .fail (7000 + i))
              (mHead all bs s m (i + 1) r (⟨i, o.dst, .undef, none⟩ :: litDid (Nat.testBit (bs.getD i 0)) g .ff acc) nx K)
          | false =>
            .br t
              (mHead all bs s m (i + 1) r (⟨i, o.dst, .undef, none⟩ :: litDid (Nat.testBit (bs.getD i 0)) g .tt acc) nx K)
              (match qmop C o.op (envOf (Nat.testBit (bs.getD i 0)) (litDid (Nat.testBit (bs.getD i 0)) g .ff acc) s) (memOf (Nat.testBit (bs.getD i 0)) acc m) nx with
              | some (ps, v, ob) => T.needs ps (frc v fun v => mHead all bs s m (i + 1) r (⟨i, o.dst, v, ob⟩ :: litDid (Nat.testBit (bs.getD i 0)) g .ff acc) (match ob with | none => nx | some _ => nx + 1) K)
              | none => .fail (8000 + i))
        | _ => .fail 41

def mDraw {α : Type} (ops : List Oper) (bs : List Nat) (k : Nat) (s : Env) (m : Mem) (nx : Nat) (Kp : AV → Env → Mem → Nat → T α) (K : Env → Mem → Nat → T α) : T α :=
  match closedB ops bs, apartB ops bs, tailB ops bs k, Nat.ble k ops.length with
  | true, true, true, true =>
    mHead C ops bs s m 0 (ops.take k) [] nx fun acc nx => mOps C ops (ops.drop k) (envOf (fun _ => true) acc s) (memOf (fun _ => true) acc m) nx Kp K
  | _, _, _, _ => .fail 50

def mReg {α : Type} (ops : List Oper) (draw : Bool) (s : Env) (m : Mem) (nx : Nat) (Kp : AV → Env → Mem → Nat → T α) (K : Env → Mem → Nat → T α) : T α :=
  match draw with
  | false => mOps C ops ops s m nx Kp K
  | true => mDraw C ops (CheckFast.beforeL ops 0 []) (tailFrom (CheckFast.beforeL ops 0 []) ops.length) s m nx Kp K

/-! ### Code -/
def mIter {α : Type} (f : Env → Mem → Nat → (Ex → Env → Mem → Nat → T α) → T α) : Nat → Env → Mem → Nat → (Ex → Env → Mem → Nat → T α) → T α
  | 0, _, _, _, _ => .fail 60
  | n + 1, s, m, nx, K => f s m nx fun e s m nx => match e with
    | .normal => mIter f n s m nx K
    | .exit i => K (.exit i) s m nx
    | .ret => K .ret s m nx
    | .pan v => K (.pan v) s m nx

def mev {α : Type} : Code → Env → Mem → Nat → (Ex → Env → Mem → Nat → T α) → T α
  | .skip, s, m, nx, K => K .normal s m nx
  | .region _ ops draw, s, m, nx, K => mReg C ops.toList draw s m nx (fun v s m nx => K (.pan v) s m nx) fun s m nx => K .normal s m nx
  | .seq a b, s, m, nx, K => mev a s m nx fun e s m nx => match e with
    | .normal => mev b s m nx K
    | .exit i => K (.exit i) s m nx
    | .ret => K .ret s m nx
    | .pan v => K (.pan v) s m nx
  | .cond c t e, s, m, nx, K => match ev C s c with
    | .tt => mev t s m nx K
    | .ff => mev e s m nx K
    | .bool b => .br b (mev t s m nx K) (mev e s m nx K)
    | _ => .fail 61
  | .block id c, s, m, nx, K => match C.B id with
    | some S => S α s m nx K
    | none => mev c s m nx fun e s m nx => match e with
      | .normal => K .normal s m nx
      | .exit i => bif Nat.beq i id then K .normal s m nx else K (.exit i) s m nx
      | .ret => K .ret s m nx
      | .pan v => K (.pan v) s m nx
  | .loop c, s, m, nx, K => mIter (fun s m nx K => mev c s m nx K) C.fuel s m nx K
  | .exit id, s, m, nx, K => K (.exit id) s m nx
  | .ret, s, m, nx, K => K .ret s m nx
  | _, _, _, _, _ => .fail 62

/-! ### Functions -/
def args0 : Nat → List AV → Env
  | _, [] => []
  | i, v :: r => (i, v) :: args0 (i + 1) r

def resOf (s : Env) (m : Mem) : ResultVar → Option (List Prop × AV)
  | .tmp t => some ([], lk s t)
  | .cell a t =>
    match lk s a with
    | .ptr i p =>
      match nav C.R (lk m i) p with
      | some (ps, v) => (match ldv C.R t v with | some v => some (ps, v) | none => none)
      | none => none
    | _ => none

def resAll (s : Env) (m : Mem) : List ResultVar → Option (List Prop × List AV)
  | [] => some ([], [])
  | r :: rs =>
    match resOf C s m r, resAll s m rs with
    | some (ps, v), some (qs, vs) => some (ps ++ qs, v :: vs)
    | _, _ => none

def resK {α : Type} (fn : Func) (s : Env) (m : Mem) (nx : Nat) (K : Out → Mem → Nat → T α) : T α :=
  match resAll C s m fn.results.toList with
  | some (ps, [v]) => T.needs ps (frc v fun v => K (.ret v) m nx)
  | some (ps, vs) => (match okvs vs with | true => T.needs ps (K (.ret (.tup (ofL vs))) m nx) | false => .fail 73)
  | none => .fail 70

def fnEv {α : Type} (fn : Func) (args : List AV) (m : Mem) (nx : Nat) (K : Out → Mem → Nat → T α) : T α :=
  match fn.body with
  | none => .fail 71
  | some c => mev C c (args0 0 args) m nx fun e s m nx => match e with
    | .normal => resK C fn s m nx K
    | .ret => resK C fn s m nx K
    | .pan v => K (.pan v) m nx
    | .exit _ => .fail 72

end
end Go.Mir

namespace Go.Mir

/-- Where an object lies: a block, its first cell there, how many cells are its own, how many elements it may hold. -/
structure Reg where
  block : Nat
  off : Nat
  size : Nat
  cap : Nat
  deriving Inhabited

structure Bt where
  reg : Nat → Reg
  val : Nat → Value

def capCells (c : Cap) : List Value :=
  [.bool c.tag, .int .i64 c.perms, .int .i64 c.type, .int .i64 c.mode, .int .i64 c.e, .int .i64 c.b, .int .i64 c.t, .bool c.big, .int .u64 c.addr]

def trapCells (t : Trap) : List Value := [.bool t.is, .int .i64 t.cause, .int .u64 t.value]
def rngCells (r : Rng) : List Value := [.int .u64 r.base, .int .u64 r.top, .bool r.over]

def hartCells (h : Hart) : List Value :=
  ((List.range 32).flatMap fun i => capCells (h.x i)) ++ (capCells h.pcc ++ (capCells h.ddc ++ (capCells h.stcc ++ (capCells h.stdc ++ (capCells h.sscr ++ (capCells h.sepcc ++
    (capCells h.mtcc ++ (capCells h.mtdc ++ (capCells h.mscr ++ (capCells h.mepcc ++ [.int .i64 h.priv, .int .u64 h.mstatus, .int .u64 h.medeleg, .int .u64 h.mideleg, .int .u64 h.mie, .int .u64 h.mip,
    .int .u64 h.mscratch, .int .u64 h.sscratch, .int .u64 h.mcause, .int .u64 h.scause, .int .u64 h.mtval, .int .u64 h.stval, .int .u64 h.satp, .int .u64 h.mcounteren,
    .int .u64 h.scounteren, .int .u64 h.cycle, .int .u64 h.instret, .bool h.waiting]))))))))))

def addrOf (r : Reg) (o : Nat) : Addr := ⟨r.block, r.off + o, none⟩

def tov (R : Rows) (v : AV) (cells : List Value) : Value := bif isAgg R v then .agg cells.toArray else cells.headD undef

/-- A value's cells; and, of a list, its values. -/
def fv (R : Rows) (β : Bt) : AV → List Value × List Value
  | .unk => ([undef], [])
  | .undef => ([undef], [])
  | .tt => ([.bool true], [])
  | .ff => ([.bool false], [])
  | .bool b => ([.bool b], [])
  | .lit k n => ([.int k (Int.ofNat n)], [])
  | .int k n => ([.int k n], [])
  | .str s => ([.string s], [])
  | .nilp => ([.pointer none], [])
  | .ptr id p => ([.pointer (some (addrOf (β.reg id) (poff p)))], [])
  | .nils => ([.slice none 0 0], [])
  | .sl id st len s => ([.slice (some (addrOf (β.reg id) (st.v * s))) len.v ((β.reg id).cap - st.v)], [])
  | .nilf => ([.nilFunc], [])
  | .fn f a c => ([.func f (fv R β a).2.toArray (fv R β c).2.toArray], [])
  | .nili => ([.nilIface], [])
  | .ifc t v => ([.iface t (tov R v (fv R β v).1)], [])
  | .opq g => ([β.val g], [])
  | .nil => ([], [])
  | .cons h t => ((fv R β h).1 ++ (fv R β t).1, tov R h (fv R β h).1 :: (fv R β t).2)
  | .rcd fs => ((fv R β fs).1, [])
  | .vec n _ f => ((List.range n.v).flatMap fun i => (fv R β (f i)).1, [])
  | .row n _ f => ((List.range n.v).flatMap fun i => (fv R β (f i)).1, [])
  | .zro d t => (R.zc d t, [])
  | .tup vs => ([.tuple (fv R β vs).2.toArray], [])
  | .cap c => (capCells c, [])
  | .hart h => (hartCells h, [])
  | .trap t => (trapCells t, [])
  | .rng r => (rngCells r, [])

def flat (R : Rows) (β : Bt) (v : AV) : List Value := (fv R β v).1
def vals (R : Rows) (β : Bt) (v : AV) : List Value := (fv R β v).2
def toV (R : Rows) (β : Bt) (v : AV) : Value := tov R v (flat R β v)

/-- A value that is well made, and names objects of nx alone. -/
def wf (R : Rows) (nx : Nat → Prop) : AV → Prop
  | .ptr id _ => nx id
  | .sl id _ _ _ => nx id
  | .fn _ a c => wf R nx a ∧ wf R nx c
  | .ifc _ v => wf R nx v
  | .cons h t => wf R nx h ∧ wf R nx t
  | .rcd fs => wf R nx fs
  | .vec n s f => ∀ i, i < n.v → wf R nx (f i) ∧ sz R (f i) = s
  | .row n s f => ∀ i, i < n.v → wf R nx (f i) ∧ sz R (f i) = s
  | .tup _ | .undef | .unk | .opq _ => False
  | _ => True

/-- A value as a temporary holds it. -/
def wfe (R : Rows) (nx : Nat → Prop) : AV → Prop
  | .tup vs => wf R nx vs
  | .undef => True
  | .unk => True
  | v => wf R nx v

section
variable {R : Rows} {β : Bt} {nx : Nat → Prop}

theorem wf_mono {ny : Nat → Prop} (h : ∀ i, nx i → ny i) : ∀ v, wf R nx v → wf R ny v := by
  intro v
  induction v with
  | ptr id p => exact fun g => h _ g
  | sl id a b s => exact fun g => h _ g
  | opq g => exact fun g => g
  | fn f a c iha ihc => exact fun g => ⟨iha g.1, ihc g.2⟩
  | ifc t v ih => exact fun g => ih g
  | cons a b iha ihb => exact fun g => ⟨iha g.1, ihb g.2⟩
  | rcd f ih => exact fun g => ih g
  | vec n s f ih => exact fun g i hi => ⟨ih i (g i hi).1, (g i hi).2⟩
  | row n s f ih => exact fun g i hi => ⟨ih i (g i hi).1, (g i hi).2⟩
  | tup v ih => exact fun g => g
  | undef => exact fun g => g
  | unk => exact fun g => g
  | _ => exact fun _ => trivial

/-- Two tables of places that are alike on nx. -/
def Alike (nx : Nat → Prop) (β β' : Bt) : Prop := ∀ i, nx i → β'.reg i = β.reg i ∧ β'.val i = β.val i

theorem Alike.refl : Alike nx β β := fun _ _ => ⟨rfl, rfl⟩
theorem Alike.trans {ny : Nat → Prop} {β' β'' : Bt} (h : Alike nx β β') (hn : ∀ i, nx i → ny i) (h' : Alike ny β' β'') : Alike nx β β'' :=
  fun i hi => ⟨((h' i (hn i hi)).1).trans (h i hi).1, ((h' i (hn i hi)).2).trans (h i hi).2⟩

theorem flatMap_congr' {α γ : Type} {l : List α} {f g : α → List γ} (h : ∀ x ∈ l, f x = g x) : l.flatMap f = l.flatMap g := by
  induction l with
  | nil => rfl
  | cons a l ih => simp only [List.flatMap_cons]; rw [h a (by simp), ih fun x hx => h x (by simp [hx])]

theorem fv_congr {β' : Bt} (h : Alike nx β β') : ∀ v, wf R nx v → fv R β' v = fv R β v := by
  intro v
  induction v with
  | ptr id p => intro g; simp only [fv, (h id g).1]
  | sl id a b s => intro g; simp only [fv, (h id g).1]
  | fn f a c iha ihc => intro g; simp only [fv, iha g.1, ihc g.2]
  | ifc t v ih => intro g; simp only [fv, ih g]
  | cons a b iha ihb => intro g; simp only [fv, iha g.1, ihb g.2]
  | rcd f ih => intro g; simp only [fv, ih g]
  | vec n s f ih =>
    intro g
    simp only [fv]
    rw [flatMap_congr' fun i hi => by rw [ih i (g i (List.mem_range.1 hi)).1]]
  | row n s f ih =>
    intro g
    simp only [fv]
    rw [flatMap_congr' fun i hi => by rw [ih i (g i (List.mem_range.1 hi)).1]]
  | tup v ih => intro g; exact g.elim
  | opq v => intro g; exact g.elim
  | _ => intro _; rfl

theorem flat_congr {β' : Bt} (h : Alike nx β β') {v : AV} (g : wf R nx v) : flat R β' v = flat R β v := by unfold flat; rw [fv_congr h v g]
theorem vals_congr {β' : Bt} (h : Alike nx β β') {v : AV} (g : wf R nx v) : vals R β' v = vals R β v := by unfold vals; rw [fv_congr h v g]
theorem toV_congr {β' : Bt} (h : Alike nx β β') {v : AV} (g : wf R nx v) : toV R β' v = toV R β v := by unfold toV; rw [flat_congr h g]

/-! ### How long -/
theorem len_flatMap_const {γ : Type} (g : Nat → List γ) (s : Nat) : ∀ n, (∀ i, i < n → (g i).length = s) → ((List.range n).flatMap g).length = n * s := by
  intro n
  induction n with
  | zero => intro _; simp
  | succ n ih =>
    intro h
    rw [List.range_succ, List.flatMap_append, List.length_append, ih fun i hi => h i (by omega)]
    simp [h n (by omega), Nat.succ_mul]

theorem zlen_list (R : Rows) (d : Nat) (ih : ∀ t, (R.zc d t).length = R.zlen d t) : ∀ fs : List (TypeId × Nat),
    (fs.flatMap fun f => R.zc d f.1).length = fs.foldr (fun f a => R.zlen d f.1 + a) 0
  | [] => rfl
  | f :: fs => by simp only [List.flatMap_cons, List.length_append, List.foldr_cons, ih, zlen_list R d ih fs]

theorem zlen_eq (R : Rows) : ∀ d t, (R.zc d t).length = R.zlen d t := by
  intro d
  induction d with
  | zero => intro t; rfl
  | succ d ih =>
    intro t
    unfold Rows.zc Rows.zlen
    cases h : R.und t with
    | arr n e => simp only []; exact len_flatMap_const _ _ n fun _ _ => ih e
    | st fs => simp only []; exact zlen_list R d ih fs
    | _ => rfl

@[simp] theorem capCells_len (c : Cap) : (capCells c).length = 9 := rfl
@[simp] theorem hartCells_len (h : Hart) : (hartCells h).length = 396 := by
  unfold hartCells
  simp only [List.length_append, capCells_len, len_flatMap_const _ 9 32 fun i _ => capCells_len (h.x i), List.length_cons, List.length_nil]

theorem flat_len : ∀ v, wf R nx v → (flat R β v).length = sz R v := by
  intro v
  induction v with
  | cons a b iha ihb =>
    intro g
    have h1 := iha g.1
    have h2 := ihb g.2
    unfold flat at h1 h2 ⊢
    simp only [fv, sz, List.length_append, h1, h2]
  | rcd f ih => intro g; exact ih g
  | vec n s f ih =>
    intro g
    unfold flat
    simp only [fv, sz]
    exact len_flatMap_const _ s n.v fun i hi => by have := ih i (g i hi).1; unfold flat at this; rw [this, (g i hi).2]
  | row n s f ih =>
    intro g
    unfold flat
    simp only [fv, sz]
    exact len_flatMap_const _ s n.v fun i hi => by have := ih i (g i hi).1; unfold flat at this; rw [this, (g i hi).2]
  | zro d t => intro _; exact zlen_eq R d t
  | hart h => intro _; exact hartCells_len h
  | _ => intro _; rfl

/-! ### Laying open -/
theorem flat_zroFields (d : Nat) : ∀ fs : List (TypeId × Nat), flat R β (zroFields d fs) = fs.flatMap fun f => R.zc d f.1
  | [] => rfl
  | f :: fs => by
    have := flat_zroFields d fs
    unfold flat at this ⊢
    simp only [zroFields, fv, List.flatMap_cons, this]

theorem xp_flat (v : AV) : flat R β (xp R v) = flat R β v := by
  cases v with
  | zro d t =>
    cases d with
    | zero => rfl
    | succ d =>
      have hz : flat R β (.zro (d + 1) t) = R.zc (d + 1) t := rfl
      rw [hz]
      unfold Rows.zc
      cases h : R.und t with
      | st fs => simp only [xp, h, xpZ]; exact flat_zroFields d fs
      | oth => simp only [xp, h, xpZ]; show R.zc (d + 1) t = _; unfold Rows.zc; rw [h]
      | _ => simp only [xp, h, xpZ]; rfl
  | cap c => rfl
  | hart h => rfl
  | trap t => rfl
  | rng r => rfl
  | _ => rfl

theorem sz_zroFields (d : Nat) : ∀ fs : List (TypeId × Nat), sz R (zroFields d fs) = fs.foldr (fun f a => R.zlen d f.1 + a) 0
  | [] => rfl
  | f :: fs => by simp only [zroFields, sz, List.foldr_cons, sz_zroFields d fs]

theorem xp_sz (v : AV) : sz R (xp R v) = sz R v := by
  cases v with
  | zro d t =>
    cases d with
    | zero => rfl
    | succ d =>
      have hz : sz R (.zro (d + 1) t) = R.zlen (d + 1) t := rfl
      rw [hz]
      unfold Rows.zlen
      cases h : R.und t with
      | st fs => simp only [xp, h, xpZ]; exact sz_zroFields d fs
      | oth => simp only [xp, h, xpZ]; show R.zlen (d + 1) t = _; unfold Rows.zlen; rw [h]
      | _ => simp only [xp, h, xpZ]; rfl
  | hart h => simp [xp, xpHart, sz, LN.v]
  | _ => rfl

theorem wf_zroFields (d : Nat) : ∀ fs : List (TypeId × Nat), wf R nx (zroFields d fs)
  | [] => trivial
  | _ :: fs => ⟨trivial, wf_zroFields d fs⟩

theorem xp_wf (v : AV) (g : wf R nx v) : wf R nx (xp R v) := by
  cases v with
  | zro d t =>
    cases d with
    | zero => exact g
    | succ d =>
      cases h : R.und t with
      | st fs => simp only [xp, h, xpZ]; exact wf_zroFields d fs
      | arr n e => simp only [xp, h, xpZ]; exact fun _ _ => ⟨trivial, rfl⟩
      | _ => simp only [xp, h, xpZ]; trivial
  | cap c => simp [xp, xpCap, wf]
  | hart h => simp [xp, xpHart, wf, sz]
  | trap t => simp [xp, xpTrap, wf]
  | rng r => simp [xp, xpRng, wf]
  | _ => exact g

theorem xp_agg (v : AV) : isAgg R (xp R v) = isAgg R v := by
  cases v with
  | zro d t =>
    cases d with
    | zero => rfl
    | succ d => cases h : R.und t <;> simp [isAgg, xp, xpZ, h]
  | _ => rfl

theorem toV_xp (v : AV) : toV R β (xp R v) = toV R β v := by unfold toV tov; rw [xp_flat, xp_agg]

theorem asBool_eq {v : AV} {b : Bool} (h : asBool R v = some b) : flat R β v = [.bool b] ∧ sz R v = 1 ∧ isAgg R v = false := by
  rw [← xp_flat, ← xp_sz, ← xp_agg]
  unfold asBool at h
  split at h <;> simp at h <;> subst h <;> rename_i hx <;> rw [hx] <;> exact ⟨rfl, rfl, rfl⟩

theorem asInt_eq {v : AV} {k : IntKind} {n : Int} (h : asInt R k v = some n) : flat R β v = [.int k n] ∧ sz R v = 1 ∧ isAgg R v = false := by
  rw [← xp_flat, ← xp_sz, ← xp_agg]
  unfold asInt at h
  split at h
  · rename_i j m hx
    by_cases e : j = k
    · subst e; simp at h; subst h; rw [hx]; exact ⟨rfl, rfl, rfl⟩
    · simp [e] at h
  · rename_i j m hx
    by_cases e : j = k
    · subst e; simp at h; subst h; rw [hx]; exact ⟨rfl, rfl, rfl⟩
    · simp [e] at h
  · cases h

theorem flat_cons (a b : AV) : flat R β (.cons a b) = flat R β a ++ flat R β b := rfl
theorem flat_nil : flat R β .nil = [] := rfl
theorem flat_rcd (a : AV) : flat R β (.rcd a) = flat R β a := rfl

theorem asCap_eq {v : AV} {c : Cap} (h : asCap R v = some c) : flat R β v = capCells c ∧ sz R v = 9 ∧ isAgg R v = true := by
  unfold asCap at h
  split at h
  · simp at h; subst h; exact ⟨rfl, rfl, rfl⟩
  · split at h
    · rename_i x1 x2 x3 x4 x5 x6 x7 x8 x9 hx
      split at h
      · rename_i y1 y2 y3 y4 y5 y6 y7 y8 y9 e1 e2 e3 e4 e5 e6 e7 e8 e9
        simp at h; subst h
        rw [← xp_flat, ← xp_sz, ← xp_agg, hx]
        obtain ⟨a1, b1, _⟩ := asBool_eq (β := β) e1
        obtain ⟨a2, b2, _⟩ := asInt_eq (β := β) e2
        obtain ⟨a3, b3, _⟩ := asInt_eq (β := β) e3
        obtain ⟨a4, b4, _⟩ := asInt_eq (β := β) e4
        obtain ⟨a5, b5, _⟩ := asInt_eq (β := β) e5
        obtain ⟨a6, b6, _⟩ := asInt_eq (β := β) e6
        obtain ⟨a7, b7, _⟩ := asInt_eq (β := β) e7
        obtain ⟨a8, b8, _⟩ := asBool_eq (β := β) e8
        obtain ⟨a9, b9, _⟩ := asInt_eq (β := β) e9
        refine ⟨?_, ?_, rfl⟩
        · simp only [flat_rcd, flat_cons, flat_nil, a1, a2, a3, a4, a5, a6, a7, a8, a9]; rfl
        · simp only [sz, b1, b2, b3, b4, b5, b6, b7, b8, b9]
      · cases h
    · cases h

theorem asTrap_eq {v : AV} {c : Trap} (h : asTrap R v = some c) : flat R β v = trapCells c ∧ sz R v = 3 ∧ isAgg R v = true := by
  unfold asTrap at h
  split at h
  · simp at h; subst h; exact ⟨rfl, rfl, rfl⟩
  · split at h
    · rename_i hx
      split at h
      · rename_i e1 e2 e3
        simp at h; subst h
        rw [← xp_flat, ← xp_sz, ← xp_agg, hx]
        obtain ⟨a1, b1, _⟩ := asBool_eq (β := β) e1
        obtain ⟨a2, b2, _⟩ := asInt_eq (β := β) e2
        obtain ⟨a3, b3, _⟩ := asInt_eq (β := β) e3
        refine ⟨?_, ?_, rfl⟩
        · simp only [flat_rcd, flat_cons, flat_nil, a1, a2, a3]; rfl
        · simp only [sz, b1, b2, b3]
      · cases h
    · cases h

theorem asRng_eq {v : AV} {c : Rng} (h : asRng R v = some c) : flat R β v = rngCells c ∧ sz R v = 3 ∧ isAgg R v = true := by
  unfold asRng at h
  split at h
  · simp at h; subst h; exact ⟨rfl, rfl, rfl⟩
  · split at h
    · rename_i hx
      split at h
      · rename_i e1 e2 e3
        simp at h; subst h
        rw [← xp_flat, ← xp_sz, ← xp_agg, hx]
        obtain ⟨a1, b1, _⟩ := asInt_eq (β := β) e1
        obtain ⟨a2, b2, _⟩ := asInt_eq (β := β) e2
        obtain ⟨a3, b3, _⟩ := asBool_eq (β := β) e3
        refine ⟨?_, ?_, rfl⟩
        · simp only [flat_rcd, flat_cons, flat_nil, a1, a2, a3]; rfl
        · simp only [sz, b1, b2, b3]
      · cases h
    · cases h

/-! ### Ways into a value -/
theorem fldAt_spec : ∀ (fs : AV) (k o : Nat) (v : AV), fldAt R fs k = some (o, v) → wf R nx fs →
    wf R nx v ∧ ∃ pre post : List Value, pre.length = o ∧ flat R β fs = pre ++ (flat R β v ++ post) ∧
      ∀ u, flat R β (fldSet fs k u) = pre ++ (flat R β u ++ post) ∧ (sz R u = sz R v → sz R (fldSet fs k u) = sz R fs) ∧ (wf R nx u → wf R nx (fldSet fs k u)) := by
  intro fs
  induction fs with
  | cons a b iha ihb =>
    intro k o v h g
    cases k with
    | zero =>
      simp only [fldAt, Option.some.injEq, Prod.mk.injEq] at h
      obtain ⟨rfl, rfl⟩ := h
      exact ⟨g.1, [], flat R β b, rfl, rfl, fun u => ⟨rfl, fun e => by simp only [fldSet, sz, e], fun gu => ⟨gu, g.2⟩⟩⟩
    | succ k =>
      simp only [fldAt] at h
      split at h
      · rename_i o' v' hk
        simp only [Option.some.injEq, Prod.mk.injEq] at h
        obtain ⟨rfl, rfl⟩ := h
        obtain ⟨gv, pre, post, hl, hf, hu⟩ := ihb k o' v' hk g.2
        refine ⟨gv, flat R β a ++ pre, post, by simp [hl, flat_len a g.1], by rw [flat_cons, hf]; simp, fun u => ?_⟩
        obtain ⟨h1, h2, h3⟩ := hu u
        exact ⟨by simp only [fldSet, flat_cons, h1]; simp, fun e => by simp only [fldSet, sz, h2 e], fun gu => ⟨g.1, h3 gu⟩⟩
      · cases h
  | _ => intro k o v h; simp [fldAt] at h

theorem flatMap_split {γ : Type} (g : Nat → List γ) (i : Nat) : ∀ n, i < n → ∃ post, (List.range n).flatMap g = (List.range i).flatMap g ++ (g i ++ post) ∧
    ∀ g' : Nat → List γ, (∀ j, j < n → j ≠ i → g' j = g j) → (List.range n).flatMap g' = (List.range i).flatMap g ++ (g' i ++ post) := by
  intro n
  induction n with
  | zero => intro h; omega
  | succ n ih =>
    intro h
    by_cases e : i = n
    · subst e
      refine ⟨[], by simp [List.range_succ], fun g' hg => ?_⟩
      rw [List.range_succ, List.flatMap_append, flatMap_congr' (f := g') (g := g) fun j hj => hg j (by have := List.mem_range.1 hj; omega) (by have := List.mem_range.1 hj; omega)]
      simp
    · obtain ⟨post, h1, h2⟩ := ih (by omega)
      refine ⟨post ++ g n, by rw [List.range_succ, List.flatMap_append, h1]; simp, fun g' hg => ?_⟩
      rw [List.range_succ, List.flatMap_append, h2 g' fun j hj => hg j (by omega)]
      have : g' n = g n := hg n (by omega) (by omega)
      simp [this]

theorem chkIdx_spec {i n : LN} {ps : List Prop} (h : chkIdx i n = some ps) (hp : ∀ p ∈ ps, p) : i.v < n.v := by
  unfold chkIdx at h
  split at h
  · split at h
    · rename_i e; exact by simpa [LN.v] using e
    · cases h
  · simp only [Option.some.injEq] at h; subst h
    have := hp _ (List.mem_singleton.2 rfl)
    unfold ltN at this; exact this

theorem flat_vec (n : LN) (s : Nat) (f : Nat → AV) : flat R β (.vec n s f) = (List.range n.v).flatMap fun i => flat R β (f i) := rfl
theorem flat_row (n : LN) (s : Nat) (f : Nat → AV) : flat R β (.row n s f) = (List.range n.v).flatMap fun i => flat R β (f i) := rfl

theorem asI_spec {v : AV} {k : IntKind} {n : Int} (h : asI R v = some (k, n)) : flat R β v = [.int k n] := by
  unfold asI at h
  rw [← xp_flat]
  split at h
  · rename_i k' a e
    simp only [Option.some.injEq, Prod.mk.injEq] at h
    obtain ⟨rfl, rfl⟩ := h
    rw [e]; rfl
  · rename_i k' a e
    simp only [Option.some.injEq, Prod.mk.injEq] at h
    obtain ⟨rfl, rfl⟩ := h
    rw [e]; rfl
  · cases h

theorem rowL_spec {k : IntKind} {f : Nat → AV} : ∀ (js : List Nat) (l : List Int), rowL R k f js = some l → ∀ (a j : Nat), js[a]? = some j → asI R (f j) = some (k, l.getD a 0)
  | [], _, _, a, j, h => by simp at h
  | i :: r, l, h, a, j, hj => by
    simp only [rowL] at h
    split at h
    · rename_i k' n l' h1 h2
      split at h
      · rename_i e
        simp only [Option.some.injEq] at h
        subst h
        have e : k' = k := of_decide_eq_true e
        subst e
        cases a with
        | zero => simp at hj; subst hj; simpa using h1
        | succ a => simpa using rowL_spec r l' h2 a j (by simpa using hj)
      · cases h
    · cases h

theorem atI_spec {n : LN} {f : Nat → AV} {i : LN} (hi : i.v < n.v) {s : Nat} (g : ∀ j, j < n.v → wf R nx (f j) ∧ sz R (f j) = s) : wf R nx (atI R n f i) ∧ flat R β (atI R n f i) = flat R β (f i.v) := by
  unfold atI
  split
  · exact ⟨(g _ hi).1, rfl⟩
  · rename_i j
    split
    · rename_i N
      split
      · rename_i k z _ _
        split
        · rename_i l hl
          refine ⟨trivial, ?_⟩
          have hlt : j < N := hi
          have := rowL_spec _ _ hl j j (by simp [hlt])
          rw [show LN.v (LN.sym j) = j from rfl, asI_spec this]
          unfold pickI
          rfl
        · exact ⟨(g _ hi).1, rfl⟩
      · exact ⟨(g _ hi).1, rfl⟩
    · exact ⟨(g _ hi).1, rfl⟩

theorem nav_spec : ∀ (p : List Stp) (v u : AV) (ps : List Prop), nav R v p = some (ps, u) → (∀ q ∈ ps, q) → wf R nx v →
    wf R nx u ∧ ∃ pre post : List Value, pre.length = poff p ∧ flat R β v = pre ++ (flat R β u ++ post) := by
  intro p
  induction p with
  | nil =>
    intro v u ps h hp g
    simp only [nav, Option.some.injEq, Prod.mk.injEq] at h
    obtain ⟨rfl, rfl⟩ := h
    exact ⟨g, [], [], rfl, by simp⟩
  | cons st p ih =>
    intro v u ps h hp g
    have gx := xp_wf v g
    rw [← xp_flat]
    cases st with
    | fld k o =>
      simp only [nav] at h
      split at h
      · rename_i fs hx
        split at h
        · rename_i o' w hf
          split at h
          · rename_i e
            have e' : o = o' := Nat.eq_of_beq_eq_true e
            subst e'
            rw [hx] at gx ⊢
            obtain ⟨gw, pre, post, hl, hfl, _⟩ := fldAt_spec (β := β) fs k o w hf gx
            obtain ⟨gu, pre', post', hl', hfl'⟩ := ih w u ps h hp gw
            exact ⟨gu, pre ++ pre', post' ++ post, by simp [hl, hl', poff, Stp.off], by rw [flat_rcd, hfl, hfl']; simp⟩
          · cases h
        · cases h
      · cases h
    | idx i s =>
      simp only [nav] at h
      split at h
      · rename_i n s' f hx
        split at h
        · rename_i ps' e1 e2
          split at h
          · rename_i qs w hn
            simp only [Option.some.injEq, Prod.mk.injEq] at h
            obtain ⟨rfl, rfl⟩ := h
            have e' : s = s' := Nat.eq_of_beq_eq_true e1
            subst e'
            rw [hx] at gx ⊢
            have hi := chkIdx_spec e2 fun q hq => hp q (List.mem_append.2 (.inl hq))
            obtain ⟨post, hs, _⟩ := flatMap_split (fun j => flat R β (f j)) i.v n.v hi
            obtain ⟨ga, fa⟩ := atI_spec (β := β) hi gx
            obtain ⟨gu, pre', post', hl', hfl'⟩ := ih (atI R n f i) w qs hn (fun q hq => hp q (List.mem_append.2 (.inr hq))) ga
            rw [fa] at hfl'
            refine ⟨gu, (List.range i.v).flatMap (fun j => flat R β (f j)) ++ pre', post' ++ post, ?_, by rw [flat_vec, hs, hfl']; simp⟩
            rw [List.length_append, hl', len_flatMap_const _ s i.v fun j hj => by rw [flat_len _ (gx j (by omega)).1, (gx j (by omega)).2]]
            rfl
          · cases h
        · cases h
      · rename_i n s' f hx
        split at h
        · rename_i ps' e1 e2
          split at h
          · rename_i qs w hn
            simp only [Option.some.injEq, Prod.mk.injEq] at h
            obtain ⟨rfl, rfl⟩ := h
            have e' : s = s' := Nat.eq_of_beq_eq_true e1
            subst e'
            rw [hx] at gx ⊢
            have hi := chkIdx_spec e2 fun q hq => hp q (List.mem_append.2 (.inl hq))
            obtain ⟨post, hs, _⟩ := flatMap_split (fun j => flat R β (f j)) i.v n.v hi
            obtain ⟨ga, fa⟩ := atI_spec (β := β) hi gx
            obtain ⟨gu, pre', post', hl', hfl'⟩ := ih (atI R n f i) w qs hn (fun q hq => hp q (List.mem_append.2 (.inr hq))) ga
            rw [fa] at hfl'
            refine ⟨gu, (List.range i.v).flatMap (fun j => flat R β (f j)) ++ pre', post' ++ post, ?_, by rw [flat_row, hs, hfl']; simp⟩
            rw [List.length_append, hl', len_flatMap_const _ s i.v fun j hj => by rw [flat_len _ (gx j (by omega)).1, (gx j (by omega)).2]]
            rfl
          · cases h
        · cases h
      · cases h

/-! ### Another value at a way -/
theorem mrg_spec (b : Bool) : ∀ (v w : AV), mrgOk v w = true →
    flat R β (mrg b v w) = (bif b then flat R β v else flat R β w) ∧ sz R (mrg b v w) = sz R w ∧ wf R nx (mrg b v w) ∧ isAgg R (mrg b v w) = isAgg R w := by
  intro v
  induction v with
  | cons h t ih1 ih2 =>
    intro w hm
    cases w <;> simp [mrgOk] at hm
    rename_i h' t'
    obtain ⟨a1, a2, a3, _⟩ := ih1 h' hm.1
    obtain ⟨b1, b2, b3, _⟩ := ih2 t' hm.2
    refine ⟨?_, ?_, ⟨a3, b3⟩, rfl⟩
    · simp only [mrg, flat_cons, a1, b1]; cases b <;> rfl
    · simp only [mrg, sz, a2, b2]
  | rcd f ih =>
    intro w hm
    cases w <;> simp [mrgOk] at hm
    rename_i f'
    obtain ⟨a1, a2, a3, _⟩ := ih f' hm
    exact ⟨a1, a2, a3, rfl⟩
  | lit k n =>
    intro w hm
    cases w <;> simp [mrgOk] at hm <;> subst hm <;> cases b <;> simp [mrg, iIf, flat, fv, sz, wf, isAgg]
  | int k n =>
    intro w hm
    cases w <;> simp [mrgOk] at hm <;> subst hm <;> cases b <;> simp [mrg, iIf, flat, fv, sz, wf, isAgg]
  | tt => intro w hm; cases w <;> simp [mrgOk] at hm <;> cases b <;> simp [mrg, bIf, flat, fv, sz, wf, isAgg]
  | ff => intro w hm; cases w <;> simp [mrgOk] at hm <;> cases b <;> simp [mrg, bIf, bNot, flat, fv, sz, wf, isAgg]
  | bool x => intro w hm; cases w <;> simp [mrgOk] at hm <;> cases b <;> simp [mrg, bIf, flat, fv, sz, wf, isAgg]
  | cap c => intro w hm; cases w <;> simp [mrgOk] at hm <;> cases b <;> simp [mrg, capIf, flat, fv, sz, wf, isAgg]
  | trap c => intro w hm; cases w <;> simp [mrgOk] at hm <;> cases b <;> simp [mrg, trapIf, flat, fv, sz, wf, isAgg]
  | rng c => intro w hm; cases w <;> simp [mrgOk] at hm <;> cases b <;> simp [mrg, rngIf, flat, fv, sz, wf, isAgg]
  | nil => intro w hm; cases w <;> simp [mrgOk] at hm <;> cases b <;> simp [mrg, flat, fv, sz, wf, isAgg]
  | _ => intro w hm; simp [mrgOk] at hm

theorem okN_spec {n : Nat} {f : Nat → Bool} (h : okN n f) : ∀ i, i < n → f i = true := by unfold okN at h; exact h

theorem beq_ne {j k : Nat} (e : j ≠ k) : Nat.beq j k = false := by
  cases h : Nat.beq j k
  · rfl
  · exact absurd (Nat.eq_of_beq_eq_true h) e

theorem updA_lit_same (f : Nat → AV) (k : Nat) (w : AV) : updA f (.lit k) w k = w := by
  show (bif Nat.beq k k then w else f k) = w
  rw [Nat.beq_refl]; rfl

theorem updA_lit_ne (f : Nat → AV) {j k : Nat} (w : AV) (e : j ≠ k) : updA f (.lit k) w j = f j := by
  show (bif Nat.beq j k then w else f j) = f j
  rw [beq_ne e]; rfl

theorem updA_spec {f : Nat → AV} {n i : LN} {w : AV} (hp : ∀ p ∈ updP f n i w, p) (hi : i.v < n.v) (s : Nat) (g : ∀ j, j < n.v → wf R nx (f j) ∧ sz R (f j) = s)
    (gw : wf R nx w) (hs : sz R w = s) :
    (∀ j, j < n.v → wf R nx (updA f i w j) ∧ sz R (updA f i w j) = s) ∧ flat R β (updA f i w i.v) = flat R β w ∧ ∀ j, j < n.v → j ≠ i.v → flat R β (updA f i w j) = flat R β (f j) := by
  cases i with
  | lit k =>
    have hi' : k < n.v := hi
    refine ⟨fun j hj => ?_, by show flat R β (updA f (.lit k) w k) = _; rw [updA_lit_same], fun j hj hne => ?_⟩
    · by_cases e : j = k
      · subst e; rw [updA_lit_same]; exact ⟨gw, hs⟩
      · rw [updA_lit_ne f w e]; exact g j hj
    · have e : j ≠ k := hne
      rw [updA_lit_ne f w e]
  | sym k =>
    have hi' : k < n.v := hi
    have hok := okN_spec (hp _ (List.mem_singleton.2 rfl))
    refine ⟨fun j hj => ?_, ?_, fun j hj hne => ?_⟩
    · obtain ⟨_, h2, h3, _⟩ := mrg_spec (R := R) (β := β) (nx := nx) (nEq j k) w (f j) (hok j hj)
      exact ⟨h3, h2.trans (g j hj).2⟩
    · obtain ⟨h1, _, _, _⟩ := mrg_spec (R := R) (β := β) (nx := nx) (nEq k k) w (f k) (hok k hi')
      show flat R β (mrg (nEq k k) w (f k)) = _
      rw [h1]; unfold nEq; rw [Nat.beq_refl]; rfl
    · obtain ⟨h1, _, _, _⟩ := mrg_spec (R := R) (β := β) (nx := nx) (nEq j k) w (f j) (hok j hj)
      have e : j ≠ k := hne
      show flat R β (mrg (nEq j k) w (f j)) = _
      rw [h1]; unfold nEq; rw [beq_ne e]; rfl

theorem setCap_flat {c c' : Cap} {k : Nat} {w : AV} (h : setCap R c k w = some c') (fs : AV) (hfs : xpCap c = .rcd fs) : flat R β (.cap c') = flat R β (fldSet fs k w) := by
  have e : fs = _ := (AV.rcd.inj hfs).symm
  subst e
  unfold setCap at h
  split at h <;> try (cases h; done)
  all_goals
    split at h <;> simp at h
    subst h
    rename_i hw
    first
    | (obtain ⟨hf, _, _⟩ := asBool_eq (β := β) hw; simp only [fldSet, flat_cons, hf]; rfl)
    | (obtain ⟨hf, _, _⟩ := asInt_eq (β := β) hw; simp only [fldSet, flat_cons, hf]; rfl)

set_option maxRecDepth 10000 in
theorem setHart_flat {c c' : Hart} {k : Nat} {w : AV} (h : setHart R c k w = some c') (fs : AV) (hfs : xpHart c = .rcd fs) : flat R β (.hart c') = flat R β (fldSet fs k w) := by
  have e : fs = _ := (AV.rcd.inj hfs).symm
  subst e
  unfold setHart at h
  split at h <;> try (cases h; done)
  all_goals
    split at h <;> simp at h
    subst h
    rename_i hw
    first
    | (obtain ⟨hf, _, _⟩ := asCap_eq (β := β) hw; simp only [fldSet, flat_cons, hf]; rfl)
    | (obtain ⟨hf, _, _⟩ := asBool_eq (β := β) hw; simp only [fldSet, flat_cons, hf]; rfl)
    | (obtain ⟨hf, _, _⟩ := asInt_eq (β := β) hw; simp only [fldSet, flat_cons, hf]; rfl)

theorem flat_upd (n : LN) (s : Nat) (f f' : Nat → AV) (i : Nat) (hi : i < n.v) (g : ∀ j, j < n.v → wf R nx (f j) ∧ sz R (f j) = s)
    (he : ∀ j, j < n.v → j ≠ i → flat R β (f' j) = flat R β (f j)) :
    ∃ pre post : List Value, pre.length = i * s ∧ flat R β (.vec n s f) = pre ++ (flat R β (f i) ++ post) ∧ flat R β (.vec n s f') = pre ++ (flat R β (f' i) ++ post) := by
  obtain ⟨post, h1, h2⟩ := flatMap_split (fun j => flat R β (f j)) i n.v hi
  exact ⟨_, post, len_flatMap_const _ s i fun j hj => by rw [flat_len _ (g j (by omega)).1, (g j (by omega)).2], h1, h2 (fun j => flat R β (f' j)) he⟩

theorem flat_hart (h : Hart) : flat R β (.hart h) = flat R β (.vec (.lit 32) 9 fun i => .cap (h.x i)) ++ (hartCells h).drop 288 := by
  show hartCells h = _
  have e : flat R β (.vec (.lit 32) 9 fun i => .cap (h.x i)) = (List.range 32).flatMap fun i => capCells (h.x i) := rfl
  rw [e]
  unfold hartCells
  rw [List.drop_left' (len_flatMap_const _ 9 32 fun i _ => capCells_len (h.x i))]

theorem hart_drop (h : Hart) (f : Nat → Cap) : (hartCells { h with x := f }).drop 288 = (hartCells h).drop 288 := by
  unfold hartCells
  rw [List.drop_left' (len_flatMap_const _ 9 32 fun i _ => capCells_len (h.x i)), List.drop_left' (len_flatMap_const _ 9 32 fun i _ => capCells_len (f i))]

theorem setp_spec : ∀ (n : Nat) (p : List Stp), p.length ≤ n → ∀ (v u v' : AV) (ps : List Prop), setp R v p u = some (ps, v') → (∀ q ∈ ps, q) → wf R nx v → wf R nx u →
    wf R nx v' ∧ sz R v' = sz R v ∧
      ∃ pre old post : List Value, pre.length = poff p ∧ old.length = sz R u ∧ flat R β v = pre ++ (old ++ post) ∧ flat R β v' = pre ++ (flat R β u ++ post) := by
  intro n
  induction n with
  | zero =>
    intro p hl v u v' ps h hp g gu
    have : p = [] := List.length_eq_zero_iff.1 (by omega)
    subst this
    simp only [setp] at h
    split at h
    · rename_i e
      simp only [Option.some.injEq, Prod.mk.injEq] at h
      obtain ⟨rfl, rfl⟩ := h
      have e' := Nat.eq_of_beq_eq_true e
      exact ⟨gu, e', [], flat R β v, [], rfl, by rw [flat_len _ g, e'], by simp, by simp⟩
    · cases h
  | succ n ih =>
    intro p hl v u v' ps h hp g gu
    unfold setp at h
    split at h
    · split at h
      · rename_i e
        simp only [Option.some.injEq, Prod.mk.injEq] at h
        obtain ⟨rfl, rfl⟩ := h
        have e' := Nat.eq_of_beq_eq_true e
        exact ⟨gu, e', [], flat R β v, [], rfl, by rw [flat_len _ g, e'], by simp, by simp⟩
      · cases h
    · -- a register of a hart
      rename_i hh i q
      split at h
      · rename_i ps' qs w' e1 e2
        split at h
        · rename_i c hc
          simp only [Option.some.injEq, Prod.mk.injEq] at h
          obtain ⟨rfl, rfl⟩ := h
          have hi := chkIdx_spec e1 fun q hq => hp q (List.mem_append.2 (.inl hq))
          obtain ⟨gw, hsz, pre, old, post, hl1, hl2, hf1, hf2⟩ := ih q (by simp at hl; omega) (.cap (hh.x i.v)) u w' qs e2 (fun q hq => hp q (List.mem_append.2 (.inr hq))) trivial gu
          obtain ⟨hcf, _, _⟩ := asCap_eq (β := β) hc
          obtain ⟨pre', post', h1, h2, h3⟩ := flat_upd (R := R) (β := β) (nx := nx) (.lit 32) 9 (fun j => .cap (hh.x j)) (fun j => .cap (upd hh.x i.v c j)) i.v hi (fun j _ => ⟨trivial, rfl⟩)
            (fun j _ hne => by unfold upd; simp [hne])
          refine ⟨trivial, rfl, pre' ++ pre, old, post ++ (post' ++ (hartCells hh).drop 288), ?_, hl2, ?_, ?_⟩
          · simp [h1, hl1, poff, Stp.off]
          · rw [flat_hart, h2, hf1]; simp
          · rw [flat_hart, hart_drop]
            show flat R β (.vec (.lit 32) 9 fun j => .cap (upd hh.x i.v c j)) ++ _ = _
            rw [h3]
            have : flat R β (.cap (upd hh.x i.v c i.v)) = flat R β w' := by
              rw [hcf]; show capCells _ = _; unfold upd; simp
            rw [this, hf2]; simp
        · cases h
      · cases h
    · -- a field
      rename_i k o q _
      have gx := xp_wf v g
      split at h
      · rename_i fs hx
        split at h
        · rename_i o' w hf
          split at h
          · rename_i ps' w' e1 e2
            have e' : o = o' := Nat.eq_of_beq_eq_true e1
            subst e'
            rw [hx] at gx
            obtain ⟨gw, pre, post, hl1, hfl, hset⟩ := fldAt_spec (β := β) fs k o w hf gx
            obtain ⟨hs1, hs2, hs3⟩ := hset w'
            have hflat : flat R β v = flat R β fs := by rw [← xp_flat, hx]; rfl
            have hszv : sz R v = sz R fs := by rw [← xp_sz, hx]; rfl
            have fin : ∀ z : AV, ps' = ps → flat R β z = flat R β (fldSet fs k w') → wf R nx z → sz R z = sz R v → z = v' →
                wf R nx v' ∧ sz R v' = sz R v ∧ ∃ pre old post : List Value, pre.length = poff (.fld k o :: q) ∧ old.length = sz R u ∧ flat R β v = pre ++ (old ++ post) ∧ flat R β v' = pre ++ (flat R β u ++ post) := by
              intro z hps hz gz hzs hzv
              subst hps hzv
              obtain ⟨gw', hsz, pre', old, post', hl1', hl2', hf1', hf2'⟩ := ih q (by simp at hl; omega) w u w' ps' e2 hp gw gu
              refine ⟨gz, hzs, pre ++ pre', old, post' ++ post, by simp [hl1, hl1', poff, Stp.off], hl2', by rw [hflat, hfl, hf1']; simp, by rw [hz, hs1, hf2']; simp⟩
            split at h
            · split at h
              · rename_i c c' hc
                simp only [Option.some.injEq, Prod.mk.injEq] at h
                exact fin (.cap c') h.1 (setCap_flat hc fs hx) trivial rfl h.2
              · cases h
            · split at h
              · rename_i c c' hc
                simp only [Option.some.injEq, Prod.mk.injEq] at h
                exact fin (.hart c') h.1 (setHart_flat hc fs hx) trivial rfl h.2
              · cases h
            · simp only [Option.some.injEq, Prod.mk.injEq] at h
              obtain ⟨gw', hsz, _⟩ := ih q (by simp at hl; omega) w u w' ps' e2 (h.1 ▸ hp) gw gu
              exact fin (.rcd (fldSet fs k w')) h.1 rfl (hs3 gw') (by rw [hszv]; exact hs2 hsz) h.2
          · cases h
        · cases h
      · cases h
    · -- an element
      rename_i i s q
      have gx := xp_wf v g
      split at h
      · rename_i m s' f hx
        split at h
        · rename_i ps' qs w' e1 e2 e3
          simp only [Option.some.injEq, Prod.mk.injEq] at h
          obtain ⟨rfl, rfl⟩ := h
          have e' : s = s' := Nat.eq_of_beq_eq_true e1
          subst e'
          rw [hx] at gx
          have hi := chkIdx_spec e2 fun q hq => hp q (List.mem_append.2 (.inl (List.mem_append.2 (.inl hq))))
          obtain ⟨gw, hsz, pre, old, post, hl1, hl2, hf1, hf2⟩ := ih q (by simp at hl; omega) (f i.v) u w' qs e3 (fun q hq => hp q (List.mem_append.2 (.inl (List.mem_append.2 (.inr hq))))) (gx i.v hi).1 gu
          obtain ⟨u1, u2, u3⟩ := updA_spec (β := β) (fun p hq => hp p (List.mem_append.2 (.inr hq))) hi s gx gw (by rw [hsz, (gx i.v hi).2])
          obtain ⟨pre', post', h1, h2, h3⟩ := flat_upd (R := R) (β := β) (nx := nx) m s f (updA f i w') i.v hi gx u3
          refine ⟨u1, by rw [← xp_sz v, hx]; rfl, pre' ++ pre, old, post ++ post', by simp [h1, hl1, poff, Stp.off], hl2, by rw [← xp_flat v, hx, h2, hf1]; simp, by rw [h3, u2, hf2]; simp⟩
        · cases h
      · rename_i m s' f hx
        split at h
        · rename_i ps' qs w' e1 e2 e3
          simp only [Option.some.injEq, Prod.mk.injEq] at h
          obtain ⟨rfl, rfl⟩ := h
          have e' : s = s' := Nat.eq_of_beq_eq_true e1
          subst e'
          rw [hx] at gx
          have hi := chkIdx_spec e2 fun q hq => hp q (List.mem_append.2 (.inl (List.mem_append.2 (.inl hq))))
          obtain ⟨gw, hsz, pre, old, post, hl1, hl2, hf1, hf2⟩ := ih q (by simp at hl; omega) (f i.v) u w' qs e3 (fun q hq => hp q (List.mem_append.2 (.inl (List.mem_append.2 (.inr hq))))) (gx i.v hi).1 gu
          obtain ⟨u1, u2, u3⟩ := updA_spec (β := β) (fun p hq => hp p (List.mem_append.2 (.inr hq))) hi s gx gw (by rw [hsz, (gx i.v hi).2])
          obtain ⟨pre', post', h1, h2, h3⟩ := flat_upd (R := R) (β := β) (nx := nx) m s f (updA f i w') i.v hi gx u3
          have hvv : flat R β (.row m s f) = flat R β (.vec m s f) := rfl
          have hvw : flat R β (.row m s (updA f i w')) = flat R β (.vec m s (updA f i w')) := rfl
          refine ⟨u1, by rw [← xp_sz v, hx]; rfl, pre' ++ pre, old, post ++ post', by simp [h1, hl1, poff, Stp.off], hl2, by rw [← xp_flat v, hx, hvv, h2, hf1]; simp, by rw [hvw, h3, u2, hf2]; simp⟩
        · cases h
      · cases h

end
end Go.Mir
