/- The abstract machine: values, blocks, operations, code, and how they run. No statement about Go is made in this text. -/
import GoSem.Core.Code
import GoSem.Core.Lib
import GoSem.Machine.Frame
import GoSem.Op.String
import Derived.CallsIn
import Derived.OrdersIn
import Derived.RangeFuncIn
import Derived.RangeFuncLeaves
import Derived.Laws.AppendOwn
import Derived.Laws.MakeOwn
import Derived.Laws.OwnMore
import Derived.Laws.NewBlocks
namespace Go.Am
open Go

/-! ## Data -/

/-- Persistent data. `sl n es`: a slice; `n = 0`: elements of one cell, else structs or arrays of `n` cells. `ptr cs`: a pointer to memory that is never written again, the cells from there on. -/
inductive P where
  | v (x : Value)
  | agg (cs : List P)
  | sl (n : Nat) (es : List P)
  | ptr (cs : List P)
  | fn (f : Nat) (caps : List P)
  | iface (t : Nat) (x : P)
  | tuple (xs : List P)
  deriving Inhabited

/-- Values: persistent ones, and those that name blocks of the activation's own memory. -/
inductive V where
  | p (x : P)
  | nil (n : Nat)
  | sl (n t : Nat) (es : List P)
  | ref (n b off len : Nat)
  | ptr (b off : Nat)
  | agg (cs : List V)
  | fn (f : Nat) (caps : List V)
  | iface (t : Nat) (x : V)
  | tuple (xs : List V)
  | yield
  | unk
  deriving Inhabited

inductive Blk where
  | cells (cs : List V)
  | tok (n c : Nat)
  | dead
  | hole
  deriving Inhabited

def sz (n : Nat) : Nat := if n = 0 then 1 else n

def undefP : P := .v (.tuple #[])
def undefV : V := .p undefP

def P.cells : P → List P
  | .agg cs => cs
  | x => [x]

def scalarCell : Value → Bool
  | .agg _ => false
  | .tuple _ => false
  | _ => true

def V.isCell : V → Bool
  | .p (.v x) => scalarCell x
  | .p (.agg _) => false
  | .p (.tuple _) => false
  | .agg _ => false
  | .tuple _ => false
  | .unk => false
  | _ => true

/-- The cells of a value that is to be laid into memory. -/
def V.cells? : V → Option (List V)
  | .agg cs => if cs.all V.isCell then some cs else none
  | .p (.agg ps) => if (ps.map V.p).all V.isCell then some (ps.map V.p) else none
  | x => if x.isCell then some [x] else none

/-- The cells of a struct or an array. -/
def V.agg? : V → Option (List V)
  | .agg cs => some cs
  | .p (.agg ps) => some (ps.map V.p)
  | _ => none

mutual
def V.toP : V → Option P
  | .p x => some x
  | .nil n => some (.sl n [])
  | .sl n _ es => some (.sl n es)
  | .agg cs => (toPs cs).map .agg
  | .fn f caps => (toPs caps).map (.fn f)
  | .iface t x => (V.toP x).map (.iface t)
  | .tuple xs => (toPs xs).map .tuple
  | _ => none
def toPs : List V → Option (List P)
  | [] => some []
  | x :: r => match V.toP x, toPs r with
    | some a, some b => some (a :: b)
    | _, _ => none
end

mutual
/-- The blocks that a value names. -/
def V.ids : V → List Nat
  | .sl _ t _ => [t]
  | .ref _ b _ _ => [b]
  | .ptr b _ => [b]
  | .agg cs => idss cs
  | .fn _ caps => idss caps
  | .iface _ x => V.ids x
  | .tuple xs => idss xs
  | _ => []
def idss : List V → List Nat
  | [] => []
  | x :: r => V.ids x ++ idss r
end

mutual
def V.ren (ρ : Nat → Option Nat) : V → Option V
  | .p x => some (.p x)
  | .nil n => some (.nil n)
  | .sl n t es => (ρ t).map fun t' => .sl n t' es
  | .ref n b off len => (ρ b).map fun b' => .ref n b' off len
  | .ptr b off => (ρ b).map fun b' => .ptr b' off
  | .agg cs => (rens ρ cs).map .agg
  | .fn f caps => (rens ρ caps).map (.fn f)
  | .iface t x => (V.ren ρ x).map (.iface t)
  | .tuple xs => (rens ρ xs).map .tuple
  | .yield => some .yield
  | .unk => some .unk
def rens (ρ : Nat → Option Nat) : List V → Option (List V)
  | [] => some []
  | x :: r => match V.ren ρ x, rens ρ r with
    | some a, some b => some (a :: b)
    | _, _ => none
end

def Blk.ren (ρ : Nat → Option Nat) : Blk → Option Blk
  | .cells cs => (rens ρ cs).map .cells
  | .tok n c => some (.tok n c)
  | .dead => some .dead
  | .hole => some .hole

def renBlks (ρ : Nat → Option Nat) : List Blk → Option (List Blk)
  | [] => some []
  | x :: r => match x.ren ρ, renBlks ρ r with
    | some a, some b => some (a :: b)
    | _, _ => none

mutual
/-- No yield is in it. -/
def V.noY : V → Bool
  | .yield => false
  | .agg cs => noYs cs
  | .fn _ cs => noYs cs
  | .iface _ x => V.noY x
  | .tuple cs => noYs cs
  | _ => true
def noYs : List V → Bool
  | [] => true
  | x :: r => V.noY x && noYs r
end

def Blk.noY : Blk → Bool
  | .cells cs => noYs cs
  | _ => true

/-- The elements of a row of cells. -/
def chunk (n : Nat) : Nat → List P → List P
  | 0, _ => []
  | k + 1, cs => (if n = 0 then cs.headD undefP else .agg (cs.take n)) :: chunk n k (cs.drop (sz n))

mutual
/-- A block is laid open: what named it becomes persistent. -/
def V.open_ (i : Nat) (ps : List P) : V → Option V
  | .p x => some (.p x)
  | .nil n => some (.nil n)
  | .sl n t es => some (.sl n t es)
  | .ref n b off len => if b = i then (if off + len * sz n ≤ ps.length then some (.p (.sl n (chunk n len (ps.drop off)))) else none) else some (.ref n b off len)
  | .ptr b off => if b = i then some (.p (.ptr (ps.drop off))) else some (.ptr b off)
  | .agg cs => (opens i ps cs).map .agg
  | .fn f caps => (opens i ps caps).map (.fn f)
  | .iface t x => (V.open_ i ps x).map (.iface t)
  | .tuple xs => (opens i ps xs).map .tuple
  | .yield => some .yield
  | .unk => some .unk
def opens (i : Nat) (ps : List P) : List V → Option (List V)
  | [] => some []
  | x :: r => match V.open_ i ps x, opens i ps r with
    | some a, some b => some (a :: b)
    | _, _ => none
end

def openBlks (i : Nat) (ps : List P) : List Blk → Option (List Blk)
  | [] => some []
  | .cells cs :: r => match opens i ps cs, openBlks i ps r with
    | some a, some b => some (.cells a :: b)
    | _, _ => none
  | x :: r => (openBlks i ps r).map (x :: ·)

/-! ## Frames -/

/-- The slots that hold something, in order; `n`: how many slots there are. -/
structure Fr where
  n : Nat
  l : List (Nat × V)
  deriving Inhabited

def getF : List (Nat × V) → Nat → V
  | [], _ => .unk
  | (j, x) :: r, i => bif Nat.beq j i then x else getF r i

def putF : List (Nat × V) → Nat → V → List (Nat × V)
  | [], i, x => [(i, x)]
  | (j, y) :: r, i, x => bif Nat.blt i j then (i, x) :: (j, y) :: r else bif Nat.beq i j then (i, x) :: r else (j, y) :: putF r i x

def inL (i : Nat) : List Nat → Bool
  | [] => false
  | j :: r => bif Nat.beq j i then true else inL i r

def keepF (keep : List Nat) : List (Nat × V) → List (Nat × V)
  | [] => []
  | (j, x) :: r => bif inL j keep then (j, x) :: keepF keep r else keepF keep r

def dropF (gone : List Nat) : List (Nat × V) → List (Nat × V)
  | [] => []
  | (j, x) :: r => bif inL j gone then dropF gone r else (j, x) :: dropF gone r

def mapF (f : V → Option V) : List (Nat × V) → Option (List (Nat × V))
  | [] => some []
  | (j, x) :: r => match f x, mapF f r with
    | some y, some s => some ((j, y) :: s)
    | _, _ => none

def numF : Nat → List V → List (Nat × V)
  | _, [] => []
  | i, x :: r => (i, x) :: numF (i + 1) r

def Fr.get (fr : Fr) (i : Nat) : V := getF fr.l i
def Fr.put (fr : Fr) (i : Nat) (x : V) : Fr := bif Nat.blt i fr.n then ⟨fr.n, putF fr.l i x⟩ else fr
def Fr.map? (fr : Fr) (f : V → Option V) : Option Fr := match mapF f fr.l with | some l => some ⟨fr.n, l⟩ | none => none
def Fr.keep (fr : Fr) (k : List Nat) : Fr := ⟨fr.n, keepF k fr.l⟩
def Fr.drop (fr : Fr) : List Nat → Fr
  | [] => fr
  | k => ⟨fr.n, dropF k fr.l⟩
def Fr.vals (fr : Fr) : List V := fr.l.map (·.2)
def Fr.of (n : Nat) (xs : List V) : Fr := ⟨n, numF 0 xs⟩

/-! ## Operations -/

inductive Opd where
  | t (i : Nat)
  | c (x : Value)
  | nil (n : Nat)
  | f (id : Nat)
  deriving Inhabited

inductive Zc where
  | v (x : Value)
  | nil (n : Nat)
  deriving Inhabited

def Zc.toV : Zc → V
  | .v x => .p (.v x)
  | .nil n => .nil n

inductive Md where
  | pure | grow | own
  deriving DecidableEq, Inhabited

inductive AOp where
  | mv (x : Opd)
  | pick (c a b : Opd)
  | alloc (k : Nat) (z : List Zc)
  | box (k : Nat) (x : Opd)
  | build (z : List Zc) (ps : List (Nat × Nat × Opd))
  | lit (md : Md) (k n : Nat) (z : List Zc) (len : Nat) (ps : List (Nat × Opd))
  | load (n : Nat) (a : Opd)
  | store (n : Nat) (a x : Opd)
  | nilck (x : Opd)
  | bin (op : BinOp) (kd : Nat) (x y : Opd)
  | eqs (neg : Bool) (ks : List Nat) (x y : Opd)
  | un (op : UnOp) (x : Opd)
  | conv (k : IntKind) (x : Opd)
  | mkfn (f : Nat) (caps : List Opd)
  | mkslice (md : Md) (k n : Nat) (z : List Zc) (bytes : Nat) (len cap : Opd)
  | slice (n : Nat) (arr : Option Nat) (x : Opd) (lo hi : Option Opd)
  | faddr (off : Nat) (x : Opd)
  | field (off n : Nat) (x : Opd)
  | iaddr (n : Nat) (arr : Option Nat) (x i : Opd)
  | index (n len : Nat) (x i : Opd)
  | strix (x i : Opd)
  | ext (x : Opd) (i : Nat)
  | call (f : Opd) (args : List Opd)
  | len (x : Opd)
  | slen (x : Opd)
  | lenc (n : Nat)
  | app (md : Md) (k n : Nat) (sm : Bool) (x y : Opd)
  | isnil (neg : Bool) (x : Opd)
  | mm (isMax : Bool) (xs : List Opd)
  | mkiface (t : Nat) (x : Opd)
  deriving Inhabited

/-- A computation that reads blocks. -/
inductive RM (α : Type) : Type where
  | ret (a : α)
  | rd (b : Nat) (k : Option Blk → RM α)
  | fail

namespace RM
def bind {α β : Type} : RM α → (α → RM β) → RM β
  | .ret a, f => f a
  | .rd b k, f => .rd b fun x => (k x).bind f
  | .fail, _ => .fail
instance : Monad RM where
  pure := RM.ret
  bind := RM.bind
def run {α : Type} (m : List Blk) : RM α → Option α
  | .ret a => some a
  | .rd b k => (k m[b]?).run m
  | .fail => none
def reads {α : Type} (m : List Blk) : RM α → List Nat
  | .ret _ => []
  | .rd b k => b :: (k m[b]?).reads m
  | .fail => []
def lift {α : Type} : Option α → RM α
  | some a => .ret a
  | none => .fail
end RM

structure Res where
  val : V
  ups : List (Nat × Blk) := []
  extra : List Blk := []

structure Env where
  call : Nat → List V → List Blk → Option (V × List Blk)
  iter : (σ : Type) → (List P → σ → Option (Bool × σ)) → Nat → List V → List Blk → σ → Option σ

def Env.bot : Env := { call := fun _ _ _ => none, iter := fun _ _ _ _ _ _ => none }

def opd (fr : Fr) : Opd → V
  | .t i => fr.get i
  | .c x => .p (.v x)
  | .nil n => .nil n
  | .f id => .p (.fn id [])

def setRange (cs : List V) (off : Nat) (vs : List V) : List V := cs.take off ++ vs ++ cs.drop (off + vs.length)

def getC (b : Nat) : RM (List V) := .rd b fun
  | some (.cells cs) => .ret cs
  | _ => .fail

/-- A place that is laid out for a block, not yet used. -/
def atHole (b : Nat) (r : Res) : RM Res := .rd b fun
  | some .hole => .ret r
  | _ => .fail

def nd : List Nat → Bool
  | [] => true
  | x :: r => !r.contains x && nd r

def i64 (n : Int) : V := .p (.v (.int .i64 n))

def fillV (cs : List V) : List (Nat × Nat × V) → Option (List V)
  | [] => some cs
  | (off, n, x) :: r =>
    match x.cells? with
    | some vs => if vs.length = sz n ∧ off + sz n ≤ cs.length then fillV (setRange cs off vs) r else none
    | none => none

def rep {α : Type} (xs : List α) : Nat → List α
  | 0 => []
  | k + 1 => xs ++ rep xs k

def binI (op : BinOp) (k : IntKind) (a b : Int) : Option Value :=
  match op with
  | .add => some (.int k (k.wrap (a + b)))
  | .sub => some (.int k (k.wrap (a - b)))
  | .mul => some (.int k (k.wrap (a * b)))
  | .quo => if b = 0 then none else some (.int k (k.wrap (a.tdiv b)))
  | .rem => if b = 0 then none else some (.int k (a.tmod b))
  | .and => some (.int k (k.wrap (BitVec.ofInt k.bits a &&& BitVec.ofInt k.bits b).toNat))
  | .or => some (.int k (k.wrap (BitVec.ofInt k.bits a ||| BitVec.ofInt k.bits b).toNat))
  | .xor => some (.int k (k.wrap (BitVec.ofInt k.bits a ^^^ BitVec.ofInt k.bits b).toNat))
  | .andNot => some (.int k (k.wrap (BitVec.ofInt k.bits a &&& ~~~ BitVec.ofInt k.bits b).toNat))
  | .eql => some (.bool (a == b))
  | .neq => some (.bool (a != b))
  | .lss => some (.bool (a < b))
  | .leq => some (.bool (a ≤ b))
  | .gtr => some (.bool (a > b))
  | .geq => some (.bool (a ≥ b))
  | _ => none

def binS (op : BinOp) (x y : ByteArray) : Option Value :=
  let eq := x.toList == y.toList
  let lt := Op.bytesLess x.toList y.toList
  match op with
  | .add => if x.size + y.size ≤ 1073741824 then some (.string (x ++ y)) else none
  | .eql => some (.bool eq)
  | .neq => some (.bool !eq)
  | .lss => some (.bool lt)
  | .leq => some (.bool (lt || eq))
  | .gtr => some (.bool !(lt || eq))
  | .geq => some (.bool !lt)
  | _ => none

def binV (op : BinOp) : Nat → Value → Value → Option Value
  | 0, .int k a, .int k' b =>
    match op with
    | .shl => if b < 0 then none else some (.int k (k.wrap (a * 2 ^ (min b.toNat k.bits))))
    | .shr => if b < 0 then none else some (.int k (a.fdiv (2 ^ (min b.toNat k.bits))))
    | op => if k = k' then binI op k a b else none
  | 2, .string a, .string b => binS op a b
  | 1, .bool a, .bool b =>
    match op with
    | .eql => some (.bool (a == b))
    | .neq => some (.bool !(a == b))
    | _ => none
  | _, _, _ => none

/-- Are two rows of scalars equal? The kinds: 0 a whole number, 1 a bool, 2 a string. -/
def eqCells : List Nat → List V → List V → Option Bool
  | [], [], [] => some true
  | 0 :: ks, .p (.v (.int k a)) :: r, .p (.v (.int k' b)) :: s => if k = k' then (if a = b then eqCells ks r s else (eqCells ks r s).map fun _ => false) else none
  | 1 :: ks, .p (.v (.bool a)) :: r, .p (.v (.bool b)) :: s => if a = b then eqCells ks r s else (eqCells ks r s).map fun _ => false
  | 2 :: ks, .p (.v (.string a)) :: r, .p (.v (.string b)) :: s => if a.toList == b.toList then eqCells ks r s else (eqCells ks r s).map fun _ => false
  | _, _, _ => none

def unV (op : UnOp) : Value → Option Value
  | .int k n =>
    match op with
    | .neg => some (.int k (k.wrap (0 - n)))
    | .xor => some (.int k (k.wrap (BitVec.ofInt k.bits (if k.signed then -1 else k.max) ^^^ BitVec.ofInt k.bits n).toNat))
    | _ => none
  | .bool b =>
    match op with
    | .not => some (.bool !b)
    | _ => none
  | _ => none

def mmV (isMax : Bool) : V → List V → Option V
  | x, [] => some x
  | .p (.v (.int k a)), .p (.v (.int k' b)) :: r => if k = k' then mmV isMax (.p (.v (.int k (if isMax then (if b > a then b else a) else (if b < a then b else a))))) r else none
  | _, _ => none

def bound (x : Opd) (fr : Fr) : Option Nat :=
  match opd fr x with
  | .p (.v (.int _ i)) => if 0 ≤ i then some i.toNat else none
  | _ => none

/-- All blocks that can be come to, each once; what was seen stands behind. -/
def reach : Nat → List Nat → List Nat → RM (List Nat)
  | _, [], seen => .ret seen.reverse
  | 0, _ :: _, _ => .fail
  | k + 1, b :: r, seen =>
    if seen.contains b then reach k r seen else
    .rd b fun
      | some (.cells cs) => reach k (idss cs ++ r) (b :: seen)
      | some (.tok _ _) => reach k r (b :: seen)
      | _ => .fail

def readAll : List Nat → RM (List Blk)
  | [] => .ret []
  | b :: r => .rd b fun
    | some x => (readAll r).bind fun l => .ret (x :: l)
    | none => .fail

def back (idx : List Nat) (len : Nat) (i : Nat) : Option Nat := if i < idx.length then idx[i]? else some (len + (i - idx.length))

/-- The elements of a source of append. -/
def srcOf (n : Nat) : V → RM (List P)
  | .p (.sl n' es) => if n' = n then .ret es else .fail
  | .sl n' _ es => if n' = n then .ret es else .fail
  | .nil n' => if n' = n then .ret [] else .fail
  | .p (.v (.slice _ 0 _)) => .ret []
  | .ref n' b off len => if n' = n then (getC b).bind fun cs => if off + len * sz n ≤ cs.length then
      match toPs ((cs.drop off).take (len * sz n)) with
      | some ps => .ret (chunk n len ps)
      | none => .fail
    else .fail else .fail
  | _ => .fail

/-- The cells of a source of append. -/
def srcCells (n : Nat) : V → RM (List V)
  | .p (.sl n' es) => if n' = n then .ret ((es.flatMap P.cells).map V.p) else .fail
  | .sl n' _ es => if n' = n then .ret ((es.flatMap P.cells).map V.p) else .fail
  | .nil n' => if n' = n then .ret [] else .fail
  | .ref n' b off len => if n' = n then (getC b).bind fun cs => if off + len * sz n ≤ cs.length then .ret ((cs.drop off).take (len * sz n)) else .fail else .fail
  | _ => .fail

def most : Nat := 1073741824
/-- How long a slice may grow: `sm`: its elements take eight bytes at most. -/
def mostOf (sm : Bool) : Nat := bif sm then 17592186043904 else most

/-- A call of a function: with persistent arguments alone, or with the blocks that they come to, numbered anew. `len`: how many blocks the caller has. -/
def callF (E : Env) (len : Nat) (f : Nat) (args : List V) : RM Res :=
  (reach 1000 (idss args) []).bind fun idx => (readAll idx).bind fun bs =>
    if nd idx && noYs args && bs.all Blk.noY then match rens (fun i => idx.idxOf? i) args, renBlks (fun i => idx.idxOf? i) bs with
    | some as, some ms =>
      match E.call f as ms with
      | some (r, m2) =>
        if idx.length ≤ m2.length then
          match r.ren (back idx len), renBlks (back idx len) m2 with
          | some r', some m2' => .ret { val := r', ups := idx.zip (m2'.take idx.length), extra := m2'.drop idx.length }
          | _, _ => .fail
        else .fail
      | none => .fail
    | _, _ => .fail
    else .fail

/-- What a call answers that panics with a struct of whole numbers. -/
def intP (n : Int) : P := .v (.int .i64 n)
def panV (t : Nat) (xs : List Int) : V := .tuple [.yield, .p (.iface t (.agg (xs.map intP)))]
def intsOf : List P → Option (List Int)
  | [] => some []
  | .v (.int .i64 n) :: r => (intsOf r).map (n :: ·)
  | _ :: _ => none
def V.pan? : V → Option (Nat × List Int)
  | .tuple (.yield :: .p (.iface t (.agg ps)) :: _) => (intsOf ps).map fun xs => (t, xs)
  | _ => none
/-- A call that does not panic. -/
def calm (r : Res) : RM Res := match r.val.pan? with
  | none => .ret r
  | some _ => .fail

/-- A field of a struct. -/
def fieldOf (len off n : Nat) : V → Option V
  | .agg cs => if cs.length ≠ len then none else if n = 0 then cs[off]? else if off + n ≤ cs.length then some (.agg ((cs.drop off).take n)) else none
  | .p (.agg ps) => if ps.length ≠ len then none else if n = 0 then ps[off]?.map V.p else if off + n ≤ ps.length then some (.p (.agg ((ps.drop off).take n))) else none
  | _ => none
/-- A copy of an empty slice, which may be nil or not. -/
def splitR (id : Nat) (args : List V) (mem : List Blk) : Option (V × List Blk) := bif Nat.ble 6000000 id && Nat.blt id 7000000 then match args, mem with
  | [.p (.sl n [])], [] => some (.p (.sl n []), [])
  | _, _ => none
  else none

/-- A value that is called: the function and what it has captured. -/
def callee : V → Option (Nat × List V)
  | .p (.fn f caps) => some (f, caps.map .p)
  | .fn f caps => some (f, caps)
  | _ => none

/-- Arguments are handed on as data where they are data. -/
def V.strip (x : V) : V := match x.toP with | some q => .p q | none => x

def exec1 (E : Env) (base len : Nat) (fr : Fr) : AOp → RM Res
  | .mv x => .ret { val := opd fr x }
  | .pick c a b => match opd fr c with
    | .p (.v (.bool c)) => .ret { val := if c then opd fr a else opd fr b }
    | _ => .fail
  | .alloc k z => atHole (base + k) { val := .ptr (base + k) 0, ups := [(base + k, .cells (z.map Zc.toV))] }
  | .box k x => match (opd fr x).cells? with
    | some cs => atHole (base + k) { val := .ptr (base + k) 0, ups := [(base + k, .cells cs)] }
    | none => .fail
  | .build z ps => match fillV (z.map Zc.toV) (ps.map fun (o, n, x) => (o, n, opd fr x)) with
    | some cs => .ret { val := .agg cs }
    | none => .fail
  | .lit md k n z len ps => match fillV (rep (z.map Zc.toV) len) (ps.map fun (i, x) => (i * sz n, n, opd fr x)) with
    | some cs => if len = 0 then .ret { val := .nil n } else match md with
      | .pure => match toPs cs with
        | some l => .ret { val := .p (.sl n (chunk n len l)) }
        | none => .fail
      | .grow => match toPs cs with
        | some l => atHole (base + k) { val := .sl n (base + k) (chunk n len l), ups := [(base + k, .tok n len)] }
        | none => .fail
      | .own => atHole (base + k) { val := .ref n (base + k) 0 len, ups := [(base + k, .cells cs)] }
    | none => .fail
  | .load n a => match opd fr a with
    | .ptr b off => (getC b).bind fun cs => if n = 0 then RM.lift (cs[off]?.map fun x => { val := x }) else if off + n ≤ cs.length then .ret { val := .agg ((cs.drop off).take n) } else .fail
    | .p (.ptr ps) => if n = 0 then RM.lift (ps.head?.map fun x => { val := .p x }) else if n ≤ ps.length then .ret { val := .p (.agg (ps.take n)) } else .fail
    | _ => .fail
  | .store n a x => match opd fr a, (opd fr x).cells? with
    | .ptr b off, some vs => (getC b).bind fun cs => if vs.length = sz n ∧ off + sz n ≤ cs.length then .ret { val := undefV, ups := [(b, .cells (setRange cs off vs))] } else .fail
    | _, _ => .fail
  | .nilck x => match opd fr x with
    | .ptr b off => .ret { val := .ptr b off }
    | .p (.ptr ps) => .ret { val := .p (.ptr ps) }
    | .p (.fn f caps) => if f < 3000000000 then .ret { val := .p (.fn f caps) } else .fail
    | .fn f caps => if f < 3000000000 then .ret { val := .fn f caps } else .fail
    | .yield => .ret { val := .yield }
    | _ => .fail
  | .bin op kd x y => match opd fr x, opd fr y with
    | .p (.v a), .p (.v b) => RM.lift ((binV op kd a b).map fun r => { val := .p (.v r) })
    | _, _ => .fail
  | .eqs neg ks x y => match (opd fr x).agg?, (opd fr y).agg? with
    | some a, some b => RM.lift ((eqCells ks a b).map fun r => { val := .p (.v (.bool (r != neg))) })
    | _, _ => .fail
  | .un op x => match opd fr x with
    | .p (.v a) => RM.lift ((unV op a).map fun r => { val := .p (.v r) })
    | _ => .fail
  | .conv k x => match opd fr x with
    | .p (.v (.int _ n)) => .ret { val := .p (.v (.int k (k.wrap n))) }
    | _ => .fail
  | .mkfn f caps => .ret { val := .fn f (caps.map (opd fr)) }
  | .mkslice md k n z bytes l c => match bound l fr, bound c fr with
    | some l, some c => if l ≤ c ∧ c ≤ most ∧ bytes ≤ 65536 then match md with
      | .own => atHole (base + k) { val := .ref n (base + k) 0 l, ups := [(base + k, .cells (rep (z.map Zc.toV) l))] }
      | .grow => if l = 0 then atHole (base + k) { val := .sl n (base + k) [], ups := [(base + k, .tok n 0)] } else .fail
      | .pure => if l = c then match toPs (rep (z.map Zc.toV) l) with
        | some ps => .ret { val := .p (.sl n (chunk n l ps)) }
        | none => .fail
        else .fail
      else .fail
    | _, _ => .fail
  | .slice n arr x lo hi =>
    match lo.elim (some 0) (bound · fr) with
    | none => .fail
    | some l =>
      match arr, opd fr x with
      | none, .p (.sl n' es) => match hi.elim (some es.length) (bound · fr) with
        | some h => if n' = n ∧ l ≤ h ∧ h ≤ es.length then .ret { val := .p (.sl n ((es.take h).drop l)) } else .fail
        | none => .fail
      | none, .sl n' _ es => match hi.elim (some es.length) (bound · fr) with
        | some h => if n' = n ∧ l ≤ h ∧ h ≤ es.length then .ret { val := .p (.sl n ((es.take h).drop l)) } else .fail
        | none => .fail
      | none, .nil n' => match hi.elim (some 0) (bound · fr) with
        | some h => if n' = n ∧ l = 0 ∧ h = 0 then .ret { val := .nil n } else .fail
        | none => .fail
      | none, .ref n' b off len => match hi.elim (some len) (bound · fr) with
        | some h => if n' = n ∧ l ≤ h ∧ h ≤ len then .ret { val := .ref n b (off + l * sz n) (h - l) } else .fail
        | none => .fail
      | some len, .ptr b off => match hi.elim (some len) (bound · fr) with
        | some h => if l ≤ h ∧ h ≤ len then (getC b).bind fun cs => if off + len * sz n ≤ cs.length then .ret { val := .ref n b (off + l * sz n) (h - l) } else .fail else .fail
        | none => .fail
      | some len, .p (.ptr ps) => match hi.elim (some len) (bound · fr) with
        | some h => if l ≤ h ∧ h ≤ len ∧ len * sz n ≤ ps.length then .ret { val := .p (.sl n (chunk n (h - l) (ps.drop (l * sz n)))) } else .fail
        | none => .fail
      | _, _ => .fail
  | .faddr off x => match opd fr x with
    | .ptr b o => .ret { val := .ptr b (o + off) }
    | .p (.ptr ps) => .ret { val := .p (.ptr (ps.drop off)) }
    | _ => .fail
  | .field off n x => match opd fr x with
    | .agg cs => if n = 0 then RM.lift (cs[off]?.map fun x => { val := x }) else if off + n ≤ cs.length then .ret { val := .agg ((cs.drop off).take n) } else .fail
    | .p (.agg ps) => if n = 0 then RM.lift (ps[off]?.map fun x => { val := .p x }) else if off + n ≤ ps.length then .ret { val := .p (.agg ((ps.drop off).take n)) } else .fail
    | _ => .fail
  | .iaddr n arr x i => match bound i fr with
    | none => .fail
    | some j => match arr, opd fr x with
      | none, .p (.sl n' es) => if n' = n then RM.lift (es[j]?.map fun e => { val := .p (.ptr e.cells) }) else .fail
      | none, .sl n' _ es => if n' = n then RM.lift (es[j]?.map fun e => { val := .p (.ptr e.cells) }) else .fail
      | none, .ref n' b off len => if n' = n ∧ j < len then .ret { val := .ptr b (off + j * sz n) } else .fail
      | some len, .ptr b off => if j < len then .ret { val := .ptr b (off + j * sz n) } else .fail
      | some len, .p (.ptr ps) => if j < len then .ret { val := .p (.ptr (ps.drop (j * sz n))) } else .fail
      | _, _ => .fail
  | .index n len x i => match bound i fr with
    | none => .fail
    | some j => if j < len then match opd fr x with
      | .agg cs => if n = 0 then RM.lift (cs[j]?.map fun x => { val := x }) else if j * n + n ≤ cs.length then .ret { val := .agg ((cs.drop (j * n)).take n) } else .fail
      | .p (.agg ps) => if n = 0 then RM.lift (ps[j]?.map fun x => { val := .p x }) else if j * n + n ≤ ps.length then .ret { val := .p (.agg ((ps.drop (j * n)).take n)) } else .fail
      | _ => .fail
      else .fail
  | .strix x i => match bound i fr, opd fr x with
    | some j, .p (.v (.string s)) => RM.lift (s[j]?.map fun b => { val := .p (.v (.int .u8 b.toNat)) })
    | _, _ => .fail
  | .ext x i => match opd fr x with
    | .tuple xs => RM.lift (xs[i]?.map fun x => { val := x })
    | .p (.tuple xs) => RM.lift (xs[i]?.map fun x => { val := .p x })
    | _ => .fail
  | .call f args => match callee (opd fr f) with
    | some (id, caps) => if 3000000000 ≤ id ∧ caps ≠ [] then .fail else (callF E len id ((args.map fun x => (opd fr x).strip) ++ caps.map V.strip)).bind calm
    | none => .fail
  | .len x => match opd fr x with
    | .p (.sl _ es) => .ret { val := i64 es.length }
    | .sl _ _ es => .ret { val := i64 es.length }
    | .nil _ => .ret { val := i64 0 }
    | .ref _ _ _ l => .ret { val := i64 l }
    | _ => .fail
  | .slen x => match opd fr x with
    | .p (.v (.string s)) => .ret { val := i64 s.size }
    | _ => .fail
  | .lenc n => .ret { val := i64 n }
  | .app md k n sm x y => match md, opd fr x with
    | .own, .nil n' => if n' = n then (srcCells n (opd fr y)).bind fun vs => if vs.length = 0 then .ret { val := .nil n } else
        if vs.length ≤ mostOf sm then atHole (base + k) { val := .ref n (base + k) 0 (vs.length / sz n), ups := [(base + k, .cells vs)] } else .fail else .fail
    | .own, .ref n' b off l => if n' = n ∧ off = 0 then (getC b).bind fun cs => if l * sz n ≤ cs.length then (srcCells n (opd fr y)).bind fun vs =>
        if l * sz n + vs.length ≤ mostOf sm then atHole (base + k) { val := .ref n (base + k) 0 ((l * sz n + vs.length) / sz n), ups := [(b, .dead), (base + k, .cells (cs.take (l * sz n) ++ vs))] } else .fail else .fail else .fail
    | .grow, .nil n' => if n' = n then (srcOf n (opd fr y)).bind fun es => if es.length = 0 then .ret { val := .nil n } else
        if es.length ≤ mostOf sm then atHole (base + k) { val := .sl n (base + k) es, ups := [(base + k, .tok n es.length)] } else .fail else .fail
    | .grow, .sl n' t es => if n' = n then .rd t fun
        | some (.tok n'' c) => if n'' = n ∧ c = es.length then (srcOf n (opd fr y)).bind fun xs =>
            if es.length + xs.length ≤ mostOf sm then .ret { val := .sl n t (es ++ xs), ups := [(t, .tok n (es.length + xs.length))] } else .fail else .fail
        | _ => .fail else .fail
    | _, _ => .fail
  | .isnil neg x => match opd fr x with
    | .p (.sl _ (_ :: _)) => .ret { val := .p (.v (.bool neg)) }
    | .sl _ _ (_ :: _) => .ret { val := .p (.v (.bool neg)) }
    | .ref _ _ _ (_ + 1) => .ret { val := .p (.v (.bool neg)) }
    | .p (.v (.slice a _ _)) => .ret { val := .p (.v (.bool (a.isNone != neg))) }
    | _ => .fail
  | .mm isMax xs => match xs.map (opd fr) with
    | x :: r => RM.lift ((mmV isMax x r).map fun v => { val := v })
    | [] => .fail
  | .mkiface t x => match opd fr x with
    | .p x => .ret { val := .p (.iface t x) }
    | v => .ret { val := .iface t v }

/-! ## Regions and code -/

structure AO where
  dst : Option Nat
  op : AOp
  guard : Option (Nat × Bool) := none
  after : List Nat := []
  deriving Inhabited

structure Reg where
  id : Nat
  ops : List AO
  draw : Bool := false
  na : Nat := 0
  pre : List Nat := []
  kill : List Nat := []
  deriving Inhabited

/-- A part of a region that ends in a call that may panic. -/
structure Seg where
  r : Reg
  f : Opd
  args : List Opd
  d : Option Nat
  deriving Inhabited

inductive AC where
  | skip
  | reg (r : Reg)
  | seq (a b : AC)
  | cond (c : Opd) (thn els : AC)
  | block (id : Nat) (body : AC)
  | loop (keep lift : List Nat) (body : AC)
  | range (f : Opd) (params lift : List Nat) (assign body : AC)
  | exit (id : Nat)
  | ret
  | tryc (segs : List Seg) (last : Reg)
  | pani (r : Reg) (x : Opd)
  | dfr (r : Reg) (f : Nat) (x t n : Nat) (body : AC)
  deriving Inhabited

inductive Ex where
  | normal
  | exit (id : Nat)
  | ret
  | pan (t : Nat) (xs : List Int)
  deriving DecidableEq, Inhabited

structure St where
  fr : Fr
  mem : List Blk
  deriving Inhabited

def putD (fr : Fr) (d : Option Nat) (x : V) : Fr := match d with
  | some d => fr.put d x
  | none => fr

def applyUps (m : List Blk) : List (Nat × Blk) → List Blk
  | [] => m
  | (i, b) :: r => applyUps (m.set i b) r

/-- Does the guard let the operation run? -/
def wants (fr : Fr) : Option (Nat × Bool) → Option Bool
  | none => some true
  | some (d, w) => match fr.get d with
    | .p (.v (.bool b)) => some (b == w)
    | .p (.v _) => some false
    | _ => none

/-- One operation; a call of yield is taken apart. -/
def step1 (E : Env) {σ : Type} (Y : List P → σ → Option (Bool × σ)) (base : Nat) (o : AO) (st : St) (s : σ) : Option (St × σ) :=
  match wants st.fr o.guard with
  | some true =>
    match o.op with
    | .call f args =>
      match opd st.fr f with
      | .yield => match toPs (args.map (opd st.fr)) with
        | some ps => match Y ps s with
          | some (b, s') => some (⟨putD st.fr o.dst (.p (.v (.bool b))), st.mem⟩, s')
          | none => none
        | none => none
      | _ => match (exec1 E base st.mem.length st.fr o.op).run st.mem with
        | some r => some (⟨putD st.fr o.dst r.val, applyUps st.mem r.ups ++ r.extra⟩, s)
        | none => none
    | _ => match (exec1 E base st.mem.length st.fr o.op).run st.mem with
      | some r => some (⟨putD st.fr o.dst r.val, applyUps st.mem r.ups ++ r.extra⟩, s)
      | none => none
  | some false => some (⟨putD st.fr o.dst undefV, st.mem⟩, s)
  | none => none

def runOps (E : Env) {σ : Type} (Y : List P → σ → Option (Bool × σ)) (base : Nat) : List AO → St → σ → Option (St × σ)
  | [], st, s => some (st, s)
  | o :: r, st, s => match step1 E Y base o st s with
    | some (st', s') => runOps E Y base r st' s'
    | none => none

/-! ### A region whose order is open -/

def Opd.slots : Opd → List Nat
  | .t i => [i]
  | _ => []

def AOp.slots : AOp → List Nat
  | .mv x | .box _ x | .load _ x | .nilck x | .un _ x | .conv _ x | .faddr _ x | .field _ _ x | .ext x _ | .len x | .slen x | .isnil _ x | .mkiface _ x => x.slots
  | .pick c a b => c.slots ++ a.slots ++ b.slots
  | .alloc _ _ | .lenc _ => []
  | .build _ ps => ps.flatMap fun (_, _, x) => x.slots
  | .lit _ _ _ _ _ ps => ps.flatMap fun (_, x) => x.slots
  | .store _ x y | .bin _ _ x y | .eqs _ _ x y | .iaddr _ _ x y | .index _ _ x y | .strix x y | .app _ _ _ _ x y | .mkslice _ _ _ _ _ x y => x.slots ++ y.slots
  | .mkfn _ xs | .mm _ xs => xs.flatMap Opd.slots
  | .slice _ _ x lo hi => x.slots ++ lo.elim [] Opd.slots ++ hi.elim [] Opd.slots
  | .call f xs => f.slots ++ xs.flatMap Opd.slots

/-- What an operation reads and writes: slots, blocks. -/
structure Foot where
  rs : List Nat
  ws : List Nat
  rb : List Nat
  wb : List Nat
  deriving Inhabited

def meets (a b : List Nat) : Bool := a.any b.contains

def Foot.clash (a b : Foot) : Bool := meets a.ws b.ws || meets a.ws b.rs || meets a.rs b.ws || meets a.wb b.wb || meets a.wb b.rb || meets a.rb b.wb

/-- One operation of such a region: no yield, no block beside those laid out ahead. -/
def stepD (E : Env) (base : Nat) (o : AO) (st : St) : Option (St × Foot) :=
  let gs := o.guard.elim [] fun g => [g.1]
  match wants st.fr o.guard with
  | some true =>
    let x := exec1 E base st.mem.length st.fr o.op
    match x.run st.mem with
    | some r => if r.extra.isEmpty && r.ups.all (fun u => u.1 < st.mem.length) then
        some (⟨putD st.fr o.dst r.val, applyUps st.mem r.ups⟩, { rs := gs ++ o.op.slots, ws := o.dst.elim [] fun d => [d], rb := x.reads st.mem, wb := r.ups.map (·.1) })
      else none
    | none => none
  | some false => some (⟨putD st.fr o.dst undefV, st.mem⟩, { rs := gs, ws := o.dst.elim [] fun d => [d], rb := [], wb := [] })
  | none => none

/-- Whatever is not ordered must not clash. `done`: the operations so far, the last one first, each with all that stands ahead of it. -/
def ordered (up : List (List Nat)) (j : Nat) (i : Nat) : Bool := (up.getD i []).contains j

def runD (E : Env) (base : Nat) : Nat → List AO → St → List (Nat × Foot) → List (List Nat) → Option St
  | _, [], st, _, _ => some st
  | i, o :: r, st, done, ups =>
    match stepD E base o st with
    | some (st', f) =>
      let up := o.after ++ o.after.flatMap fun j => ups.getD j []
      if done.all fun (j, g) => up.contains j || !(g.clash f) then runD E base (i + 1) r st' ((i, f) :: done) (ups ++ [up]) else none
    | none => none

/-! ### Blocks that become persistent; blocks that are dropped -/

def freeze1 (i : Nat) (st : St) : Option St :=
  match st.mem[i]? with
  | some (.cells cs) => match toPs cs with
    | some ps => match st.fr.map? (V.open_ i ps), openBlks i ps (st.mem.set i .dead) with
      | some fr, some mem => some ⟨fr, mem⟩
      | _, _ => none
    | none => none
  | _ => some st

def freezeAll : List Nat → St → Option St
  | [], st => some st
  | i :: r, st => (freeze1 i st).bind (freezeAll r)

/-- The blocks of cells under some values, the innermost first. -/
def inner (m : List Blk) : Nat → List Nat → List Nat → List Nat
  | _, [], seen => seen
  | 0, _ :: _, seen => seen
  | k + 1, b :: r, seen =>
    if seen.contains b then inner m k r seen else
    match m[b]? with
    | some (.cells cs) => inner m k (idss cs ++ r) (b :: seen)
    | _ => inner m k r seen

def freezeSlots (l : List Nat) (st : St) : Option St :=
  match l with
  | [] => some st
  | l => freezeAll (inner st.mem 1000 (l.flatMap fun i => (st.fr.get i).ids) []) st

/-- A nil slice that is to grow gets its place; in a slot, or in the one cell of the block that a slot points to. -/
def lift1 (d : Nat) (st : St) : St :=
  match st.fr.get d with
  | .nil n => ⟨st.fr.put d (.sl n st.mem.length []), st.mem ++ [.tok n 0]⟩
  | .ptr b off => match st.mem[b]? with
    | some (.cells cs) => match cs[off]? with
      | some (.nil n) => ⟨st.fr, st.mem.set b (.cells (cs.set off (.sl n st.mem.length []))) ++ [.tok n 0]⟩
      | _ => st
    | _ => st
  | _ => st

def liftAll : List Nat → St → St
  | [], st => st
  | d :: r, st => liftAll r (lift1 d st)

def keepOnly (keep : List Nat) (fr : Fr) : Fr := fr.keep keep

/-- The blocks that are kept: the first `n0`, and what can be come to. -/
def gcIdx (n0 : Nat) (roots : List V) (m : List Blk) : Option (List Nat) :=
  (reach 100000 (((List.range n0).filter fun i => match m[i]? with | some (.cells _) => true | some (.tok _ _) => true | _ => false) ++ idss roots) []).run m |>.map fun l =>
    List.range n0 ++ l.filter fun i => n0 ≤ i

def gc (n0 : Nat) (st : St) : Option St :=
  match gcIdx n0 st.fr.vals st.mem with
  | some idx =>
    match st.fr.map? (V.ren fun i => idx.idxOf? i), renBlks (fun i => idx.idxOf? i) (idx.map fun i => st.mem.getD i .dead) with
    | some fr, some mem => if idx.all (· < st.mem.length) && nd idx then some ⟨fr, mem⟩ else none
    | _, _ => none
  | none => none

def runReg (E : Env) {σ : Type} (Y : List P → σ → Option (Bool × σ)) (r : Reg) (st : St) (s : σ) : Option (St × σ) :=
  match freezeSlots r.pre st with
  | some st =>
    let st' : St := ⟨st.fr, st.mem ++ List.replicate r.na .hole⟩
    match (if r.draw then (runD E st.mem.length 0 r.ops st' [] []).map fun st => (st, s) else runOps E Y st.mem.length r.ops st' s) with
    | some (st2, s2) => some (⟨st2.fr.drop r.kill, st2.mem⟩, s2)
    | none => none
  | none => none

def loopN {σ : Type} (head : St → Option St) (body : St → σ → Option (Ex × St × σ)) : Nat → St → σ → Option (Ex × St × σ)
  | 0, _, _ => none
  | k + 1, st, s => match head st with
    | some st => match body st s with
      | some (.normal, st', s') => loopN head body k st' s'
      | r => r
    | none => none

/-- Where a range over a function stands: the memory, and how a round was left early. -/
structure Rg (σ : Type) where
  mem : List Blk
  out : Ex := .normal
  s : σ

def setMany (fr : Fr) : List Nat → List V → Fr
  | i :: r, x :: s => setMany (fr.put i x) r s
  | _, _ => fr

def Ex.isPan : Ex → Bool
  | .pan _ _ => true
  | _ => false

/-- A call that may panic. -/
def tryO (E : Env) {σ : Type} (f : Opd) (args : List Opd) (d : Option Nat) (st : St) (s : σ) : Option (Ex × St × σ) :=
  match callee (opd st.fr f) with
  | some (id, caps) => if 3000000000 ≤ id ∧ caps ≠ [] then none else match (callF E st.mem.length id ((args.map fun x => (opd st.fr x).strip) ++ caps.map V.strip)).run st.mem with
    | some r => match r.val.pan? with
      | some (t, xs) => some (.pan t xs, ⟨st.fr, applyUps st.mem r.ups ++ r.extra⟩, s)
      | none => some (.normal, ⟨putD st.fr d r.val, applyUps st.mem r.ups ++ r.extra⟩, s)
    | none => none
  | none => none

/-- The parts of a region, one after the other. -/
def trySegs (E : Env) {σ : Type} (Y : List P → σ → Option (Bool × σ)) (last : Reg) : List Seg → St → σ → Option (Ex × St × σ)
  | [], st, s => match runReg E Y last st s with
    | some (st, s) => some (.normal, st, s)
    | none => none
  | g :: l, st, s => match runReg E Y g.r st s with
    | some (st1, s1) => match tryO E g.f g.args g.d st1 s1 with
      | some (.normal, st2, s2) => trySegs E Y last l st2 s2
      | r => r
    | none => none

/-- A panic. -/
def paniO {σ : Type} (x : Opd) (st : St) (s : σ) : Option (Ex × St × σ) :=
  match (opd st.fr x).toP with
  | some (.iface t (.agg ps)) => match intsOf ps with
    | some xs => some (.pan t xs, st, s)
    | none => none
  | _ => none

/-- What is left of a function's body whose panics are caught: the numbers are laid behind a pointer. -/
def dfrO {σ : Type} (x t n : Nat) : Option (Ex × St × σ) → Option (Ex × St × σ)
  | some (.normal, st, s) => some (.ret, st, s)
  | some (.ret, st, s) => some (.ret, st, s)
  | some (.pan t' xs, st, s) => if t' = t ∧ xs.length = sz n then match st.fr.get x with
    | .ptr b off => match st.mem[b]? with
      | some (.cells cs) => if off + sz n ≤ cs.length then some (.ret, ⟨st.fr, st.mem.set b (.cells (setRange cs off (xs.map i64)))⟩, s) else none
      | _ => none
    | _ => none
    else none
  | _ => none

def runC (E : Env) {σ : Type} (Y : List P → σ → Option (Bool × σ)) (n0 k : Nat) : AC → St → σ → Option (Ex × St × σ)
  | .skip, st, s => some (.normal, st, s)
  | .reg r, st, s => match runReg E Y r st s with
    | some (st, s) => some (.normal, st, s)
    | none => none
  | .seq a b, st, s => match runC E Y n0 k a st s with
    | some (.normal, st', s') => runC E Y n0 k b st' s'
    | r => r
  | .cond c a b, st, s => match opd st.fr c with
    | .p (.v (.bool true)) => runC E Y n0 k a st s
    | .p (.v (.bool false)) => runC E Y n0 k b st s
    | _ => none
  | .block id a, st, s => match runC E Y n0 k a st s with
    | some (.exit id', st', s') => if id' = id then some (.normal, st', s') else some (.exit id', st', s')
    | r => r
  | .loop keep lift a, st, s => loopN (fun st => gc n0 (liftAll lift ⟨keepOnly keep st.fr, st.mem⟩)) (fun st s => runC E Y n0 k a st s) k st s
  | .exit id, st, s => some (.exit id, st, s)
  | .ret, st, s => some (.ret, st, s)
  | .range f params lift assign body, st0, s =>
    let st := liftAll lift st0
    match callee (opd st.fr f) with
    | none => none
    | some (id, caps) =>
      if 3000000000 ≤ id then none else
      match ((reach 1000 (idss caps) []).bind fun idx => (readAll idx).bind fun bs => .ret (idx, bs)).run st.mem with
      | none => none
      | some (idx, bs) =>
        match rens (fun i => idx.idxOf? i) caps, renBlks (fun i => idx.idxOf? i) bs with
        | some as, some ms => if nd idx && noYs caps && bs.all Blk.noY then
          let m0 := applyUps st.mem (idx.map fun i => (i, Blk.dead))
          let Y' : List P → Rg σ → Option (Bool × Rg σ) := fun ps g =>
            if g.out = .normal ∧ ps.length = params.length then
              match runC E Y m0.length k assign ⟨setMany st.fr params (ps.map V.p), g.mem⟩ g.s with
              | some (.normal, st1, s1) => match runC E Y m0.length k body st1 s1 with
                | some (ex, st2, s2) => if ex.isPan then none else match gc m0.length ⟨⟨0, []⟩, st2.mem⟩ with
                  | some st3 => some (ex == .normal, ⟨st3.mem, ex, s2⟩)
                  | none => none
                | none => none
              | _ => none
            else none
          match E.iter (Rg σ) Y' id (.yield :: as) ms ⟨m0, .normal, s⟩ with
          | some g => if g.out.isPan then none else some (g.out, ⟨st.fr, g.mem⟩, g.s)
          | none => none
          else none
        | _, _ => none
  | .tryc segs last, st, s => trySegs E Y last segs st s
  | .pani r x, st, s => match runReg E Y r st s with
    | some (st1, s1) => paniO x st1 s1
    | none => none
  | .dfr r _ x t n body, st, s => match runReg E Y r st s with
    | some (st1, s1) => match st1.fr.get x with
      | .ptr _ _ => dfrO x t n (runC E Y n0 k body st1 s1)
      | _ => none
    | none => none

/-! ## Functions -/

inductive ARes where
  | tmp (i : Nat)
  | cell (i n : Nat)
  deriving Inhabited

structure AFn where
  nt : Nat
  res : List ARes
  code : AC
  keep : Bool := false
  deriving Inhabited

def resV (st : St) : ARes → Option V
  | .tmp i => some (st.fr.get i)
  | .cell i n => match st.fr.get i with
    | .ptr b off => match st.mem[b]? with
      | some (.cells cs) => if n = 0 then cs[off]? else if off + n ≤ cs.length then some (.agg ((cs.drop off).take n)) else none
      | _ => none
    | .p (.ptr ps) => if n = 0 then ps.head?.map V.p else if n ≤ ps.length then some (.p (.agg (ps.take n))) else none
    | _ => none

def resVs (st : St) : List ARes → Option (List V)
  | [] => some []
  | r :: l => match resV st r, resVs st l with
    | some a, some b => some (a :: b)
    | _, _ => none

def oneOrTuple : List V → V
  | [x] => x
  | l => .tuple l

/-- What a function hands back: laid open (unless `keep`), with what is left of its memory. -/
def finish (af : AFn) (n0 : Nat) (st : St) : Option (V × List Blk) :=
  match resVs st af.res with
  | none => none
  | some vs =>
    let r := oneOrTuple vs
    match (if af.keep then some (⟨Fr.of 1 [r], st.mem⟩ : St) else freezeAll (inner st.mem 1000 (r.ids.filter fun i => n0 ≤ i) []) ⟨Fr.of 1 [r], st.mem⟩) with
    | none => none
    | some st1 => match st1.fr.map? (fun x => some x.strip) with
      | some fr => match gc n0 ⟨fr, st1.mem⟩ with
        | some st2 => some (st2.fr.get 0, st2.mem)
        | none => none
      | none => none

def runFn (E : Env) {σ : Type} (Y : List P → σ → Option (Bool × σ)) (k : Nat) (af : AFn) (args : List V) (mem : List Blk) (s : σ) : Option (V × List Blk × σ) :=
  if af.nt < args.length then none else
  match runC E Y mem.length k af.code ⟨Fr.of af.nt args, mem⟩ s with
  | some (.normal, st, s') => match finish af mem.length st with
    | some (v, m) => some (v, m, s')
    | none => none
  | some (.ret, st, s') => match finish af mem.length st with
    | some (v, m) => some (v, m, s')
    | none => none
  | some (.pan t xs, st, s') => match gc mem.length ⟨⟨0, []⟩, st.mem⟩ with
    | some st2 => some (panV t xs, st2.mem, s')
    | none => none
  | _ => none

def noY : List P → Unit → Option (Bool × Unit) := fun _ _ => none

def itO {σ : Type} : V × List Blk × σ → Option σ := fun (v, _, s) => if v.pan?.isSome then none else some s

/-- A method that is come to over a method expression (a part of the receiver), or over an interface value (by its type). -/
def methR (E : Env) (af : AFn) (args : List V) (mem : List Blk) : Option (V × List Blk) :=
  match af.res, args with
  | [.cell off n, .tmp len], x :: r => match fieldOf len off n x with
    | some y => E.call af.nt (y :: r) mem
    | none => none
  | .tmp _ :: l, .p (.iface t x) :: r => match l.findSome? (fun | .cell t' id => if t' = t then some id else none | _ => none) with
    | some id => E.call id (.p x :: r) mem
    | none => none
  | _, _ => none

def stepE (tbl : Nat → Option AFn) (k : Nat) (E : Env) : Env where
  call id args mem := match tbl id with
    | some af => if 3000000000 ≤ id then methR E af args mem else match splitR id args mem with
      | some r => some r
      | none => (runFn E noY k af args mem ()).map fun (v, m, _) => (v, m)
    | none => none
  iter _ Y id args mem s := match tbl id with
    | some af => if 3000000000 ≤ id then none else (runFn E Y k af args mem s).bind itO
    | none => none

def evalN (tbl : Nat → Option AFn) : Nat → Env
  | 0 => Env.bot
  | n + 1 => stepE tbl n (evalN tbl n)

theorem intsOf_map : ∀ (xs : List Int), intsOf (xs.map intP) = some xs
  | [] => rfl
  | x :: r => by simp only [List.map_cons, intP, intsOf]; rw [show List.map intP r = List.map intP r from rfl, intsOf_map r]; rfl
theorem pan_panV (t : Nat) (xs : List Int) : (panV t xs).pan? = some (t, xs) := by
  simp only [panV, V.pan?, intsOf_map, Option.map_some]

end Go.Am

/- How values of the machine stand for Go's values in a world: the relation, and that it is kept when memory grows, is numbered anew, or is laid open. -/









namespace Go.Am
open Go

/-- What is known of cells that are never written again. -/
abbrev HM := Nat → Nat → Option Value

def HM.le (H H' : HM) : Prop := ∀ b o v, H b o = some v → H' b o = some v
theorem HM.le_refl (H : HM) : H.le H := fun _ _ _ h => h
theorem HM.le_trans {A B C : HM} (h : A.le B) (k : B.le C) : A.le C := fun _ _ _ x => k _ _ _ (h _ _ _ x)

/-- The numbers of functions and types in a program. -/
structure Nm where
  num : Nat → Nat
  tnum : Nat → Nat
  /-- The functions that catch panics: what they catch. -/
  cat : Nat → Option (Nat × Nat) := fun _ => none
  /-- The method expressions: type and name. -/
  meth : Nat → Option Fn := fun _ => none

/-- What the number of a function stands for. -/
def Nm.fv (N : Nm) (f : Nat) : Fn := bif Nat.blt f 3000000000 then .func (N.num f) else (N.meth f).getD (.func (N.num f))

theorem Nm.fv_lt (N : Nm) {f : Nat} (h : Nat.blt f 3000000000 = true) : N.fv f = .func (N.num f) := by
  unfold Nm.fv
  rw [h]; rfl

theorem Nm.fv_ge (N : Nm) {f : Nat} (h : Nat.blt f 3000000000 = false) : N.fv f = (N.meth f).getD (.func (N.num f)) := by
  unfold Nm.fv
  rw [h]; rfl

def P.isAgg : P → Bool
  | .agg _ => true
  | _ => false

/-- A value lies at a place of a row whose elements are of kind `n`. -/
def Lies (H : HM) (n b off : Nat) (v : Value) : Prop :=
  (n = 0 ∧ H b off = some v) ∨ (n ≠ 0 ∧ ∃ cs : List Value, cs.length = n ∧ v = .agg cs.toArray ∧ ∀ j c, cs[j]? = some c → H b (off + j) = some c)

theorem Lies.mono {H H' : HM} (h : H.le H') {n b off : Nat} {v : Value} (k : Lies H n b off v) : Lies H' n b off v := by
  rcases k with ⟨h0, h1⟩ | ⟨h0, cs, h1, h2, h3⟩
  · exact .inl ⟨h0, h _ _ _ h1⟩
  · exact .inr ⟨h0, cs, h1, h2, fun j c hj => h _ _ _ (h3 j c hj)⟩

variable (N : Nm)

mutual
def Rep (H : HM) : P → Value → Prop
  | .v x, v => v = x
  | .agg ps, v => ∃ cs : List Value, v = .agg cs.toArray ∧ Reps H ps cs
  | .sl n es, v => ∃ a cap, (v = .slice a es.length cap ∧ es.length ≤ cap) ∧ (es ≠ [] → ∃ b off, a = some ⟨b, off, none⟩ ∧ RepEs H n b es off)
  | .ptr ps, v => ∃ b off, v = .pointer (some ⟨b, off, none⟩) ∧ RepCs H b ps off
  | .fn f ps, v => ∃ cs : List Value, v = .func (N.fv f) #[] cs.toArray ∧ Reps H ps cs
  | .iface t x, v => ∃ y, v = .iface (N.tnum t) y ∧ Rep H x y
  | .tuple ps, v => ∃ cs : List Value, v = .tuple cs.toArray ∧ Reps H ps cs
def Reps (H : HM) : List P → List Value → Prop
  | [], vs => vs = []
  | p :: r, vs => ∃ v s, vs = v :: s ∧ Rep H p v ∧ Reps H r s
def RepCs (H : HM) (b : Nat) : List P → Nat → Prop
  | [], _ => True
  | p :: r, off => (∃ c, H b off = some c ∧ Rep H p c) ∧ RepCs H b r (off + 1)
def RepEs (H : HM) (n b : Nat) : List P → Nat → Prop
  | [], _ => True
  | p :: r, off => (∃ v, Lies H n b off v ∧ Rep H p v ∧ (p.isAgg = true ↔ n ≠ 0)) ∧ RepEs H n b r (off + sz n)
end

mutual
theorem Rep.mono {H H' : HM} (h : H.le H') : ∀ (p : P) (v : Value), Rep N H p v → Rep N H' p v
  | .v _, _, k => by simpa only [Rep] using k
  | .agg ps, _, k => by
    simp only [Rep] at k ⊢
    obtain ⟨cs, e, k⟩ := k
    exact ⟨cs, e, Reps.mono h ps cs k⟩
  | .sl n es, _, k => by
    simp only [Rep] at k ⊢
    obtain ⟨a, cap, e, k⟩ := k
    exact ⟨a, cap, e, fun hn => let ⟨b, off, e, k⟩ := k hn; ⟨b, off, e, RepEs.mono h n b es off k⟩⟩
  | .ptr ps, _, k => by
    simp only [Rep] at k ⊢
    obtain ⟨b, off, e, k⟩ := k
    exact ⟨b, off, e, RepCs.mono h b ps off k⟩
  | .fn _ ps, _, k => by
    simp only [Rep] at k ⊢
    obtain ⟨cs, e, k⟩ := k
    exact ⟨cs, e, Reps.mono h ps cs k⟩
  | .iface _ x, _, k => by
    simp only [Rep] at k ⊢
    obtain ⟨y, e, k⟩ := k
    exact ⟨y, e, Rep.mono h x y k⟩
  | .tuple ps, _, k => by
    simp only [Rep] at k ⊢
    obtain ⟨cs, e, k⟩ := k
    exact ⟨cs, e, Reps.mono h ps cs k⟩
theorem Reps.mono {H H' : HM} (h : H.le H') : ∀ (ps : List P) (vs : List Value), Reps N H ps vs → Reps N H' ps vs
  | [], _, k => by simpa only [Reps] using k
  | p :: r, _, k => by
    simp only [Reps] at k ⊢
    obtain ⟨v, s, e, k1, k2⟩ := k
    exact ⟨v, s, e, Rep.mono h p v k1, Reps.mono h r s k2⟩
theorem RepCs.mono {H H' : HM} (h : H.le H') (b : Nat) : ∀ (ps : List P) (off : Nat), RepCs N H b ps off → RepCs N H' b ps off
  | [], _, _ => by simp only [RepCs]
  | p :: r, off, k => by
    simp only [RepCs] at k ⊢
    obtain ⟨⟨c, k0, k1⟩, k2⟩ := k
    exact ⟨⟨c, h _ _ _ k0, Rep.mono h p c k1⟩, RepCs.mono h b r (off + 1) k2⟩
theorem RepEs.mono {H H' : HM} (h : H.le H') (n b : Nat) : ∀ (ps : List P) (off : Nat), RepEs N H n b ps off → RepEs N H' n b ps off
  | [], _, _ => by simp only [RepEs]
  | p :: r, off, k => by
    simp only [RepEs] at k ⊢
    obtain ⟨⟨v, k0, k1, k3⟩, k2⟩ := k
    exact ⟨⟨v, k0.mono h, Rep.mono h p v k1, k3⟩, RepEs.mono h n b r (off + sz n) k2⟩
end

/-! ### Plain forms -/

theorem Reps.length {H : HM} : ∀ {ps : List P} {vs : List Value}, Reps N H ps vs → ps.length = vs.length
  | [], _, k => by simp only [Reps] at k; subst k; rfl
  | p :: r, _, k => by
    simp only [Reps] at k
    obtain ⟨v, s, rfl, _, k⟩ := k
    simp [Reps.length k]

theorem Reps.get {H : HM} : ∀ {ps : List P} {vs : List Value}, Reps N H ps vs → ∀ (j : Nat) (p : P), ps[j]? = some p → ∃ v, vs[j]? = some v ∧ Rep N H p v
  | [], _, _, j, p, hj => by simp at hj
  | q :: r, _, k, j, p, hj => by
    simp only [Reps] at k
    obtain ⟨v, s, rfl, k1, k2⟩ := k
    cases j with
    | zero => simp at hj; subst hj; exact ⟨v, by simp, k1⟩
    | succ j => simpa using Reps.get k2 j p (by simpa using hj)

theorem Reps.of {H : HM} : ∀ {ps : List P} {vs : List Value}, ps.length = vs.length → (∀ (j : Nat) (p : P) (v : Value), ps[j]? = some p → vs[j]? = some v → Rep N H p v) → Reps N H ps vs
  | [], vs, hl, _ => by simp only [Reps]; exact List.eq_nil_of_length_eq_zero (by simpa using hl.symm)
  | p :: r, [], hl, _ => by simp at hl
  | p :: r, v :: s, hl, h => by
    simp only [Reps]
    exact ⟨v, s, rfl, h 0 p v (by simp) (by simp), Reps.of (by simpa using hl) fun j q u hq hu => h (j + 1) q u (by simpa using hq) (by simpa using hu)⟩

theorem RepCs.get {H : HM} {b : Nat} : ∀ {ps : List P} {off : Nat}, RepCs N H b ps off → ∀ (j : Nat) (p : P), ps[j]? = some p → ∃ c, H b (off + j) = some c ∧ Rep N H p c
  | [], _, _, j, p, hj => by simp at hj
  | q :: r, off, k, j, p, hj => by
    simp only [RepCs] at k
    cases j with
    | zero => simp at hj; subst hj; exact k.1
    | succ j =>
      have := RepCs.get k.2 j p (by simpa using hj)
      rwa [show off + 1 + j = off + (j + 1) by omega] at this

theorem RepCs.of {H : HM} {b : Nat} : ∀ {ps : List P} {off : Nat}, (∀ (j : Nat) (p : P), ps[j]? = some p → ∃ c, H b (off + j) = some c ∧ Rep N H p c) → RepCs N H b ps off
  | [], _, _ => by simp only [RepCs]
  | q :: r, off, h => by
    simp only [RepCs]
    refine ⟨by simpa using h 0 q (by simp), RepCs.of fun j p hj => ?_⟩
    have := h (j + 1) p (by simpa using hj)
    rwa [show off + (j + 1) = off + 1 + j by omega] at this

theorem RepCs.drop {H : HM} {b : Nat} {ps : List P} {off : Nat} (h : RepCs N H b ps off) (k : Nat) : RepCs N H b (ps.drop k) (off + k) :=
  RepCs.of N fun j p hj => by
    have := RepCs.get N h (k + j) p (by simpa using hj)
    rwa [← Nat.add_assoc] at this

theorem RepCs.take {H : HM} {b : Nat} {ps : List P} {off : Nat} (h : RepCs N H b ps off) (k : Nat) : RepCs N H b (ps.take k) off :=
  RepCs.of N fun j p hj => RepCs.get N h j p (by
    rw [List.getElem?_take] at hj
    split at hj
    · exact hj
    · simp at hj)

theorem RepEs.get {H : HM} {n b : Nat} : ∀ {ps : List P} {off : Nat}, RepEs N H n b ps off → ∀ (j : Nat) (p : P), ps[j]? = some p → ∃ v, Lies H n b (off + j * sz n) v ∧ Rep N H p v ∧ (p.isAgg = true ↔ n ≠ 0)
  | [], _, _, j, p, hj => by simp at hj
  | q :: r, off, k, j, p, hj => by
    simp only [RepEs] at k
    cases j with
    | zero => simp at hj; subst hj; simpa using k.1
    | succ j =>
      have := RepEs.get k.2 j p (by simpa using hj)
      rwa [show off + sz n + j * sz n = off + (j + 1) * sz n by rw [Nat.add_mul]; omega] at this

theorem RepEs.of {H : HM} {n b : Nat} : ∀ {ps : List P} {off : Nat}, (∀ (j : Nat) (p : P), ps[j]? = some p → ∃ v, Lies H n b (off + j * sz n) v ∧ Rep N H p v ∧ (p.isAgg = true ↔ n ≠ 0)) → RepEs N H n b ps off
  | [], _, _ => by simp only [RepEs]
  | q :: r, off, h => by
    simp only [RepEs]
    refine ⟨by simpa using h 0 q (by simp), RepEs.of fun j p hj => ?_⟩
    have := h (j + 1) p (by simpa using hj)
    rwa [show off + (j + 1) * sz n = off + sz n + j * sz n by rw [Nat.add_mul]; omega] at this

/-! ### Values that name blocks -/

/-- Where the blocks of an activation lie: the block's number and how many cells it has. -/
abbrev FM := List (Option (Nat × Nat))

def IdOk (m : List Blk) (b : Nat) : Prop := (∃ cs, m[b]? = some (.cells cs)) ∨ m[b]? = some .dead

def TokOk (φ : FM) (m : List Blk) (n t k : Nat) (v : Value) : Prop :=
  m[t]? = some .dead ∨ ∃ c, m[t]? = some (.tok n c) ∧ k ≤ c ∧ (k = c → (c = 0 ∧ ∃ a, v = .slice a 0 0) ∨ ∃ R s cap, φ[t]? = some (some (R, s)) ∧ v = .slice (some ⟨R, 0, none⟩) c cap ∧ c ≤ cap ∧ cap * sz n ≤ s)

def RefOk (φ : FM) (m : List Blk) (n b off len : Nat) (v : Value) : Prop :=
  (len = 0 ∧ ∃ a, v = .slice a 0 0) ∨ ∃ R s cap, IdOk m b ∧ φ[b]? = some (some (R, s)) ∧ v = .slice (some ⟨R, off, none⟩) len cap ∧ len ≤ cap ∧ off + cap * sz n ≤ s

variable (ly : Option Nat)

mutual
def VRep (H : HM) (φ : FM) (m : List Blk) : V → Value → Prop
  | .p x, v => Rep N H x v
  | .nil _, v => ∃ a, v = .slice a 0 0
  | .sl n t es, v => Rep N H (.sl n es) v ∧ TokOk φ m n t es.length v
  | .ref n b off len, v => RefOk φ m n b off len v
  | .ptr b off, v => ∃ R s, IdOk m b ∧ φ[b]? = some (some (R, s)) ∧ v = .pointer (some ⟨R, off, none⟩)
  | .agg cs, v => ∃ vs : List Value, v = .agg vs.toArray ∧ VReps H φ m cs vs
  | .fn f caps, v => ∃ vs : List Value, v = .func (N.fv f) #[] vs.toArray ∧ VReps H φ m caps vs
  | .iface t x, v => ∃ y, v = .iface (N.tnum t) y ∧ VRep H φ m x y
  | .tuple xs, v => ∃ vs : List Value, v = .tuple vs.toArray ∧ VReps H φ m xs vs
  | .yield, v => ∃ l, ly = some l ∧ v = .func (.yield l) #[] #[]
  | .unk, _ => True
def VReps (H : HM) (φ : FM) (m : List Blk) : List V → List Value → Prop
  | [], vs => vs = []
  | x :: r, vs => ∃ v s, vs = v :: s ∧ VRep H φ m x v ∧ VReps H φ m r s
end

theorem VReps.length {H : HM} {φ : FM} {m : List Blk} : ∀ {xs : List V} {vs : List Value}, VReps N ly H φ m xs vs → xs.length = vs.length
  | [], _, k => by simp only [VReps] at k; subst k; rfl
  | p :: r, _, k => by
    simp only [VReps] at k
    obtain ⟨v, s, rfl, _, k⟩ := k
    simp [VReps.length k]

theorem VReps.get {H : HM} {φ : FM} {m : List Blk} : ∀ {ps : List V} {vs : List Value}, VReps N ly H φ m ps vs → ∀ (j : Nat) (p : V), ps[j]? = some p → ∃ v, vs[j]? = some v ∧ VRep N ly H φ m p v
  | [], _, _, j, p, hj => by simp at hj
  | q :: r, _, k, j, p, hj => by
    simp only [VReps] at k
    obtain ⟨v, s, rfl, k1, k2⟩ := k
    cases j with
    | zero => simp at hj; subst hj; exact ⟨v, by simp, k1⟩
    | succ j => simpa using VReps.get k2 j p (by simpa using hj)

theorem VReps.of {H : HM} {φ : FM} {m : List Blk} : ∀ {ps : List V} {vs : List Value}, ps.length = vs.length → (∀ (j : Nat) (p : V) (v : Value), ps[j]? = some p → vs[j]? = some v → VRep N ly H φ m p v) → VReps N ly H φ m ps vs
  | [], vs, hl, _ => by simp only [VReps]; exact List.eq_nil_of_length_eq_zero (by simpa using hl.symm)
  | p :: r, [], hl, _ => by simp at hl
  | p :: r, v :: s, hl, h => by
    simp only [VReps]
    exact ⟨v, s, rfl, h 0 p v (by simp) (by simp), VReps.of (by simpa using hl) fun j q u hq hu => h (j + 1) q u (by simpa using hq) (by simpa using hu)⟩

/-- Block `i` of one memory goes over into block `i'` of another. -/
def Link (φ : FM) (m : List Blk) (φ' : FM) (m' : List Blk) (i i' : Nat) : Prop :=
  match m[i]? with
  | some (.cells _) => IdOk m' i' ∧ φ'[i']? = φ[i]?
  | some .dead => m'[i']? = some .dead ∧ φ'[i']? = φ[i]?
  | some (.tok n c) => m'[i']? = some .dead ∨ ∃ c', m'[i']? = some (.tok n c') ∧ c ≤ c' ∧ (c' = c → φ'[i']? = φ[i]?)
  | _ => True

theorem Link.id {φ : FM} {m : List Blk} {φ' : FM} {m' : List Blk} {i i' : Nat} (h : Link φ m φ' m' i i') (k : IdOk m i) : IdOk m' i' ∧ φ'[i']? = φ[i]? := by
  unfold Link at h
  rcases k with ⟨cs, k⟩ | k
  · rw [k] at h; exact h
  · rw [k] at h; exact ⟨.inr h.1, h.2⟩

theorem Link.tok {φ : FM} {m : List Blk} {φ' : FM} {m' : List Blk} {i i' n k : Nat} {v : Value} (h : Link φ m φ' m' i i') (hk : TokOk φ m n i k v) : TokOk φ' m' n i' k v := by
  unfold Link at h
  rcases hk with hd | ⟨c, hc, hl, ht⟩
  · rw [hd] at h; exact .inl h.1
  · rw [hc] at h
    rcases h with h | ⟨c', hc', hle, hφ⟩
    · exact .inl h
    · refine .inr ⟨c', hc', Nat.le_trans hl hle, fun e => ?_⟩
      have e1 : c' = c := by omega
      have e2 : k = c := by omega
      subst e1
      rw [hφ rfl]
      exact ht e2

/-- What is known of a block goes over. -/
def Leaf (φ : FM) (m : List Blk) (φ' : FM) (m' : List Blk) (i i' : Nat) : Prop :=
  (IdOk m i → IdOk m' i' ∧ φ'[i']? = φ[i]?) ∧ ∀ n k v, TokOk φ m n i k v → TokOk φ' m' n i' k v

theorem Link.leaf {φ : FM} {m : List Blk} {φ' : FM} {m' : List Blk} {i i' : Nat} (h : Link φ m φ' m' i i') : Leaf φ m φ' m' i i' := ⟨h.id, fun _ _ _ => h.tok⟩

theorem Leaf.trans {φ φ' φ'' : FM} {m m' m'' : List Blk} {i i' i'' : Nat} (h : Leaf φ m φ' m' i i') (k : Leaf φ' m' φ'' m'' i' i'') : Leaf φ m φ'' m'' i i'' :=
  ⟨fun x => ⟨(k.1 (h.1 x).1).1, (k.1 (h.1 x).1).2.trans (h.1 x).2⟩, fun n c v x => k.2 n c v (h.2 n c v x)⟩

mutual
theorem VRep.ren {H H' : HM} {φ φ' : FM} {m m' : List Blk} {ρ : Nat → Option Nat} (hH : H.le H') (hL : ∀ i i', ρ i = some i' → Leaf φ m φ' m' i i') :
    ∀ (x x' : V) (v : Value), x.ren ρ = some x' → VRep N ly H φ m x v → VRep N ly H' φ' m' x' v
  | .p x, x', v, e, k => by
    simp only [V.ren, Option.some.injEq] at e; subst e
    simp only [VRep] at k ⊢; exact Rep.mono N hH x v k
  | .nil n, x', v, e, k => by
    simp only [V.ren, Option.some.injEq] at e; subst e
    simpa only [VRep] using k
  | .sl n t es, x', v, e, k => by
    simp only [V.ren, Option.map_eq_some_iff] at e
    obtain ⟨t', ht, rfl⟩ := e
    simp only [VRep] at k ⊢
    exact ⟨Rep.mono N hH _ v k.1, (hL t t' ht).2 _ _ _ k.2⟩
  | .ref n b off len, x', v, e, k => by
    simp only [V.ren, Option.map_eq_some_iff] at e
    obtain ⟨b', hb, rfl⟩ := e
    simp only [VRep] at k ⊢
    rcases k with k | ⟨R, s, cap, h1, h2, h3⟩
    · exact .inl k
    · have := (hL b b' hb).1 h1
      exact .inr ⟨R, s, cap, this.1, this.2.trans h2, h3⟩
  | .ptr b off, x', v, e, k => by
    simp only [V.ren, Option.map_eq_some_iff] at e
    obtain ⟨b', hb, rfl⟩ := e
    simp only [VRep] at k ⊢
    obtain ⟨R, s, h1, h2, h3⟩ := k
    have := (hL b b' hb).1 h1
    exact ⟨R, s, this.1, this.2.trans h2, h3⟩
  | .agg cs, x', v, e, k => by
    simp only [V.ren, Option.map_eq_some_iff] at e
    obtain ⟨cs', hc, rfl⟩ := e
    simp only [VRep] at k ⊢
    obtain ⟨vs, e, k⟩ := k
    exact ⟨vs, e, VReps.ren hH hL cs cs' vs hc k⟩
  | .fn f cs, x', v, e, k => by
    simp only [V.ren, Option.map_eq_some_iff] at e
    obtain ⟨cs', hc, rfl⟩ := e
    simp only [VRep] at k ⊢
    obtain ⟨vs, e, k⟩ := k
    exact ⟨vs, e, VReps.ren hH hL cs cs' vs hc k⟩
  | .iface t x, x', v, e, k => by
    simp only [V.ren, Option.map_eq_some_iff] at e
    obtain ⟨y, hc, rfl⟩ := e
    simp only [VRep] at k ⊢
    obtain ⟨u, e, k⟩ := k
    exact ⟨u, e, VRep.ren hH hL x y u hc k⟩
  | .tuple cs, x', v, e, k => by
    simp only [V.ren, Option.map_eq_some_iff] at e
    obtain ⟨cs', hc, rfl⟩ := e
    simp only [VRep] at k ⊢
    obtain ⟨vs, e, k⟩ := k
    exact ⟨vs, e, VReps.ren hH hL cs cs' vs hc k⟩
  | .yield, x', v, e, k => by
    simp only [V.ren, Option.some.injEq] at e; subst e
    simpa only [VRep] using k
  | .unk, x', v, e, k => by
    simp only [V.ren, Option.some.injEq] at e; subst e
    simp only [VRep]
theorem VReps.ren {H H' : HM} {φ φ' : FM} {m m' : List Blk} {ρ : Nat → Option Nat} (hH : H.le H') (hL : ∀ i i', ρ i = some i' → Leaf φ m φ' m' i i') :
    ∀ (xs xs' : List V) (vs : List Value), rens ρ xs = some xs' → VReps N ly H φ m xs vs → VReps N ly H' φ' m' xs' vs
  | [], xs', vs, e, k => by
    simp only [rens, Option.some.injEq] at e; subst e
    simpa only [VReps] using k
  | x :: r, xs', vs, e, k => by
    simp only [rens] at e
    split at e
    · rename_i a b ha hb
      simp only [Option.some.injEq] at e; subst e
      simp only [VReps] at k ⊢
      obtain ⟨v, s, rfl, k1, k2⟩ := k
      exact ⟨v, s, rfl, VRep.ren hH hL x a v ha k1, VReps.ren hH hL r b s hb k2⟩
    · simp at e
end

mutual
theorem V.ren_some : ∀ x : V, x.ren some = some x
  | .p _ => by simp only [V.ren]
  | .nil _ => by simp only [V.ren]
  | .sl _ _ _ => by simp only [V.ren, Option.map_some]
  | .ref _ _ _ _ => by simp only [V.ren, Option.map_some]
  | .ptr _ _ => by simp only [V.ren, Option.map_some]
  | .agg cs => by simp only [V.ren, rens_some cs, Option.map_some]
  | .fn _ cs => by simp only [V.ren, rens_some cs, Option.map_some]
  | .iface _ x => by simp only [V.ren, V.ren_some x, Option.map_some]
  | .tuple cs => by simp only [V.ren, rens_some cs, Option.map_some]
  | .yield => by simp only [V.ren]
  | .unk => by simp only [V.ren]
theorem rens_some : ∀ xs : List V, rens some xs = some xs
  | [] => by simp only [rens]
  | x :: r => by simp only [rens, V.ren_some x, rens_some r]
end

/-- Memory goes on: what stood for a value stands for it. -/
structure Ext (H : HM) (φ : FM) (m : List Blk) (H' : HM) (φ' : FM) (m' : List Blk) : Prop where
  hle : H.le H'
  leaf : ∀ i, Leaf φ m φ' m' i i

theorem Ext.rep {H H' : HM} {φ φ' : FM} {m m' : List Blk} (h : Ext H φ m H' φ' m') (x : V) (v : Value) (k : VRep N ly H φ m x v) : VRep N ly H' φ' m' x v :=
  VRep.ren N ly (ρ := some) h.hle (fun i i' e => by cases e; exact h.leaf i) x x v (V.ren_some x) k

theorem Ext.of {H H' : HM} {φ φ' : FM} {m m' : List Blk} (hH : H.le H') (hL : ∀ i, Link φ m φ' m' i i) : Ext H φ m H' φ' m' := ⟨hH, fun i => (hL i).leaf⟩

theorem Ext.refl {H : HM} {φ : FM} {m : List Blk} : Ext H φ m H φ m := ⟨HM.le_refl H, fun _ => ⟨fun h => ⟨h, rfl⟩, fun _ _ _ h => h⟩⟩
theorem Ext.trans {H H' H'' : HM} {φ φ' φ'' : FM} {m m' m'' : List Blk} (h : Ext H φ m H' φ' m') (k : Ext H' φ' m' H'' φ'' m'') : Ext H φ m H'' φ'' m'' :=
  ⟨HM.le_trans h.hle k.hle, fun i => (h.leaf i).trans (k.leaf i)⟩

theorem Link.refl (φ : FM) (m : List Blk) (i : Nat) : Link φ m φ m i i := by
  unfold Link
  split
  · rename_i cs h; exact ⟨.inl ⟨cs, h⟩, rfl⟩
  · rename_i h; exact ⟨h, rfl⟩
  · rename_i n c h; exact .inr ⟨c, h, Nat.le_refl _, fun _ => rfl⟩
  · trivial

theorem Ext.reps {H H' : HM} {φ φ' : FM} {m m' : List Blk} (h : Ext H φ m H' φ' m') : ∀ {xs : List V} {vs : List Value}, VReps N ly H φ m xs vs → VReps N ly H' φ' m' xs vs
  | [], _, k => by simpa only [VReps] using k
  | x :: r, _, k => by
    simp only [VReps] at k ⊢
    obtain ⟨v, s, rfl, k1, k2⟩ := k
    exact ⟨v, s, rfl, h.rep N ly x v k1, Ext.reps h k2⟩

/-! ### As data -/

mutual
theorem VRep.toP {H : HM} {φ : FM} {m : List Blk} : ∀ (x : V) (q : P) (v : Value), x.toP = some q → VRep N ly H φ m x v → Rep N H q v
  | .p x, q, v, e, k => by
    simp only [V.toP, Option.some.injEq] at e; subst e
    simpa only [VRep] using k
  | .nil n, q, v, e, k => by
    simp only [V.toP, Option.some.injEq] at e; subst e
    simp only [VRep] at k; simp only [Rep]
    obtain ⟨a, rfl⟩ := k
    exact ⟨a, 0, ⟨rfl, Nat.le_refl _⟩, fun h => absurd rfl h⟩
  | .sl n t es, q, v, e, k => by
    simp only [V.toP, Option.some.injEq] at e; subst e
    simp only [VRep] at k; exact k.1
  | .ref n b off len, q, v, e, k => by simp [V.toP] at e
  | .ptr b off, q, v, e, k => by simp [V.toP] at e
  | .agg cs, q, v, e, k => by
    simp only [V.toP, Option.map_eq_some_iff] at e
    obtain ⟨ps, hp, rfl⟩ := e
    simp only [VRep] at k; simp only [Rep]
    obtain ⟨vs, e, k⟩ := k
    exact ⟨vs, e, VReps.toPs cs ps vs hp k⟩
  | .fn f cs, q, v, e, k => by
    simp only [V.toP, Option.map_eq_some_iff] at e
    obtain ⟨ps, hp, rfl⟩ := e
    simp only [VRep] at k; simp only [Rep]
    obtain ⟨vs, e, k⟩ := k
    exact ⟨vs, e, VReps.toPs cs ps vs hp k⟩
  | .iface t x, q, v, e, k => by
    simp only [V.toP, Option.map_eq_some_iff] at e
    obtain ⟨p, hp, rfl⟩ := e
    simp only [VRep] at k; simp only [Rep]
    obtain ⟨y, e, k⟩ := k
    exact ⟨y, e, VRep.toP x p y hp k⟩
  | .tuple cs, q, v, e, k => by
    simp only [V.toP, Option.map_eq_some_iff] at e
    obtain ⟨ps, hp, rfl⟩ := e
    simp only [VRep] at k; simp only [Rep]
    obtain ⟨vs, e, k⟩ := k
    exact ⟨vs, e, VReps.toPs cs ps vs hp k⟩
  | .yield, q, v, e, k => by simp [V.toP] at e
  | .unk, q, v, e, k => by simp [V.toP] at e
theorem VReps.toPs {H : HM} {φ : FM} {m : List Blk} : ∀ (xs : List V) (qs : List P) (vs : List Value), toPs xs = some qs → VReps N ly H φ m xs vs → Reps N H qs vs
  | [], qs, vs, e, k => by
    simp only [Am.toPs, Option.some.injEq] at e; subst e
    simpa only [VReps, Reps] using k
  | x :: r, qs, vs, e, k => by
    simp only [Am.toPs] at e
    split at e
    · rename_i a b ha hb
      simp only [Option.some.injEq] at e; subst e
      simp only [VReps] at k; simp only [Reps]
      obtain ⟨v, s, rfl, k1, k2⟩ := k
      exact ⟨v, s, rfl, VRep.toP x a v ha k1, VReps.toPs r b s hb k2⟩
    · simp at e
end

theorem toPs_length : ∀ {xs : List V} {qs : List P}, toPs xs = some qs → xs.length = qs.length
  | [], qs, e => by simp only [toPs, Option.some.injEq] at e; subst e; rfl
  | x :: r, qs, e => by
    simp only [toPs] at e
    split at e
    · rename_i a b ha hb
      simp only [Option.some.injEq] at e; subst e
      simp [toPs_length hb]
    · simp at e

theorem toPs_get : ∀ {xs : List V} {qs : List P}, toPs xs = some qs → ∀ (j : Nat) (q : P), qs[j]? = some q → ∃ x : V, xs[j]? = some x ∧ x.toP = some q
  | [], qs, e, j, q, hj => by simp only [toPs, Option.some.injEq] at e; subst e; simp at hj
  | x :: r, qs, e, j, q, hj => by
    simp only [toPs] at e
    split at e
    · rename_i a b ha hb
      simp only [Option.some.injEq] at e; subst e
      cases j with
      | zero => simp at hj; subst hj; exact ⟨x, by simp, ha⟩
      | succ j => simpa using toPs_get hb j q (by simpa using hj)
    · simp at e

theorem toP_isAgg {x : V} {q : P} (h : x.isCell = true) (e : x.toP = some q) : q.isAgg = false := by
  cases x with
  | p x => simp only [V.toP, Option.some.injEq] at e; subst e; cases x <;> first | rfl | simp [V.isCell] at h
  | nil n => simp only [V.toP, Option.some.injEq] at e; subst e; rfl
  | sl n t es => simp only [V.toP, Option.some.injEq] at e; subst e; rfl
  | agg cs => simp [V.isCell] at h
  | tuple cs => simp [V.isCell] at h
  | fn f cs => simp only [V.toP, Option.map_eq_some_iff] at e; obtain ⟨ps, _, rfl⟩ := e; rfl
  | iface t x => simp only [V.toP, Option.map_eq_some_iff] at e; obtain ⟨ps, _, rfl⟩ := e; rfl
  | _ => simp [V.toP] at e

/-! ### Laid open -/

theorem chunk_length (n : Nat) : ∀ (k : Nat) (cs : List P), (chunk n k cs).length = k
  | 0, _ => rfl
  | k + 1, cs => by simp [chunk, chunk_length n k]

theorem chunk_get (n : Nat) : ∀ (k : Nat) (cs : List P) (j : Nat), j < k →
    (chunk n k cs)[j]? = some (if n = 0 then (cs.drop (j * sz n)).headD undefP else .agg ((cs.drop (j * sz n)).take n))
  | 0, _, j, h => by omega
  | k + 1, cs, 0, _ => by simp [chunk]
  | k + 1, cs, j + 1, h => by
    rw [chunk, List.getElem?_cons_succ, chunk_get n k (cs.drop (sz n)) j (by omega)]
    simp only [List.drop_drop]
    rw [show sz n + j * sz n = (j + 1) * sz n by rw [Nat.add_mul]; omega]

theorem RepCs.chunk {H : HM} {b n : Nat} {ps : List P} {off k : Nat} (h : RepCs N H b ps off) (hl : k * sz n ≤ ps.length) (ha : ∀ p ∈ ps, p.isAgg = false) :
    RepEs N H n b (chunk n k ps) off := by
  refine RepEs.of N fun j p hj => ?_
  have hjk : j < k := by
    have := (List.getElem?_eq_some_iff.1 hj).1
    rwa [chunk_length] at this
  rw [chunk_get n k ps j hjk] at hj
  have hs : (j + 1) * sz n ≤ ps.length := Nat.le_trans (Nat.mul_le_mul_right _ hjk) hl
  rw [Nat.add_mul, Nat.one_mul] at hs
  by_cases hn : n = 0
  · rw [if_pos hn] at hj
    have hsz : sz n = 1 := by simp [sz, hn]
    rw [hsz] at hj hs ⊢
    have hlt : j < ps.length := by omega
    have hg : ps[j]? = some ps[j] := List.getElem?_eq_getElem hlt
    have e : p = ps[j] := by
      simp only [Option.some.injEq, Nat.mul_one] at hj
      rw [← hj, List.headD_eq_head?_getD, List.head?_drop, hg]; rfl
    subst e
    obtain ⟨c, h1, h2⟩ := RepCs.get N h j _ hg
    exact ⟨c, .inl ⟨hn, by simpa using h1⟩, h2, by simp [ha _ (List.getElem_mem hlt), hn]⟩
  · rw [if_neg hn] at hj
    have hsz : sz n = n := by simp [sz, hn]
    rw [hsz] at hj hs ⊢
    simp only [Option.some.injEq] at hj
    subst hj
    have hlen : ((ps.drop (j * n)).take n).length = n := by simp; omega
    have hc := RepCs.take N (RepCs.drop N h (j * n)) n
    let cs : List Value := (List.range n).map fun i => (H b (off + j * n + i)).getD (.bool false)
    have hcs : ∀ i, i < n → ∃ c, H b (off + j * n + i) = some c ∧ cs[i]? = some c ∧ Rep N H ((ps.drop (j * n)).take n)[i]! c := by
      intro i hi
      have hgi : ((ps.drop (j * n)).take n)[i]? = some (((ps.drop (j * n)).take n)[i]!) := by
        rw [List.getElem!_eq_getElem?_getD, List.getElem?_eq_getElem (by omega)]; rfl
      obtain ⟨c, h1, h2⟩ := RepCs.get N hc i _ hgi
      refine ⟨c, h1, ?_, h2⟩
      simp [cs, hi, h1]
    refine ⟨.agg cs.toArray, .inr ⟨hn, cs, by simp [cs], rfl, fun i c hi => ?_⟩, ?_, by simp [P.isAgg, hn]⟩
    · have hin : i < n := by
        have := (List.getElem?_eq_some_iff.1 hi).1
        simpa [cs] using this
      obtain ⟨c', h1, h2, _⟩ := hcs i hin
      rw [h2] at hi
      cases hi
      exact h1
    · simp only [Rep]
      refine ⟨cs, rfl, Reps.of N (by rw [hlen]; simp [cs]) fun i p c hp hc' => ?_⟩
      have hin : i < n := by
        have := (List.getElem?_eq_some_iff.1 hp).1
        omega
      obtain ⟨c', h1, h2, h3⟩ := hcs i hin
      rw [h2] at hc'
      cases hc'
      rw [List.getElem!_eq_getElem?_getD, hp] at h3
      exact h3

mutual
theorem VRep.open_ {H : HM} {φ : FM} {m : List Blk} {i R s : Nat} {ps : List P} (hφ : φ[i]? = some (some (R, s))) (hp : RepCs N H R ps 0) (ha : ∀ p ∈ ps, p.isAgg = false) :
    ∀ (x x' : V) (v : Value), x.open_ i ps = some x' → VRep N ly H φ m x v → VRep N ly H φ m x' v
  | .p x, x', v, e, k => by simp only [V.open_, Option.some.injEq] at e; subst e; exact k
  | .nil n, x', v, e, k => by simp only [V.open_, Option.some.injEq] at e; subst e; exact k
  | .sl n t es, x', v, e, k => by simp only [V.open_, Option.some.injEq] at e; subst e; exact k
  | .ref n b off len, x', v, e, k => by
    simp only [V.open_] at e
    split at e
    · rename_i hb
      subst hb
      split at e
      · rename_i hl
        simp only [Option.some.injEq] at e; subst e
        simp only [VRep, Rep] at k ⊢
        rw [chunk_length]
        rcases k with ⟨h0, a, rfl⟩ | ⟨R', s', cap, h1, h2, h3, h4, _⟩
        · subst h0
          exact ⟨a, 0, ⟨rfl, Nat.le_refl _⟩, fun h => absurd rfl h⟩
        · rw [hφ] at h2
          cases h2
          refine ⟨_, cap, ⟨h3, h4⟩, fun _ => ⟨R, off, rfl, ?_⟩⟩
          have := RepCs.chunk N (n := n) (k := len) (RepCs.drop N hp off) (by simp; omega) (fun p hp' => ha p (List.mem_of_mem_drop hp'))
          simpa using this
      · simp at e
    · simp only [Option.some.injEq] at e; subst e; exact k
  | .ptr b off, x', v, e, k => by
    simp only [V.open_] at e
    split at e
    · rename_i hb
      subst hb
      simp only [Option.some.injEq] at e; subst e
      simp only [VRep, Rep] at k ⊢
      obtain ⟨R', s', h1, h2, h3⟩ := k
      rw [hφ] at h2
      cases h2
      exact ⟨R, off, h3, by simpa using RepCs.drop N hp off⟩
    · simp only [Option.some.injEq] at e; subst e; exact k
  | .agg cs, x', v, e, k => by
    simp only [V.open_, Option.map_eq_some_iff] at e
    obtain ⟨cs', hc, rfl⟩ := e
    simp only [VRep] at k ⊢
    obtain ⟨vs, e, k⟩ := k
    exact ⟨vs, e, VReps.opens hφ hp ha cs cs' vs hc k⟩
  | .fn f cs, x', v, e, k => by
    simp only [V.open_, Option.map_eq_some_iff] at e
    obtain ⟨cs', hc, rfl⟩ := e
    simp only [VRep] at k ⊢
    obtain ⟨vs, e, k⟩ := k
    exact ⟨vs, e, VReps.opens hφ hp ha cs cs' vs hc k⟩
  | .iface t x, x', v, e, k => by
    simp only [V.open_, Option.map_eq_some_iff] at e
    obtain ⟨y, hc, rfl⟩ := e
    simp only [VRep] at k ⊢
    obtain ⟨u, e, k⟩ := k
    exact ⟨u, e, VRep.open_ hφ hp ha x y u hc k⟩
  | .tuple cs, x', v, e, k => by
    simp only [V.open_, Option.map_eq_some_iff] at e
    obtain ⟨cs', hc, rfl⟩ := e
    simp only [VRep] at k ⊢
    obtain ⟨vs, e, k⟩ := k
    exact ⟨vs, e, VReps.opens hφ hp ha cs cs' vs hc k⟩
  | .yield, x', v, e, k => by simp only [V.open_, Option.some.injEq] at e; subst e; exact k
  | .unk, x', v, e, k => by simp only [V.open_, Option.some.injEq] at e; subst e; exact k
theorem VReps.opens {H : HM} {φ : FM} {m : List Blk} {i R s : Nat} {ps : List P} (hφ : φ[i]? = some (some (R, s))) (hp : RepCs N H R ps 0) (ha : ∀ p ∈ ps, p.isAgg = false) :
    ∀ (xs xs' : List V) (vs : List Value), opens i ps xs = some xs' → VReps N ly H φ m xs vs → VReps N ly H φ m xs' vs
  | [], xs', vs, e, k => by
    simp only [Am.opens, Option.some.injEq] at e; subst e
    exact k
  | x :: r, xs', vs, e, k => by
    simp only [Am.opens] at e
    split at e
    · rename_i a b ha' hb
      simp only [Option.some.injEq] at e; subst e
      simp only [VReps] at k ⊢
      obtain ⟨v, s, rfl, k1, k2⟩ := k
      exact ⟨v, s, rfl, VRep.open_ hφ hp ha x a v ha' k1, VReps.opens hφ hp ha r b s hb k2⟩
    · simp at e
end

end Go.Am

/- Worlds in which a memory of the machine lies; the moves that memory makes (a new block, a block written, a slice that grows, a block laid open, blocks numbered anew). -/

namespace Go.Am
open Go

variable (N : Nm) (ly : Option Nat)

/-! ### Rows of elements as cells -/

def Flat (H : HM) (n : Nat) : List P → List Value → Prop
  | [], vs => vs = []
  | e :: r, vs => ∃ v rest, vs = v.cells.toList ++ rest ∧ v.cells.size = sz n ∧ (n ≠ 0 ↔ ∃ cs, v = .agg cs) ∧ Rep N H e v ∧ (e.isAgg = true ↔ n ≠ 0) ∧ Flat H n r rest

theorem Flat.length {H : HM} {n : Nat} : ∀ {es : List P} {vs : List Value}, Flat N H n es vs → vs.length = es.length * sz n
  | [], _, h => by simp only [Flat] at h; subst h; simp
  | e :: r, _, h => by
    simp only [Flat] at h
    obtain ⟨v, rest, rfl, hs, _, _, _, hr⟩ := h
    rw [List.length_append, Array.length_toList, hs, Flat.length hr, List.length_cons, Nat.add_mul]
    omega

theorem Flat.append {H : HM} {n : Nat} : ∀ {es fs : List P} {vs us : List Value}, Flat N H n es vs → Flat N H n fs us → Flat N H n (es ++ fs) (vs ++ us)
  | [], fs, _, us, h, k => by simp only [Flat] at h; subst h; simpa using k
  | e :: r, fs, _, us, h, k => by
    simp only [Flat] at h
    obtain ⟨v, rest, rfl, hs, ha, hp, hg, hr⟩ := h
    simp only [List.cons_append, Flat, List.append_assoc]
    exact ⟨v, rest ++ us, rfl, hs, ha, hp, hg, Flat.append hr k⟩

theorem Flat.mono {H H' : HM} (hH : H.le H') {n : Nat} : ∀ {es : List P} {vs : List Value}, Flat N H n es vs → Flat N H' n es vs
  | [], _, h => by simpa only [Flat] using h
  | e :: r, _, h => by
    simp only [Flat] at h ⊢
    obtain ⟨v, rest, rfl, hs, ha, hp, hg, hr⟩ := h
    exact ⟨v, rest, rfl, hs, ha, Rep.mono N hH e v hp, hg, Flat.mono hH hr⟩

theorem cells_agg (cs : Array Value) : (Value.agg cs).cells = cs := rfl

theorem cells_one {v : Value} (h : ¬ ∃ cs, v = .agg cs) : v.cells = #[v] := by
  cases v <;> first | rfl | (exact absurd ⟨_, rfl⟩ h)

theorem RepEs.of_flat {H : HM} {n b : Nat} : ∀ {es : List P} {vs : List Value} {off : Nat}, Flat N H n es vs → (∀ j u, vs[j]? = some u → H b (off + j) = some u) → RepEs N H n b es off
  | [], _, _, _, _ => by simp only [RepEs]
  | e :: r, _, off, h, hc => by
    simp only [Flat] at h
    obtain ⟨v, rest, rfl, hs, ha, hp, hg, hr⟩ := h
    simp only [RepEs]
    have hlen : v.cells.toList.length = sz n := by simpa using hs
    refine ⟨⟨v, ?_, hp, hg⟩, RepEs.of_flat hr fun j u hu => ?_⟩
    · by_cases hn : n = 0
      · have hna : ¬ ∃ cs, v = .agg cs := fun h => (ha.2 h) hn
        refine .inl ⟨hn, ?_⟩
        have := hc 0 v (by rw [cells_one hna]; simp)
        simpa using this
      · obtain ⟨cs, rfl⟩ := ha.1 hn
        refine .inr ⟨hn, cs.toList, ?_, by simp, fun j c hj => ?_⟩
        · have : sz n = n := by simp [sz, hn]
          rw [cells_agg] at hlen; omega
        · refine hc j c ?_
          rw [cells_agg, List.getElem?_append_left (List.getElem?_eq_some_iff.1 hj).1]
          exact hj
    · have := hc (sz n + j) u (by rw [List.getElem?_append_right (by omega), hlen]; simpa using hu)
      rwa [← Nat.add_assoc] at this

/-- Cells hold no aggregates. -/
def HOk (H : HM) : Prop := ∀ b o v, H b o = some v → v.oneCell' = true

theorem oneCell_not_agg {v : Value} (h : v.oneCell' = true) : ¬ ∃ cs, v = .agg cs := by
  rintro ⟨cs, rfl⟩; simp [Value.oneCell'] at h

theorem RepEs.flat {H : HM} (hO : HOk H) {n b : Nat} : ∀ {es : List P} {off : Nat}, RepEs N H n b es off → ∃ vs, Flat N H n es vs ∧ ∀ j u, vs[j]? = some u → H b (off + j) = some u
  | [], _, _ => ⟨[], by simp only [Flat], fun j u h => by simp at h⟩
  | e :: r, off, h => by
    simp only [RepEs] at h
    obtain ⟨⟨v, hl, hp, hg⟩, hr⟩ := h
    obtain ⟨rest, hf, hc⟩ := RepEs.flat hO hr
    rcases hl with ⟨hn, h0⟩ | ⟨hn, cs, h1, rfl, h2⟩
    · have hna : ¬ ∃ cs, v = .agg cs := oneCell_not_agg (hO _ _ _ h0)
      exact ⟨v.cells.toList ++ rest, by
        simp only [Flat]
        refine ⟨v, rest, rfl, ?_, ⟨fun h => absurd hn h, fun h => absurd h hna⟩, hp, hg, hf⟩
        rw [cells_one hna]; simp [sz, hn], fun j u hu => by
        rw [cells_one hna] at hu
        have hsz : sz n = 1 := by simp [sz, hn]
        cases j with
        | zero => simp at hu; subst hu; simpa using h0
        | succ j =>
          have := hc j u (by simpa using hu)
          rw [hsz] at this
          rwa [show off + 1 + j = off + (j + 1) by omega] at this⟩
    · have hsz : sz n = n := by simp [sz, hn]
      refine ⟨cs ++ rest, ?_, fun j u hu => ?_⟩
      · simp only [Flat]
        exact ⟨.agg cs.toArray, rest, by simp [cells_agg], by simp [cells_agg, h1, hsz], ⟨fun _ => ⟨_, rfl⟩, fun _ => hn⟩, hp, hg, hf⟩
      · by_cases hj : j < cs.length
        · rw [List.getElem?_append_left hj] at hu
          exact h2 j u hu
        · rw [List.getElem?_append_right (by omega)] at hu
          have := hc (j - cs.length) u hu
          rwa [hsz, show off + n + (j - cs.length) = off + j by omega] at this


/-! ### Worlds -/

structure Cfg where
  H : HM
  φ : FM
  m : List Blk
  w : World

abbrev Cfg.R (c : Cfg) (x : V) (v : Value) : Prop := VRep N ly c.H c.φ c.m x v

def BlkOk (c : Cfg) (i : Nat) : Blk → Prop
  | .cells cs => ∃ R s arr e, c.φ[i]? = some (some (R, s)) ∧ c.w.heap[R]? = some (.cells arr e (0, 0)) ∧ arr.size = s ∧ cs.length ≤ s ∧
      (∀ (j : Nat) (x : V), cs[j]? = some x → x.isCell = true ∧ ∃ v, arr[j]? = some v ∧ VRep N ly c.H c.φ c.m x v) ∧ ∀ o, c.H R o = none
  | .tok n k => (k = 0 ∧ c.φ[i]? = some none) ∨ ∃ R s arr e, c.φ[i]? = some (some (R, s)) ∧ c.w.heap[R]? = some (.cells arr e (0, 0)) ∧ arr.size = s ∧ ∀ o, k * sz n ≤ o → c.H R o = none
  | _ => True

def Live (m : List Blk) (i : Nat) : Prop := (∃ cs, m[i]? = some (.cells cs)) ∨ ∃ n k, m[i]? = some (.tok n k)

structure Good (c : Cfg) : Prop where
  len : c.φ.length = c.m.length
  frz : ∀ b o v, c.H b o = some v → c.w.cell? ⟨b, o, none⟩ = some v ∧ v.oneCell' = true
  blk : ∀ i x, c.m[i]? = some x → BlkOk N ly c i x
  inj : ∀ i j R s s', Live c.m i → Live c.m j → c.φ[i]? = some (some (R, s)) → c.φ[j]? = some (some (R, s')) → i = j

def Owned (c : Cfg) (R : Nat) : Prop := ∃ i s, Live c.m i ∧ c.φ[i]? = some (some (R, s))

theorem Good.hok {c : Cfg} (h : Good N ly c) : HOk c.H := fun b o v hv => (h.frz b o v hv).2

theorem Good.hlt {c : Cfg} (h : Good N ly c) {b o : Nat} {v : Value} (hv : c.H b o = some v) : b < c.w.heap.size :=
  World.block_lt_of_cell? c.w ⟨b, o, none⟩ (h.frz b o v hv).1

theorem Good.owned_lt {c : Cfg} (h : Good N ly c) {R : Nat} (k : Owned c R) : R < c.w.heap.size := by
  obtain ⟨i, s, hl, hφ⟩ := k
  rcases hl with ⟨cs, hm⟩ | ⟨n, k, hm⟩
  · obtain ⟨R', s', arr, e, h1, h2, _⟩ := h.blk i _ hm
    rw [hφ] at h1; cases h1
    exact (Array.getElem?_eq_some_iff.1 h2).1
  · rcases h.blk i _ hm with ⟨_, h1⟩ | ⟨R', s', arr, e, h1, h2, _⟩
    · rw [hφ] at h1; cases h1
    · rw [hφ] at h1; cases h1
      exact (Array.getElem?_eq_some_iff.1 h2).1

theorem frozen_heap {w w' : World} (h : w'.heap = w.heap) (a : Addr) : w'.frozen? a = w.frozen? a := by unfold World.frozen?; rw [h]

theorem frozen_push {w w' : World} {arr : Array Value} {e : TypeId} (h : w'.heap = w.heap.push (.cells arr e (0, 0))) (a : Addr) : w'.frozen? a = w.frozen? a := by
  unfold World.frozen?
  rw [h, Array.getElem?_push]
  by_cases hb : a.block = w.heap.size
  · rw [if_pos hb, hb, Array.getElem?_eq_none (Nat.le_refl _)]; simp
  · rw [if_neg hb]

theorem frozen_row {w w' : World} {R : Nat} {arr arr' : Array Value} {e : TypeId} (h : w.heap[R]? = some (.cells arr e (0, 0))) (h' : w'.heap[R]? = some (.cells arr' e (0, 0))) (hold : ∀ k, k ≠ R → w'.heap[k]? = w.heap[k]?) (a : Addr) : w'.frozen? a = w.frozen? a := by
  by_cases hb : a.block = R
  · unfold World.frozen?; rw [hb, h, h']
  · exact World.frozen?_of_block (hold _ hb)

/-- From one world to a later one: what is neither owned nor new lies as it lay. -/
structure Trans (c c' : Cfg) : Prop where
  fz : ∀ a, c'.w.frozen? a = c.w.frozen? a
  os : c'.w.os = c.w.os
  tape : c'.w.tape = c.w.tape
  output : c'.w.output = c.w.output
  size : c.w.heap.size ≤ c'.w.heap.size
  hle : c.H.le c'.H
  frame : ∀ b, b < c.w.heap.size → ¬ Owned c b → c'.w.heap[b]? = c.w.heap[b]?
  own : ∀ b, Owned c' b → Owned c b ∨ c.w.heap.size ≤ b
  hnew : ∀ b o v, c'.H b o = some v → c.H b o = some v ∨ Owned c b ∨ c.w.heap.size ≤ b

theorem Trans.refl (c : Cfg) : Trans c c := ⟨fun _ => rfl, rfl, rfl, rfl, Nat.le_refl _, HM.le_refl _, fun _ _ _ => rfl, fun _ h => .inl h, fun _ _ _ h => .inl h⟩

theorem Trans.trans {a b c : Cfg} (h : Trans a b) (k : Trans b c) : Trans a c where
  fz x := (k.fz x).trans (h.fz x)
  os := k.os.trans h.os
  tape := k.tape.trans h.tape
  output := k.output.trans h.output
  size := Nat.le_trans h.size k.size
  hle := HM.le_trans h.hle k.hle
  frame x hx hn := by
    refine (k.frame x (Nat.lt_of_lt_of_le hx h.size) fun ho => ?_).trans (h.frame x hx hn)
    rcases h.own x ho with ho | ho
    · exact hn ho
    · omega
  own x ho := by
    rcases k.own x ho with ho | ho
    · exact h.own x ho
    · exact .inr (Nat.le_trans h.size ho)
  hnew x o v hv := by
    rcases k.hnew x o v hv with hv | ho | ho
    · exact h.hnew x o v hv
    · rcases h.own x ho with ho | ho
      · exact .inr (.inl ho)
      · exact .inr (.inr ho)
    · exact .inr (.inr (Nat.le_trans h.size ho))

theorem scalar_oneCell (x : Value) : scalarCell x = x.oneCell' := by cases x <;> rfl

theorem cell_oneCell {H : HM} {φ : FM} {m : List Blk} {x : V} {v : Value} (hx : x.isCell = true) (h : VRep N ly H φ m x v) : v.oneCell' = true := by
  cases x with
  | p q =>
    simp only [VRep] at h
    cases q <;> simp only [Rep] at h <;> first
      | (subst h; simpa [V.isCell, scalar_oneCell] using hx)
      | (simp [V.isCell] at hx; done)
      | (obtain ⟨_, _, ⟨rfl, _⟩, _⟩ := h; rfl)
      | (obtain ⟨_, _, rfl, _⟩ := h; rfl)
      | (obtain ⟨_, rfl, _⟩ := h; rfl)
  | nil n => simp only [VRep] at h; obtain ⟨a, rfl⟩ := h; rfl
  | sl n t es => simp only [VRep, Rep] at h; obtain ⟨⟨a, cap, ⟨rfl, _⟩, _⟩, _⟩ := h; rfl
  | ref n b off len =>
    simp only [VRep] at h
    rcases h with ⟨_, a, rfl⟩ | ⟨R, s, cap, _, _, rfl, _⟩ <;> rfl
  | ptr b off => simp only [VRep] at h; obtain ⟨R, s, _, _, rfl⟩ := h; rfl
  | fn f cs => simp only [VRep] at h; obtain ⟨vs, rfl, _⟩ := h; rfl
  | iface t x => simp only [VRep] at h; obtain ⟨y, rfl, _⟩ := h; rfl
  | yield => simp only [VRep] at h; obtain ⟨l, _, rfl⟩ := h; rfl
  | _ => simp [V.isCell] at hx

/-! ### Moves -/

/-- The frozen map with the first cells of a row besides. -/
def HM.more (H : HM) (R : Nat) (arr : Array Value) (lim : Nat) : HM := fun b o => if b = R ∧ o < lim then arr[o]? else H b o

theorem HM.more_zero (H : HM) (R : Nat) (arr : Array Value) : H.more R arr 0 = H := by
  funext b o; simp [HM.more]

theorem HM.more_other {H : HM} {R : Nat} {arr : Array Value} {lim b o : Nat} (h : b ≠ R) : H.more R arr lim b o = H b o := by simp [HM.more, h]

theorem HM.more_past {H : HM} {R : Nat} {arr : Array Value} {lim o : Nat} (h : lim ≤ o) : H.more R arr lim R o = H R o := by
  simp [HM.more]; omega

theorem HM.more_le {H : HM} {R : Nat} {arr : Array Value} {lim : Nat} (h : ∀ o v, H R o = some v → o < lim → arr[o]? = some v) : H.le (H.more R arr lim) := by
  intro b o v hv
  unfold HM.more
  split
  · rename_i hb; obtain ⟨rfl, hb⟩ := hb; exact h o v hv hb
  · exact hv

theorem owned_set {c : Cfg} {i : Nat} {x : Blk} {φ : FM} {b : Nat} {w : World} {H : HM} (hφ : ∀ j, j ≠ i → φ[j]? = c.φ[j]?) (h : Owned ⟨H, φ, c.m.set i x, w⟩ b) :
    Owned c b ∨ ∃ s, φ[i]? = some (some (b, s)) := by
  obtain ⟨j, s, hl, hp⟩ := h
  by_cases hj : j = i
  · subst hj; exact .inr ⟨s, hp⟩
  · refine .inl ⟨j, s, ?_, (hφ j hj) ▸ hp⟩
    unfold Live at hl ⊢
    simpa [List.getElem?_set, Ne.symm hj] using hl

theorem BlkOk.keep {c c' : Cfg} {i : Nat} {x : Blk} (h : BlkOk N ly c i x) (hE : Ext c.H c.φ c.m c'.H c'.φ c'.m) (hφ : c'.φ[i]? = c.φ[i]?)
    (hw : ∀ R s, c.φ[i]? = some (some (R, s)) → c'.w.heap[R]? = c.w.heap[R]? ∧ ∀ o, c.H R o = none → c'.H R o = none) : BlkOk N ly c' i x := by
  cases x with
  | cells cs =>
    obtain ⟨R, s, arr, e, h1, h2, h3, h4, h5, h6⟩ := h
    obtain ⟨k1, k2⟩ := hw R s h1
    exact ⟨R, s, arr, e, hφ.trans h1, k1.trans h2, h3, h4, fun j x hj => let ⟨a, v, b, d⟩ := h5 j x hj; ⟨a, v, b, hE.rep N ly x v d⟩, fun o => k2 o (h6 o)⟩
  | tok n k =>
    rcases h with ⟨h0, h1⟩ | ⟨R, s, arr, e, h1, h2, h3, h4⟩
    · exact .inl ⟨h0, hφ.trans h1⟩
    · obtain ⟨k1, k2⟩ := hw R s h1
      exact .inr ⟨R, s, arr, e, hφ.trans h1, k1.trans h2, h3, fun o ho => k2 o (h4 o ho)⟩
  | dead => trivial
  | hole => trivial

/-- A new row of cells; it takes the place of a hole (or none), and its first `lim` cells are never written again. -/
theorem new_row {c : Cfg} (hg : Good N ly c) (i : Nat) (x : Blk) (arr : Array Value) (e : TypeId) (lim : Nat) (hi : c.m[i]? = some .hole ∨ ∃ n k k', c.m[i]? = some (.tok n k) ∧ x = .tok n k' ∧ k < k')
    (hone : ∀ j v, j < lim → arr[j]? = some v → v.oneCell' = true)
    (hx : match x with
      | .cells cs => lim = 0 ∧ cs.length ≤ arr.size ∧ ∀ (j : Nat) (y : V), cs[j]? = some y → y.isCell = true ∧ ∃ v, arr[j]? = some v ∧ VRep N ly c.H c.φ c.m y v
      | .tok n k => lim = k * sz n
      | _ => False) (w' : World) (hw : w'.heap = c.w.heap.push (.cells arr e (0, 0))) (hos : w'.os = c.w.os) (htape : w'.tape = c.w.tape) (hout : w'.output = c.w.output) :
    let c' : Cfg := ⟨c.H.more c.w.heap.size arr lim, c.φ.set i (some (c.w.heap.size, arr.size)), c.m.set i x, w'⟩
    Good N ly c' ∧ Trans c c' ∧ Ext c.H c.φ c.m c'.H c'.φ c'.m := by
  intro c'
  have hil : i < c.m.length := by
    rcases hi with hi | ⟨_, _, _, hi, _⟩ <;> exact (List.getElem?_eq_some_iff.1 hi).1
  have hH0 : ∀ o, c.H c.w.heap.size o = none := fun o => by
    cases h : c.H c.w.heap.size o with
    | none => rfl
    | some v => exact absurd (hg.hlt N ly h) (Nat.lt_irrefl _)
  have hle : c.H.le c'.H := HM.more_le fun o v hv _ => by rw [hH0] at hv; cases hv
  have hold : ∀ b, b < c.w.heap.size → w'.heap[b]? = c.w.heap[b]? := fun b hb => by rw [hw, Array.getElem?_push, if_neg (by omega)]
  have hnew : w'.heap[c.w.heap.size]? = some (.cells arr e (0, 0)) := by rw [hw]; simp
  have hlink : ∀ j, Link c.φ c.m c'.φ c'.m j j := fun j => by
    by_cases hj : j = i
    · subst hj
      rcases hi with hi | ⟨n, k, k', hi, rfl, hk⟩
      · unfold Link; rw [hi]; trivial
      · unfold Link; rw [hi]; exact .inr ⟨k', by simp [c', hil], by omega, fun e => by omega⟩
    · have h1 : c'.m[j]? = c.m[j]? := by simp [c', List.getElem?_set, Ne.symm hj]
      have h2 : c'.φ[j]? = c.φ[j]? := by simp [c', List.getElem?_set, Ne.symm hj]
      have := Link.refl c.φ c.m j
      unfold Link IdOk at this ⊢
      rw [h1, h2]; exact this
  have hE : Ext c.H c.φ c.m c'.H c'.φ c'.m := Ext.of hle hlink
  have hφi : c'.φ[i]? = some (some (c.w.heap.size, arr.size)) := by simp [c', hg.len, hil]
  have hmi : c'.m[i]? = some x := by simp [c', hil]
  have hφj : ∀ j, j ≠ i → c'.φ[j]? = c.φ[j]? := fun j hj => by simp [c', List.getElem?_set, Ne.symm hj]
  have hmj : ∀ j, j ≠ i → c'.m[j]? = c.m[j]? := fun j hj => by simp [c', List.getElem?_set, Ne.symm hj]
  have hlivej : ∀ j, j ≠ i → Live c'.m j → Live c.m j := fun j hj h => by unfold Live at h ⊢; rwa [hmj j hj] at h
  refine ⟨⟨?_, ?_, ?_, ?_⟩, ⟨frozen_push hw, hos, htape, hout, ?_, hle, ?_, ?_, ?_⟩, hE⟩
  · simp [c', hg.len]
  · intro b o v hv
    simp only [c', HM.more] at hv
    split at hv
    · rename_i hb
      obtain ⟨rfl, ho⟩ := hb
      refine ⟨?_, hone o v ho hv⟩
      simp only [c', World.cell?, hnew]
      simpa using hv
    · have h := hg.frz b o v hv
      refine ⟨?_, h.2⟩
      rw [World.cell?_of_block (w := c.w) (w' := w') (a := ⟨b, o, none⟩) (hold b (hg.hlt N ly hv))]
      exact h.1
  · intro j y hy
    by_cases hj : j = i
    · subst hj
      rw [hmi] at hy; cases hy
      cases x with
      | cells cs =>
        simp only at hx
        obtain ⟨hl0, h4, h5⟩ := hx
        refine ⟨_, _, arr, e, hφi, hnew, rfl, h4, fun q y hq => ?_, fun o => ?_⟩
        · obtain ⟨a, v, b, d⟩ := h5 q y hq
          exact ⟨a, v, b, hE.rep N ly y v d⟩
        · simp only [c', hl0, HM.more_zero]; exact hH0 o
      | tok n k =>
        simp only at hx
        refine .inr ⟨_, _, arr, e, hφi, hnew, rfl, fun o ho => ?_⟩
        simp only [c']
        rw [HM.more_past (by omega)]; exact hH0 o
      | dead => exact hx.elim
      | hole => exact hx.elim
    · rw [hmj j hj] at hy
      by_cases hl : Live c.m j
      · refine (hg.blk j y hy).keep N ly hE (hφj j hj) fun R s hR => ?_
        have hlt : R < c.w.heap.size := hg.owned_lt N ly ⟨j, s, hl, hR⟩
        exact ⟨hold R hlt, fun o ho => by simp only [c']; rw [HM.more_other (by omega)]; exact ho⟩
      · cases y with
        | cells cs => exact absurd (.inl ⟨cs, hy⟩) hl
        | tok n k => exact absurd (.inr ⟨n, k, hy⟩) hl
        | dead => trivial
        | hole => trivial
  · intro a b R s s' ha hb h1 h2
    by_cases hai : a = i
    · by_cases hbi : b = i
      · rw [hai, hbi]
      · subst hai
        rw [hφi] at h1; cases h1
        rw [hφj b hbi] at h2
        exact absurd (hg.owned_lt N ly ⟨b, s', hlivej b hbi hb, h2⟩) (Nat.lt_irrefl _)
    · by_cases hbi : b = i
      · subst hbi
        rw [hφi] at h2; cases h2
        rw [hφj a hai] at h1
        exact absurd (hg.owned_lt N ly ⟨a, s, hlivej a hai ha, h1⟩) (Nat.lt_irrefl _)
      · exact hg.inj a b R s s' (hlivej a hai ha) (hlivej b hbi hb) (hφj a hai ▸ h1) (hφj b hbi ▸ h2)
  · simp only [c', hw, Array.size_push]; omega
  · intro b hb _; exact hold b hb
  · rintro b ⟨j, s, hl, hp⟩
    by_cases hj : j = i
    · subst hj; rw [hφi] at hp; cases hp; exact .inr (Nat.le_refl _)
    · exact .inl ⟨j, s, hlivej j hj hl, hφj j hj ▸ hp⟩
  · intro b o v hv
    simp only [c', HM.more] at hv
    split at hv
    · rename_i hb; exact .inr (.inr (by omega))
    · exact .inl hv


theorem live_set {m : List Blk} {i j : Nat} {x : Blk} (h : Live (m.set i x) j) (hj : j ≠ i) : Live m j := by
  unfold Live at h ⊢; rwa [List.getElem?_set_ne (Ne.symm hj)] at h

/-- A row that a block lies in is written; the block's new cells. -/
theorem write_row {c : Cfg} (hg : Good N ly c) (b R s : Nat) (cs cs' : List V) (arr' : Array Value) (hb : c.m[b]? = some (.cells cs)) (hφ : c.φ[b]? = some (some (R, s))) (hs : arr'.size = s) (hl : cs'.length ≤ s)
    (hx : ∀ (j : Nat) (y : V), cs'[j]? = some y → y.isCell = true ∧ ∃ v, arr'[j]? = some v ∧ VRep N ly c.H c.φ c.m y v) :
    let c' : Cfg := ⟨c.H, c.φ, c.m.set b (.cells cs'), c.w.setRow R arr'⟩
    Good N ly c' ∧ Trans c c' ∧ Ext c.H c.φ c.m c'.H c'.φ c'.m := by
  intro c'
  obtain ⟨R', s', arr, e, h1, h2, h3, h4, h5, h6⟩ := hg.blk b _ hb
  rw [hφ] at h1; cases h1
  have hbl : b < c.m.length := (List.getElem?_eq_some_iff.1 hb).1
  have hlink : ∀ j, Link c.φ c.m c'.φ c'.m j j := fun j => by
    by_cases hj : j = b
    · subst hj; unfold Link; rw [hb]; exact ⟨.inl ⟨cs', by simp [c', hbl]⟩, rfl⟩
    · have h1 : c'.m[j]? = c.m[j]? := by simp [c', Ne.symm hj]
      have := Link.refl c.φ c.m j
      unfold Link IdOk at this ⊢
      rw [h1]; exact this
  have hE : Ext c.H c.φ c.m c'.H c'.φ c'.m := Ext.of (HM.le_refl _) hlink
  have howned : Owned c R := ⟨b, s, .inl ⟨cs, hb⟩, hφ⟩
  have hold : ∀ k, k ≠ R → c'.w.heap[k]? = c.w.heap[k]? := fun k hk => setRow_other c.w R k arr' hk
  refine ⟨⟨by simp [c', hg.len], ?_, ?_, ?_⟩, ⟨frozen_row h2 (setRow_heap c.w R arr arr' e (0, 0) h2) hold, rfl, rfl, rfl, by simp [c'], HM.le_refl _, ?_, ?_, fun _ _ _ h => .inl h⟩, hE⟩
  · intro k o v hv
    have hk : k ≠ R := fun e => by subst e; have := h6 o; simp only [c'] at hv; rw [this] at hv; cases hv
    have h := hg.frz k o v hv
    refine ⟨?_, h.2⟩
    rw [World.cell?_of_block (w := c.w) (w' := c'.w) (a := ⟨k, o, none⟩) (hold k hk)]
    exact h.1
  · intro j y hy
    by_cases hj : j = b
    · subst hj
      have : y = .cells cs' := by simp only [c', List.getElem?_set_self hbl] at hy; exact (Option.some.inj hy).symm
      subst this
      exact ⟨R, s, arr', e, hφ, setRow_heap c.w R arr arr' e (0, 0) h2, hs, hl, fun q y hq => let ⟨a, v, d, f⟩ := hx q y hq; ⟨a, v, d, hE.rep N ly y v f⟩, h6⟩
    · have hy' : c.m[j]? = some y := by simpa [c', List.getElem?_set_ne (Ne.symm hj)] using hy
      by_cases hlv : Live c.m j
      · refine (hg.blk j y hy').keep N ly hE rfl fun R' s' hR => ⟨hold R' fun e => ?_, fun _ h => h⟩
        subst e
        exact hj (hg.inj j b _ _ _ hlv (.inl ⟨cs, hb⟩) hR hφ)
      · cases y with
        | cells cs => exact absurd (.inl ⟨cs, hy'⟩) hlv
        | tok n k => exact absurd (.inr ⟨n, k, hy'⟩) hlv
        | dead => trivial
        | hole => trivial
  · intro i j R s s' hi hj h1 h2
    have lv : ∀ q, Live c'.m q → Live c.m q := fun q h => by
      by_cases hq : q = b
      · subst hq; exact .inl ⟨cs, hb⟩
      · exact live_set h hq
    exact hg.inj i j R s s' (lv i hi) (lv j hj) h1 h2
  · intro k _ hn; exact hold k fun e => hn (e ▸ howned)
  · rintro k ⟨j, s', hlv, hp⟩
    refine .inl ⟨j, s', ?_, hp⟩
    by_cases hq : j = b
    · subst hq; exact .inl ⟨cs, hb⟩
    · exact live_set hlv hq

/-- A slice grows within its row. -/
theorem grow_row {c : Cfg} (hg : Good N ly c) (t R s n k k' : Nat) (arr arr' : Array Value) (e : TypeId) (hb : c.m[t]? = some (.tok n k)) (hφ : c.φ[t]? = some (some (R, s))) (hR : c.w.heap[R]? = some (.cells arr e (0, 0)))
    (hs : arr'.size = arr.size) (hk : k ≤ k') (hkeep : ∀ j, j < k * sz n → arr'[j]? = arr[j]?) (hone : ∀ j v, k * sz n ≤ j → j < k' * sz n → arr'[j]? = some v → v.oneCell' = true) (hfull : arr.size = s) :
    let c' : Cfg := ⟨c.H.more R arr' (k' * sz n), c.φ, c.m.set t (.tok n k'), c.w.setRow R arr'⟩
    (∀ o v, k * sz n ≤ o → c.H R o = some v → False) → (∀ j v, j < k * sz n → arr[j]? = some v → v.oneCell' = true) →
    Good N ly c' ∧ Trans c c' ∧ Ext c.H c.φ c.m c'.H c'.φ c'.m := by
  intro c' hnone hone0
  have hbl : t < c.m.length := (List.getElem?_eq_some_iff.1 hb).1
  have howned : Owned c R := ⟨t, s, .inr ⟨n, k, hb⟩, hφ⟩
  have hold : ∀ q, q ≠ R → c'.w.heap[q]? = c.w.heap[q]? := fun q hq => setRow_other c.w R q arr' hq
  have hnew : c'.w.heap[R]? = some (.cells arr' e (0, 0)) := setRow_heap c.w R arr arr' e (0, 0) hR
  have hcell : ∀ o v, c.H R o = some v → arr[o]? = some v := fun o v hv => by
    have h := (hg.frz R o v hv).1
    simpa [World.cell?, hR] using h
  have hle : c.H.le c'.H := HM.more_le fun o v hv _ => by
    by_cases ho : o < k * sz n
    · rw [hkeep o ho]; exact hcell o v hv
    · exact (hnone o v (by omega) hv).elim
  have hlink : ∀ j, Link c.φ c.m c'.φ c'.m j j := fun j => by
    by_cases hj : j = t
    · subst hj; unfold Link; rw [hb]; exact .inr ⟨k', by simp [c', hbl], hk, fun _ => rfl⟩
    · have h1 : c'.m[j]? = c.m[j]? := by simp [c', Ne.symm hj]
      have := Link.refl c.φ c.m j
      unfold Link IdOk at this ⊢
      rw [h1]; exact this
  have hE : Ext c.H c.φ c.m c'.H c'.φ c'.m := Ext.of hle hlink
  have lv : ∀ q, Live c'.m q → Live c.m q := fun q h => by
    by_cases hq : q = t
    · subst hq; exact .inr ⟨n, k, hb⟩
    · exact live_set h hq
  refine ⟨⟨by simp [c', hg.len], ?_, ?_, fun i j R s s' hi hj h1 h2 => hg.inj i j R s s' (lv i hi) (lv j hj) h1 h2⟩, ⟨frozen_row hR hnew hold, rfl, rfl, rfl, by simp [c'], hle, ?_, ?_, ?_⟩, hE⟩
  · intro q o v hv
    simp only [c', HM.more] at hv
    split at hv
    · rename_i hq
      obtain ⟨rfl, ho⟩ := hq
      refine ⟨by simp only [World.cell?, hnew]; simpa using hv, ?_⟩
      by_cases h0 : o < k * sz n
      · exact hone0 o v h0 (hkeep o h0 ▸ hv)
      · exact hone o v (by omega) ho hv
    · rename_i hq
      by_cases hqR : q = R
      · subst hqR
        exfalso
        have : k * sz n ≤ o := by
          have := Nat.mul_le_mul_right (sz n) hk
          have : ¬ o < k' * sz n := fun h => hq ⟨rfl, h⟩
          omega
        exact hnone o v this hv
      · have h := hg.frz q o v hv
        refine ⟨?_, h.2⟩
        rw [World.cell?_of_block (w := c.w) (w' := c'.w) (a := ⟨q, o, none⟩) (hold q hqR)]
        exact h.1
  · intro j y hy
    by_cases hj : j = t
    · subst hj
      have : y = .tok n k' := by simp only [c', List.getElem?_set_self hbl] at hy; exact (Option.some.inj hy).symm
      subst this
      refine .inr ⟨R, s, arr', e, hφ, hnew, hs.trans hfull, fun o ho => ?_⟩
      simp only [c']
      rw [HM.more_past ho]
      cases h : c.H R o with
      | none => rfl
      | some v =>
        have := Nat.mul_le_mul_right (sz n) hk
        exact (hnone o v (by omega) h).elim
    · have hy' : c.m[j]? = some y := by simpa [c', List.getElem?_set_ne (Ne.symm hj)] using hy
      by_cases hlv : Live c.m j
      · refine (hg.blk j y hy').keep N ly hE rfl fun R' s' hR' => ?_
        have hne : R' ≠ R := fun e => by
          subst e
          exact hj (hg.inj j t _ _ _ hlv (.inr ⟨n, k, hb⟩) hR' hφ)
        exact ⟨hold R' hne, fun o h => by simp only [c']; rw [HM.more_other hne]; exact h⟩
      · cases y with
        | cells cs => exact absurd (.inl ⟨cs, hy'⟩) hlv
        | tok n k => exact absurd (.inr ⟨n, k, hy'⟩) hlv
        | dead => trivial
        | hole => trivial
  · intro q _ hn; exact hold q fun e => hn (e ▸ howned)
  · rintro q ⟨j, s', hlv, hp⟩; exact .inl ⟨j, s', lv j hlv, hp⟩
  · intro q o v hv
    simp only [c', HM.more] at hv
    split at hv
    · rename_i hq; exact .inr (.inl (hq.1 ▸ howned))
    · exact .inl hv

/-- The world alone goes on, its memory untouched. -/
theorem same_heap {c : Cfg} (hg : Good N ly c) (w' : World) (hw : w'.heap = c.w.heap) (hos : w'.os = c.w.os) (htape : w'.tape = c.w.tape) (hout : w'.output = c.w.output) :
    Good N ly ⟨c.H, c.φ, c.m, w'⟩ ∧ Trans c ⟨c.H, c.φ, c.m, w'⟩ := by
  refine ⟨⟨hg.len, fun b o v hv => ?_, fun i x hx => ?_, hg.inj⟩, ⟨frozen_heap hw, hos, htape, hout, by simp [hw], HM.le_refl _, fun b _ _ => by simp [hw], fun b h => .inl h, fun _ _ _ h => .inl h⟩⟩
  · have h := hg.frz b o v hv
    simp only [World.cell?, hw] at h ⊢
    exact h
  · have h := hg.blk i x hx
    cases x with
    | cells cs =>
      obtain ⟨R, s, arr, e, h1, h2, h3⟩ := h
      exact ⟨R, s, arr, e, h1, by simp only [hw]; exact h2, h3⟩
    | tok n k =>
      rcases h with h | ⟨R, s, arr, e, h1, h2, h3⟩
      · exact .inl h
      · exact .inr ⟨R, s, arr, e, h1, by simp only [hw]; exact h2, h3⟩
    | dead => trivial
    | hole => trivial

/-- Memory numbered anew (and no longer all of it): where each block of the new memory comes from. -/
theorem renum {c : Cfg} (hg : Good N ly c) (φ' : FM) (m' : List Blk) (ρ : Nat → Option Nat) (hlen : φ'.length = m'.length)
    (hfrom : ∀ i' x', m'[i']? = some x' → (x' = .dead ∨ x' = .hole ∨ ∃ n, x' = .tok n 0 ∧ φ'[i']? = some none) ∨ ∃ i x, ρ i = some i' ∧ c.m[i]? = some x ∧ x.ren ρ = some x' ∧ φ'[i']? = c.φ[i]?)
    (hinj : ∀ i j k, ρ i = some k → ρ j = some k → i = j) (hL : ∀ i i', ρ i = some i' → Leaf c.φ c.m φ' m' i i') :
    Good N ly ⟨c.H, φ', m', c.w⟩ ∧ Trans c ⟨c.H, φ', m', c.w⟩ := by
  have hfun : ∀ i i' j', ρ i = some i' → ρ i = some j' → i' = j' := fun i i' j' h k => by rw [h] at k; exact Option.some.inj k
  have hlive : ∀ i' R s, Live m' i' → φ'[i']? = some (some (R, s)) → ∃ i, ρ i = some i' ∧ Live c.m i ∧ c.φ[i]? = some (some (R, s)) := by
    intro i' R s hl hp
    rcases hl with ⟨cs', hm⟩ | ⟨n, k, hm⟩
    · rcases hfrom i' _ hm with (h | h | ⟨n, h, _⟩) | ⟨i, x, h1, h2, h3, h4⟩
      · cases h
      · cases h
      · cases h
      · refine ⟨i, h1, ?_, h4 ▸ hp⟩
        cases x with
        | cells cs => exact .inl ⟨cs, h2⟩
        | tok n k => simp [Blk.ren] at h3
        | dead => simp [Blk.ren] at h3
        | hole => simp [Blk.ren] at h3
    · rcases hfrom i' _ hm with (h | h | ⟨n, h, h'⟩) | ⟨i, x, h1, h2, h3, h4⟩
      · cases h
      · cases h
      · rw [hp] at h'; cases h'
      · refine ⟨i, h1, ?_, h4 ▸ hp⟩
        cases x with
        | cells cs =>
          simp only [Blk.ren, Option.map_eq_some_iff] at h3
          obtain ⟨_, _, h3⟩ := h3; cases h3
        | tok n' k' => exact .inr ⟨n', k', h2⟩
        | dead => simp [Blk.ren] at h3
        | hole => simp [Blk.ren] at h3
  refine ⟨⟨hlen, hg.frz, ?_, ?_⟩, ⟨fun _ => rfl, rfl, rfl, rfl, Nat.le_refl _, HM.le_refl _, fun _ _ _ => rfl, ?_, fun _ _ _ h => .inl h⟩⟩
  · intro i' x' hx'
    rcases hfrom i' x' hx' with (h | h | ⟨n, h, h'⟩) | ⟨i, x, h1, h2, h3, h4⟩
    · subst h; trivial
    · subst h; trivial
    · subst h; exact .inl ⟨rfl, h'⟩
    · have hb := hg.blk i x h2
      cases x with
      | cells cs =>
        simp only [Blk.ren, Option.map_eq_some_iff] at h3
        obtain ⟨cs', h3, rfl⟩ := h3
        obtain ⟨R, s, arr, e, k1, k2, k3, k4, k5, k6⟩ := hb
        have hlen' : ∀ {xs ys : List V}, rens ρ xs = some ys → xs.length = ys.length := by
          intro xs
          induction xs with
          | nil => intro ys h; simp only [rens, Option.some.injEq] at h; subst h; rfl
          | cons a r ih =>
            intro ys h
            simp only [rens] at h
            split at h
            · rename_i u v hu hv; simp only [Option.some.injEq] at h; subst h; simp [ih hv]
            · simp at h
        have hget : ∀ {xs ys : List V}, rens ρ xs = some ys → ∀ (j : Nat) (y : V), ys[j]? = some y → ∃ x : V, xs[j]? = some x ∧ x.ren ρ = some y := by
          intro xs
          induction xs with
          | nil => intro ys h j y hj; simp only [rens, Option.some.injEq] at h; subst h; simp at hj
          | cons a r ih =>
            intro ys h j y hj
            simp only [rens] at h
            split at h
            · rename_i u v hu hv
              simp only [Option.some.injEq] at h; subst h
              cases j with
              | zero => simp at hj; subst hj; exact ⟨a, by simp, hu⟩
              | succ j => simpa using ih hv j y (by simpa using hj)
            · simp at h
        have hcellren : ∀ (x y : V), x.ren ρ = some y → x.isCell = y.isCell := by
          intro x y h
          cases x <;> simp only [V.ren, Option.some.injEq, Option.map_eq_some_iff] at h <;> first
            | (subst h; rfl)
            | (obtain ⟨_, _, rfl⟩ := h; rfl)
        refine ⟨R, s, arr, e, h4.trans k1, k2, k3, hlen' h3 ▸ k4, fun j y hj => ?_, k6⟩
        obtain ⟨x, hx, hr⟩ := hget h3 j y hj
        obtain ⟨a, v, b, d⟩ := k5 j x hx
        exact ⟨hcellren x y hr ▸ a, v, b, VRep.ren N ly (HM.le_refl _) hL x y v hr d⟩
      | tok n k =>
        simp only [Blk.ren, Option.some.injEq] at h3; subst h3
        rcases hb with ⟨k1, k2⟩ | ⟨R, s, arr, e, k1, k2⟩
        · exact .inl ⟨k1, h4.trans k2⟩
        · exact .inr ⟨R, s, arr, e, h4.trans k1, k2⟩
      | dead => simp only [Blk.ren, Option.some.injEq] at h3; subst h3; trivial
      | hole => simp only [Blk.ren, Option.some.injEq] at h3; subst h3; trivial
  · intro a b R s s' ha hb h1 h2
    obtain ⟨i, hi, li, pi⟩ := hlive a R s ha h1
    obtain ⟨j, hj, lj, pj⟩ := hlive b R s' hb h2
    have := hg.inj i j R s s' li lj pi pj
    subst this
    exact hfun i a b hi hj
  · rintro R ⟨i', s, hl, hp⟩
    obtain ⟨i, _, li, pi⟩ := hlive i' R s hl hp
    exact .inl ⟨i, s, li, pi⟩

end Go.Am

/- Memory kept and laid open: killing a block, laying out places, lifting a nil slice, laying a block open, numbering anew. -/

namespace Go.Am
open Go

variable (N : Nm) (ly : Option Nat)

theorem Blk.ren_some (x : Blk) : x.ren some = some x := by
  cases x <;> simp [Blk.ren, rens_some]

theorem kill {c : Cfg} (hg : Good N ly c) (i : Nat) :
    Good N ly ⟨c.H, c.φ, c.m.set i .dead, c.w⟩ ∧ Trans c ⟨c.H, c.φ, c.m.set i .dead, c.w⟩ ∧ Ext c.H c.φ c.m c.H c.φ (c.m.set i .dead) := by
  have hL : ∀ j, Link c.φ c.m c.φ (c.m.set i .dead) j j := fun j => by
    by_cases hj : j = i
    · subst hj
      unfold Link
      cases h : c.m[j]? with
      | none => trivial
      | some x =>
        have hlt := (List.getElem?_eq_some_iff.1 h).1
        have hs : (c.m.set j .dead)[j]? = some Blk.dead := by simp [hlt]
        cases x with
        | cells cs => exact ⟨.inr hs, rfl⟩
        | tok n k => exact .inl hs
        | dead => exact ⟨hs, rfl⟩
        | hole => trivial
    · have h1 : (c.m.set i .dead)[j]? = c.m[j]? := by simp [Ne.symm hj]
      have := Link.refl c.φ c.m j
      unfold Link IdOk at this ⊢
      rw [h1]; exact this
  have := renum N ly hg c.φ (c.m.set i .dead) some (by simp [hg.len]) (fun i' x' hx' => by
    by_cases hj : i' = i
    · subst hj
      have hlt : i' < c.m.length := by
        have := (List.getElem?_eq_some_iff.1 hx').1
        simpa using this
      rw [List.getElem?_set_self hlt] at hx'
      exact .inl (.inl (Option.some.inj hx').symm)
    · exact .inr ⟨i', x', rfl, by simpa [List.getElem?_set_ne (Ne.symm hj)] using hx', Blk.ren_some x', rfl⟩)
    (fun i j k h h' => by cases h; cases h'; rfl) (fun j j' h => by cases h; exact (hL j).leaf)
  exact ⟨this.1, this.2, Ext.of (HM.le_refl _) hL⟩

theorem kills {c : Cfg} (hg : Good N ly c) : ∀ (l : List Nat), Good N ly ⟨c.H, c.φ, applyUps c.m (l.map fun i => (i, Blk.dead)), c.w⟩ ∧ Trans c ⟨c.H, c.φ, applyUps c.m (l.map fun i => (i, Blk.dead)), c.w⟩ ∧
    Ext c.H c.φ c.m c.H c.φ (applyUps c.m (l.map fun i => (i, Blk.dead))) := by
  intro l
  induction l generalizing c with
  | nil => exact ⟨hg, Trans.refl c, Ext.refl⟩
  | cons i r ih =>
    obtain ⟨h1, h2, h3⟩ := kill N ly hg i
    obtain ⟨k1, k2, k3⟩ := ih h1
    exact ⟨k1, h2.trans k2, Ext.trans h3 k3⟩

theorem more_blocks {c : Cfg} (hg : Good N ly c) (bs : List Blk) (fs : FM) (hl : fs.length = bs.length)
    (hb : ∀ (j : Nat) (x : Blk), bs[j]? = some x → x = .dead ∨ x = .hole ∨ ∃ n, x = .tok n 0 ∧ fs[j]? = some none) :
    Good N ly ⟨c.H, c.φ ++ fs, c.m ++ bs, c.w⟩ ∧ Trans c ⟨c.H, c.φ ++ fs, c.m ++ bs, c.w⟩ ∧ Ext c.H c.φ c.m c.H (c.φ ++ fs) (c.m ++ bs) := by
  have hL : ∀ j, Link c.φ c.m (c.φ ++ fs) (c.m ++ bs) j j := fun j => by
    cases h : c.m[j]? with
    | none => unfold Link; rw [h]; trivial
    | some x =>
      have hlt := (List.getElem?_eq_some_iff.1 h).1
      have h1 : (c.m ++ bs)[j]? = c.m[j]? := List.getElem?_append_left hlt
      have h2 : (c.φ ++ fs)[j]? = c.φ[j]? := List.getElem?_append_left (by rw [hg.len]; exact hlt)
      have := Link.refl c.φ c.m j
      unfold Link IdOk at this ⊢
      rw [h1, h2]; exact this
  have := renum N ly hg (c.φ ++ fs) (c.m ++ bs) some (by simp [hg.len, hl]) (fun i' x' hx' => by
    by_cases hj : i' < c.m.length
    · rw [List.getElem?_append_left hj] at hx'
      exact .inr ⟨i', x', rfl, hx', Blk.ren_some x', List.getElem?_append_left (by rw [hg.len]; exact hj)⟩
    · rw [List.getElem?_append_right (by omega)] at hx'
      rcases hb _ _ hx' with h | h | ⟨n, h, h'⟩
      · exact .inl (.inl h)
      · exact .inl (.inr (.inl h))
      · refine .inl (.inr (.inr ⟨n, h, ?_⟩))
        rw [List.getElem?_append_right (by rw [hg.len]; omega), hg.len]
        exact h')
    (fun i j k h h' => by cases h; cases h'; rfl) (fun j j' h => by cases h; exact (hL j).leaf)
  exact ⟨this.1, this.2, Ext.of (HM.le_refl _) hL⟩

/-- A block's cells told otherwise, the world as it was. -/
theorem retell {c : Cfg} (hg : Good N ly c) (b R s : Nat) (cs cs' : List V) (hb : c.m[b]? = some (.cells cs)) (hφ : c.φ[b]? = some (some (R, s))) (hl : cs'.length ≤ s)
    (hx : ∀ (j : Nat) (y : V) (v : Value) (arr : Array Value) (e : TypeId), c.w.heap[R]? = some (.cells arr e (0, 0)) → cs'[j]? = some y → y.isCell = true ∧ ∃ v, arr[j]? = some v ∧ VRep N ly c.H c.φ c.m y v) :
    Good N ly ⟨c.H, c.φ, c.m.set b (.cells cs'), c.w⟩ ∧ Trans c ⟨c.H, c.φ, c.m.set b (.cells cs'), c.w⟩ ∧ Ext c.H c.φ c.m c.H c.φ (c.m.set b (.cells cs')) := by
  obtain ⟨R', s', arr, e, h1, h2, h3, h4, h5, h6⟩ := hg.blk b _ hb
  rw [hφ] at h1; cases h1
  have := write_row N ly hg b R s cs cs' arr hb hφ h3 hl (fun j y hj => hx j y (.bool true) arr e h2 hj)
  rwa [setRow_self c.w R arr e (0, 0) h2] at this

theorem open_isCell {i : Nat} {ps : List P} {x y : V} (h : x.open_ i ps = some y) (hx : x.isCell = true) : y.isCell = true := by
  cases x <;> simp only [V.open_, Option.some.injEq, Option.map_eq_some_iff] at h <;> first
    | (subst h; exact hx)
    | (obtain ⟨_, _, rfl⟩ := h; first | rfl | simp [V.isCell] at hx)
    | (split at h <;> (try split at h) <;> simp only [Option.some.injEq, reduceCtorEq] at h <;> subst h <;> rfl)

theorem opens_get {i : Nat} {ps : List P} : ∀ {xs ys : List V}, opens i ps xs = some ys → xs.length = ys.length ∧ ∀ (j : Nat) (y : V), ys[j]? = some y → ∃ x : V, xs[j]? = some x ∧ x.open_ i ps = some y
  | [], ys, h => by simp only [opens, Option.some.injEq] at h; subst h; exact ⟨rfl, fun j y hj => by simp at hj⟩
  | a :: r, ys, h => by
    simp only [opens] at h
    split at h
    · rename_i u v hu hv
      simp only [Option.some.injEq] at h; subst h
      obtain ⟨k1, k2⟩ := opens_get hv
      refine ⟨by simp [k1], fun j y hj => ?_⟩
      cases j with
      | zero => simp at hj; subst hj; exact ⟨a, by simp, hu⟩
      | succ j => simpa using k2 j y (by simpa using hj)
    · simp at h

theorem openBlks_get {i : Nat} {ps : List P} : ∀ {m m' : List Blk}, openBlks i ps m = some m' → m.length = m'.length ∧ ∀ (j : Nat) (y : Blk), m'[j]? = some y →
    (∃ cs cs', m[j]? = some (.cells cs) ∧ y = .cells cs' ∧ opens i ps cs = some cs') ∨ (m[j]? = some y ∧ ∀ cs, y ≠ .cells cs)
  | [], m', h => by simp only [openBlks, Option.some.injEq] at h; subst h; exact ⟨rfl, fun j y hj => by simp at hj⟩
  | .cells cs :: r, m', h => by
    simp only [openBlks] at h
    split at h
    · rename_i u v hu hv
      simp only [Option.some.injEq] at h; subst h
      obtain ⟨k1, k2⟩ := openBlks_get hv
      refine ⟨by simp [k1], fun j y hj => ?_⟩
      cases j with
      | zero => simp at hj; subst hj; exact .inl ⟨cs, u, by simp, rfl, hu⟩
      | succ j => simpa using k2 j y (by simpa using hj)
    · simp at h
  | .tok n k :: r, m', h => by
    simp only [openBlks, Option.map_eq_some_iff] at h
    obtain ⟨v, hv, rfl⟩ := h
    obtain ⟨k1, k2⟩ := openBlks_get hv
    refine ⟨by simp [k1], fun j y hj => ?_⟩
    cases j with
    | zero => simp at hj; subst hj; exact .inr ⟨by simp, fun cs h => by cases h⟩
    | succ j => simpa using k2 j y (by simpa using hj)
  | .dead :: r, m', h => by
    simp only [openBlks, Option.map_eq_some_iff] at h
    obtain ⟨v, hv, rfl⟩ := h
    obtain ⟨k1, k2⟩ := openBlks_get hv
    refine ⟨by simp [k1], fun j y hj => ?_⟩
    cases j with
    | zero => simp at hj; subst hj; exact .inr ⟨by simp, fun cs h => by cases h⟩
    | succ j => simpa using k2 j y (by simpa using hj)
  | .hole :: r, m', h => by
    simp only [openBlks, Option.map_eq_some_iff] at h
    obtain ⟨v, hv, rfl⟩ := h
    obtain ⟨k1, k2⟩ := openBlks_get hv
    refine ⟨by simp [k1], fun j y hj => ?_⟩
    cases j with
    | zero => simp at hj; subst hj; exact .inr ⟨by simp, fun cs h => by cases h⟩
    | succ j => simpa using k2 j y (by simpa using hj)

/-- A block laid open: its cells are never written again, and what named it is data. -/
theorem open_row {c : Cfg} (hg : Good N ly c) (i : Nat) (cs : List V) (ps : List P) (m' : List Blk) (hi : c.m[i]? = some (.cells cs)) (hps : toPs cs = some ps) (hm : openBlks i ps (c.m.set i .dead) = some m') :
    ∃ H', Good N ly ⟨H', c.φ, m', c.w⟩ ∧ Trans c ⟨H', c.φ, m', c.w⟩ ∧ Ext c.H c.φ c.m H' c.φ m' ∧ ∀ (x y : V) (v : Value), x.open_ i ps = some y → VRep N ly c.H c.φ c.m x v → VRep N ly H' c.φ m' y v := by
  obtain ⟨R, s, arr, e, h1, h2, h3, h4, h5, h6⟩ := hg.blk i _ hi
  have hil : i < c.m.length := (List.getElem?_eq_some_iff.1 hi).1
  let H' : HM := c.H.more R arr cs.length
  have hle : c.H.le H' := HM.more_le fun o v hv _ => by rw [h6] at hv; cases hv
  obtain ⟨hlen, hget⟩ := openBlks_get hm
  have howned : Owned c R := ⟨i, s, .inl ⟨cs, hi⟩, h1⟩
  -- first the block is dead and its cells are known
  have hdead : (c.m.set i .dead)[i]? = some Blk.dead := by simp [hil]
  have hL0 : ∀ j, Link c.φ c.m c.φ (c.m.set i .dead) j j := fun j => by
    by_cases hj : j = i
    · subst hj; unfold Link; rw [hi]; exact ⟨.inr hdead, rfl⟩
    · have h1 : (c.m.set i .dead)[j]? = c.m[j]? := by simp [Ne.symm hj]
      have := Link.refl c.φ c.m j
      unfold Link IdOk at this ⊢
      rw [h1]; exact this
  have hE0 : Ext c.H c.φ c.m H' c.φ (c.m.set i .dead) := Ext.of hle hL0
  -- what is laid open reads the same in the new memory
  have hL1 : ∀ j, Link c.φ (c.m.set i .dead) c.φ m' j j := fun j => by
    cases hj : (c.m.set i .dead)[j]? with
    | none => unfold Link; rw [hj]; trivial
    | some x =>
      have hlt : j < m'.length := by rw [← hlen]; exact (List.getElem?_eq_some_iff.1 hj).1
      obtain ⟨y, hy⟩ : ∃ y, m'[j]? = some y := ⟨m'[j], List.getElem?_eq_getElem hlt⟩
      unfold Link
      rw [hj]
      rcases hget j y hy with ⟨a, b, k1, rfl, _⟩ | ⟨k1, k2⟩
      · rw [hj] at k1; cases k1; exact ⟨.inl ⟨b, hy⟩, rfl⟩
      · rw [hj] at k1; cases k1
        cases x with
        | cells cs => exact absurd rfl (k2 cs)
        | tok n k => exact .inr ⟨k, hy, Nat.le_refl _, fun _ => rfl⟩
        | dead => exact ⟨hy, rfl⟩
        | hole => simp only
  have hE1 : Ext H' c.φ (c.m.set i .dead) H' c.φ m' := Ext.of (HM.le_refl _) hL1
  have hE : Ext c.H c.φ c.m H' c.φ m' := Ext.trans hE0 hE1
  have hna : ∀ p ∈ ps, p.isAgg = false := fun p hp => by
    obtain ⟨j, hj⟩ := List.getElem?_of_mem hp
    obtain ⟨x, hx, hxp⟩ := toPs_get hps j p hj
    exact toP_isAgg (h5 j x hx).1 hxp
  have hrep : RepCs N H' R ps 0 := RepCs.of N fun j p hj => by
    obtain ⟨x, hx, hxp⟩ := toPs_get hps j p hj
    obtain ⟨_, v, hv, hr⟩ := h5 j x hx
    have hjl : j < cs.length := (List.getElem?_eq_some_iff.1 hx).1
    refine ⟨v, ?_, VRep.toP N ly x p v hxp (hE.rep N ly x v hr)⟩
    rw [Nat.zero_add]
    show (if R = R ∧ j < cs.length then arr[j]? else c.H R j) = some v
    rw [if_pos ⟨rfl, hjl⟩]; exact hv
  have hopen : ∀ (x y : V) (v : Value), x.open_ i ps = some y → VRep N ly c.H c.φ c.m x v → VRep N ly H' c.φ m' y v :=
    fun x y v hxy hr => VRep.open_ N ly h1 hrep hna x y v hxy (hE.rep N ly x v hr)
  have hlv : ∀ j, Live m' j → Live c.m j ∧ j ≠ i := fun j hl => by
    rcases hl with ⟨a, ha⟩ | ⟨n, k, ha⟩
    · rcases hget j _ ha with ⟨a', b, k1, _, _⟩ | ⟨_, k2⟩
      · by_cases hj : j = i
        · subst hj; rw [hdead] at k1; cases k1
        · exact ⟨.inl ⟨a', by simpa [List.getElem?_set_ne (Ne.symm hj)] using k1⟩, hj⟩
      · exact absurd rfl (k2 a)
    · rcases hget j _ ha with ⟨a', b, _, k1, _⟩ | ⟨k1, _⟩
      · cases k1
      · by_cases hj : j = i
        · subst hj; rw [hdead] at k1; cases k1
        · exact ⟨.inr ⟨n, k, by simpa [List.getElem?_set_ne (Ne.symm hj)] using k1⟩, hj⟩
  refine ⟨H', ⟨by simp [hg.len, ← hlen], ?_, ?_, fun a b R s s' ha hb => hg.inj a b R s s' (hlv a ha).1 (hlv b hb).1⟩, ⟨fun _ => rfl, rfl, rfl, rfl, Nat.le_refl _, hle, fun _ _ _ => rfl, ?_, ?_⟩, hE, hopen⟩
  · intro b o v hv
    simp only [H', HM.more] at hv
    split at hv
    · rename_i hb
      obtain ⟨rfl, ho⟩ := hb
      have hgx : cs[o]? = some cs[o] := List.getElem?_eq_getElem ho
      obtain ⟨k1, u, k2, k3⟩ := h5 o _ hgx
      rw [k2] at hv; cases hv
      refine ⟨?_, cell_oneCell N ly k1 k3⟩
      simp only [World.cell?, h2]; simpa using k2
    · exact hg.frz b o v hv
  · intro j y hy
    have hkeep : ∀ x, c.m[j]? = some x → j ≠ i → (∀ cs, x ≠ .cells cs) → BlkOk N ly ⟨H', c.φ, m', c.w⟩ j x := fun x hx hj hnc => by
      by_cases hl : Live c.m j
      · refine (hg.blk j x hx).keep N ly hE rfl fun R' s' hR' => ⟨rfl, fun o ho => ?_⟩
        have hne : R' ≠ R := fun e => by subst e; exact hj (hg.inj j i _ _ _ hl (.inl ⟨cs, hi⟩) hR' h1)
        simp only [H']; rw [HM.more_other hne]; exact ho
      · cases x with
        | cells cs => exact absurd rfl (hnc cs)
        | tok n k => exact absurd (.inr ⟨n, k, hx⟩) hl
        | dead => trivial
        | hole => trivial
    rcases hget j y hy with ⟨a, b, k1, rfl, k3⟩ | ⟨k1, k2⟩
    · by_cases hj : j = i
      · subst hj; rw [hdead] at k1; cases k1
      · have k1' : c.m[j]? = some (.cells a) := by simpa [List.getElem?_set_ne (Ne.symm hj)] using k1
        obtain ⟨R', s', arr', e', q1, q2, q3, q4, q5, q6⟩ := hg.blk j _ k1'
        have hne : R' ≠ R := fun e => by subst e; exact hj (hg.inj j i _ _ _ (.inl ⟨a, k1'⟩) (.inl ⟨cs, hi⟩) q1 h1)
        obtain ⟨l1, l2⟩ := opens_get k3
        refine ⟨R', s', arr', e', q1, q2, q3, l1 ▸ q4, fun q z hz => ?_, fun o => by simp only [H']; rw [HM.more_other hne]; exact q6 o⟩
        obtain ⟨x, hx, hxz⟩ := l2 q z hz
        obtain ⟨p1, v, p2, p3⟩ := q5 q x hx
        exact ⟨open_isCell hxz p1, v, p2, hopen x z v hxz p3⟩
    · by_cases hj : j = i
      · subst hj; rw [hdead] at k1; cases k1; trivial
      · exact hkeep y (by simpa [List.getElem?_set_ne (Ne.symm hj)] using k1) hj k2
  · rintro b ⟨j, s', hl, hp⟩; exact .inl ⟨j, s', (hlv j hl).1, hp⟩
  · intro b o v hv
    simp only [H', HM.more] at hv
    split at hv
    · rename_i hb; exact .inr (.inl (hb.1 ▸ howned))
    · exact .inl hv

end Go.Am
