/- The abstract machine: values, blocks, operations, code, and how they run. No statement about Go is made in this text. -/
import GoSem.Core.Code
import GoSem.Core.Lib
import GoSem.Machine.Frame
import GoSem.Op.String
namespace Go.Am
open Go

/-! ## Data -/

/-- Persistent data. `sl n es`: a slice; `n = 0`: elements of one cell, else structs or arrays of `n` cells. `ptr cs`: a pointer to memory that is never written again, the cells from there on. -/
inductive P where
  | v (x : Value)
  | agg (cs : List P)
  | sl (n : Nat) (es : List P)
  | ptr (cs : List P)
  | fn (f : Nat) (caps : List P)
  | iface (t : Nat) (x : P)
  | tuple (xs : List P)
  deriving Inhabited

/-- Values: persistent ones, and those that name blocks of the activation's own memory. -/
inductive V where
  | p (x : P)
  | nil (n : Nat)
  | sl (n t : Nat) (es : List P)
  | ref (n b off len : Nat)
  | ptr (b off : Nat)
  | agg (cs : List V)
  | fn (f : Nat) (caps : List V)
  | iface (t : Nat) (x : V)
  | tuple (xs : List V)
  | yield
  | unk
  deriving Inhabited

inductive Blk where
  | cells (cs : List V)
  | tok (n c : Nat)
  | dead
  | hole
  deriving Inhabited

def sz (n : Nat) : Nat := if n = 0 then 1 else n

def undefP : P := .v (.tuple #[])
def undefV : V := .p undefP

def P.cells : P → List P
  | .agg cs => cs
  | x => [x]

def scalarCell : Value → Bool
  | .agg _ => false
  | .tuple _ => false
  | _ => true

def V.isCell : V → Bool
  | .p (.v x) => scalarCell x
  | .p (.agg _) => false
  | .p (.tuple _) => false
  | .agg _ => false
  | .tuple _ => false
  | .unk => false
  | _ => true

/-- The cells of a value that is to be laid into memory. -/
def V.cells? : V → Option (List V)
  | .agg cs => if cs.all V.isCell then some cs else none
  | .p (.agg ps) => if (ps.map V.p).all V.isCell then some (ps.map V.p) else none
  | x => if x.isCell then some [x] else none

/-- The cells of a struct or an array. -/
def V.agg? : V → Option (List V)
  | .agg cs => some cs
  | .p (.agg ps) => some (ps.map V.p)
  | _ => none

mutual
def V.toP : V → Option P
  | .p x => some x
  | .nil n => some (.sl n [])
  | .sl n _ es => some (.sl n es)
  | .agg cs => (toPs cs).map .agg
  | .fn f caps => (toPs caps).map (.fn f)
  | .iface t x => (V.toP x).map (.iface t)
  | .tuple xs => (toPs xs).map .tuple
  | _ => none
def toPs : List V → Option (List P)
  | [] => some []
  | x :: r => match V.toP x, toPs r with
    | some a, some b => some (a :: b)
    | _, _ => none
end

mutual
/-- The blocks that a value names. -/
def V.ids : V → List Nat
  | .sl _ t _ => [t]
  | .ref _ b _ _ => [b]
  | .ptr b _ => [b]
  | .agg cs => idss cs
  | .fn _ caps => idss caps
  | .iface _ x => V.ids x
  | .tuple xs => idss xs
  | _ => []
def idss : List V → List Nat
  | [] => []
  | x :: r => V.ids x ++ idss r
end

mutual
def V.ren (ρ : Nat → Option Nat) : V → Option V
  | .p x => some (.p x)
  | .nil n => some (.nil n)
  | .sl n t es => (ρ t).map fun t' => .sl n t' es
  | .ref n b off len => (ρ b).map fun b' => .ref n b' off len
  | .ptr b off => (ρ b).map fun b' => .ptr b' off
  | .agg cs => (rens ρ cs).map .agg
  | .fn f caps => (rens ρ caps).map (.fn f)
  | .iface t x => (V.ren ρ x).map (.iface t)
  | .tuple xs => (rens ρ xs).map .tuple
  | .yield => some .yield
  | .unk => some .unk
def rens (ρ : Nat → Option Nat) : List V → Option (List V)
  | [] => some []
  | x :: r => match V.ren ρ x, rens ρ r with
    | some a, some b => some (a :: b)
    | _, _ => none
end

def Blk.ren (ρ : Nat → Option Nat) : Blk → Option Blk
  | .cells cs => (rens ρ cs).map .cells
  | .tok n c => some (.tok n c)
  | .dead => some .dead
  | .hole => some .hole

def renBlks (ρ : Nat → Option Nat) : List Blk → Option (List Blk)
  | [] => some []
  | x :: r => match x.ren ρ, renBlks ρ r with
    | some a, some b => some (a :: b)
    | _, _ => none

mutual
/-- No yield is in it. -/
def V.noY : V → Bool
  | .yield => false
  | .agg cs => noYs cs
  | .fn _ cs => noYs cs
  | .iface _ x => V.noY x
  | .tuple cs => noYs cs
  | _ => true
def noYs : List V → Bool
  | [] => true
  | x :: r => V.noY x && noYs r
end

def Blk.noY : Blk → Bool
  | .cells cs => noYs cs
  | _ => true

/-- The elements of a row of cells. -/
def chunk (n : Nat) : Nat → List P → List P
  | 0, _ => []
  | k + 1, cs => (if n = 0 then cs.headD undefP else .agg (cs.take n)) :: chunk n k (cs.drop (sz n))

mutual
/-- A block is laid open: what named it becomes persistent. -/
def V.open_ (i : Nat) (ps : List P) : V → Option V
  | .p x => some (.p x)
  | .nil n => some (.nil n)
  | .sl n t es => some (.sl n t es)
  | .ref n b off len => if b = i then (if off + len * sz n ≤ ps.length then some (.p (.sl n (chunk n len (ps.drop off)))) else none) else some (.ref n b off len)
  | .ptr b off => if b = i then some (.p (.ptr (ps.drop off))) else some (.ptr b off)
  | .agg cs => (opens i ps cs).map .agg
  | .fn f caps => (opens i ps caps).map (.fn f)
  | .iface t x => (V.open_ i ps x).map (.iface t)
  | .tuple xs => (opens i ps xs).map .tuple
  | .yield => some .yield
  | .unk => some .unk
def opens (i : Nat) (ps : List P) : List V → Option (List V)
  | [] => some []
  | x :: r => match V.open_ i ps x, opens i ps r with
    | some a, some b => some (a :: b)
    | _, _ => none
end

def openBlks (i : Nat) (ps : List P) : List Blk → Option (List Blk)
  | [] => some []
  | .cells cs :: r => match opens i ps cs, openBlks i ps r with
    | some a, some b => some (.cells a :: b)
    | _, _ => none
  | x :: r => (openBlks i ps r).map (x :: ·)

/-! ## Frames -/

/-- The slots that hold something, in order; `n`: how many slots there are. -/
structure Fr where
  n : Nat
  l : List (Nat × V)
  deriving Inhabited

def getF : List (Nat × V) → Nat → V
  | [], _ => .unk
  | (j, x) :: r, i => bif Nat.beq j i then x else getF r i

def putF : List (Nat × V) → Nat → V → List (Nat × V)
  | [], i, x => [(i, x)]
  | (j, y) :: r, i, x => bif Nat.blt i j then (i, x) :: (j, y) :: r else bif Nat.beq i j then (i, x) :: r else (j, y) :: putF r i x

def inL (i : Nat) : List Nat → Bool
  | [] => false
  | j :: r => bif Nat.beq j i then true else inL i r

def keepF (keep : List Nat) : List (Nat × V) → List (Nat × V)
  | [] => []
  | (j, x) :: r => bif inL j keep then (j, x) :: keepF keep r else keepF keep r

def dropF (gone : List Nat) : List (Nat × V) → List (Nat × V)
  | [] => []
  | (j, x) :: r => bif inL j gone then dropF gone r else (j, x) :: dropF gone r

def mapF (f : V → Option V) : List (Nat × V) → Option (List (Nat × V))
  | [] => some []
  | (j, x) :: r => match f x, mapF f r with
    | some y, some s => some ((j, y) :: s)
    | _, _ => none

def numF : Nat → List V → List (Nat × V)
  | _, [] => []
  | i, x :: r => (i, x) :: numF (i + 1) r

def Fr.get (fr : Fr) (i : Nat) : V := getF fr.l i
def Fr.put (fr : Fr) (i : Nat) (x : V) : Fr := bif Nat.blt i fr.n then ⟨fr.n, putF fr.l i x⟩ else fr
def Fr.map? (fr : Fr) (f : V → Option V) : Option Fr := match mapF f fr.l with | some l => some ⟨fr.n, l⟩ | none => none
def Fr.keep (fr : Fr) (k : List Nat) : Fr := ⟨fr.n, keepF k fr.l⟩
def Fr.drop (fr : Fr) : List Nat → Fr
  | [] => fr
  | k => ⟨fr.n, dropF k fr.l⟩
def Fr.vals (fr : Fr) : List V := fr.l.map (·.2)
def Fr.of (n : Nat) (xs : List V) : Fr := ⟨n, numF 0 xs⟩

/-! ## Operations -/

inductive Opd where
  | t (i : Nat)
  | c (x : Value)
  | nil (n : Nat)
  | f (id : Nat)
  deriving Inhabited

inductive Zc where
  | v (x : Value)
  | nil (n : Nat)
  deriving Inhabited

def Zc.toV : Zc → V
  | .v x => .p (.v x)
  | .nil n => .nil n

inductive Md where
  | pure | grow | own
  deriving DecidableEq, Inhabited

inductive AOp where
  | mv (x : Opd)
  | pick (c a b : Opd)
  | alloc (k : Nat) (z : List Zc)
  | box (k : Nat) (x : Opd)
  | build (z : List Zc) (ps : List (Nat × Nat × Opd))
  | lit (md : Md) (k n : Nat) (z : List Zc) (len : Nat) (ps : List (Nat × Opd))
  | load (n : Nat) (a : Opd)
  | store (n : Nat) (a x : Opd)
  | nilck (x : Opd)
  | bin (op : BinOp) (kd : Nat) (x y : Opd)
  | eqs (neg : Bool) (ks : List Nat) (x y : Opd)
  | un (op : UnOp) (x : Opd)
  | conv (k : IntKind) (x : Opd)
  | mkfn (f : Nat) (caps : List Opd)
  | mkslice (md : Md) (k n : Nat) (z : List Zc) (bytes : Nat) (len cap : Opd)
  | slice (n : Nat) (arr : Option Nat) (x : Opd) (lo hi : Option Opd)
  | faddr (off : Nat) (x : Opd)
  | field (off n : Nat) (x : Opd)
  | iaddr (n : Nat) (arr : Option Nat) (x i : Opd)
  | index (n len : Nat) (x i : Opd)
  | strix (x i : Opd)
  | ext (x : Opd) (i : Nat)
  | call (f : Opd) (args : List Opd)
  | len (x : Opd)
  | slen (x : Opd)
  | lenc (n : Nat)
  | app (md : Md) (k n : Nat) (x y : Opd)
  | mm (isMax : Bool) (xs : List Opd)
  | mkiface (t : Nat) (x : Opd)
  deriving Inhabited

/-- A computation that reads blocks. -/
inductive RM (α : Type) : Type where
  | ret (a : α)
  | rd (b : Nat) (k : Option Blk → RM α)
  | fail

namespace RM
def bind {α β : Type} : RM α → (α → RM β) → RM β
  | .ret a, f => f a
  | .rd b k, f => .rd b fun x => (k x).bind f
  | .fail, _ => .fail
instance : Monad RM where
  pure := RM.ret
  bind := RM.bind
def run {α : Type} (m : List Blk) : RM α → Option α
  | .ret a => some a
  | .rd b k => (k m[b]?).run m
  | .fail => none
def reads {α : Type} (m : List Blk) : RM α → List Nat
  | .ret _ => []
  | .rd b k => b :: (k m[b]?).reads m
  | .fail => []
def lift {α : Type} : Option α → RM α
  | some a => .ret a
  | none => .fail
end RM

structure Res where
  val : V
  ups : List (Nat × Blk) := []
  extra : List Blk := []

structure Env where
  call : Nat → List V → List Blk → Option (V × List Blk)
  iter : (σ : Type) → (List P → σ → Option (Bool × σ)) → Nat → List V → List Blk → σ → Option σ

def Env.bot : Env := { call := fun _ _ _ => none, iter := fun _ _ _ _ _ _ => none }

def opd (fr : Fr) : Opd → V
  | .t i => fr.get i
  | .c x => .p (.v x)
  | .nil n => .nil n
  | .f id => .p (.fn id [])

def setRange (cs : List V) (off : Nat) (vs : List V) : List V := cs.take off ++ vs ++ cs.drop (off + vs.length)

def getC (b : Nat) : RM (List V) := .rd b fun
  | some (.cells cs) => .ret cs
  | _ => .fail

/-- A place that is laid out for a block, not yet used. -/
def atHole (b : Nat) (r : Res) : RM Res := .rd b fun
  | some .hole => .ret r
  | _ => .fail

def nd : List Nat → Bool
  | [] => true
  | x :: r => !r.contains x && nd r

def i64 (n : Int) : V := .p (.v (.int .i64 n))

def fillV (cs : List V) : List (Nat × Nat × V) → Option (List V)
  | [] => some cs
  | (off, n, x) :: r =>
    match x.cells? with
    | some vs => if vs.length = sz n ∧ off + sz n ≤ cs.length then fillV (setRange cs off vs) r else none
    | none => none

def rep {α : Type} (xs : List α) : Nat → List α
  | 0 => []
  | k + 1 => xs ++ rep xs k

def binI (op : BinOp) (k : IntKind) (a b : Int) : Option Value :=
  match op with
  | .add => some (.int k (k.wrap (a + b)))
  | .sub => some (.int k (k.wrap (a - b)))
  | .mul => some (.int k (k.wrap (a * b)))
  | .quo => if b = 0 then none else some (.int k (k.wrap (a.tdiv b)))
  | .rem => if b = 0 then none else some (.int k (a.tmod b))
  | .and => some (.int k (k.wrap (BitVec.ofInt k.bits a &&& BitVec.ofInt k.bits b).toNat))
  | .or => some (.int k (k.wrap (BitVec.ofInt k.bits a ||| BitVec.ofInt k.bits b).toNat))
  | .xor => some (.int k (k.wrap (BitVec.ofInt k.bits a ^^^ BitVec.ofInt k.bits b).toNat))
  | .andNot => some (.int k (k.wrap (BitVec.ofInt k.bits a &&& ~~~ BitVec.ofInt k.bits b).toNat))
  | .eql => some (.bool (a == b))
  | .neq => some (.bool (a != b))
  | .lss => some (.bool (a < b))
  | .leq => some (.bool (a ≤ b))
  | .gtr => some (.bool (a > b))
  | .geq => some (.bool (a ≥ b))
  | _ => none

def binS (op : BinOp) (x y : ByteArray) : Option Value :=
  let eq := x.toList == y.toList
  let lt := Op.bytesLess x.toList y.toList
  match op with
  | .add => if x.size + y.size ≤ 1073741824 then some (.string (x ++ y)) else none
  | .eql => some (.bool eq)
  | .neq => some (.bool !eq)
  | .lss => some (.bool lt)
  | .leq => some (.bool (lt || eq))
  | .gtr => some (.bool !(lt || eq))
  | .geq => some (.bool !lt)
  | _ => none

def binV (op : BinOp) : Nat → Value → Value → Option Value
  | 0, .int k a, .int k' b =>
    match op with
    | .shl => if b < 0 then none else some (.int k (k.wrap (a * 2 ^ (min b.toNat k.bits))))
    | .shr => if b < 0 then none else some (.int k (a.fdiv (2 ^ (min b.toNat k.bits))))
    | op => if k = k' then binI op k a b else none
  | 2, .string a, .string b => binS op a b
  | 1, .bool a, .bool b =>
    match op with
    | .eql => some (.bool (a == b))
    | .neq => some (.bool !(a == b))
    | _ => none
  | _, _, _ => none

/-- Are two rows of scalars equal? The kinds: 0 a whole number, 1 a bool, 2 a string. -/
def eqCells : List Nat → List V → List V → Option Bool
  | [], [], [] => some true
  | 0 :: ks, .p (.v (.int k a)) :: r, .p (.v (.int k' b)) :: s => if k = k' then (if a = b then eqCells ks r s else (eqCells ks r s).map fun _ => false) else none
  | 1 :: ks, .p (.v (.bool a)) :: r, .p (.v (.bool b)) :: s => if a = b then eqCells ks r s else (eqCells ks r s).map fun _ => false
  | 2 :: ks, .p (.v (.string a)) :: r, .p (.v (.string b)) :: s => if a.toList == b.toList then eqCells ks r s else (eqCells ks r s).map fun _ => false
  | _, _, _ => none

def unV (op : UnOp) : Value → Option Value
  | .int k n =>
    match op with
    | .neg => some (.int k (k.wrap (0 - n)))
    | .xor => some (.int k (k.wrap (BitVec.ofInt k.bits (if k.signed then -1 else k.max) ^^^ BitVec.ofInt k.bits n).toNat))
    | _ => none
  | .bool b =>
    match op with
    | .not => some (.bool !b)
    | _ => none
  | _ => none

def mmV (isMax : Bool) : V → List V → Option V
  | x, [] => some x
  | .p (.v (.int k a)), .p (.v (.int k' b)) :: r => if k = k' then mmV isMax (.p (.v (.int k (if isMax then (if b > a then b else a) else (if b < a then b else a))))) r else none
  | _, _ => none

def bound (x : Opd) (fr : Fr) : Option Nat :=
  match opd fr x with
  | .p (.v (.int _ i)) => if 0 ≤ i then some i.toNat else none
  | _ => none

/-- All blocks that can be come to, each once; what was seen stands behind. -/
def reach : Nat → List Nat → List Nat → RM (List Nat)
  | _, [], seen => .ret seen.reverse
  | 0, _ :: _, _ => .fail
  | k + 1, b :: r, seen =>
    if seen.contains b then reach k r seen else
    .rd b fun
      | some (.cells cs) => reach k (idss cs ++ r) (b :: seen)
      | some (.tok _ _) => reach k r (b :: seen)
      | _ => .fail

def readAll : List Nat → RM (List Blk)
  | [] => .ret []
  | b :: r => .rd b fun
    | some x => (readAll r).bind fun l => .ret (x :: l)
    | none => .fail

def back (idx : List Nat) (len : Nat) (i : Nat) : Option Nat := if i < idx.length then idx[i]? else some (len + (i - idx.length))

/-- The elements of a source of append. -/
def srcOf (n : Nat) : V → RM (List P)
  | .p (.sl n' es) => if n' = n then .ret es else .fail
  | .sl n' _ es => if n' = n then .ret es else .fail
  | .nil n' => if n' = n then .ret [] else .fail
  | .ref n' b off len => if n' = n then (getC b).bind fun cs => if off + len * sz n ≤ cs.length then
      match toPs ((cs.drop off).take (len * sz n)) with
      | some ps => .ret (chunk n len ps)
      | none => .fail
    else .fail else .fail
  | _ => .fail

/-- The cells of a source of append. -/
def srcCells (n : Nat) : V → RM (List V)
  | .p (.sl n' es) => if n' = n then .ret ((es.flatMap P.cells).map V.p) else .fail
  | .sl n' _ es => if n' = n then .ret ((es.flatMap P.cells).map V.p) else .fail
  | .nil n' => if n' = n then .ret [] else .fail
  | .ref n' b off len => if n' = n then (getC b).bind fun cs => if off + len * sz n ≤ cs.length then .ret ((cs.drop off).take (len * sz n)) else .fail else .fail
  | _ => .fail

def most : Nat := 1073741824

/-- A call of a function: with persistent arguments alone, or with the blocks that they come to, numbered anew. `len`: how many blocks the caller has. -/
def callF (E : Env) (len : Nat) (f : Nat) (args : List V) : RM Res :=
  (reach 1000 (idss args) []).bind fun idx => (readAll idx).bind fun bs =>
    if nd idx && noYs args && bs.all Blk.noY then match rens (fun i => idx.idxOf? i) args, renBlks (fun i => idx.idxOf? i) bs with
    | some as, some ms =>
      match E.call f as ms with
      | some (r, m2) =>
        if idx.length ≤ m2.length then
          match r.ren (back idx len), renBlks (back idx len) m2 with
          | some r', some m2' => .ret { val := r', ups := idx.zip (m2'.take idx.length), extra := m2'.drop idx.length }
          | _, _ => .fail
        else .fail
      | none => .fail
    | _, _ => .fail
    else .fail

/-- A value that is called: the function and what it has captured. -/
def callee : V → Option (Nat × List V)
  | .p (.fn f caps) => some (f, caps.map .p)
  | .fn f caps => some (f, caps)
  | _ => none

/-- Arguments are handed on as data where they are data. -/
def V.strip (x : V) : V := match x.toP with | some q => .p q | none => x

def exec1 (E : Env) (base len : Nat) (fr : Fr) : AOp → RM Res
  | .mv x => .ret { val := opd fr x }
  | .pick c a b => match opd fr c with
    | .p (.v (.bool c)) => .ret { val := if c then opd fr a else opd fr b }
    | _ => .fail
  | .alloc k z => atHole (base + k) { val := .ptr (base + k) 0, ups := [(base + k, .cells (z.map Zc.toV))] }
  | .box k x => match (opd fr x).cells? with
    | some cs => atHole (base + k) { val := .ptr (base + k) 0, ups := [(base + k, .cells cs)] }
    | none => .fail
  | .build z ps => match fillV (z.map Zc.toV) (ps.map fun (o, n, x) => (o, n, opd fr x)) with
    | some cs => .ret { val := .agg cs }
    | none => .fail
  | .lit md k n z len ps => match fillV (rep (z.map Zc.toV) len) (ps.map fun (i, x) => (i * sz n, n, opd fr x)) with
    | some cs => if len = 0 then .ret { val := .nil n } else match md with
      | .pure => match toPs cs with
        | some l => .ret { val := .p (.sl n (chunk n len l)) }
        | none => .fail
      | .grow => match toPs cs with
        | some l => atHole (base + k) { val := .sl n (base + k) (chunk n len l), ups := [(base + k, .tok n len)] }
        | none => .fail
      | .own => atHole (base + k) { val := .ref n (base + k) 0 len, ups := [(base + k, .cells cs)] }
    | none => .fail
  | .load n a => match opd fr a with
    | .ptr b off => (getC b).bind fun cs => if n = 0 then RM.lift (cs[off]?.map fun x => { val := x }) else if off + n ≤ cs.length then .ret { val := .agg ((cs.drop off).take n) } else .fail
    | .p (.ptr ps) => if n = 0 then RM.lift (ps.head?.map fun x => { val := .p x }) else if n ≤ ps.length then .ret { val := .p (.agg (ps.take n)) } else .fail
    | _ => .fail
  | .store n a x => match opd fr a, (opd fr x).cells? with
    | .ptr b off, some vs => (getC b).bind fun cs => if vs.length = sz n ∧ off + sz n ≤ cs.length then .ret { val := undefV, ups := [(b, .cells (setRange cs off vs))] } else .fail
    | _, _ => .fail
  | .nilck x => match opd fr x with
    | .ptr b off => .ret { val := .ptr b off }
    | .p (.ptr ps) => .ret { val := .p (.ptr ps) }
    | .p (.fn f caps) => .ret { val := .p (.fn f caps) }
    | .fn f caps => .ret { val := .fn f caps }
    | .yield => .ret { val := .yield }
    | _ => .fail
  | .bin op kd x y => match opd fr x, opd fr y with
    | .p (.v a), .p (.v b) => RM.lift ((binV op kd a b).map fun r => { val := .p (.v r) })
    | _, _ => .fail
  | .eqs neg ks x y => match (opd fr x).agg?, (opd fr y).agg? with
    | some a, some b => RM.lift ((eqCells ks a b).map fun r => { val := .p (.v (.bool (r != neg))) })
    | _, _ => .fail
  | .un op x => match opd fr x with
    | .p (.v a) => RM.lift ((unV op a).map fun r => { val := .p (.v r) })
    | _ => .fail
  | .conv k x => match opd fr x with
    | .p (.v (.int _ n)) => .ret { val := .p (.v (.int k (k.wrap n))) }
    | _ => .fail
  | .mkfn f caps => .ret { val := .fn f (caps.map (opd fr)) }
  | .mkslice md k n z bytes l c => match bound l fr, bound c fr with
    | some l, some c => if l ≤ c ∧ c ≤ most ∧ bytes ≤ 65536 then match md with
      | .own => atHole (base + k) { val := .ref n (base + k) 0 l, ups := [(base + k, .cells (rep (z.map Zc.toV) l))] }
      | .grow => if l = 0 then atHole (base + k) { val := .sl n (base + k) [], ups := [(base + k, .tok n 0)] } else .fail
      | .pure => if l = c then match toPs (rep (z.map Zc.toV) l) with
        | some ps => .ret { val := .p (.sl n (chunk n l ps)) }
        | none => .fail
        else .fail
      else .fail
    | _, _ => .fail
  | .slice n arr x lo hi =>
    match lo.elim (some 0) (bound · fr) with
    | none => .fail
    | some l =>
      match arr, opd fr x with
      | none, .p (.sl n' es) => match hi.elim (some es.length) (bound · fr) with
        | some h => if n' = n ∧ l ≤ h ∧ h ≤ es.length then .ret { val := .p (.sl n ((es.take h).drop l)) } else .fail
        | none => .fail
      | none, .sl n' _ es => match hi.elim (some es.length) (bound · fr) with
        | some h => if n' = n ∧ l ≤ h ∧ h ≤ es.length then .ret { val := .p (.sl n ((es.take h).drop l)) } else .fail
        | none => .fail
      | none, .nil n' => match hi.elim (some 0) (bound · fr) with
        | some h => if n' = n ∧ l = 0 ∧ h = 0 then .ret { val := .nil n } else .fail
        | none => .fail
      | none, .ref n' b off len => match hi.elim (some len) (bound · fr) with
        | some h => if n' = n ∧ l ≤ h ∧ h ≤ len then .ret { val := .ref n b (off + l * sz n) (h - l) } else .fail
        | none => .fail
      | some len, .ptr b off => match hi.elim (some len) (bound · fr) with
        | some h => if l ≤ h ∧ h ≤ len then (getC b).bind fun cs => if off + len * sz n ≤ cs.length then .ret { val := .ref n b (off + l * sz n) (h - l) } else .fail else .fail
        | none => .fail
      | some len, .p (.ptr ps) => match hi.elim (some len) (bound · fr) with
        | some h => if l ≤ h ∧ h ≤ len ∧ len * sz n ≤ ps.length then .ret { val := .p (.sl n (chunk n (h - l) (ps.drop (l * sz n)))) } else .fail
        | none => .fail
      | _, _ => .fail
  | .faddr off x => match opd fr x with
    | .ptr b o => .ret { val := .ptr b (o + off) }
    | .p (.ptr ps) => .ret { val := .p (.ptr (ps.drop off)) }
    | _ => .fail
  | .field off n x => match opd fr x with
    | .agg cs => if n = 0 then RM.lift (cs[off]?.map fun x => { val := x }) else if off + n ≤ cs.length then .ret { val := .agg ((cs.drop off).take n) } else .fail
    | .p (.agg ps) => if n = 0 then RM.lift (ps[off]?.map fun x => { val := .p x }) else if off + n ≤ ps.length then .ret { val := .p (.agg ((ps.drop off).take n)) } else .fail
    | _ => .fail
  | .iaddr n arr x i => match bound i fr with
    | none => .fail
    | some j => match arr, opd fr x with
      | none, .p (.sl n' es) => if n' = n then RM.lift (es[j]?.map fun e => { val := .p (.ptr e.cells) }) else .fail
      | none, .sl n' _ es => if n' = n then RM.lift (es[j]?.map fun e => { val := .p (.ptr e.cells) }) else .fail
      | none, .ref n' b off len => if n' = n ∧ j < len then .ret { val := .ptr b (off + j * sz n) } else .fail
      | some len, .ptr b off => if j < len then .ret { val := .ptr b (off + j * sz n) } else .fail
      | some len, .p (.ptr ps) => if j < len then .ret { val := .p (.ptr (ps.drop (j * sz n))) } else .fail
      | _, _ => .fail
  | .index n len x i => match bound i fr with
    | none => .fail
    | some j => if j < len then match opd fr x with
      | .agg cs => if n = 0 then RM.lift (cs[j]?.map fun x => { val := x }) else if j * n + n ≤ cs.length then .ret { val := .agg ((cs.drop (j * n)).take n) } else .fail
      | .p (.agg ps) => if n = 0 then RM.lift (ps[j]?.map fun x => { val := .p x }) else if j * n + n ≤ ps.length then .ret { val := .p (.agg ((ps.drop (j * n)).take n)) } else .fail
      | _ => .fail
      else .fail
  | .strix x i => match bound i fr, opd fr x with
    | some j, .p (.v (.string s)) => RM.lift (s[j]?.map fun b => { val := .p (.v (.int .u8 b.toNat)) })
    | _, _ => .fail
  | .ext x i => match opd fr x with
    | .tuple xs => RM.lift (xs[i]?.map fun x => { val := x })
    | .p (.tuple xs) => RM.lift (xs[i]?.map fun x => { val := .p x })
    | _ => .fail
  | .call f args => match callee (opd fr f) with
    | some (id, caps) => callF E len id ((args.map fun x => (opd fr x).strip) ++ caps.map V.strip)
    | none => .fail
  | .len x => match opd fr x with
    | .p (.sl _ es) => .ret { val := i64 es.length }
    | .sl _ _ es => .ret { val := i64 es.length }
    | .nil _ => .ret { val := i64 0 }
    | .ref _ _ _ l => .ret { val := i64 l }
    | _ => .fail
  | .slen x => match opd fr x with
    | .p (.v (.string s)) => .ret { val := i64 s.size }
    | _ => .fail
  | .lenc n => .ret { val := i64 n }
  | .app md k n x y => match md, opd fr x with
    | .own, .nil n' => if n' = n then (srcCells n (opd fr y)).bind fun vs => if vs.length = 0 then .ret { val := .nil n } else
        if vs.length ≤ most then atHole (base + k) { val := .ref n (base + k) 0 (vs.length / sz n), ups := [(base + k, .cells vs)] } else .fail else .fail
    | .own, .ref n' b off l => if n' = n ∧ off = 0 then (getC b).bind fun cs => if cs.length = l * sz n then (srcCells n (opd fr y)).bind fun vs =>
        if cs.length + vs.length ≤ most then atHole (base + k) { val := .ref n (base + k) 0 ((cs.length + vs.length) / sz n), ups := [(b, .dead), (base + k, .cells (cs ++ vs))] } else .fail else .fail else .fail
    | .grow, .nil n' => if n' = n then (srcOf n (opd fr y)).bind fun es => if es.length = 0 then .ret { val := .nil n } else
        if es.length ≤ most then atHole (base + k) { val := .sl n (base + k) es, ups := [(base + k, .tok n es.length)] } else .fail else .fail
    | .grow, .sl n' t es => if n' = n then .rd t fun
        | some (.tok n'' c) => if n'' = n ∧ c = es.length then (srcOf n (opd fr y)).bind fun xs =>
            if es.length + xs.length ≤ most then .ret { val := .sl n t (es ++ xs), ups := [(t, .tok n (es.length + xs.length))] } else .fail else .fail
        | _ => .fail else .fail
    | _, _ => .fail
  | .mm isMax xs => match xs.map (opd fr) with
    | x :: r => RM.lift ((mmV isMax x r).map fun v => { val := v })
    | [] => .fail
  | .mkiface t x => match opd fr x with
    | .p x => .ret { val := .p (.iface t x) }
    | v => .ret { val := .iface t v }

/-! ## Regions and code -/

structure AO where
  dst : Option Nat
  op : AOp
  guard : Option (Nat × Bool) := none
  after : List Nat := []
  deriving Inhabited

structure Reg where
  id : Nat
  ops : List AO
  draw : Bool := false
  na : Nat := 0
  pre : List Nat := []
  kill : List Nat := []
  deriving Inhabited

inductive AC where
  | skip
  | reg (r : Reg)
  | seq (a b : AC)
  | cond (c : Opd) (thn els : AC)
  | block (id : Nat) (body : AC)
  | loop (keep lift : List Nat) (body : AC)
  | range (f : Opd) (params lift : List Nat) (assign body : AC)
  | exit (id : Nat)
  | ret
  deriving Inhabited

inductive Ex where
  | normal
  | exit (id : Nat)
  | ret
  deriving DecidableEq, Inhabited

structure St where
  fr : Fr
  mem : List Blk
  deriving Inhabited

def putD (fr : Fr) (d : Option Nat) (x : V) : Fr := match d with
  | some d => fr.put d x
  | none => fr

def applyUps (m : List Blk) : List (Nat × Blk) → List Blk
  | [] => m
  | (i, b) :: r => applyUps (m.set i b) r

/-- Does the guard let the operation run? -/
def wants (fr : Fr) : Option (Nat × Bool) → Option Bool
  | none => some true
  | some (d, w) => match fr.get d with
    | .p (.v (.bool b)) => some (b == w)
    | .p (.v _) => some false
    | _ => none

/-- One operation; a call of yield is taken apart. -/
def step1 (E : Env) {σ : Type} (Y : List P → σ → Option (Bool × σ)) (base : Nat) (o : AO) (st : St) (s : σ) : Option (St × σ) :=
  match wants st.fr o.guard with
  | some true =>
    match o.op with
    | .call f args =>
      match opd st.fr f with
      | .yield => match toPs (args.map (opd st.fr)) with
        | some ps => match Y ps s with
          | some (b, s') => some (⟨putD st.fr o.dst (.p (.v (.bool b))), st.mem⟩, s')
          | none => none
        | none => none
      | _ => match (exec1 E base st.mem.length st.fr o.op).run st.mem with
        | some r => some (⟨putD st.fr o.dst r.val, applyUps st.mem r.ups ++ r.extra⟩, s)
        | none => none
    | _ => match (exec1 E base st.mem.length st.fr o.op).run st.mem with
      | some r => some (⟨putD st.fr o.dst r.val, applyUps st.mem r.ups ++ r.extra⟩, s)
      | none => none
  | some false => some (⟨putD st.fr o.dst undefV, st.mem⟩, s)
  | none => none

def runOps (E : Env) {σ : Type} (Y : List P → σ → Option (Bool × σ)) (base : Nat) : List AO → St → σ → Option (St × σ)
  | [], st, s => some (st, s)
  | o :: r, st, s => match step1 E Y base o st s with
    | some (st', s') => runOps E Y base r st' s'
    | none => none

/-! ### A region whose order is open -/

def Opd.slots : Opd → List Nat
  | .t i => [i]
  | _ => []

def AOp.slots : AOp → List Nat
  | .mv x | .box _ x | .load _ x | .nilck x | .un _ x | .conv _ x | .faddr _ x | .field _ _ x | .ext x _ | .len x | .slen x | .mkiface _ x => x.slots
  | .pick c a b => c.slots ++ a.slots ++ b.slots
  | .alloc _ _ | .lenc _ => []
  | .build _ ps => ps.flatMap fun (_, _, x) => x.slots
  | .lit _ _ _ _ _ ps => ps.flatMap fun (_, x) => x.slots
  | .store _ x y | .bin _ _ x y | .eqs _ _ x y | .iaddr _ _ x y | .index _ _ x y | .strix x y | .app _ _ _ x y | .mkslice _ _ _ _ _ x y => x.slots ++ y.slots
  | .mkfn _ xs | .mm _ xs => xs.flatMap Opd.slots
  | .slice _ _ x lo hi => x.slots ++ lo.elim [] Opd.slots ++ hi.elim [] Opd.slots
  | .call f xs => f.slots ++ xs.flatMap Opd.slots

/-- What an operation reads and writes: slots, blocks. -/
structure Foot where
  rs : List Nat
  ws : List Nat
  rb : List Nat
  wb : List Nat
  deriving Inhabited

def meets (a b : List Nat) : Bool := a.any b.contains

def Foot.clash (a b : Foot) : Bool := meets a.ws b.ws || meets a.ws b.rs || meets a.rs b.ws || meets a.wb b.wb || meets a.wb b.rb || meets a.rb b.wb

/-- One operation of such a region: no yield, no block beside those laid out ahead. -/
def stepD (E : Env) (base : Nat) (o : AO) (st : St) : Option (St × Foot) :=
  let gs := o.guard.elim [] fun g => [g.1]
  match wants st.fr o.guard with
  | some true =>
    let x := exec1 E base st.mem.length st.fr o.op
    match x.run st.mem with
    | some r => if r.extra.isEmpty && r.ups.all (fun u => u.1 < st.mem.length) then
        some (⟨putD st.fr o.dst r.val, applyUps st.mem r.ups⟩, { rs := gs ++ o.op.slots, ws := o.dst.elim [] fun d => [d], rb := x.reads st.mem, wb := r.ups.map (·.1) })
      else none
    | none => none
  | some false => some (⟨putD st.fr o.dst undefV, st.mem⟩, { rs := gs, ws := o.dst.elim [] fun d => [d], rb := [], wb := [] })
  | none => none

/-- Whatever is not ordered must not clash. `done`: the operations so far, the last one first, each with all that stands ahead of it. -/
def ordered (up : List (List Nat)) (j : Nat) (i : Nat) : Bool := (up.getD i []).contains j

def runD (E : Env) (base : Nat) : Nat → List AO → St → List (Nat × Foot) → List (List Nat) → Option St
  | _, [], st, _, _ => some st
  | i, o :: r, st, done, ups =>
    match stepD E base o st with
    | some (st', f) =>
      let up := o.after ++ o.after.flatMap fun j => ups.getD j []
      if done.all fun (j, g) => up.contains j || !(g.clash f) then runD E base (i + 1) r st' ((i, f) :: done) (ups ++ [up]) else none
    | none => none

/-! ### Blocks that become persistent; blocks that are dropped -/

def freeze1 (i : Nat) (st : St) : Option St :=
  match st.mem[i]? with
  | some (.cells cs) => match toPs cs with
    | some ps => match st.fr.map? (V.open_ i ps), openBlks i ps (st.mem.set i .dead) with
      | some fr, some mem => some ⟨fr, mem⟩
      | _, _ => none
    | none => none
  | _ => some st

def freezeAll : List Nat → St → Option St
  | [], st => some st
  | i :: r, st => (freeze1 i st).bind (freezeAll r)

/-- The blocks of cells under some values, the innermost first. -/
def inner (m : List Blk) : Nat → List Nat → List Nat → List Nat
  | _, [], seen => seen
  | 0, _ :: _, seen => seen
  | k + 1, b :: r, seen =>
    if seen.contains b then inner m k r seen else
    match m[b]? with
    | some (.cells cs) => inner m k (idss cs ++ r) (b :: seen)
    | _ => inner m k r seen

def freezeSlots (l : List Nat) (st : St) : Option St :=
  match l with
  | [] => some st
  | l => freezeAll (inner st.mem 1000 (l.flatMap fun i => (st.fr.get i).ids) []) st

/-- A nil slice that is to grow gets its place; in a slot, or in the one cell of the block that a slot points to. -/
def lift1 (d : Nat) (st : St) : St :=
  match st.fr.get d with
  | .nil n => ⟨st.fr.put d (.sl n st.mem.length []), st.mem ++ [.tok n 0]⟩
  | .ptr b off => match st.mem[b]? with
    | some (.cells cs) => match cs[off]? with
      | some (.nil n) => ⟨st.fr, st.mem.set b (.cells (cs.set off (.sl n st.mem.length []))) ++ [.tok n 0]⟩
      | _ => st
    | _ => st
  | _ => st

def liftAll : List Nat → St → St
  | [], st => st
  | d :: r, st => liftAll r (lift1 d st)

def keepOnly (keep : List Nat) (fr : Fr) : Fr := fr.keep keep

/-- The blocks that are kept: the first `n0`, and what can be come to. -/
def gcIdx (n0 : Nat) (roots : List V) (m : List Blk) : Option (List Nat) :=
  (reach 100000 (((List.range n0).filter fun i => match m[i]? with | some (.cells _) => true | some (.tok _ _) => true | _ => false) ++ idss roots) []).run m |>.map fun l =>
    List.range n0 ++ l.filter fun i => n0 ≤ i

def gc (n0 : Nat) (st : St) : Option St :=
  match gcIdx n0 st.fr.vals st.mem with
  | some idx =>
    match st.fr.map? (V.ren fun i => idx.idxOf? i), renBlks (fun i => idx.idxOf? i) (idx.map fun i => st.mem.getD i .dead) with
    | some fr, some mem => if idx.all (· < st.mem.length) && nd idx then some ⟨fr, mem⟩ else none
    | _, _ => none
  | none => none

def runReg (E : Env) {σ : Type} (Y : List P → σ → Option (Bool × σ)) (r : Reg) (st : St) (s : σ) : Option (St × σ) :=
  match freezeSlots r.pre st with
  | some st =>
    let st' : St := ⟨st.fr, st.mem ++ List.replicate r.na .hole⟩
    match (if r.draw then (runD E st.mem.length 0 r.ops st' [] []).map fun st => (st, s) else runOps E Y st.mem.length r.ops st' s) with
    | some (st2, s2) => some (⟨st2.fr.drop r.kill, st2.mem⟩, s2)
    | none => none
  | none => none

def loopN {σ : Type} (head : St → Option St) (body : St → σ → Option (Ex × St × σ)) : Nat → St → σ → Option (Ex × St × σ)
  | 0, _, _ => none
  | k + 1, st, s => match head st with
    | some st => match body st s with
      | some (.normal, st', s') => loopN head body k st' s'
      | r => r
    | none => none

/-- Where a range over a function stands: the memory, and how a round was left early. -/
structure Rg (σ : Type) where
  mem : List Blk
  out : Ex := .normal
  s : σ

def setMany (fr : Fr) : List Nat → List V → Fr
  | i :: r, x :: s => setMany (fr.put i x) r s
  | _, _ => fr

def runC (E : Env) {σ : Type} (Y : List P → σ → Option (Bool × σ)) (n0 k : Nat) : AC → St → σ → Option (Ex × St × σ)
  | .skip, st, s => some (.normal, st, s)
  | .reg r, st, s => match runReg E Y r st s with
    | some (st, s) => some (.normal, st, s)
    | none => none
  | .seq a b, st, s => match runC E Y n0 k a st s with
    | some (.normal, st', s') => runC E Y n0 k b st' s'
    | r => r
  | .cond c a b, st, s => match opd st.fr c with
    | .p (.v (.bool true)) => runC E Y n0 k a st s
    | .p (.v (.bool false)) => runC E Y n0 k b st s
    | _ => none
  | .block id a, st, s => match runC E Y n0 k a st s with
    | some (.exit id', st', s') => if id' = id then some (.normal, st', s') else some (.exit id', st', s')
    | r => r
  | .loop keep lift a, st, s => loopN (fun st => gc n0 (liftAll lift ⟨keepOnly keep st.fr, st.mem⟩)) (fun st s => runC E Y n0 k a st s) k st s
  | .exit id, st, s => some (.exit id, st, s)
  | .ret, st, s => some (.ret, st, s)
  | .range f params lift assign body, st0, s =>
    let st := liftAll lift st0
    match callee (opd st.fr f) with
    | none => none
    | some (id, caps) =>
      match ((reach 1000 (idss caps) []).bind fun idx => (readAll idx).bind fun bs => .ret (idx, bs)).run st.mem with
      | none => none
      | some (idx, bs) =>
        match rens (fun i => idx.idxOf? i) caps, renBlks (fun i => idx.idxOf? i) bs with
        | some as, some ms => if nd idx && noYs caps && bs.all Blk.noY then
          let m0 := applyUps st.mem (idx.map fun i => (i, Blk.dead))
          let Y' : List P → Rg σ → Option (Bool × Rg σ) := fun ps g =>
            if g.out = .normal ∧ ps.length = params.length then
              match runC E Y m0.length k assign ⟨setMany st.fr params (ps.map V.p), g.mem⟩ g.s with
              | some (.normal, st1, s1) => match runC E Y m0.length k body st1 s1 with
                | some (ex, st2, s2) => match gc m0.length ⟨⟨0, []⟩, st2.mem⟩ with
                  | some st3 => some (ex == .normal, ⟨st3.mem, ex, s2⟩)
                  | none => none
                | none => none
              | _ => none
            else none
          match E.iter (Rg σ) Y' id (.yield :: as) ms ⟨m0, .normal, s⟩ with
          | some g => some (g.out, ⟨st.fr, g.mem⟩, g.s)
          | none => none
          else none
        | _, _ => none

/-! ## Functions -/

inductive ARes where
  | tmp (i : Nat)
  | cell (i n : Nat)
  deriving Inhabited

structure AFn where
  nt : Nat
  res : List ARes
  code : AC
  keep : Bool := false
  deriving Inhabited

def resV (st : St) : ARes → Option V
  | .tmp i => some (st.fr.get i)
  | .cell i n => match st.fr.get i with
    | .ptr b off => match st.mem[b]? with
      | some (.cells cs) => if n = 0 then cs[off]? else if off + n ≤ cs.length then some (.agg ((cs.drop off).take n)) else none
      | _ => none
    | .p (.ptr ps) => if n = 0 then ps.head?.map V.p else if n ≤ ps.length then some (.p (.agg (ps.take n))) else none
    | _ => none

def resVs (st : St) : List ARes → Option (List V)
  | [] => some []
  | r :: l => match resV st r, resVs st l with
    | some a, some b => some (a :: b)
    | _, _ => none

def oneOrTuple : List V → V
  | [x] => x
  | l => .tuple l

/-- What a function hands back: laid open (unless `keep`), with what is left of its memory. -/
def finish (af : AFn) (n0 : Nat) (st : St) : Option (V × List Blk) :=
  match resVs st af.res with
  | none => none
  | some vs =>
    let r := oneOrTuple vs
    match (if af.keep then some (⟨Fr.of 1 [r], st.mem⟩ : St) else freezeAll (inner st.mem 1000 (r.ids.filter fun i => n0 ≤ i) []) ⟨Fr.of 1 [r], st.mem⟩) with
    | none => none
    | some st1 => match st1.fr.map? (fun x => some x.strip) with
      | some fr => match gc n0 ⟨fr, st1.mem⟩ with
        | some st2 => some (st2.fr.get 0, st2.mem)
        | none => none
      | none => none

def runFn (E : Env) {σ : Type} (Y : List P → σ → Option (Bool × σ)) (k : Nat) (af : AFn) (args : List V) (mem : List Blk) (s : σ) : Option (V × List Blk × σ) :=
  if af.nt < args.length then none else
  match runC E Y mem.length k af.code ⟨Fr.of af.nt args, mem⟩ s with
  | some (.normal, st, s') => match finish af mem.length st with
    | some (v, m) => some (v, m, s')
    | none => none
  | some (.ret, st, s') => match finish af mem.length st with
    | some (v, m) => some (v, m, s')
    | none => none
  | _ => none

def noY : List P → Unit → Option (Bool × Unit) := fun _ _ => none

def stepE (tbl : Nat → Option AFn) (k : Nat) (E : Env) : Env where
  call id args mem := match tbl id with
    | some af => (runFn E noY k af args mem ()).map fun (v, m, _) => (v, m)
    | none => none
  iter _ Y id args mem s := match tbl id with
    | some af => (runFn E Y k af args mem s).map fun (_, _, s') => s'
    | none => none

def evalN (tbl : Nat → Option AFn) : Nat → Env
  | 0 => Env.bot
  | n + 1 => stepE tbl n (evalN tbl n)

end Go.Am
