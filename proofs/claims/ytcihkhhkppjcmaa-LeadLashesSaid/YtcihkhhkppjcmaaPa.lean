/- Texts put together. -/
import Derived.TacticsIn
import Derived.OrdersIn
import Derived.Below
import Derived.Laws.AppendOwn
import Derived.Laws.CopyRow
import Derived.Deep.MidRow
import Derived.Deep.Draws
import Derived.Laws.StructEq
/- The logical machine: values, states and the evaluator of compiled functions. -/
namespace Go.Lo

/-- What a function value runs: a function; one whose first arguments are bound; or the body of a range over a function: 0: every round goes on; k + 1: the round k stops. -/
inductive Fk where
  | f (n : Nat) | m (n : Nat) | y (a : Nat)
  deriving Inhabited, DecidableEq
/-- Logical values. A slice is its elements; 'tok' says which array of this frame it owns (none: never written again). -/
inductive V where
  | und | dead
  | bool (b : Bool)
  | int (k : IntKind) (n : Int)
  | agg (cs : List V)
  | tup (cs : List V)
  | nil
  | sl (tok : Option Nat) (sz : Nat) (es : List (List V))
  | fn (f : Fk) (caps : List V)
  | ref (s off : Nat)
  | cref (cs : List V)
  | gref (cs : List V)
  | np
  | eref (t n i off : Nat) (cs : List V)
  | box (cs : List V)
  | mref (s : Nat)
  | mbox (cs : List V)
  | bag (sz : Nat) (es : List (List Int))
  deriving Inhabited

inductive Opd where
  | t (n : Nat) | c (v : V) | f (n : Nat)
  deriving Inhabited

inductive K where
  | mv | pick | box
  | alloc (zs : List V)
  | build (zs : List V) (pl : List (Nat × Nat))
  | bsl (sz : Nat) (z : List V) (len : Nat) (ix : List Nat)
  | load (n : Option Nat)
  | store (n : Nat) (root : Option Nat)
  | bin (ty : Nat) (op : BinOp)
  | eqs (ne : Bool) (sh : List (Option IntKind))
  | un (op : UnOp)
  | conv (k : IntKind)
  | mkf (f : Nat)
  | mkm (f : Nat)
  | fa (off : Nat)
  | fld (off : Nat) (n : Option Nat)
  | ixs (sz : Nat)
  | ixa (len sz : Nat)
  | idx (len sz : Nat) (n : Option Nat)
  | mks (sz bytes : Nat) (z : List V)
  | sls (sz : Nat) (lo hi mx : Bool)
  | sla (len sz : Nat) (lo hi mx : Bool)
  | ext (i : Nat)
  | call (dr al mk : Bool)
  | callp
  | len | cap
  | append (dr : Bool) (sz bytes : Nat)
  | appo (sz bytes : Nat)
  | appz (sz bytes : Nat) (z : List V)
  | trunc (sz : Nat)
  | min | max
  | nilc
  | mkmp
  | mlook
  | mput
  | bad
  deriving Inhabited

structure LIns where
  dst : Option Nat
  k : K
  xs : List Opd
  guard : Option (Nat × Bool)
  ex : List Nat
  deriving Inhabited

inductive LCode where
  | skip
  | reg (lp : Bool) (ds pp : List Nat) (ops : List LIns) (kn : Nat) (kp : List Nat)
  | seq (a b : LCode)
  | cond (c : Opd) (a b : LCode)
  | block (id : Nat) (a : LCode)
  | loop (a : LCode)
  | rng (g : Opd) (ps wr : List Nat) (asg body : LCode)
  | alt (ts ks : List Nat) (a b : LCode)
  | exit (id : Nat)
  | ret
  | bad
  deriving Inhabited

inductive RV where
  | t (n : Nat)
  | c (s : Nat) (n : Option Nat)
  deriving Inhabited

structure LFun where
  np : Nat
  nt : Nat
  sl : List Nat
  body : LCode
  res : List RV
  deriving Inhabited

/-! ### Association lists -/
def get {α : Type} : List (Nat × α) → Nat → Option α
  | [], _ => none
  | (k, v) :: t, s => if k = s then some v else get t s
def put {α : Type} : List (Nat × α) → Nat → α → List (Nat × α)
  | [], s, v => [(s, v)]
  | (k, u) :: t, s, v => if k = s then (s, v) :: t else if s < k then (s, v) :: (k, u) :: t else (k, u) :: put t s v
def memN : Nat → List Nat → Bool
  | _, [] => false
  | s, k :: t => if k = s then true else memN s t
def keepL {α : Type} (n : Nat) (ks : List Nat) : List (Nat × α) → List (Nat × α)
  | [] => []
  | (k, v) :: t => if k < n then (k, v) :: keepL n ks t else if memN k ks = true then (k, v) :: keepL n ks t else keepL n ks t

structure St where
  fr : List (Nat × V)
  tk : List (Nat × Nat × Bool)
  tr : Option (List (List V)) := none
  deriving Inhabited

def V.cells : V → List V
  | .agg cs => cs
  | v => [v]
def V.cellOk : V → Bool
  | .bool _ => true
  | .int _ _ => true
  | .nil => true
  | .sl _ _ _ => true
  | .fn _ _ => true
  | .ref _ _ => true
  | .cref _ => true
  | .gref _ => true
  | .np => true
  | .bag _ _ => true
  | .eref _ _ _ _ _ => true
  | _ => false

/-! ### Freezing: a value without owned arrays or boxes of this frame -/
mutual
/-- Of an element of an array: the tokens that it holds are listed (they may not be written any more). -/
def V.frzE : V → Option (V × List Nat)
  | .bool b => some (.bool b, [])
  | .int k n => some (.int k n, [])
  | .nil => some (.nil, [])
  | .gref cs => some (.gref cs, [])
  | .np => some (.np, [])
  | .sl none sz es => some (.sl none sz es, [])
  | .sl (some t) sz es => some (.sl none sz es, [t])
  | .agg cs => match frzEL cs with
    | some (cs', ts) => some (.agg cs', ts)
    | none => none
  | _ => none
def frzEL : List V → Option (List V × List Nat)
  | [] => some ([], [])
  | v :: vs => match v.frzE, frzEL vs with
    | some (v', ts), some (vs', us) => some (v' :: vs', ts ++ us)
    | _, _ => none
end
mutual
/-- Of an argument of a call: 'rd' reads a box of this frame, frozen. -/
def V.frz (rd : Nat → Option (List V)) : V → Option V
  | .bool b => some (.bool b)
  | .int k n => some (.int k n)
  | .nil => some .nil
  | .sl _ sz es => some (.sl none sz es)
  | .fn (.f f) cs => match frzL rd cs with
    | some cs' => some (.fn (.f f) cs')
    | none => none
  | .fn (.m f) cs => match frzL rd cs with
    | some cs' => some (.fn (.m f) cs')
    | none => none
  | .fn (.y _) _ => none
  | .agg cs => match frzL rd cs with
    | some cs' => some (.agg cs')
    | none => none
  | .ref s off => match rd s with
    | some cs => some (.cref (cs.drop off))
    | none => none
  | .cref cs => some (.cref cs)
  | .gref cs => some (.gref cs)
  | .np => some .np
  | .bag sz es => some (.bag sz es)
  | _ => none
def frzL (rd : Nat → Option (List V)) : List V → Option (List V)
  | [] => some []
  | v :: vs => match v.frz rd, frzL rd vs with
    | some v', some vs' => some (v' :: vs')
    | _, _ => none
end
/-- A box, frozen, and the boxes that it leads to, so many deep. -/
def bxF (bx : Nat → Option (List V)) : Nat → Nat → Option (List V)
  | 0, _ => none
  | n + 1, s => if s < 1000000 then (match bx s with
    | some cs => frzL (bxF bx n) cs
    | none => none) else none

/-! ### Tokens -/
mutual
def V.rn (d : Nat) : V → V
  | .agg cs => .agg (rnL d cs)
  | .tup cs => .tup (rnL d cs)
  | .sl (some k) sz es => .sl (some (d * 100 + k)) sz es
  | v => v
def rnL (d : Nat) : List V → List V
  | [] => []
  | v :: vs => v.rn d :: rnL d vs
end
mutual
/-- The arrays of a value: token and length. -/
def V.tks : V → List (Nat × Nat)
  | .agg cs => tksL cs
  | .tup cs => tksL cs
  | .sl (some k) _ es => [(k, es.length)]
  | _ => []
def tksL : List V → List (Nat × Nat)
  | [] => []
  | v :: vs => v.tks ++ tksL vs
end
/-- Numbers and truth values alone. -/
def V.flat : V → Bool
  | .bool _ => true
  | .int _ _ => true
  | _ => false
def flatE (es : List (List V)) : Bool := es.all fun cs => cs.all V.flat
def distinctN : List Nat → Bool
  | [] => true
  | d :: ds => if memN d ds = true then false else distinctN ds
mutual
/-- May it share memory with something that was there before? -/
def V.al : V → Bool
  | .agg cs => alL cs
  | .tup cs => alL cs
  | .sl none _ _ => true
  | .und => false
  | .bool _ => false
  | .int _ _ => false
  | .nil => false
  | .np => false
  | .bag _ _ => false
  | .sl (some _) _ es => !flatE es
  | _ => true
def alL : List V → Bool
  | [] => false
  | v :: vs => if v.al = true then true else alL vs
end
mutual
/-- Is all of it in a known order? -/
def V.nb : V → Bool
  | .bag _ _ => false
  | .agg cs => nbL cs
  | .tup cs => nbL cs
  | _ => true
def nbL : List V → Bool
  | [] => true
  | v :: vs => if v.nb = true then nbL vs else false
end
mutual
/-- Behind the start of a region that makes the slots 'ds' anew. -/
def V.prep (ds : List Nat) : V → V
  | .agg cs => .agg (prepL ds cs)
  | .tup cs => .tup (prepL ds cs)
  | .box cs => .box (prepL ds cs)
  | .mbox cs => .mbox (prepL ds cs)
  | .fn f cs => .fn f (prepL ds cs)
  | .sl (some t) sz es => if memN (t / 100) ds = true then .sl none sz es else .sl (some t) sz es
  | .ref s off => if memN s ds = true then .dead else .ref s off
  | .mref s => if memN s ds = true then .dead else .mref s
  | .eref t n i off cs => if memN (t / 100) ds = true then .dead else .eref t n i off cs
  | v => v
def prepL (ds : List Nat) : List V → List V
  | [] => []
  | v :: vs => v.prep ds :: prepL ds vs
end
mutual
/-- Behind a store of 'e' into the element i of the array t, which has n. -/
def V.est (t n i : Nat) (e : List V) : V → V
  | .agg cs => .agg (estL t n i e cs)
  | .tup cs => .tup (estL t n i e cs)
  | .box cs => .box (estL t n i e cs)
  | .mbox cs => .mbox (estL t n i e cs)
  | .fn f cs => .fn f (estL t n i e cs)
  | .sl (some u) sz es => if u = t then (if es.length = n then .sl (some u) sz (es.set i e) else .dead) else .sl (some u) sz es
  | .eref u m j off cs => if u = t then .dead else .eref u m j off cs
  | v => v
def estL (t n i : Nat) (e : List V) : List V → List V
  | [] => []
  | v :: vs => V.est t n i e v :: estL t n i e vs
end
mutual
/-- Whoever holds the array t holds nothing that is known any more. -/
def V.kill (t : Nat) : V → V
  | .agg cs => .agg (killL t cs)
  | .tup cs => .tup (killL t cs)
  | .box cs => .box (killL t cs)
  | .mbox cs => .mbox (killL t cs)
  | .fn f cs => .fn f (killL t cs)
  | .sl (some u) sz es => if u = t then .dead else .sl (some u) sz es
  | .eref u n i off cs => if u = t then .dead else .eref u n i off cs
  | v => v
def killL (t : Nat) : List V → List V
  | [] => []
  | v :: vs => v.kill t :: killL t vs
end
def killF (t : Nat) : List (Nat × V) → List (Nat × V)
  | [] => []
  | (k, v) :: r => (k, v.kill t) :: killF t r
mutual
/-- Whoever holds an array of the box s holds nothing that is known any more. -/
def V.killS (s : Nat) : V → V
  | .agg cs => .agg (killSL s cs)
  | .tup cs => .tup (killSL s cs)
  | .box cs => .box (killSL s cs)
  | .mbox cs => .mbox (killSL s cs)
  | .fn f cs => .fn f (killSL s cs)
  | .sl (some u) sz es => if u / 100 = s then .dead else .sl (some u) sz es
  | .eref u n i off cs => if u / 100 = s then .dead else .eref u n i off cs
  | v => v
def killSL (s : Nat) : List V → List V
  | [] => []
  | v :: vs => v.killS s :: killSL s vs
end
def killSF (s : Nat) : List (Nat × V) → List (Nat × V)
  | [] => []
  | (k, v) :: r => (k, v.killS s) :: killSF s r
/-- What may lie in an array: no pointer, no variable. -/
def V.pm : V → Bool
  | .bool _ => true
  | .int _ _ => true
  | .nil => true
  | .sl none _ _ => true
  | .fn (.f _) [] => true
  | .gref _ => true
  | .np => true
  | _ => false
mutual
/-- A result of a call. -/
def V.pureR : V → Bool
  | .bool _ => true
  | .int _ _ => true
  | .nil => true
  | .sl _ _ _ => true
  | .gref _ => true
  | .np => true
  | .bag _ _ => true
  | .fn (.f _) cs => cs.all V.pm
  | .agg cs => pureRL cs
  | .tup cs => pureRL cs
  | _ => false
def pureRL : List V → Bool
  | [] => true
  | v :: vs => if v.pureR = true then pureRL vs else false
end
def addT : List (Nat × Nat) → List (Nat × Nat × Bool) → List (Nat × Nat × Bool)
  | [], tk => tk
  | (t, n) :: r, tk => addT r (put tk t (n, true))
/-- The cells of a box that is handed to a function that turns it: its own arrays bear their number in the box. -/
def unioL (s : Nat) (tk : Nat → Option (Nat × Bool)) : List V → Option (List V)
  | [] => some []
  | .sl (some t) sz es :: vs => if t / 100 = s ∧ tk t = some (es.length, true) then (match unioL s tk vs with
    | some r => some (.sl (some (t % 100)) sz es :: r)
    | none => none) else none
  | v :: vs => if v.pm = true then (match unioL s tk vs with
    | some r => some (v :: r)
    | none => none) else none
/-- Cells of such a box, as they are handed. -/
def V.ioV : V → Bool
  | .sl (some k) _ _ => decide (k < 100)
  | v => v.pm
def ioL (cs : List V) : Bool := cs.all V.ioV && distinctN ((tksL cs).map (·.1))
/-- Is it called with a box that it turns? -/
def ioArg : List V → Bool
  | .box _ :: _ => true
  | _ => false
def ioTk : List V → List (Nat × Nat × Bool)
  | .box cs :: _ => addT (tksL cs) []
  | _ => []
def prepF (ds : List Nat) : List (Nat × V) → List (Nat × V)
  | [] => []
  | (k, v) :: t => if memN k ds = true then prepF ds t else (k, v.prep ds) :: prepF ds t
def prepT (ds : List Nat) : List (Nat × Nat × Bool) → List (Nat × Nat × Bool)
  | [] => []
  | (k, x) :: t => if memN (k / 100) ds = true then prepT ds t else (k, x) :: prepT ds t
def estF (t n i : Nat) (e : List V) : List (Nat × V) → List (Nat × V)
  | [] => []
  | (k, v) :: r => (k, V.est t n i e v) :: estF t n i e r
def protT (ps : List Nat) : List (Nat × Nat × Bool) → List (Nat × Nat × Bool)
  | [] => []
  | (k, n, w) :: t => (if memN k ps = true then (k, n, false) else (k, n, w)) :: protT ps t
def protAll : List (Nat × Nat × Bool) → List (Nat × Nat × Bool)
  | [] => []
  | (k, n, _) :: t => (k, n, false) :: protAll t
def lenT (t m : Nat) : List (Nat × Nat × Bool) → List (Nat × Nat × Bool)
  | [] => []
  | (k, n, w) :: r => if k = t then (k, m, w) :: r else (k, n, w) :: lenT t m r

/-! ### Operations -/
/-- Cells of the given kinds (none: truth values) are compared. -/
def eqSh : List (Option IntKind) → List V → List V → Option Bool
  | [], [], [] => some true
  | some k :: sh, .int k1 a :: cs, .int k2 b :: ds => if k1 = k ∧ k2 = k then (match eqSh sh cs ds with | some r => some (a == b && r) | none => none) else none
  | none :: sh, .bool a :: cs, .bool b :: ds => match eqSh sh cs ds with | some r => some (a == b && r) | none => none
  | _, _, _ => none
def intBits (op : BinOp) (k : IntKind) (x y : Int) : Option Int :=
  match op with
  | .and => some (k.wrap (BitVec.ofInt k.bits x &&& BitVec.ofInt k.bits y).toNat)
  | .or => some (k.wrap (BitVec.ofInt k.bits x ||| BitVec.ofInt k.bits y).toNat)
  | .xor => some (k.wrap (BitVec.ofInt k.bits x ^^^ BitVec.ofInt k.bits y).toNat)
  | .andNot => some (k.wrap (BitVec.ofInt k.bits x &&& ~~~ BitVec.ofInt k.bits y).toNat)
  | _ => none
def binI (op : BinOp) (k : IntKind) (a b : Int) : Option V :=
  match op with
  | .add => some (.int k (k.wrap (a + b)))
  | .sub => some (.int k (k.wrap (a - b)))
  | .mul => some (.int k (k.wrap (a * b)))
  | .quo => if b = 0 then none else some (.int k (k.wrap (a.tdiv b)))
  | .rem => if b = 0 then none else some (.int k (a.tmod b))
  | .eql => some (.bool (decide (a = b)))
  | .neq => some (.bool (decide (a ≠ b)))
  | .lss => some (.bool (decide (a < b)))
  | .leq => some (.bool (decide (a ≤ b)))
  | .gtr => some (.bool (decide (a > b)))
  | .geq => some (.bool (decide (a ≥ b)))
  | .and => match intBits .and k a b with | some r => some (.int k r) | none => none
  | .or => match intBits .or k a b with | some r => some (.int k r) | none => none
  | .xor => match intBits .xor k a b with | some r => some (.int k r) | none => none
  | .andNot => match intBits .andNot k a b with | some r => some (.int k r) | none => none
  | _ => none
def binS (op : BinOp) (k : IntKind) (a b : Int) : Option V :=
  if b < 0 then none else
  match op with
  | .shl => some (.int k (k.wrap (a * 2 ^ (Min.min b.toNat k.bits))))
  | .shr => some (.int k (a.fdiv (2 ^ (Min.min b.toNat k.bits))))
  | _ => none
/-- A slice beside nil. -/
def nilCmp (op : BinOp) (b : Bool) : Option V :=
  match op with
  | .eql => some (.bool b)
  | .neq => some (.bool (!b))
  | _ => none
/-- 'ty' tells the operands' type: 1 truth values, 2 slices. -/
def binV (ty : Nat) (op : BinOp) : V → V → Option V
  | .int k a, .int k' b =>
    match op with
    | .shl => binS .shl k a b
    | .shr => binS .shr k a b
    | _ => if k = k' then binI op k a b else none
  | .bool a, .bool b => if ty = 1 then (match op with
    | .eql => some (.bool (a == b))
    | .neq => some (.bool (!(a == b)))
    | _ => none) else none
  | .nil, .nil => if ty = 2 then nilCmp op true else none
  | .sl (some _) _ _, .nil => if ty = 2 then nilCmp op false else none
  | _, _ => none
def unV (op : UnOp) : V → Option V
  | .int k n => match op with
    | .neg => some (.int k (k.wrap (0 - n)))
    | _ => none
  | .bool b => match op with
    | .not => some (.bool (!b))
    | _ => none
  | _ => none
/-- A part of cells: one cell, or so many. -/
def partV (cs : List V) (off : Nat) : Option Nat → Option V
  | none => cs[off]?
  | some n => if off + n ≤ cs.length then some (.agg ((cs.drop off).take n)) else none
def splice (cs : List V) (off : Nat) (new : List V) : Option (List V) :=
  if off + new.length ≤ cs.length then some (cs.take off ++ new ++ cs.drop (off + new.length)) else none
def fill : List (Nat × Nat) → List V → List V → Option (List V)
  | [], [], cs => some cs
  | (off, n) :: pl, v :: vs, cs => if v.cells.length = n ∧ v.cells.all V.cellOk = true then (match splice cs off v.cells with | some cs' => fill pl vs cs' | none => none) else none
  | _, _, _ => none
def fillE (sz : Nat) : List Nat → List V → List (List V) → Option (List (List V) × List Nat)
  | [], [], es => some (es, [])
  | i :: ix, v :: vs, es => match v.frzE with
    | some (v', ts) => if v'.cells.length = sz ∧ v'.cells.all V.pm = true ∧ i < es.length then (match fillE sz ix vs (es.set i v'.cells) with
        | some (es', us) => some (es', ts ++ us)
        | none => none) else none
    | none => none
  | _, _, _ => none

inductive Eff where
  | val (v : V)
  | mk (v : V) (t n : Nat) (ps : List Nat)
  | mkp (v : V) (d n : Nat)
  | trunc (v : V) (t h : Nat)
  | app (v : V) (t n : Nat)
  | prot (v : V) (ps : List Nat)
  | yld (a : Nat) (as : List V) (ps : List Nat)
  | sto (s : Nat) (cs : List V)
  | msto (s : Nat) (cs : List V)
  | est (t n i : Nat) (e : List V)
  | res (v : V) (al : Bool)
  | io (s : Nat) (cs : List V) (v : V)

def valO : Option V → Option Eff
  | some v => some (.val v)
  | none => none
def intsOf : List V → Option (IntKind × List Int)
  | [.int k n] => some (k, [n])
  | .int k n :: vs => match intsOf vs with
    | some (k', ns) => if k = k' then some (k, n :: ns) else none
    | none => none
  | _ => none
def maxL : Int → List Int → Int
  | a, [] => a
  | a, b :: l => maxL (if b > a then b else a) l
def minL : Int → List Int → Int
  | a, [] => a
  | a, b :: l => minL (if b < a then b else a) l
/-- The bounds of a slice expression: low, high (elements); 'n': how many may be asked for. -/
def bounds (len n : Nat) (lo hi mx : Bool) : List V → Option (Nat × Nat)
  | vs =>
    let a : Option (Int × List V) := if lo = true then (match vs with | .int _ i :: r => some (i, r) | _ => none) else some (0, vs)
    match a with
    | none => none
    | some (l, vs) =>
      let b : Option (Int × List V) := if hi = true then (match vs with | .int _ i :: r => some (i, r) | _ => none) else some (len, vs)
      match b with
      | none => none
      | some (h, vs) =>
        let c : Option (Int × List V) := if mx = true then (match vs with | .int _ i :: r => some (i, r) | _ => none) else some (n, vs)
        match c with
        | some (m, []) => if 0 ≤ l ∧ l ≤ h ∧ h ≤ m ∧ m ≤ n then some (l.toNat, h.toNat) else none
        | _ => none

/-! A map's content: keys and values in turn. The content of the map in slot s is asked for by s + 1000000. -/
def lookM : List V → Int → Option V
  | .int _ k :: v :: cs, n => if k = n then some v else lookM cs n
  | _, _ => none
def setM : List V → Int → V → List V
  | .int q k :: v :: cs, n, x => if k = n then .int q k :: x :: cs else .int q k :: v :: setM cs n x
  | _, n, x => [.int .i64 n, x]
/-- What lies at an address. -/
def loadV (bx : Nat → Option (List V)) (n : Option Nat) : V → Option V
  | .ref s off => if s < 1000000 then (match bx s with
    | some cs => partV cs off n
    | none => none) else none
  | .cref cs => partV cs 0 n
  | .gref cs => partV cs 0 n
  | .eref _ _ _ off cs => partV cs off n
  | _ => none
/-- A call of a function. -/
def callE (call : Nat → List V → Option V) (bx : Nat → Option (List V)) (d : Nat) (dr al mk : Bool) (f : Nat) (vs : List V) : Option Eff :=
  match frzL (bxF bx 4) vs with
  | some as => (match call f as with
    | some r => if r.pureR = true then (if mk = true then (if distinctN (r.tks.map (·.1)) = true ∧ (r.tks.all fun x => decide (x.1 < 100)) = true then
        (if al = true ∨ r.al = true then (if dr = true ∧ al = false then none else some (.res (r.rn d) true)) else some (.res (r.rn d) false)) else none) else
        (if r.tks.isEmpty = true ∧ r.al = false ∧ r.nb = true then some (.val r) else none)) else none
    | none => none)
  | none => none
/-- What an operation does with its operands' values. -/
def sem (call : Nat → List V → Option V) (bx : Nat → Option (List V)) (tk : Nat → Option (Nat × Bool)) (d : Nat) (k : K) (vs : List V) : Option Eff :=
  match k with
  | .mv => match vs with
    | [v] => some (.val v)
    | _ => none
  | .pick => match vs with
    | [.bool c, a, b] => some (.val (if c = true then a else b))
    | _ => none
  | .box => match vs with
    | [v] => if v.cells.all V.cellOk = true then some (.val (.box v.cells)) else none
    | _ => none
  | .alloc zs => match vs with
    | [] => some (.val (.box zs))
    | _ => none
  | .build zs pl => match fill pl vs zs with
    | some cs => some (.val (.agg cs))
    | none => none
  | .bsl sz z len ix => match fillE sz ix vs (List.replicate len z) with
    | some (es, ps) => if ps.all (fun t => (tk t).isSome) = true then some (.mk (.sl (some (d * 100)) sz es) (d * 100) len ps) else none
    | none => none
  | .load n => match vs with
    | [v] => valO (loadV bx n v)
    | _ => none
  | .store n root => match vs with
    | [.ref s off, v] => if s < 1000000 ∧ v.cells.length = n ∧ v.cells.all V.cellOk = true ∧ (root = none ∨ root = some s) then (match bx s with
      | some cs => (match splice cs off v.cells with | some cs' => some (.sto s cs') | none => none)
      | none => none) else none
    | [.eref t m i off cs, v] => (match root with
      | some _ => none
      | none => (match v.frzE, tk t with
        | some (v', []), some (m', true) => if m = m' ∧ v'.cells.length = n ∧ v'.cells.all V.pm = true then (match splice cs off v'.cells with
          | some cs' => some (.est t m i cs')
          | none => none) else none
        | _, _ => none))
    | _ => none
  | .bin ty op => match vs with
    | [x, y] => valO (binV ty op x y)
    | _ => none
  | .eqs ne sh => match vs with
    | [.agg cs, .agg ds] => (match eqSh sh cs ds with
      | some r => some (.val (.bool (ne != r)))
      | none => none)
    | _ => none
  | .un op => match vs with
    | [x] => valO (unV op x)
    | _ => none
  | .conv k => match vs with
    | [.int _ n] => some (.val (.int k (k.wrap n)))
    | _ => none
  | .mkf f => some (.val (.fn (.f f) vs))
  | .mkm f => some (.val (.fn (.m f) vs))
  | .fa off => match vs with
    | [.ref s o] => some (.val (.ref s (o + off)))
    | [.cref cs] => some (.val (.cref (cs.drop off)))
    | [.gref cs] => some (.val (.gref (cs.drop off)))
    | [.eref t n i o cs] => some (.val (.eref t n i (o + off) cs))
    | _ => none
  | .fld off n => match vs with
    | [.agg cs] => valO (partV cs off n)
    | _ => none
  | .ixs sz => match vs with
    | [.sl none sz' es, .int _ i] => if sz = sz' ∧ 0 ≤ i then (match es[i.toNat]? with
      | some cs => some (.val (.cref cs)) | none => none) else none
    | [.sl (some t) sz' es, .int _ i] => if sz = sz' ∧ 0 ≤ i then (match es[i.toNat]? with
      | some cs => some (.val (.eref t es.length i.toNat 0 cs)) | none => none) else none
    | _ => none
  | .ixa len sz => match vs with
    | [.ref s o, .int _ i] => if 0 ≤ i ∧ i < len then some (.val (.ref s (o + i.toNat * sz))) else none
    | [.cref cs, .int _ i] => if 0 ≤ i ∧ i < len then some (.val (.cref (cs.drop (i.toNat * sz)))) else none
    | [.gref cs, .int _ i] => if 0 ≤ i ∧ i < len then some (.val (.gref (cs.drop (i.toNat * sz)))) else none
    | [.eref t n j o cs, .int _ i] => if 0 ≤ i ∧ i < len then some (.val (.eref t n j (o + i.toNat * sz) cs)) else none
    | _ => none
  | .idx len sz n => match vs with
    | [.agg cs, .int _ i] => if 0 ≤ i ∧ i < len then valO (partV cs (i.toNat * sz) n) else none
    | _ => none
  | .mks sz bytes z => match vs with
    | [.int _ l, .int _ c] => if 0 ≤ l ∧ l ≤ c ∧ c * bytes ≤ 140737488355328 then
      some (.mk (.sl (some (d * 100)) sz (List.replicate l.toNat z)) (d * 100) l.toNat []) else none
    | _ => none
  | .sls sz0 lo hi mx => match vs with
    | .sl none sz es :: vs => if sz0 = sz then (match bounds es.length es.length lo hi mx vs with
      | some (l, h) => some (.val (.sl none sz ((es.take h).drop l)))
      | none => none) else none
    | .sl (some t) sz es :: vs => if sz0 = sz then (match bounds es.length es.length lo hi mx vs with
      | some (l, h) => if (tk t).isSome = true then some (.prot (.sl none sz ((es.take h).drop l)) [t]) else none
      | none => none) else none
    | .nil :: vs => (match bounds 0 0 lo hi mx vs with
      | some _ => some (.val .nil)
      | none => none)
    | _ => none
  | .ext i => match vs with
    | [.tup cs] => valO cs[i]?
    | _ => none
  | .call dr al mk => match vs with
    | .fn (.f f) caps :: vs => callE call bx d dr al mk f (vs ++ caps)
    | .fn (.m f) caps :: vs => callE call bx d dr al mk f (caps ++ vs)
    | .fn (.y a) [] :: vs => if dr = true then none else (match frzEL vs with
      | some (as, ps) => if ps.all (fun t => (tk t).isSome) = true ∧ (as.all fun v => v.cells.all V.pm) = true then some (.yld a as ps) else none
      | none => none)
    | _ => none
  | .callp => match vs with
    | .fn (.f f) [] :: .ref s 0 :: rest => if s < 1000000 ∧ (rest.all fun v => v.cells.all V.pm) = true then (match bx s with
      | some cs => (match unioL s tk cs with
        | some cs1 => if ioL cs1 = true then (match call f (.box cs1 :: rest) with
          | some (.tup [.box cs2, r]) => if ioL cs2 = true ∧ r.pureR = true ∧ r.tks.isEmpty = true ∧ r.al = false ∧ r.nb = true then some (.io s (rnL s cs2) r) else none
          | _ => none) else none
        | none => none)
      | none => none) else none
    | _ => none
  | .len => match vs with
    | [.sl _ _ es] => some (.val (.int .i64 es.length))
    | [.nil] => some (.val (.int .i64 0))
    | _ => none
  | .cap => match vs with
    | [.nil] => some (.val (.int .i64 0))
    | _ => none
  | .append dr sz bytes => match vs with
    | [.nil, y] => (match y with
      | .nil => some (.val .nil)
      | .sl _ sz' ys => if sz = sz' then (match ys with
        | [] => some (.val .nil)
        | _ :: _ => if ys.length * bytes ≤ 140737488355328 then (if dr = true then some (.mk (.sl (some (d * 100)) sz ys) (d * 100) ys.length []) else some (.mkp (.sl (some (d * 100)) sz ys) d ys.length)) else none) else none
      | _ => none)
    | [.sl (some t) sz1 xs, y] => (match tk t with
      | some (n, _) => if n = xs.length ∧ sz = sz1 then (match y with
        | .nil => some (.val (.sl (some t) sz1 xs))
        | .sl _ sz' ys => if sz = sz' ∧ (xs.length + ys.length) * bytes ≤ 140737488355328 then (match ys with
          | [] => some (.val (.sl (some t) sz1 xs))
          | _ :: _ => some (.app (.sl (some t) sz1 (xs ++ ys)) t (xs.length + ys.length))) else none
        | _ => none) else none
      | none => none)
    | _ => none
  | .appo sz bytes => match vs with
    | [.sl (some t) sz1 xs, y] => (match tk t with
      | some (n, _) => if n = xs.length ∧ sz = sz1 then (match y with
        | .nil => some (.val (.sl (some t) sz1 xs))
        | .sl _ sz' ys => if sz = sz' ∧ (xs.length + ys.length) * bytes ≤ 140737488355328 then (match ys with
          | [] => some (.val (.sl (some t) sz1 xs))
          | _ :: _ => some (.app (.sl (some t) sz1 (xs ++ ys)) t (xs.length + ys.length))) else none
        | _ => none) else none
      | none => none)
    | _ => none
  | .appz sz bytes z => match vs with
    | [.nil, .int _ n] => if 0 ≤ n ∧ n * bytes ≤ 140737488355328 then (if n = 0 then some (.val .nil) else some (.mkp (.sl (some (d * 100)) sz (List.replicate n.toNat z)) d n.toNat)) else none
    | _ => none
  | .trunc sz => match vs with
    | [.sl (some t) sz' es, .int _ h] => (match tk t with
      | some (n, true) => if sz = sz' ∧ n = es.length ∧ 0 ≤ h ∧ h ≤ es.length then some (.trunc (.sl (some t) sz' (es.take h.toNat)) t h.toNat) else none
      | _ => none)
    | _ => none
  | .max => match intsOf vs with
    | some (k, n :: ns) => some (.val (.int k (maxL n ns)))
    | _ => none
  | .min => match intsOf vs with
    | some (k, n :: ns) => some (.val (.int k (minL n ns)))
    | _ => none
  | .nilc => match vs with
    | [.ref s o] => some (.val (.ref s o))
    | [.cref cs] => some (.val (.cref cs))
    | [.gref cs] => some (.val (.gref cs))
    | [.eref t n i o cs] => some (.val (.eref t n i o cs))
    | [.fn f cs] => some (.val (.fn f cs))
    | _ => none
  | .mkmp => match vs with
    | [] => some (.val (.mbox []))
    | _ => none
  | .mlook => match vs with
    | [.mref s, .int .i64 n] => if -9223372036854775808 ≤ n ∧ n ≤ 9223372036854775807 then (match bx (s + 1000000) with
      | some cs => (match lookM cs n with
        | some .dead => none
        | some v => some (.val v)
        | none => some (.val .nil))
      | none => none) else none
    | _ => none
  | .mput => match vs with
    | [.mref s, .int .i64 n, .nil] => if -9223372036854775808 ≤ n ∧ n ≤ 9223372036854775807 then (match bx (s + 1000000) with
      | some cs => some (.msto s (setM cs n .nil))
      | none => none) else none
    | [.mref s, .int .i64 n, .sl t sz es] => if -9223372036854775808 ≤ n ∧ n ≤ 9223372036854775807 then (match bx (s + 1000000) with
      | some cs => some (.msto s (setM cs n (.sl t sz es)))
      | none => none) else none
    | _ => none
  | .sla _ _ _ _ _ => none
  | .bad => none

def opd (fr : List (Nat × V)) : Opd → Option V
  | .c v => some v
  | .f n => some (.fn (.f n) [])
  | .t s => match get fr s with
    | some (.box _) => some (.ref s 0)
    | some (.mbox _) => some (.mref s)
    | some .dead => none
    | some v => some v
    | none => none
def opds (fr : List (Nat × V)) : List Opd → Option (List V)
  | [] => some []
  | x :: xs => match opd fr x, opds fr xs with
    | some v, some vs => some (v :: vs)
    | _, _ => none
def bxOf (fr : List (Nat × V)) (ex : List Nat) (s : Nat) : Option (List V) :=
  if s < 1000000 then (if memN s ex = true then none else match get fr s with
    | some (.box cs) => some cs
    | _ => none) else (if memN (s - 1000000) ex = true then none else match get fr (s - 1000000) with
    | some (.mbox cs) => some cs
    | _ => none)
def tkOf (tk : List (Nat × Nat × Bool)) (ex : List Nat) (t : Nat) : Option (Nat × Bool) :=
  if memN (t / 100) ex = true then none else get tk t
def putO (fr : List (Nat × V)) : Option Nat → V → List (Nat × V)
  | some d, v => put fr d v
  | none, _ => fr
def prep (lp : Bool) (ds : List Nat) (σ : St) : St :=
  match lp, ds with
  | true, d :: l => { σ with fr := prepF (d :: l) σ.fr, tk := prepT (d :: l) σ.tk }
  | _, _ => σ
/-- Does the round go on? -/
def goesOn (a : Nat) : Option (List (List V)) → Bool
  | some l => a != l.length + 1
  | none => true
def apply (σ : St) (dst : Option Nat) : Eff → St
  | .val v => { σ with fr := putO σ.fr dst v }
  | .mk v t n ps => { σ with fr := putO σ.fr dst v, tk := put (protT ps σ.tk) t (n, true) }
  | .mkp v d n => { prep true [d] σ with fr := putO (prep true [d] σ).fr dst v, tk := put (prep true [d] σ).tk (d * 100) (n, true) }
  | .trunc v t h => { σ with fr := putO (killF t σ.fr) dst v, tk := lenT t h σ.tk }
  | .app v t n => { σ with fr := putO σ.fr dst v, tk := lenT t n σ.tk }
  | .prot v ps => { σ with fr := putO σ.fr dst v, tk := protT ps σ.tk }
  | .yld a as ps => { σ with fr := putO σ.fr dst (.bool (goesOn a σ.tr)), tk := protT ps σ.tk, tr := σ.tr.map (· ++ [as]) }
  | .sto s cs => { σ with fr := putO (put σ.fr s (.box cs)) dst .und }
  | .msto s cs => { σ with fr := putO (put σ.fr s (.mbox cs)) dst .und }
  | .est t n i e => { σ with fr := putO (estF t n i e σ.fr) dst .und }
  | .res v al => { σ with fr := putO σ.fr dst v, tk := addT v.tks (if al = true then protAll σ.tk else σ.tk) }
  | .io s cs v => { σ with fr := putO (put (killSF s σ.fr) s (.box cs)) dst v, tk := addT (tksL cs) (protAll (prepT [s] σ.tk)) }
def wanted (fr : List (Nat × V)) : Option (Nat × Bool) → Option Bool
  | none => some true
  | some (s, b) => match get fr s with
    | some (.bool c) => some (c == b)
    | some .und => some false
    | _ => none
def stepI (call : Nat → List V → Option V) (i : LIns) (σ : St) : Option St :=
  match wanted σ.fr i.guard with
  | some true => match opds σ.fr i.xs with
    | some vs => (match sem call (bxOf σ.fr i.ex) (tkOf σ.tk i.ex) (i.dst.getD 0) i.k vs with
      | some e => some (apply σ i.dst e)
      | none => none)
    | none => none
  | some false => some { σ with fr := putO σ.fr i.dst .und }
  | none => none
def stepL (call : Nat → List V → Option V) : List LIns → St → Option St
  | [], σ => some σ
  | i :: is, σ => match stepI call i σ with
    | some σ' => stepL call is σ'
    | none => none

inductive Ex where
  | normal | exit (id : Nat) | ret

def iter (f : St → Option (Ex × St)) : Nat → St → Option (Ex × St)
  | 0, _ => none
  | n + 1, σ => match f σ with
    | some (.normal, σ') => iter f n σ'
    | r => r
def dropL {α : Type} (ks : List Nat) : List (Nat × α) → List (Nat × α)
  | [] => []
  | (k, v) :: t => if memN k ks = true then dropL ks t else (k, v) :: dropL ks t
def putA : List Nat → List V → List (Nat × V) → List (Nat × V)
  | p :: ps, v :: vs, fr => putA ps vs (put fr p v)
  | _, _, fr => fr
/-- A round of a range over a function. -/
def roundE (evA evB : St → Option (Ex × St)) (ps wr : List Nat) (σ : St) (as : List V) : Option (Ex × St) :=
  if as.length = ps.length then
    match evA { σ with fr := putA ps as (dropL wr σ.fr) } with
    | some (.normal, σ1) => match evB σ1 with
      | some (ex, σ2) => some (ex, { σ2 with fr := dropL wr σ2.fr })
      | none => none
    | _ => none
  else none
/-- The rounds, up to one that does not go on. -/
def foldR (f : St → List V → Option (Ex × St)) : Nat → St → List (List V) → Option (Option (Nat × Ex) × St)
  | _, σ, [] => some (none, σ)
  | k, σ, x :: xs => match f σ x with
    | some (.normal, σ') => foldR f (k + 1) σ' xs
    | some (ex, σ') => some (some (k, ex), σ')
    | none => none
def itemsL : List V → Option (List (List V))
  | [] => some []
  | .tup as :: r => match itemsL r with
    | some l => some (as :: l)
    | none => none
  | _ => none
def itemsOf : Option V → Option (List (List V))
  | some (.tup vs) => itemsL vs
  | _ => none
def rngE (f : St → List V → Option (Ex × St)) (it : Nat → Option V) (σ : St) : Option (Ex × St) :=
  match itemsOf (it 0) with
  | none => none
  | some items => match foldR f 0 σ items with
    | some (none, σ') => some (.normal, σ')
    | some (some (k, _), _) => (match itemsOf (it (k + 1)) with
      | none => none
      | some items' => match foldR f 0 σ items' with
        | some (some (k', ex), σ') => if k' = k ∧ items'.length = k + 1 then some (ex, σ') else none
        | _ => none)
    | none => none
/-! Which of two ways a region is taken: do these slots hold arrays of its own appends? -/
def slT (ts : List Nat) : V → Bool
  | .sl (some t) _ _ => memN (t / 100) ts
  | _ => false
def hasT (ts : List Nat) : V → Bool
  | .box cs => cs.any (slT ts)
  | v => slT ts v
/-- A slot, or the box to which it leads. -/
def getR (fr : List (Nat × V)) (k : Nat) : Option V := match get fr k with
  | some (.ref s _) => get fr s
  | r => r
def altT (ts : List Nat) (fr : List (Nat × V)) : List Nat → Bool
  | [] => false
  | k :: ks => (match getR fr k with
    | some v => hasT ts v
    | none => false) || altT ts fr ks
def evC (call : Nat → List V → Option V) (N : Nat) : LCode → St → Option (Ex × St)
  | .skip, σ => some (.normal, σ)
  | .reg lp _ pp ops kn kp, σ => match stepL call ops (prep lp pp σ) with
    | some σ' => some (.normal, { σ' with fr := keepL kn kp σ'.fr })
    | none => none
  | .seq a b, σ => match evC call N a σ with
    | some (.normal, σ') => evC call N b σ'
    | r => r
  | .cond c a b, σ => match opd σ.fr c with
    | some (.bool t) => if t = true then evC call N a σ else evC call N b σ
    | _ => none
  | .block id a, σ => match evC call N a σ with
    | some (.exit j, σ') => if j = id then some (.normal, σ') else some (.exit j, σ')
    | r => r
  | .loop a, σ => iter (evC call N a) N σ
  | .rng g ps wr asg body, σ => match σ.tr, opd σ.fr g with
    | none, some (.fn (.f f) caps) => (match frzEL caps with
      | some (cs, ts) => if (cs.all fun v => v.cells.all V.pm) = true then
          rngE (roundE (evC call N asg) (evC call N body) ps wr) (fun a => call f (.fn (.y a) [] :: cs)) { σ with fr := dropL wr σ.fr, tk := protT ts σ.tk } else none
      | none => none)
    | none, some (.fn (.m f) caps) => (match frzEL caps with
      | some (cs, ts) => if (cs.all fun v => v.cells.all V.pm) = true then
          rngE (roundE (evC call N asg) (evC call N body) ps wr) (fun a => call f (cs ++ [.fn (.y a) []])) { σ with fr := dropL wr σ.fr, tk := protT ts σ.tk } else none
      | none => none)
    | _, _ => none
  | .alt ts ks a b, σ => if altT ts σ.fr ks = true then evC call N b σ else evC call N a σ
  | .exit id, σ => some (.exit id, σ)
  | .ret, σ => some (.ret, σ)
  | .bad, _ => none

/-! ### Functions -/
/-- The place of what is no array of one's own. -/
def dumT (n : Nat) : Nat := 1000000000 + n
def dumOk (us gs : List Nat) : Bool := !memN (dumT us.length) us && !memN (dumT us.length) gs
mutual
/-- A result: owned arrays are numbered anew (the first list); the others are given away for good (the second). -/
def V.fin (tk : List (Nat × Nat × Bool)) : V → List Nat × List Nat → Option (V × List Nat × List Nat)
  | .bool b, us => some (.bool b, us)
  | .int k n, us => some (.int k n, us)
  | .gref cs, us => some (.gref cs, us)
  | .np, us => some (.np, us)
  | .fn (.f f) cs, us => if cs.all V.pm = true then some (.fn (.f f) cs, us) else none
  | .nil, (us, gs) => if dumOk us gs = true then some (.nil, us ++ [dumT us.length], gs) else none
  | .sl none sz es, (us, gs) => if dumOk us gs = true then some (.sl none sz es, us ++ [dumT us.length], gs) else none
  | .sl (some t) sz es, (us, gs) => if memN t us = true then none else
    if get tk t = some (es.length, true) ∧ memN t gs = false then some (.sl (some us.length) sz es, us ++ [t], gs) else
      if dumOk us (t :: gs) = true then some (.sl none sz es, us ++ [dumT us.length], t :: gs) else none
  | .agg cs, us => match finL tk cs us with
    | some (cs', us') => some (.agg cs', us')
    | none => none
  | _, _ => none
def finL (tk : List (Nat × Nat × Bool)) : List V → List Nat × List Nat → Option (List V × List Nat × List Nat)
  | [], us => some ([], us)
  | v :: vs, us => match v.fin tk us with
    | some (v', us') => (match finL tk vs us' with
      | some (vs', us'') => some (v' :: vs', us'')
      | none => none)
    | none => none
end
def rvs (fr : List (Nat × V)) : List RV → Option (List V)
  | [] => some []
  | .t n :: rs => match opd fr (.t n), rvs fr rs with
    | some v, some vs => some (v :: vs)
    | _, _ => none
  | .c s n :: rs => match get fr s, rvs fr rs with
    | some (.box cs), some vs => (match partV cs 0 n with | some v => some (v :: vs) | none => none)
    | _, _ => none
def one : List V → V
  | [v] => v
  | vs => .tup vs
/-! Boxes that are given away for good. -/
def givB (bx : Nat → Option (List V)) (s off : Nat) : Option (V × List Nat × List Nat) :=
  if s < 1000000 then (match bx s with
  | some cs => (match frzEL cs with
    | some (cs', ts) => if cs'.all V.pm = true then some (.gref (cs'.drop off), [s], ts) else none
    | none => none)
  | none => none) else none
def givC (bx : Nat → Option (List V)) : List V → Option (List V × List Nat × List Nat)
  | [] => some ([], [], [])
  | .ref s off :: vs => (match givB bx s off, givC bx vs with
    | some (v', a, b), some (vs', c, d) => some (v' :: vs', a ++ c, b ++ d)
    | _, _ => none)
  | v :: vs => (match givC bx vs with
    | some (vs', c, d) => if v.pm = true then some (v :: vs', c, d) else none
    | none => none)
mutual
def V.plainR : V → Bool
  | .bool _ => true
  | .int _ _ => true
  | .nil => true
  | .np => true
  | .gref _ => true
  | .sl _ _ _ => true
  | .agg cs => plainRL cs
  | _ => false
def plainRL : List V → Bool
  | [] => true
  | v :: vs => v.plainR && plainRL vs
end
def V.giv (bx : Nat → Option (List V)) : V → Option (V × List Nat × List Nat)
  | .ref s off => givB bx s off
  | .fn (.f f) caps => (match givC bx caps with
    | some (cs, a, b) => some (.fn (.f f) cs, a, b)
    | none => none)
  | v => if v.plainR = true then some (v, [], []) else none
def givL (bx : Nat → Option (List V)) : List V → Option (List V × List Nat × List Nat)
  | [] => some ([], [], [])
  | v :: vs => (match v.giv bx, givL bx vs with
    | some (v', a, b), some (vs', c, d) => some (v' :: vs', a ++ c, b ++ d)
    | _, _ => none)
def result (res : List RV) (σ : St) : Option V :=
  match rvs σ.fr res with
  | some vs => (match givL (bxOf σ.fr []) vs with
    | some (vs', _, ts) => (match finL (protT ts σ.tk) vs' ([], []) with
      | some (vs'', _) => some (one vs'')
      | none => none)
    | none => none)
  | none => none
def params : Nat → List V → List (Nat × V)
  | _, [] => []
  | n, v :: vs => (n, v) :: params (n + 1) vs
/-- Slots of which nothing is known yet. -/
def deadL : List Nat → List (Nat × V)
  | [] => []
  | s :: l => (s, .dead) :: deadL l
/-- Is it called with the body of a range? -/
def ranged : List V → Bool
  | [] => false
  | .fn (.y _) _ :: _ => true
  | _ :: vs => ranged vs
def tupsL : List (List V) → List V
  | [] => []
  | as :: l => .tup as :: tupsL l
def finish (it : Bool) (res : List RV) (σ : St) : Option V :=
  if it = true then (if res.isEmpty = true then (match σ.tr with
    | some l => some (.tup (tupsL l))
    | none => none) else none) else result res σ
def dstsC : LCode → List Nat
  | .reg _ _ _ ops _ _ => ops.filterMap (·.dst)
  | .seq a b => dstsC a ++ dstsC b
  | .cond _ a b => dstsC a ++ dstsC b
  | .block _ a => dstsC a
  | .loop a => dstsC a
  | .rng _ ps _ a b => ps ++ (dstsC a ++ dstsC b)
  | .alt _ _ a b => dstsC a ++ dstsC b
  | _ => []
/-- What is left in a box that was handed. -/
def finIo (ds : List Nat) (res : List RV) (σ : St) : Option V := if res.isEmpty = true ∧ memN 0 ds = false then (match get σ.fr 0 with
  | some (.box cs) => (match finL σ.tk cs ([], []) with
    | some (cs', _) => some (.tup [.box cs', .tup []])
    | none => none)
  | _ => none) else none
def evEnd (lf : LFun) (args : List V) (σ : St) : Option V := if ioArg args = true then finIo (dstsC lf.body) lf.res σ else finish (ranged args) lf.res σ
def evBody (call : Nat → List V → Option V) (N : Nat) (lf : LFun) (args : List V) : Option V :=
  if args.length = lf.np ∧ (ioArg args = true → ranged args = false) then
    match evC call N lf.body { fr := params 0 args ++ deadL lf.sl, tk := ioTk args, tr := if ranged args = true then some [] else none } with
    | some (.normal, σ) => evEnd lf args σ
    | some (.ret, σ) => evEnd lf args σ
    | _ => none
  else none
/-- 'F': functions that are told by a law of their own. -/
def evF (F : Nat → Option (List V → Option V)) (C : Nat → Option LFun) : Nat → Nat → List V → Option V
  | 0, _, _ => none
  | n + 1, f, args => match F f with
    | some g => g args
    | none => match C f with
      | some lf => evBody (evF F C n) n lf args
      | none => none

/-! ### What an instruction looks at and turns -/
def rootK : K → Option Nat
  | .store _ r => r
  | _ => none
def isAppK : K → Bool
  | .append _ _ _ => true
  | .appo _ _ => true
  | _ => false
/-- Fit for a region that draws its order. -/
def drawK : K → Bool
  | .store _ none => false
  | .call dr _ _ => dr
  | .append dr _ _ => dr
  | .appz _ _ _ => false
  | .trunc _ => false
  | .mput => false
  | .callp => false
  | _ => true
def mkK : K → Bool
  | .bsl _ _ _ _ => true
  | .mks _ _ _ => true
  | .append _ _ _ => true
  | .appo _ _ => true
  | .call _ _ mk => mk
  | _ => false
def slotsL : List Opd → List Nat
  | [] => []
  | .t n :: xs => n :: slotsL xs
  | _ :: xs => slotsL xs
def looksL (i : LIns) : List Nat :=
  match i.guard with
  | some (g, _) => g :: slotsL i.xs
  | none => slotsL i.xs
/-- 'x' does not disturb 'y'. -/
def quietL (x y : LIns) : Bool :=
  (match x.dst with
   | some d => !memN d (looksL y) && y.dst != some d && rootK y.k != some d && memN d y.ex
   | none => true) &&
  (match rootK x.k with
   | some r => memN r y.ex && rootK y.k != some r && y.dst != some r
   | none => true) &&
  drawK x.k && (!mkK x.k || x.dst.isSome)
/-- A call that may give away what other arrays lead to. -/
def alK : K → Bool
  | .call _ al mk => al && mk
  | _ => false
/-- It looks at which arrays there are, or turns that. -/
def tokK : K → Bool
  | .bsl _ _ _ _ => true
  | .mks _ _ _ => true
  | .append _ _ _ => true
  | .appo _ _ => true
  | .sls _ _ _ _ => true
  | .call _ _ mk => mk
  | _ => false
def apartL0 (x y : LIns) : Bool := quietL x y && quietL y x && !(isAppK x.k && isAppK y.k) && !(alK x.k && tokK y.k) && !(alK y.k && tokK x.k)
def isAllocK : K → Bool
  | .alloc _ => true
  | _ => false
def isCallK : K → Bool
  | .call _ _ _ => true
  | _ => false
/-- 'x' makes a box that the call 'y' does not see. -/
def aloneL (x y : LIns) : Bool := isAllocK x.k && isCallK y.k && x.xs.isEmpty && (match x.dst with
  | some d => !memN d (looksL y) && y.dst != some d && memN d y.ex
  | none => false) && (match y.dst with
  | some d => !memN d (looksL x)
  | none => true)
def apartL (x y : LIns) : Bool := apartL0 x y || aloneL x y || aloneL y x

/-- Whatever is not ordered stands apart; 'b': which come before. -/
def drawOkL (b : Array Nat) (is : List LIns) : Bool :=
  is.zipIdx.all fun (y, i) => is.zipIdx.all fun (x, k) => if k < i && !((b.getD i 0).testBit k) then apartL x y else true
end Go.Lo

/- Loaded code is compiled for the logical machine: types are looked up once. -/
namespace Go.Lo
variable (P : Program)

mutual
def valV : Value → Option V
  | .bool b => some (.bool b)
  | .int k n => some (.int k n)
  | .slice none 0 0 => some .nil
  | .nilFunc => some .dead
  | .nilIface => some .dead
  | .pointer none => some .np
  | .map none => some .dead
  | .agg cs => match cs with
    | ⟨l⟩ => match valVL l with
      | some l' => some (.agg l')
      | none => none
  | _ => none
def valVL : List Value → Option (List V)
  | [] => some []
  | v :: vs => match valV v, valVL vs with
    | some v', some vs' => some (v' :: vs')
    | _, _ => none
end
def opdC : Operand → Option Opd
  | .tmp t => some (.t t)
  | .const v => match valV v with | some v' => some (.c v') | none => none
  | .func f => some (.f f)
  | .global _ => none
def opdsC : List Operand → Option (List Opd)
  | [] => some []
  | x :: xs => match opdC x, opdsC xs with
    | some y, some ys => some (y :: ys)
    | _, _ => none
/-- The size, if the zero value can be told: so many cells, and all of them plain. -/
def zeroC (t : TypeId) : Option V :=
  match P.info? t with
  | some i => match i.zero with
    | some z => match valV z with
      | some v => if v.cells.length = i.size ∧ v.cells.all V.cellOk = true then some v else none
      | none => none
    | none => none
  | none => none
/-- The zero value of what may lie in an array. -/
def zeroE (t : TypeId) : Option V :=
  match zeroC P t with
  | some z => if z.cells.all V.pm = true then some z else none
  | none => none
/-- The cells of the zero value; those that can't be told are unknown. -/
def zeroD (t : TypeId) : Option (List V) :=
  match P.info? t with
  | some i => match i.zero with
    | some z => some (z.cells.toList.map fun x => match valV x with
      | some v => if v.cellOk then v else .dead
      | none => .dead)
    | none => none
  | none => none
def sizeC (t : TypeId) : Option Nat := (P.info? t).map (·.size)
def bytesC (t : TypeId) : Option Nat := (P.info? t).map (·.bytes)
/-- How a variable of the type is read: one cell, or so many. -/
def nC (t : TypeId) : Option (Option Nat) :=
  match P.underlying t, sizeC P t with
  | some (.struct _), some n => some (some n)
  | some (.array _ _), some n => some (some n)
  | some _, some n => if n = 1 then some none else none
  | _, _ => none
def elemC (t : TypeId) : Option TypeId :=
  match P.underlying t with
  | some (.slice e) => some e
  | _ => none
/-- Values of the type are compared cell by cell: the kinds of the cells. -/
def shapeFs (fl : TypeId → Option (List (Option IntKind))) : List Field → Nat → Option (List (Option IntKind))
  | [], _ => some []
  | f :: fs, o => match fl f.type with
    | some sh => if f.offset = o ∧ f.name ≠ "_" then (match shapeFs fl fs (o + sh.length) with
      | some sh' => some (sh ++ sh')
      | none => none) else none
    | none => none
def sized (t : TypeId) (sh : List (Option IntKind)) : Option (List (Option IntKind)) := if sizeC P t = some sh.length then some sh else none
def shapeC : Nat → TypeId → Option (List (Option IntKind))
  | 0, _ => none
  | d + 1, t => match P.underlying t with
    | some .bool => sized P t [none]
    | some (.int k) => sized P t [some k]
    | some (.struct fs) => if P.stoodInHeld t = true then none else match shapeFs (shapeC d) fs.toList 0 with
      | some sh => sized P t sh
      | none => none
    | some (.array n e) => match shapeC d e with
      | some sh => sized P t (List.replicate n sh).flatten
      | none => none
    | _ => none
def eqOpC : BinOp → Option Bool
  | .eql => some false
  | .neq => some true
  | _ => none
def eqsC (op : BinOp) (t : TypeId) (x y : Operand) : Option (K × List Operand) :=
  match eqOpC op, shapeC P 12 t with
  | some ne, some sh => if P.eqGuardType P.depth t = false then some (.eqs ne sh, [x, y]) else none
  | _, _ => none
def fieldC (t : TypeId) (i : Nat) : Option (Nat × TypeId) :=
  match P.underlying t with
  | some (.struct fs) => match fs[i]? with
    | some f => some (f.offset, f.type)
    | none => none
  | _ => none
/-- Where the parts of a composite value lie. -/
def placesC (t : TypeId) : Option (Nat → Option (Nat × Nat)) :=
  match P.underlying t with
  | some (.struct fs) => match fs.toList.mapM (fun f => (P.info? f.type).map fun i => (f.offset, i.size)) with
    | some l => some (l.toArray[·]?)
    | none => none
  | some (.array _ e) => match P.info? e with
    | some i => some fun j => some (j * i.size, i.size)
    | none => none
  | _ => none
def partsC (pl : Nat → Option (Nat × Nat)) : List (Nat × Operand) → Option (List (Nat × Nat))
  | [] => some []
  | (i, _) :: r => match pl i, partsC pl r with
    | some q, some qs => some (q :: qs)
    | _, _ => none
def buildC (t : TypeId) (ps : List (Nat × Operand)) : Option (K × List Operand) :=
  match zeroC P t, placesC P t with
  | some (.agg zs), some place => match partsC place ps with
    | some pl => some (.build zs pl, ps.map (·.2))
    | none => none
  | _, _ => none
def callC (c : Call) (dr al mk : Bool) : Option (K × List Operand) :=
  match c.callee with
  | .value f => some (if dr = false ∧ al = true ∧ mk = false then .callp else .call dr al mk, f :: c.args.toList)
  | .invoke _ _ => none
  | .builtin b =>
    match b, c.args.toList, c.argTypes.toList with
    | .len, [x], [t] => (elemC P t).map fun _ => (.len, [x])
    | .cap, [x], [t] => (elemC P t).map fun _ => (.cap, [x])
    | .append, [x, y], [t, u] => match elemC P t, elemC P u with
      | some e, some _ => match sizeC P e, bytesC P e, zeroC P e with
        | some n, some b, some _ => if n ≠ 0 ∧ b ≠ 0 ∧ b ≤ 1000000 then some (.append dr n b, [x, y]) else none
        | _, _, _ => none
      | some e, none => match P.underlying u, sizeC P e, bytesC P e, zeroE P e with
        | some (.int _), some n, some b, some z => if n ≠ 0 ∧ b ≠ 0 ∧ dr = false then some (.appz n b z.cells, [x, y]) else none
        | _, _, _, _ => none
      | _, _ => none
    | .max, xs, _ => some (.max, xs)
    | .min, xs, _ => some (.min, xs)
    | _, _, _ => none
/-- Elements of its slices may hold slices. -/
def aliasC : Nat → TypeId → Bool
  | 0, _ => true
  | d + 1, t => match P.underlying t with
    | some .bool => false
    | some (.int _) => false
    | some (.slice e) => match P.info? e with
      | some i => i.hasPointers
      | none => true
    | some (.struct fs) => fs.toList.any fun f => aliasC d f.type
    | some (.array _ e) => aliasC d e
    | some (.tuple ts) => ts.toList.any fun u => aliasC d u
    | _ => true
/-- Or it is no value at all. -/
def alC (t : TypeId) : Bool := match P.underlying t with
  | some (.tuple ts) => if ts.isEmpty = true then true else aliasC P 12 t
  | _ => aliasC P 12 t
/-- A map from integers to slices. -/
def mapC (t : TypeId) : Bool := match P.underlying t with
  | some (.map k e) => (match P.underlying k, P.info? e with
    | some (.int .i64), some i => (match i.zero with
      | some (.slice none 0 0) => true
      | _ => false)
    | _, _ => false)
  | _ => false
/-- An operation: what it does, and its operands. 'dr': its region draws its order; 'root': the box that it writes. -/
def opC (o : Op) (dr al mk : Bool) (root : Option Nat) : Option (K × List Operand) :=
  match o with
  | .move x => some (.mv, [x])
  | .assign x => some (.mv, [x])
  | .pick c a b => some (.pick, [c, a, b])
  | .alloc t => match zeroD P t with
    | some zs => some (.alloc zs, [])
    | none => none
  | .box t x => match sizeC P t with
    | some _ => some (.box, [x])
    | none => none
  | .build t ps => buildC P t ps.toList
  | .buildSlice t len ps => match elemC P t with
    | some e => match sizeC P e, zeroE P e with
      | some n, some z => if n ≠ 0 ∧ len * n ≤ 16777216 then some (.bsl n z.cells len (ps.toList.map (·.1)), ps.toList.map (·.2)) else none
      | _, _ => none
    | none => none
  | .load t x => match nC P t with
    | some n => some (.load n, [x])
    | none => none
  | .store t a v => match sizeC P t with
    | some n => some (.store n root, [a, v])
    | none => none
  | .nilCheck x => some (.nilc, [x])
  | .binOp op t x y _ => match P.underlying t with
    | some (.int _) => some (.bin 0 op, [x, y])
    | some .bool => some (.bin 1 op, [x, y])
    | some (.slice _) => some (.bin 2 op, [x, y])
    | some (.struct _) => eqsC P op t x y
    | some (.array _ _) => eqsC P op t x y
    | _ => none
  | .unOp op _ x => some (.un op, [x])
  | .convert s d x => match P.underlying s, P.underlying d with
    | some (.int _), some (.int k) => some (.conv k, [x])
    | _, _ => none
  | .makeFunc (.func f) first caps => if first.isEmpty = true then some (.mkf f, caps.toList) else if caps.isEmpty = true then some (.mkm f, first.toList) else none
  | .fieldAddr t x i => match fieldC P t i with
    | some (off, u) => match sizeC P u with
      | some n => if n ≠ 0 then some (.fa off, [x]) else none
      | none => none
    | none => none
  | .field t x i => match fieldC P t i with
    | some (off, u) => match nC P u with
      | some n => some (.fld off n, [x])
      | none => none
    | none => none
  | .indexAddr t x i => match P.underlying t with
    | some (.slice e) => match sizeC P e with
      | some n => if n ≠ 0 then some (.ixs n, [x, i]) else none
      | none => none
    | some (.array len e) => match sizeC P e with
      | some n => if n ≠ 0 then some (.ixa len n, [x, i]) else none
      | none => none
    | _ => none
  | .index t x i => match P.underlying t with
    | some (.array len e) => match sizeC P e, nC P e with
      | some n, some m => some (.idx len n m, [x, i])
      | _, _ => none
    | _ => none
  | .makeSlice t l c => match elemC P t with
    | some e => match sizeC P e, bytesC P e, zeroE P e with
      | some n, some b, some z => if n ≠ 0 ∧ b ≠ 0 then some (.mks n b z.cells, [l, c]) else none
      | _, _, _ => none
    | none => none
  | .slice t x lo hi mx => match elemC P t with
    | some e => match sizeC P e with
      | some n => if n ≠ 0 ∧ (mx.isSome = true → hi.isSome = true) then (match root, lo, hi, mx with
        | some _, none, some h, none => some (.trunc n, [x, h])
        | _, _, _, _ => some (.sls n lo.isSome hi.isSome mx.isSome, x :: (lo.toList ++ hi.toList ++ mx.toList))) else none
      | none => none
    | none => none
  | .extract x i => some (.ext i, [x])
  | .makeMap t none => if mapC P t = true then some (.mkmp, []) else none
  | .lookup t x i false => if mapC P t = true then some (.mlook, [x, i]) else none
  | .mapUpdate t m x v => if mapC P t = true then some (.mput, [m, x, v]) else none
  | .call c => callC P c dr al mk
  | _ => none

/-! ### Regions -/
def tmpsOf (xs : List Operand) : List Nat := xs.filterMap fun
  | .tmp t => some t
  | _ => none
def looks (ops : Array Oper) (o : Oper) : List Nat :=
  tmpsOf o.op.operands.toList ++ (match o.guard with
    | some (j, _) => match ops[j]? with
      | some p => p.dst.toList
      | none => []
    | none => [])
/-- The slot whose box an address in 't' leads to, by the text. -/
def rootOf (ops : Array Oper) : Nat → Nat → Option Nat
  | 0, _ => none
  | n + 1, t => match ops.find? (fun o => o.dst == some t) with
    | none => some t
    | some o => match o.op with
      | .alloc _ => some t
      | .box _ _ => some t
      | .fieldAddr _ (.tmp x) _ => rootOf ops n x
      | .indexAddr _ (.tmp x) _ => rootOf ops n x
      | .move (.tmp x) => rootOf ops n x
      | _ => none
def storeRoot (ops : Array Oper) (o : Oper) : Option Nat :=
  match o.op with
  | .store _ (.tmp t) _ => rootOf ops (ops.size + 1) t
  | _ => none
def isStore (o : Oper) : Bool := match o.op with | .store .. => true | _ => false
def isAppend (o : Oper) : Bool := match o.op with | .call { callee := .builtin .append, .. } => true | _ => false
/-- The type holds something that leads to memory. -/
def leadsC (t : TypeId) : Bool :=
  match P.underlying t with
  | some (.tuple ts) => ts.toList.any fun u => match P.info? u with
    | some i => i.hasPointers
    | none => true
  | _ => match P.info? t with
    | some i => i.hasPointers
    | none => true
/-- It makes a box or an array in its slot. -/
def makes (o : Oper) : Bool :=
  match o.op with
  | .alloc _ => true
  | .box _ _ => true
  | .makeMap _ _ => true
  | .buildSlice .. => true
  | .makeSlice .. => true
  | .call { callee := .builtin .append, .. } => true
  | .call { callee := .value _, .. } => leadsC P o.type
  | _ => false
def marksOf (ops : Array Oper) (o : Oper) : List Nat := o.dst.toList ++ (storeRoot ops o).toList
def ordB (b : Array Nat) (i j : Nat) : Bool := if i < j then (b.getD j 0).testBit i else (b.getD i 0).testBit j
def exOf (ops : Array Oper) (b : Array Nat) (j : Nat) : List Nat :=
  (ops.toList.zipIdx.flatMap fun (o, i) => if i == j || ordB b i j then [] else marksOf ops o).eraseDups
def isAllocO (o : Oper) : Bool := match o.op with
  | .alloc _ => true
  | _ => false
/-- Something else than a new box may come before or after. -/
def busyOf (ops : Array Oper) (b : Array Nat) (j : Nat) : Bool :=
  ops.toList.zipIdx.any fun (o, i) => !(i == j || ordB b i j) && !isAllocO o && !(marksOf ops o).isEmpty
/-- What 'b' says comes before does so, by the edges; and edges lead back. -/
def closedB (ops : Array Oper) (b : Array Nat) : Bool :=
  ops.toList.zipIdx.all fun (o, i) =>
    o.after.all (fun e => !Region.binds .any e || decide (e.on < i)) &&
    (List.range i).all fun k => !(b.getD i 0).testBit k || o.after.any fun e => Region.binds .any e && (e.on == k || (decide (k < e.on) && (b.getD e.on 0).testBit k))
/-- A slice of what the region itself has appended: it keeps the array. -/
def truncRoot (ops : Array Oper) (o : Oper) : Option Nat :=
  match o.op with
  | .slice _ (.tmp x) none (some _) none => if ops.any (fun p => p.dst == some x && isAppend p) = true then some 0 else none
  | _ => none
def badI : LIns := { dst := none, k := .bad, xs := [], guard := none, ex := [] }
def guardC (ops : Array Oper) (o : Oper) : Option (Option (Nat × Bool)) :=
  match o.guard with
  | none => some none
  | some (i, w) => match ops[i]? with
    | some p => match p.dst with
      | some d => some (some (d, w))
      | none => none
    | none => none
def insC (ops : Array Oper) (b : Array Nat) (draw da : Bool) (o : Oper) (j : Nat) : LIns :=
  if makes P o = true ∧ o.dst = none then badI else
  match opC P o.op (if isAppend o = true then da else draw && busyOf ops b j) (alC P o.type) (makes P o) (if draw then storeRoot ops o else truncRoot ops o) with
  | some (k, xs) => match opdsC xs with
    | none => badI
    | some ys => match guardC ops o with
      | some g => { dst := o.dst, k, xs := ys, guard := g, ex := if draw then exOf ops b j else [] }
      | none => badI
  | none => badI
def insCL (ops : Array Oper) (b : Array Nat) (draw da : Bool) : List Oper → Nat → List LIns
  | [], _ => []
  | o :: r, j => insC P ops b draw da o j :: insCL ops b draw da r (j + 1)
/-- Does some append change places with something else? -/
def drawsApp (ops : Array Oper) (b : Array Nat) (draw : Bool) : Bool := draw && ops.toList.zipIdx.any fun (o, j) => isAppend o && !(exOf ops b j).isEmpty
def needs (draw : Bool) (o : Oper) : Bool := makes P o && (draw || !isAppend o)
def ppOf (draw : Bool) (ops : List Oper) : List Nat := ops.filterMap fun o => if needs P draw o then o.dst else none
def dsOf (ops : List Oper) : List Nat := ops.filterMap fun o => if makes P o then o.dst else none
/-- It appends to what is its own already. -/
def ownK : K → K
  | .append true sz bytes => .appo sz bytes
  | k => k
def ownI (i : LIns) : LIns := { dst := i.dst, k := ownK i.k, xs := i.xs, guard := i.guard, ex := i.ex }
def modI (own : Bool) (i : LIns) : LIns := if own = true then ownI i else i
def apsOf (ops : List Oper) : List Nat := ops.filterMap fun o => if isAppend o then o.dst else none
/-- The slot from which an address is made. -/
def ptrOf (ops : Array Oper) : Nat → Nat → Nat
  | 0, t => t
  | n + 1, t => match ops.find? (fun o => o.dst == some t) with
    | none => t
    | some o => match o.op with
      | .fieldAddr _ (.tmp x) _ => ptrOf ops n x
      | .indexAddr _ (.tmp x) _ => ptrOf ops n x
      | .nilCheck (.tmp x) => ptrOf ops n x
      | .move (.tmp x) => ptrOf ops n x
      | _ => t
/-- Where the operand of an append comes from, by the text. -/
def srcOf (ops : Array Oper) (t : Nat) : Option Nat :=
  match ops.find? (fun o => o.dst == some t) with
  | none => some t
  | some o => match o.op with
    | .load _ (.tmp x) => some (ptrOf ops (ops.size + 1) x)
    | _ => none
def srcsOf (ops : Array Oper) : List Nat := ops.toList.filterMap fun o => match o.op with
  | .call c => if isAppend o then (match c.args.toList with
    | .tmp x :: _ => srcOf ops x
    | _ => none) else none
  | _ => none
def regC (lp : Bool) (kn : Nat) (kp : List Nat) (ops : Array Oper) (draw : Bool) : Option LCode :=
  let b := if draw = true then Region.before ops else #[]
  let da := drawsApp ops b draw
  let is := insCL P ops b draw da ops.toList 0
  let ds := dsOf P ops.toList
  if (draw = true → drawOkL b is = true ∧ closedB ops b = true) ∧ distinctN ds = true then
    (if lp = true ∧ da = true then (if draw = true → drawOkL b (is.map ownI) = true then
      some (.alt (apsOf ops.toList) (srcsOf ops) (.reg lp ds (ppOf P da ops.toList) is kn kp) (.reg lp ds (ppOf P false ops.toList) (is.map ownI) kn kp)) else none)
    else some (.reg lp ds (ppOf P da ops.toList) is kn kp)) else none
def codeC (kp : Nat → List Nat) : Bool → Code → Option LCode
  | _, .skip => some .skip
  | lp, .region id ops draw => regC P lp 0 (kp id) ops draw
  | lp, .seq a b => match codeC kp lp a, codeC kp lp b with
    | some x, some y => some (.seq x y)
    | _, _ => none
  | lp, .cond c a b => match opdC c, codeC kp lp a, codeC kp lp b with
    | some c', some x, some y => some (.cond c' x y)
    | _, _, _ => none
  | lp, .block id a => match codeC kp lp a with
    | some x => some (.block id x)
    | none => none
  | _, .loop a => match codeC kp true a with
    | some x => some (.loop x)
    | none => none
  | _, .rangeFunc g ps a b => match opdC g, codeC kp true a, codeC kp true b with
    | some g', some x, some y => some (.rng g' ps.toList (ps.toList ++ (dstsC x ++ dstsC y)) x y)
    | _, _, _ => none
  | _, .exit id => some (.exit id)
  | _, .ret => some .ret
  | _, _ => some .bad
/-- What is made outside loops is made once. -/
def onceC : LCode → List Nat
  | .reg lp ds _ _ _ _ => if lp then [] else ds
  | .seq a b => onceC a ++ onceC b
  | .cond _ a b => onceC a ++ onceC b
  | .block _ a => onceC a
  | .alt _ _ a b => onceC a ++ onceC b
  | _ => []
def loopC : LCode → List Nat
  | .reg lp ds _ _ _ _ => if lp then ds else []
  | .seq a b => loopC a ++ loopC b
  | .cond _ a b => loopC a ++ loopC b
  | .block _ a => loopC a
  | .loop a => loopC a
  | .rng _ _ _ a b => loopC a ++ loopC b
  | .alt _ _ a b => loopC a ++ loopC b
  | _ => []
def rvC : ResultVar → Option RV
  | .tmp t => some (.t t)
  | .cell a t => match nC P t with
    | some n => some (.c a n)
    | none => none
def rvsC : List ResultVar → Option (List RV)
  | [] => some []
  | r :: rs => match rvC P r, rvsC rs with
    | some x, some xs => some (x :: xs)
    | _, _ => none
/-- The slots that are kept behind a region, by its number. -/
def kpOf (l : List (Nat × List Nat)) (id : Nat) : List Nat := match get l id with
  | some ks => ks
  | none => []
def funC (kp : List (Nat × List Nat)) (fn : Func) : Option LFun :=
  match fn.body with
  | some c => match codeC P (kpOf kp) false c, rvsC P fn.results.toList with
    | some b, some rs =>
      if (dstsC b).all (fun d => decide (d < fn.ntmps)) = true ∧ distinctN (onceC b) = true ∧ (onceC b).all (fun d => !memN d (loopC b) && decide (fn.params.size + fn.nfree ≤ d)) = true
        ∧ (loopC b).all (fun d => decide (fn.params.size + fn.nfree ≤ d)) = true ∧ fn.params.size + fn.nfree ≤ fn.ntmps
      then some { np := fn.params.size + fn.nfree, nt := fn.ntmps, sl := [], body := b, res := rs } else none
    | _, _ => none
  | none => none
end Go.Lo

/- What a logical value says of a real one, in a world of which some blocks are owned. -/
namespace Go.Lo

inductive OwnK where
  | out | frz | frzb | frg
  | box (s : Nat)
  | arr (t : Nat) (p : Bool)
  deriving DecidableEq

/-- Who owns a block; the record of the range whose body it may yield to, and when that stops; how many of its cells are settled; where an array lies now: its block, its capacity, its length; the size of its elements. -/
structure Own where
  o : Nat → OwnK
  lim : Nat → Nat
  cur : Nat → Option (Nat × Nat × Nat)
  tsz : Nat → Nat
  yl : Option (Nat × Nat) := none

def Own.froz (Ω : Own) (b : Nat) : Prop := Ω.o b = .frz ∨ ∃ t, Ω.o b = .arr t true
def Own.frozp (Ω : Own) (b : Nat) : Prop := Ω.froz b ∨ Ω.o b = .frzb

mutual
/-- Without arrays or boxes of this frame. -/
def V.pure : V → Bool
  | .bool _ => true
  | .int _ _ => true
  | .nil => true
  | .sl none _ _ => true
  | .cref _ => true
  | .gref _ => true
  | .np => true
  | .bag _ _ => true
  | .fn (.f _) cs => pureL cs
  | .fn (.m _) cs => pureL cs
  | .agg cs => pureL cs
  | _ => false
def pureL : List V → Bool
  | [] => true
  | v :: vs => if v.pure = true then pureL vs else false
end

theorem V.pm_pure : ∀ {v : V}, v.pm = true → v.pure = true ∧ v.cellOk = true
  | .bool _, _ => ⟨rfl, rfl⟩
  | .int _ _, _ => ⟨rfl, rfl⟩
  | .nil, _ => ⟨rfl, rfl⟩
  | .gref _, _ => ⟨rfl, rfl⟩
  | .np, _ => ⟨rfl, rfl⟩
  | .sl none _ _, _ => ⟨rfl, rfl⟩
  | .fn (.f _) [], _ => ⟨rfl, rfl⟩
  | .fn (.m _) [], h => by simp [V.pm] at h
  | .fn (.y _) [], h => by simp [V.pm] at h
  | .sl (some _) _ _, h => by simp [V.pm] at h
  | .fn _ (_ :: _), h => by simp [V.pm] at h
  | .und, h => by simp [V.pm] at h
  | .dead, h => by simp [V.pm] at h
  | .agg _, h => by simp [V.pm] at h
  | .tup _, h => by simp [V.pm] at h
  | .ref _ _, h => by simp [V.pm] at h
  | .cref _, h => by simp [V.pm] at h
  | .eref _ _ _ _ _, h => by simp [V.pm] at h
  | .box _, h => by simp [V.pm] at h
  | .mbox _, h => by simp [V.pm] at h
  | .mref _, h => by simp [V.pm] at h
  | .bag _ _, h => by simp [V.pm] at h
/-- The model's own word for it. -/
def Fk.Is (yl : Option (Nat × Nat)) : Fk → List Value → Value → Prop
  | .f n, xs, x => x = .func (.func n) #[] xs.toArray
  | .m n, xs, x => x = .func (.func n) xs.toArray #[]
  | .y a, xs, x => ∃ l, yl = some (l, a) ∧ x = .func (.yield l) #[] xs.toArray
/-- A slice of rows of integers of which the order is not known: it is never written again. -/
def BagD (Ω : Own) (w : World) (sz : Nat) (es : List (List Int)) (x : Value) : Prop :=
  ∃ es' : List (List Int), es'.Perm es ∧ (∀ r ∈ es', r.length = sz) ∧ ((es' = [] ∧ ∃ p, x = .slice p 0 0) ∨ ∃ b off cap, x = .slice (some ⟨b, off, none⟩) es'.length (es'.length + cap) ∧ Ω.o b = .frg ∧
    ∀ i n, es'.flatten[i]? = some n → off + i < Ω.lim b ∧ w.cell? ⟨b, off + i, none⟩ = some (.int .i64 n))
theorem BagD.mono {Ω Ω' : Own} {w w' : World} {sz : Nat} {es : List (List Int)} {x : Value}
    (hf : ∀ b, Ω.o b = .frg → Ω'.o b = .frg ∧ Ω.lim b ≤ Ω'.lim b ∧ ∀ off, off < Ω.lim b → w'.cell? ⟨b, off, none⟩ = w.cell? ⟨b, off, none⟩) (h : BagD Ω w sz es x) : BagD Ω' w' sz es x := by
  obtain ⟨es', h1, h2, h3⟩ := h
  refine ⟨es', h1, h2, h3.imp id ?_⟩
  rintro ⟨b, off, cap, h4, h5, h6⟩
  obtain ⟨k1, k2, k3⟩ := hf b h5
  refine ⟨b, off, cap, h4, k1, fun i n hi => ?_⟩
  obtain ⟨h7, h8⟩ := h6 i n hi
  exact ⟨Nat.lt_of_lt_of_le h7 k2, by rw [k3 _ h7]; exact h8⟩
theorem BagD.slice {Ω : Own} {w : World} {sz : Nat} {es : List (List Int)} {x : Value} (h : BagD Ω w sz es x) : ∃ p n m, x = .slice p n m := by
  obtain ⟨es', _, _, ⟨_, p, rfl⟩ | ⟨b, off, cap, rfl, _⟩⟩ := h
  · exact ⟨p, 0, 0, rfl⟩
  · exact ⟨_, _, _, rfl⟩
mutual
def Den (Ω : Own) (w : World) : V → Value → Prop
  | .und, x => x = undef
  | .dead, _ => True
  | .bool b, x => x = .bool b
  | .int k n, x => x = .int k n
  | .agg cs, x => ∃ xs : List Value, x = .agg xs.toArray ∧ DenL Ω w cs xs
  | .tup cs, x => ∃ xs : List Value, x = .tuple xs.toArray ∧ DenL Ω w cs xs
  | .nil, x => x = .slice none 0 0
  | .sl none sz es, x => (es = [] ∧ ∃ p, x = .slice p 0 0) ∨
      ∃ b off cap, x = .slice (some ⟨b, off, none⟩) es.length (es.length + cap) ∧ Ω.froz b ∧ DenE Ω w es sz b off
  | .sl (some t) sz es, x => ∃ b cap p, x = .slice (some ⟨b, 0, none⟩) es.length (es.length + cap) ∧ Ω.o b = .arr t p ∧ sz = Ω.tsz t ∧
      (∀ c k n, Ω.cur t = some (c, k, n) → es.length ≤ n ∧ (es.length = n → b = c ∧ es.length + cap = k)) ∧ DenE Ω w es sz b 0
  | .fn f cs, x => ∃ xs : List Value, f.Is Ω.yl xs x ∧ DenL Ω w cs xs
  | .ref s off, x => ∃ b, x = .pointer (some ⟨b, off, none⟩) ∧ Ω.o b = .box s
  | .cref cs, x => ∃ b off, x = .pointer (some ⟨b, off, none⟩) ∧ Ω.frozp b ∧ DenC Ω w cs b off
  | .gref cs, x => ∃ b off, x = .pointer (some ⟨b, off, none⟩) ∧ Ω.froz b ∧ cs.all V.pm = true ∧ DenC Ω w cs b off
  | .np, x => x = .pointer none
  | .bag sz es, x => BagD Ω w sz es x
  | .eref t n i off cs, x => ∃ b p, x = .pointer (some ⟨b, i * Ω.tsz t + off, none⟩) ∧ Ω.o b = .arr t p ∧ i < n ∧
      (∀ c k m, Ω.cur t = some (c, k, m) → n ≤ m ∧ (n = m → b = c)) ∧ cs.length = Ω.tsz t ∧ cs.all V.pm = true ∧ DenC Ω w cs b (i * Ω.tsz t)
  | .box _, _ => False
  | .mref s, x => ∃ b, x = .map (some b) ∧ Ω.o b = .box s
  | .mbox _, _ => False
def DenL (Ω : Own) (w : World) : List V → List Value → Prop
  | [], xs => xs = []
  | v :: vs, xs => ∃ x ys, xs = x :: ys ∧ Den Ω w v x ∧ DenL Ω w vs ys
/-- Cells in memory. -/
def DenC (Ω : Own) (w : World) : List V → Nat → Nat → Prop
  | [], _, _ => True
  | v :: vs, b, off => (∃ x, off < Ω.lim b ∧ w.cell? ⟨b, off, none⟩ = some x ∧ v.pure = true ∧ v.cellOk = true ∧ Den Ω w v x) ∧ DenC Ω w vs b (off + 1)
/-- Elements in memory. -/
def DenE (Ω : Own) (w : World) : List (List V) → Nat → Nat → Nat → Prop
  | [], _, _, _ => True
  | cs :: es, sz, b, off => cs.length = sz ∧ cs.all V.pm = true ∧ DenC Ω w cs b off ∧ DenE Ω w es sz b (off + sz)
end
end Go.Lo

/- Lists, and what stays true when the world goes on. -/
namespace Go.Lo

section lists
variable {α : Type}
theorem get_put_same (l : List (Nat × α)) (s : Nat) (v : α) : get (put l s v) s = some v := by
  induction l with
  | nil => simp [put, get]
  | cons p t ih =>
    obtain ⟨k, u⟩ := p
    simp only [put]
    split
    · simp [get]
    · split
      · simp [get]
      · rename_i h _; simp [get, h, ih]
theorem get_put_other (l : List (Nat × α)) (s : Nat) (v : α) (s' : Nat) (h : s ≠ s') : get (put l s v) s' = get l s' := by
  induction l with
  | nil => simp [put, get, h]
  | cons p t ih =>
    obtain ⟨k, u⟩ := p
    simp only [put]
    split
    · rename_i hk; subst hk; simp [get, h]
    · split
      · simp [get, h]
      · simp only [get]; split
        · rfl
        · exact ih
theorem get_put (l : List (Nat × α)) (s : Nat) (v : α) (s' : Nat) : get (put l s v) s' = if s = s' then some v else get l s' := by
  split
  · rename_i h; subst h; exact get_put_same ..
  · rename_i h; exact get_put_other _ _ _ _ h
theorem memN_iff (s : Nat) (l : List Nat) : memN s l = true ↔ s ∈ l := by
  induction l with
  | nil => simp [memN]
  | cons k t ih =>
    simp only [memN, List.mem_cons]
    split
    · rename_i h; simp [h]
    · rename_i h; rw [ih]; exact ⟨fun x => .inr x, fun x => x.resolve_left (fun e => h e.symm)⟩
theorem get_keepL {n : Nat} {ks : List Nat} {l : List (Nat × α)} {s : Nat} {v : α} (h : get (keepL n ks l) s = some v) : get l s = some v := by
  induction l with
  | nil => simp [keepL, get] at h
  | cons p t ih =>
    obtain ⟨k, u⟩ := p
    have key : ∀ l', l' = (k, u) :: keepL n ks t ∨ l' = keepL n ks t ∧ ¬ (k < n) ∧ memN k ks ≠ true → get l' s = some v → get ((k, u) :: t) s = some v := by
      rintro l' (rfl | ⟨rfl, hk1, hk2⟩) h'
      · simp only [get] at h' ⊢
        split
        · rename_i hk; rw [if_pos hk] at h'; exact h'
        · rename_i hk; rw [if_neg hk] at h'; exact ih h'
      · have := ih h'
        simp only [get]
        split
        · rename_i hks
          subst hks
          exfalso
          have hno : ∀ l : List (Nat × α), get (keepL n ks l) k = none := by
            intro l
            induction l with
            | nil => rfl
            | cons q r ihr =>
              obtain ⟨k', u'⟩ := q
              simp only [keepL]
              split
              · rename_i hlt
                simp only [get]; split
                · rename_i e; subst e; exact absurd hlt hk1
                · exact ihr
              · split
                · rename_i hm
                  simp only [get]; split
                  · rename_i e; subst e; exact absurd hm hk2
                  · exact ihr
                · exact ihr
          rw [hno t] at h'; cases h'
        · exact this
    simp only [keepL] at h
    split at h
    · exact key _ (.inl rfl) h
    · split at h
      · exact key _ (.inl rfl) h
      · rename_i h1 h2; exact key _ (.inr ⟨rfl, h1, h2⟩) h
end lists

theorem get_prepF {ds : List Nat} {l : List (Nat × V)} {s : Nat} {v : V} (h : get (prepF ds l) s = some v) : memN s ds = false ∧ ∃ u, get l s = some u ∧ v = u.prep ds := by
  induction l with
  | nil => simp [prepF, get] at h
  | cons p t ih =>
    obtain ⟨k, u⟩ := p
    simp only [prepF] at h
    split at h
    · rename_i hk
      obtain ⟨h1, u', h2, h3⟩ := ih h
      refine ⟨h1, u', ?_, h3⟩
      simp only [get]
      split
      · rename_i e; subst e; rw [hk] at h1; cases h1
      · exact h2
    · rename_i hk
      simp only [get] at h ⊢
      split at h
      · rename_i e; subst e
        simp only [if_true]
        injection h with h
        exact ⟨by simpa using hk, u, rfl, h.symm⟩
      · rename_i e; rw [if_neg e]; exact ih h
theorem get_estF {t n i : Nat} {e : List V} {l : List (Nat × V)} {s : Nat} {v : V} (h : get (estF t n i e l) s = some v) : ∃ u, get l s = some u ∧ v = V.est t n i e u := by
  induction l with
  | nil => simp [estF, get] at h
  | cons p r ih =>
    obtain ⟨k, u⟩ := p
    simp only [estF, get] at h ⊢
    split at h
    · injection h with h; rename_i hk; rw [if_pos hk]; exact ⟨u, rfl, h.symm⟩
    · rename_i hk; rw [if_neg hk]; exact ih h
theorem get_prepT {ds : List Nat} {l : List (Nat × Nat × Bool)} {t : Nat} {x : Nat × Bool} (h : get (prepT ds l) t = some x) : memN (t / 100) ds = false ∧ get l t = some x := by
  induction l with
  | nil => simp [prepT, get] at h
  | cons p r ih =>
    obtain ⟨k, u⟩ := p
    simp only [prepT] at h
    split at h
    · rename_i hk
      obtain ⟨h1, h2⟩ := ih h
      refine ⟨h1, ?_⟩
      simp only [get]
      split
      · rename_i e; subst e; rw [hk] at h1; cases h1
      · exact h2
    · rename_i hk
      simp only [get] at h ⊢
      split at h
      · rename_i e; subst e; simp only [if_true]; exact ⟨by simpa using hk, h⟩
      · rename_i e; rw [if_neg e]; exact ih h
theorem get_protT (ps : List Nat) (l : List (Nat × Nat × Bool)) (t : Nat) : get (protT ps l) t = (get l t).map (fun x => if memN t ps = true then (x.1, false) else x) := by
  induction l with
  | nil => rfl
  | cons p r ih =>
    obtain ⟨k, n, w⟩ := p
    simp only [protT]
    split
    · rename_i hk
      simp only [get]
      split
      · rename_i e; subst e; simp [hk]
      · exact ih
    · rename_i hk
      simp only [get]
      split
      · rename_i e; subst e; simp [hk]
      · exact ih
theorem get_protAll (l : List (Nat × Nat × Bool)) (t : Nat) : get (protAll l) t = (get l t).map (fun x => (x.1, false)) := by
  induction l with
  | nil => rfl
  | cons p r ih =>
    obtain ⟨k, n, w⟩ := p
    simp only [protAll, get]
    split
    · rfl
    · exact ih
theorem get_lenT (t m : Nat) (l : List (Nat × Nat × Bool)) (u : Nat) : get (lenT t m l) u = if u = t then (get l u).map (fun x => (m, x.2)) else get l u := by
  induction l with
  | nil => simp [lenT, get]
  | cons p r ih =>
    obtain ⟨k, n, w⟩ := p
    simp only [lenT]
    split
    · rename_i hk
      subst hk
      simp only [get]
      split
      · rename_i e; subst e; simp
      · rename_i e; rw [if_neg (fun x => e x.symm)]
    · rename_i hk
      simp only [get]
      split
      · rename_i e; subst e; rw [if_neg hk]
      · exact ih

/-- The world goes on: what was settled stays. -/
structure Ext (Ω Ω' : Own) (w w' : World) : Prop where
  froz : ∀ b, Ω.froz b → Ω'.froz b
  frzb : ∀ b, Ω.o b = .frzb → Ω'.frozp b
  arr : ∀ b t p, Ω.o b = .arr t p → ∃ p', Ω'.o b = .arr t p'
  box : ∀ b s, Ω.o b = .box s → Ω'.o b = .box s
  lim : ∀ b, Ω.o b ≠ .out → Ω.lim b ≤ Ω'.lim b
  cell : ∀ b off, Ω.o b ≠ .out → off < Ω.lim b → w'.cell? ⟨b, off, none⟩ = w.cell? ⟨b, off, none⟩
  tsz : ∀ b t p, Ω.o b = .arr t p → Ω'.tsz t = Ω.tsz t
  cur : ∀ b t p c k n, Ω.o b = .arr t p → Ω'.cur t = some (c, k, n) → ∃ c0 k0 n0, Ω.cur t = some (c0, k0, n0) ∧ ((c0 = c ∧ k0 = k ∧ n0 = n) ∨ n0 < n)
  yl : Ω'.yl = Ω.yl
  frg : ∀ b, Ω.o b = .frg → Ω'.o b = .frg

theorem Own.froz_ne {Ω : Own} {b : Nat} (h : Ω.froz b) : Ω.o b ≠ .out := by
  rcases h with h | ⟨t, h⟩ <;> simp [h]
theorem Own.frozp_ne {Ω : Own} {b : Nat} (h : Ω.frozp b) : Ω.o b ≠ .out := by
  rcases h with h | h
  · exact Own.froz_ne h
  · simp [h]
theorem Ext.frozp {Ω Ω' : Own} {w w' : World} (h : Ext Ω Ω' w w') {b : Nat} (hb : Ω.frozp b) : Ω'.frozp b := by
  rcases hb with hb | hb
  · exact .inl (h.froz b hb)
  · exact h.frzb b hb

mutual
theorem Den.ext {Ω Ω' : Own} {w w' : World} (h : Ext Ω Ω' w w') : ∀ (v : V) (x : Value), Den Ω w v x → Den Ω' w' v x
  | .und, _, hd => hd
  | .dead, _, _ => trivial
  | .bool _, _, hd => hd
  | .int _ _, _, hd => hd
  | .agg cs, x, hd => by
    simp only [Den] at hd ⊢
    obtain ⟨xs, h1, h2⟩ := hd
    exact ⟨xs, h1, DenL.ext h cs xs h2⟩
  | .tup cs, x, hd => by
    simp only [Den] at hd ⊢
    obtain ⟨xs, h1, h2⟩ := hd
    exact ⟨xs, h1, DenL.ext h cs xs h2⟩
  | .nil, _, hd => hd
  | .sl none sz es, x, hd => by
    simp only [Den] at hd ⊢
    rcases hd with hd | ⟨b, off, cap, h1, h2, h3⟩
    · exact .inl hd
    · exact .inr ⟨b, off, cap, h1, h.froz b h2, DenE.ext h es sz b off (Own.froz_ne h2) h3⟩
  | .sl (some t) sz es, x, hd => by
    simp only [Den] at hd ⊢
    obtain ⟨b, cap, p, h1, h2, h3, h4, h5⟩ := hd
    obtain ⟨p', h2'⟩ := h.arr b t p h2
    refine ⟨b, cap, p', h1, h2', ?_, ?_, DenE.ext h es sz b 0 (by rw [h2]; simp) h5⟩
    · rw [h3, h.tsz b t p h2]
    · intro c k n hc
      obtain ⟨c0, k0, n0, hc0, hor⟩ := h.cur b t p c k n h2 hc
      have := h4 c0 k0 n0 hc0
      rcases hor with ⟨rfl, rfl, rfl⟩ | hlt
      · exact this
      · exact ⟨by omega, fun e => by omega⟩
  | .fn f cs, x, hd => by
    simp only [Den] at hd ⊢
    obtain ⟨xs, hg, h2⟩ := hd
    exact ⟨xs, by rw [h.yl]; exact hg, DenL.ext h cs xs h2⟩
  | .ref s off, x, hd => by
    simp only [Den] at hd ⊢
    obtain ⟨b, h1, h2⟩ := hd
    exact ⟨b, h1, h.box b s h2⟩
  | .cref cs, x, hd => by
    simp only [Den] at hd ⊢
    obtain ⟨b, off, h1, h2, h3⟩ := hd
    exact ⟨b, off, h1, h.frozp h2, DenC.ext h cs b off (Own.frozp_ne h2) h3⟩
  | .gref cs, x, hd => by
    simp only [Den] at hd ⊢
    obtain ⟨b, off, h1, h2, h4, h3⟩ := hd
    exact ⟨b, off, h1, h.froz b h2, h4, DenC.ext h cs b off (Own.froz_ne h2) h3⟩
  | .np, _, hd => hd
  | .bag sz es, _, hd => by
    simp only [Den] at hd ⊢
    exact hd.mono fun b hb => ⟨h.frg b hb, h.lim b (by rw [hb]; simp), fun o => h.cell b o (by rw [hb]; simp)⟩
  | .eref t n i off cs, x, hd => by
    simp only [Den] at hd ⊢
    obtain ⟨b, p, h1, h2, h3, h4, h5, h5', h6⟩ := hd
    obtain ⟨p', h2'⟩ := h.arr b t p h2
    have hz := h.tsz b t p h2
    refine ⟨b, p', by rw [hz]; exact h1, h2', h3, ?_, by rw [hz]; exact h5, h5', by rw [hz]; exact DenC.ext h cs b _ (by rw [h2]; simp) h6⟩
    intro c k m hc
    obtain ⟨c0, k0, n0, hc0, hor⟩ := h.cur b t p c k m h2 hc
    have := h4 c0 k0 n0 hc0
    rcases hor with ⟨rfl, rfl, rfl⟩ | hlt
    · exact this
    · exact ⟨by omega, fun e => by omega⟩
  | .box _, _, hd => hd
  | .mbox _, _, hd => hd
  | .mref s, x, hd => by
    simp only [Den] at hd ⊢
    obtain ⟨b, h1, h2⟩ := hd
    exact ⟨b, h1, h.box b s h2⟩
theorem DenL.ext {Ω Ω' : Own} {w w' : World} (h : Ext Ω Ω' w w') : ∀ (vs : List V) (xs : List Value), DenL Ω w vs xs → DenL Ω' w' vs xs
  | [], _, hd => hd
  | v :: vs, xs, hd => by
    simp only [DenL] at hd ⊢
    obtain ⟨x, ys, h1, h2, h3⟩ := hd
    exact ⟨x, ys, h1, Den.ext h v x h2, DenL.ext h vs ys h3⟩
theorem DenC.ext {Ω Ω' : Own} {w w' : World} (h : Ext Ω Ω' w w') : ∀ (vs : List V) (b off : Nat), Ω.o b ≠ .out → DenC Ω w vs b off → DenC Ω' w' vs b off
  | [], _, _, _, _ => trivial
  | v :: vs, b, off, hb, hd => by
    simp only [DenC] at hd ⊢
    obtain ⟨⟨x, h1, h2, h3, h4, h5⟩, h6⟩ := hd
    refine ⟨⟨x, Nat.lt_of_lt_of_le h1 (h.lim b hb), (h.cell b off hb h1).trans h2, h3, h4, Den.ext h v x h5⟩, DenC.ext h vs b (off + 1) hb h6⟩
theorem DenE.ext {Ω Ω' : Own} {w w' : World} (h : Ext Ω Ω' w w') : ∀ (es : List (List V)) (sz b off : Nat), Ω.o b ≠ .out → DenE Ω w es sz b off → DenE Ω' w' es sz b off
  | [], _, _, _, _, _ => trivial
  | cs :: es, sz, b, off, hb, hd => by
    simp only [DenE] at hd ⊢
    exact ⟨hd.1, hd.2.1, DenC.ext h cs b off hb hd.2.2.1, DenE.ext h es sz b (off + sz) hb hd.2.2.2⟩
end
end Go.Lo

/- More of the relation: pure values, parts, freezing. -/
namespace Go.Lo

/-! ### Pure values alone -/
structure ExtP (Ω Ω' : Own) (w w' : World) : Prop where
  froz : ∀ b, Ω.froz b → Ω'.froz b
  frzb : ∀ b, Ω.o b = .frzb → Ω'.frozp b
  lim : ∀ b, Ω.frozp b → Ω.lim b ≤ Ω'.lim b
  cell : ∀ b off, Ω.frozp b → off < Ω.lim b → w'.cell? ⟨b, off, none⟩ = w.cell? ⟨b, off, none⟩
  frg : ∀ b, Ω.o b = .frg → Ω'.o b = .frg ∧ Ω.lim b ≤ Ω'.lim b ∧ ∀ off, off < Ω.lim b → w'.cell? ⟨b, off, none⟩ = w.cell? ⟨b, off, none⟩
theorem ExtP.frozp {Ω Ω' : Own} {w w' : World} (h : ExtP Ω Ω' w w') {b : Nat} (hb : Ω.frozp b) : Ω'.frozp b := by
  rcases hb with hb | hb
  · exact .inl (h.froz b hb)
  · exact h.frzb b hb
theorem Ext.toP {Ω Ω' : Own} {w w' : World} (h : Ext Ω Ω' w w') : ExtP Ω Ω' w w' :=
  ⟨h.froz, h.frzb, fun b hb => h.lim b (Own.frozp_ne hb), fun b off hb => h.cell b off (Own.frozp_ne hb), fun b hb => ⟨h.frg b hb, h.lim b (by rw [hb]; simp), fun off => h.cell b off (by rw [hb]; simp)⟩⟩

mutual
theorem Den.extP {Ω Ω' : Own} {w w' : World} (h : ExtP Ω Ω' w w') : ∀ (v : V) (x : Value), v.pure = true → Den Ω w v x → Den Ω' w' v x
  | .und, _, hp, _ => by simp [V.pure] at hp
  | .dead, _, _, _ => trivial
  | .bool _, _, _, hd => hd
  | .int _ _, _, _, hd => hd
  | .agg cs, x, hp, hd => by
    simp only [Den] at hd ⊢
    obtain ⟨xs, h1, h2⟩ := hd
    exact ⟨xs, h1, DenL.extP h cs xs (by simpa [V.pure] using hp) h2⟩
  | .tup cs, x, hp, hd => by simp [V.pure] at hp
  | .nil, _, _, hd => hd
  | .sl none sz es, x, _, hd => by
    simp only [Den] at hd ⊢
    rcases hd with hd | ⟨b, off, cap, h1, h2, h3⟩
    · exact .inl hd
    · exact .inr ⟨b, off, cap, h1, h.froz b h2, DenE.extP h es sz b off (h.lim b (.inl h2)) (fun o => h.cell b o (.inl h2)) h3⟩
  | .sl (some t) sz es, x, hp, hd => by simp [V.pure] at hp
  | .fn (.f n) cs, x, hp, hd => by
    simp only [Den] at hd ⊢
    obtain ⟨xs, hg, h2⟩ := hd
    exact ⟨xs, hg, DenL.extP h cs xs (by simpa [V.pure] using hp) h2⟩
  | .fn (.m n) cs, x, hp, hd => by
    simp only [Den] at hd ⊢
    obtain ⟨xs, hg, h2⟩ := hd
    exact ⟨xs, hg, DenL.extP h cs xs (by simpa [V.pure] using hp) h2⟩
  | .fn (.y _) cs, x, hp, hd => by simp [V.pure] at hp
  | .ref s off, x, hp, hd => by simp [V.pure] at hp
  | .cref cs, x, _, hd => by
    simp only [Den] at hd ⊢
    obtain ⟨b, off, h1, h2, h3⟩ := hd
    exact ⟨b, off, h1, h.frozp h2, DenC.extP h cs b off (h.lim b h2) (fun o => h.cell b o h2) h3⟩
  | .gref cs, x, _, hd => by
    simp only [Den] at hd ⊢
    obtain ⟨b, off, h1, h2, h4, h3⟩ := hd
    exact ⟨b, off, h1, h.froz b h2, h4, DenC.extP h cs b off (h.lim b (.inl h2)) (fun o => h.cell b o (.inl h2)) h3⟩
  | .np, _, _, hd => hd
  | .bag sz es, _, _, hd => by
    simp only [Den] at hd ⊢
    exact hd.mono h.frg
  | .eref t n i off cs, x, hp, hd => by simp [V.pure] at hp
  | .box _, _, hp, hd => by simp [V.pure] at hp
  | .mbox _, _, hp, hd => by simp [V.pure] at hp
  | .mref _, _, hp, hd => by simp [V.pure] at hp
theorem DenL.extP {Ω Ω' : Own} {w w' : World} (h : ExtP Ω Ω' w w') : ∀ (vs : List V) (xs : List Value), pureL vs = true → DenL Ω w vs xs → DenL Ω' w' vs xs
  | [], _, _, hd => hd
  | v :: vs, xs, hp, hd => by
    simp only [DenL] at hd ⊢
    simp only [pureL] at hp
    split at hp
    · rename_i hv
      obtain ⟨x, ys, h1, h2, h3⟩ := hd
      exact ⟨x, ys, h1, Den.extP h v x hv h2, DenL.extP h vs ys hp h3⟩
    · cases hp
theorem DenC.extP {Ω Ω' : Own} {w w' : World} (h : ExtP Ω Ω' w w') : ∀ (vs : List V) (b off : Nat), Ω.lim b ≤ Ω'.lim b → (∀ o, o < Ω.lim b → w'.cell? ⟨b, o, none⟩ = w.cell? ⟨b, o, none⟩) → DenC Ω w vs b off → DenC Ω' w' vs b off
  | [], _, _, _, _, _ => trivial
  | v :: vs, b, off, hb, hc, hd => by
    simp only [DenC] at hd ⊢
    obtain ⟨⟨x, h1, h2, h3, h4, h5⟩, h6⟩ := hd
    exact ⟨⟨x, Nat.lt_of_lt_of_le h1 hb, (hc off h1).trans h2, h3, h4, Den.extP h v x h3 h5⟩, DenC.extP h vs b (off + 1) hb hc h6⟩
theorem DenE.extP {Ω Ω' : Own} {w w' : World} (h : ExtP Ω Ω' w w') : ∀ (es : List (List V)) (sz b off : Nat), Ω.lim b ≤ Ω'.lim b → (∀ o, o < Ω.lim b → w'.cell? ⟨b, o, none⟩ = w.cell? ⟨b, o, none⟩) → DenE Ω w es sz b off → DenE Ω' w' es sz b off
  | [], _, _, _, _, _, _ => trivial
  | cs :: es, sz, b, off, hb, hc, hd => by
    simp only [DenE] at hd ⊢
    exact ⟨hd.1, hd.2.1, DenC.extP h cs b off hb hc hd.2.2.1, DenE.extP h es sz b (off + sz) hb hc hd.2.2.2⟩
end

/-! ### What lies in arrays -/
structure ExtM (Ω Ω' : Own) (w w' : World) : Prop where
  froz : ∀ b, Ω.froz b → Ω'.froz b
  lim : ∀ b, Ω.froz b → Ω.lim b ≤ Ω'.lim b
  cell : ∀ b off, Ω.froz b → off < Ω.lim b → w'.cell? ⟨b, off, none⟩ = w.cell? ⟨b, off, none⟩
mutual
theorem Den.extM {Ω Ω' : Own} {w w' : World} (h : ExtM Ω Ω' w w') : ∀ (v : V) (x : Value), v.pm = true → Den Ω w v x → Den Ω' w' v x
  | .und, _, hp, _ => by simp [V.pm] at hp
  | .dead, _, _, _ => trivial
  | .bool _, _, _, hd => hd
  | .int _ _, _, _, hd => hd
  | .agg cs, x, hp, hd => by simp [V.pm] at hp
  | .tup cs, x, hp, hd => by simp [V.pm] at hp
  | .nil, _, _, hd => hd
  | .sl none sz es, x, _, hd => by
    simp only [Den] at hd ⊢
    rcases hd with hd | ⟨b, off, cap, h1, h2, h3⟩
    · exact .inl hd
    · exact .inr ⟨b, off, cap, h1, h.froz b h2, DenE.extM h es sz b off (h.lim b h2) (fun o => h.cell b o h2) h3⟩
  | .sl (some t) sz es, x, hp, hd => by simp [V.pm] at hp
  | .fn f cs, x, hp, hd => by
    cases f with
    | y a => simp [V.pm] at hp
    | m a => simp [V.pm] at hp
    | f n => cases cs with
      | nil => simp only [Den, DenL] at hd ⊢; exact hd
      | cons c cs => simp [V.pm] at hp
  | .ref s off, x, hp, hd => by simp [V.pm] at hp
  | .cref cs, x, hp, hd => by simp [V.pm] at hp
  | .gref cs, x, _, hd => by
    simp only [Den] at hd ⊢
    obtain ⟨b, off, h1, h2, h4, h3⟩ := hd
    exact ⟨b, off, h1, h.froz b h2, h4, DenC.extM h cs b off (h.lim b h2) (fun o => h.cell b o h2) h4 h3⟩
  | .np, _, _, hd => hd
  | .bag _ _, _, hp, _ => by simp [V.pm] at hp
  | .eref t n i off cs, x, hp, hd => by simp [V.pm] at hp
  | .box _, _, hp, hd => by simp [V.pm] at hp
  | .mbox _, _, hp, hd => by simp [V.pm] at hp
  | .mref _, _, hp, hd => by simp [V.pm] at hp
theorem DenC.extM {Ω Ω' : Own} {w w' : World} (h : ExtM Ω Ω' w w') : ∀ (vs : List V) (b off : Nat), Ω.lim b ≤ Ω'.lim b → (∀ o, o < Ω.lim b → w'.cell? ⟨b, o, none⟩ = w.cell? ⟨b, o, none⟩) → vs.all V.pm = true → DenC Ω w vs b off → DenC Ω' w' vs b off
  | [], _, _, _, _, _, _ => trivial
  | v :: vs, b, off, hb, hc, hp, hd => by
    simp only [DenC] at hd ⊢
    simp only [List.all_cons, Bool.and_eq_true] at hp
    obtain ⟨⟨x, h1, h2, h3, h4, h5⟩, h6⟩ := hd
    exact ⟨⟨x, Nat.lt_of_lt_of_le h1 hb, (hc off h1).trans h2, h3, h4, Den.extM h v x hp.1 h5⟩, DenC.extM h vs b (off + 1) hb hc hp.2 h6⟩
theorem DenE.extM {Ω Ω' : Own} {w w' : World} (h : ExtM Ω Ω' w w') : ∀ (es : List (List V)) (sz b off : Nat), Ω.lim b ≤ Ω'.lim b → (∀ o, o < Ω.lim b → w'.cell? ⟨b, o, none⟩ = w.cell? ⟨b, o, none⟩) → DenE Ω w es sz b off → DenE Ω' w' es sz b off
  | [], _, _, _, _, _, _ => trivial
  | cs :: es, sz, b, off, hb, hc, hd => by
    simp only [DenE] at hd ⊢
    exact ⟨hd.1, hd.2.1, DenC.extM h cs b off hb hc hd.2.1 hd.2.2.1, DenE.extM h es sz b (off + sz) hb hc hd.2.2.2⟩
end
theorem DenL.extMa {Ω Ω' : Own} {w w' : World} (h : ExtM Ω Ω' w w') : ∀ (vs : List V) (xs : List Value), vs.all V.pm = true → DenL Ω w vs xs → DenL Ω' w' vs xs
  | [], _, _, hd => hd
  | v :: vs, xs, hp, hd => by
    simp only [DenL] at hd ⊢
    simp only [List.all_cons, Bool.and_eq_true] at hp
    obtain ⟨x, ys, h1, h2, h3⟩ := hd
    exact ⟨x, ys, h1, Den.extM h v x hp.1 h2, DenL.extMa h vs ys hp.2 h3⟩
/-- Numbers and truth values say the same everywhere. -/
theorem DenC.flat {Ω Ω' : Own} {w w' : World} : ∀ (vs : List V) (b off : Nat), Ω.lim b ≤ Ω'.lim b → (∀ o, o < Ω.lim b → w'.cell? ⟨b, o, none⟩ = w.cell? ⟨b, o, none⟩) → vs.all V.flat = true → DenC Ω w vs b off → DenC Ω' w' vs b off
  | [], _, _, _, _, _, _ => trivial
  | v :: vs, b, off, hb, hc, hp, hd => by
    simp only [DenC] at hd ⊢
    simp only [List.all_cons, Bool.and_eq_true] at hp
    obtain ⟨⟨x, h1, h2, h3, h4, h5⟩, h6⟩ := hd
    refine ⟨⟨x, Nat.lt_of_lt_of_le h1 hb, (hc off h1).trans h2, h3, h4, ?_⟩, DenC.flat vs b (off + 1) hb hc hp.2 h6⟩
    cases v <;> first | exact h5 | (simp [V.flat] at hp)
theorem DenE.flat {Ω Ω' : Own} {w w' : World} : ∀ (es : List (List V)) (sz b off : Nat), Ω.lim b ≤ Ω'.lim b → (∀ o, o < Ω.lim b → w'.cell? ⟨b, o, none⟩ = w.cell? ⟨b, o, none⟩) → flatE es = true → DenE Ω w es sz b off → DenE Ω' w' es sz b off
  | [], _, _, _, _, _, _, _ => trivial
  | cs :: es, sz, b, off, hb, hc, hp, hd => by
    simp only [DenE] at hd ⊢
    simp only [flatE, List.all_cons, Bool.and_eq_true] at hp
    exact ⟨hd.1, hd.2.1, DenC.flat cs b off hb hc hp.1 hd.2.2.1, DenE.flat es sz b (off + sz) hb hc hp.2 hd.2.2.2⟩

/-! ### Parts -/
section parts
variable {Ω : Own} {w : World}
theorem DenL.length : ∀ {vs : List V} {xs : List Value}, DenL Ω w vs xs → xs.length = vs.length
  | [], xs, h => by simp only [DenL] at h; simp [h]
  | v :: vs, xs, h => by
    simp only [DenL] at h
    obtain ⟨x, ys, rfl, _, h3⟩ := h
    simp [DenL.length h3]
theorem DenL.get : ∀ {vs : List V} {xs : List Value}, DenL Ω w vs xs → ∀ {i : Nat} {v : V}, vs[i]? = some v → ∃ x, xs[i]? = some x ∧ Den Ω w v x
  | [], _, _, i, v, hi => by simp at hi
  | u :: vs, xs, h, i, v, hi => by
    simp only [DenL] at h
    obtain ⟨x, ys, rfl, h2, h3⟩ := h
    cases i with
    | zero => simp at hi; subst hi; exact ⟨x, rfl, h2⟩
    | succ i => simp at hi ⊢; exact DenL.get h3 hi
theorem DenL.append : ∀ {vs us : List V} {xs ys : List Value}, DenL Ω w vs xs → DenL Ω w us ys → DenL Ω w (vs ++ us) (xs ++ ys)
  | [], us, xs, ys, h, h' => by simp only [DenL] at h; subst h; simpa using h'
  | v :: vs, us, xs, ys, h, h' => by
    simp only [DenL] at h
    obtain ⟨x, zs, rfl, h2, h3⟩ := h
    simp only [List.cons_append, DenL]
    exact ⟨x, zs ++ ys, rfl, h2, DenL.append h3 h'⟩
theorem DenL.drop : ∀ {vs : List V} {xs : List Value}, DenL Ω w vs xs → ∀ n, DenL Ω w (vs.drop n) (xs.drop n)
  | [], xs, h, n => by simp only [DenL] at h; subst h; simp [DenL]
  | v :: vs, xs, h, n => by
    cases n with
    | zero => simpa using h
    | succ n =>
      simp only [DenL] at h
      obtain ⟨x, ys, rfl, _, h3⟩ := h
      simpa using DenL.drop h3 n
theorem DenL.take : ∀ {vs : List V} {xs : List Value}, DenL Ω w vs xs → ∀ n, DenL Ω w (vs.take n) (xs.take n)
  | [], xs, h, n => by simp only [DenL] at h; subst h; simp [DenL]
  | v :: vs, xs, h, n => by
    cases n with
    | zero => simp [DenL]
    | succ n =>
      simp only [DenL] at h
      obtain ⟨x, ys, rfl, h2, h3⟩ := h
      simp only [List.take_succ_cons, DenL]
      exact ⟨x, _, rfl, h2, DenL.take h3 n⟩
theorem DenL.cons {v : V} {vs : List V} {x : Value} {xs : List Value} (h : Den Ω w v x) (h' : DenL Ω w vs xs) : DenL Ω w (v :: vs) (x :: xs) := by
  simp only [DenL]; exact ⟨x, xs, rfl, h, h'⟩
theorem DenL.nil : DenL Ω w [] [] := by simp [DenL]
theorem DenC.get : ∀ {vs : List V} {b off : Nat}, DenC Ω w vs b off → ∀ {i : Nat} {v : V}, vs[i]? = some v → ∃ x, off + i < Ω.lim b ∧ w.cell? ⟨b, off + i, none⟩ = some x ∧ v.pure = true ∧ v.cellOk = true ∧ Den Ω w v x
  | [], _, _, _, i, v, hi => by simp at hi
  | u :: vs, b, off, h, i, v, hi => by
    simp only [DenC] at h
    cases i with
    | zero => simp at hi; subst hi; exact h.1
    | succ i =>
      simp at hi
      obtain ⟨x, h1⟩ := DenC.get h.2 hi
      refine ⟨x, ?_⟩
      rw [show off + (i + 1) = off + 1 + i by omega]
      exact h1
theorem DenC.drop : ∀ {vs : List V} {b off : Nat}, DenC Ω w vs b off → ∀ n, DenC Ω w (vs.drop n) b (off + n)
  | [], b, off, h, n => by simp [DenC]
  | v :: vs, b, off, h, n => by
    cases n with
    | zero => simpa using h
    | succ n =>
      simp only [DenC] at h
      have := DenC.drop h.2 n
      simpa [Nat.add_assoc, Nat.add_comm 1 n] using this
theorem DenC.take : ∀ {vs : List V} {b off : Nat}, DenC Ω w vs b off → ∀ n, DenC Ω w (vs.take n) b off
  | [], b, off, h, n => by simp [DenC]
  | v :: vs, b, off, h, n => by
    cases n with
    | zero => simp [DenC]
    | succ n =>
      simp only [DenC, List.take_succ_cons] at h ⊢
      exact ⟨h.1, DenC.take h.2 n⟩
theorem DenE.get : ∀ {es : List (List V)} {sz b off : Nat}, DenE Ω w es sz b off → ∀ {i : Nat} {cs : List V}, es[i]? = some cs → cs.length = sz ∧ cs.all V.pm = true ∧ DenC Ω w cs b (off + i * sz)
  | [], _, _, _, _, i, v, hi => by simp at hi
  | u :: es, sz, b, off, h, i, cs, hi => by
    simp only [DenE] at h
    cases i with
    | zero => simp only [List.getElem?_cons_zero, Option.some.injEq] at hi; subst hi; rw [Nat.zero_mul]; exact ⟨h.1, h.2.1, h.2.2.1⟩
    | succ i =>
      simp at hi
      have := DenE.get h.2.2.2 hi
      rw [show off + (i + 1) * sz = off + sz + i * sz by rw [Nat.add_mul]; omega]
      exact this
theorem DenE.drop : ∀ {es : List (List V)} {sz b off : Nat}, DenE Ω w es sz b off → ∀ n, DenE Ω w (es.drop n) sz b (off + n * sz)
  | [], sz, b, off, h, n => by simp [DenE]
  | cs :: es, sz, b, off, h, n => by
    cases n with
    | zero => simpa using h
    | succ n =>
      simp only [DenE] at h
      have := DenE.drop h.2.2.2 n
      rw [show off + (n + 1) * sz = off + sz + n * sz by rw [Nat.add_mul]; omega]
      simpa using this
theorem DenE.take : ∀ {es : List (List V)} {sz b off : Nat}, DenE Ω w es sz b off → ∀ n, DenE Ω w (es.take n) sz b off
  | [], sz, b, off, h, n => by simp [DenE]
  | cs :: es, sz, b, off, h, n => by
    cases n with
    | zero => simp [DenE]
    | succ n =>
      simp only [DenE, List.take_succ_cons] at h ⊢
      exact ⟨h.1, h.2.1, h.2.2.1, DenE.take h.2.2.2 n⟩
theorem DenE.append : ∀ {es fs : List (List V)} {sz b off : Nat}, DenE Ω w es sz b off → DenE Ω w fs sz b (off + es.length * sz) → DenE Ω w (es ++ fs) sz b off
  | [], fs, sz, b, off, h, h' => by simpa using h'
  | cs :: es, fs, sz, b, off, h, h' => by
    simp only [DenE, List.cons_append] at h ⊢
    refine ⟨h.1, h.2.1, h.2.2.1, DenE.append h.2.2.2 ?_⟩
    rw [show off + sz + es.length * sz = off + (cs :: es).length * sz by simp [Nat.add_mul]; omega]
    exact h'
/-- The cells of a row of elements, one behind the other. -/
theorem DenE.cells : ∀ {es : List (List V)} {sz b off : Nat}, DenE Ω w es sz b off → DenC Ω w es.flatten b off
  | [], sz, b, off, h => by simp [DenC]
  | cs :: es, sz, b, off, h => by
    simp only [DenE] at h
    simp only [List.flatten_cons]
    have h2 := DenE.cells h.2.2.2
    have key : ∀ (cs : List V) (off : Nat) (us : List V), DenC Ω w cs b off → DenC Ω w us b (off + cs.length) → DenC Ω w (cs ++ us) b off := by
      intro cs
      induction cs with
      | nil => intro off us _ h'; simpa using h'
      | cons c cs ih =>
        intro off us h h'
        simp only [DenC, List.cons_append] at h ⊢
        exact ⟨h.1, ih (off + 1) us h.2 (by simpa [Nat.add_assoc, Nat.add_comm 1] using h')⟩
    exact key cs off _ h.2.2.1 (by rw [h.1]; exact h2)
theorem DenE.length_flatten : ∀ {es : List (List V)} {sz b off : Nat}, DenE Ω w es sz b off → es.flatten.length = es.length * sz
  | [], sz, b, off, h => by simp
  | cs :: es, sz, b, off, h => by
    simp only [DenE] at h
    simp [DenE.length_flatten h.2.2.2, h.1, Nat.add_mul]; omega
/-- Cells in memory are the values that are loaded. -/
theorem DenC.vals : ∀ {vs : List V} {b off : Nat}, DenC Ω w vs b off → ∃ xs : List Value, DenL Ω w vs xs ∧ ∀ j x, xs[j]? = some x → w.cell? ⟨b, off + j, none⟩ = some x
  | [], _, _, _ => ⟨[], DenL.nil, by simp⟩
  | v :: vs, b, off, h => by
    simp only [DenC] at h
    obtain ⟨⟨x, _, h2, _, _, h5⟩, h6⟩ := h
    obtain ⟨xs, g1, g2⟩ := DenC.vals h6
    refine ⟨x :: xs, DenL.cons h5 g1, fun j y hj => ?_⟩
    cases j with
    | zero => simp at hj; subst hj; exact h2
    | succ j => simp at hj; rw [show off + (j + 1) = off + 1 + j by omega]; exact g2 j y hj
end parts

/-! ### Freezing for a call -/
def blkSize (w : World) (b : Nat) : Nat := match w.heap[b]? with
  | some (.cells c _ _) => c.size
  | _ => 0
def cOwn (Ω : Own) (w : World) : Own where
  o b := match Ω.o b with
    | .frz => .frz
    | .arr _ _ => .frz
    | .box _ => .frzb
    | .frzb => .frzb
    | .frg => .frg
    | .out => .out
  lim b := match Ω.o b with
    | .box _ => blkSize w b
    | _ => Ω.lim b
  cur _ := none
  tsz _ := 0
theorem cOwn_froz {Ω : Own} {w : World} {b : Nat} (h : Ω.froz b) : (cOwn Ω w).froz b := by
  rcases h with h | ⟨t, h⟩ <;> exact .inl (by simp [cOwn, h])
theorem cOwn_arr {Ω : Own} {w : World} {b t : Nat} {p : Bool} (h : Ω.o b = .arr t p) : (cOwn Ω w).froz b := .inl (by simp [cOwn, h])
theorem cOwn_lim {Ω : Own} {w : World} {b : Nat} (h : ∀ s, Ω.o b ≠ .box s) : (cOwn Ω w).lim b = Ω.lim b := by
  cases hb : Ω.o b <;> simp only [cOwn, hb]
  exact absurd hb (h _)
theorem cOwn_extP (Ω : Own) (w : World) : ExtP Ω (cOwn Ω w) w w where
  froz _ h := cOwn_froz h
  frzb b h := .inr (by simp [cOwn, h])
  lim b h := Nat.le_of_eq (cOwn_lim (fun s hs => by
    rcases h with (h | ⟨t, h⟩) | h <;> rw [hs] at h <;> cases h)).symm
  cell _ _ _ _ := rfl
  frg b h := ⟨by simp [cOwn, h], Nat.le_of_eq (cOwn_lim (fun s hs => by rw [hs] at h; cases h)).symm, fun _ _ => rfl⟩

theorem pureL_drop : ∀ (vs : List V) (n : Nat), pureL vs = true → pureL (vs.drop n) = true
  | [], n, _ => by simp [pureL]
  | v :: vs, 0, h => by simpa using h
  | v :: vs, n + 1, h => by
    simp only [pureL] at h
    split at h
    · simpa using pureL_drop vs n h
    · cases h

/-- What a reader of boxes says is so. -/
def RdOk (Ω : Own) (w : World) (rd : Nat → Option (List V)) : Prop :=
  ∀ s cs b, rd s = some cs → Ω.o b = .box s → DenC (cOwn Ω w) w cs b 0
mutual
theorem Den.frz {Ω : Own} {w : World} {rd : Nat → Option (List V)} (hrd : RdOk Ω w rd) : ∀ (v v' : V) (x : Value), v.frz rd = some v' → Den Ω w v x → Den (cOwn Ω w) w v' x ∧ v'.pure = true ∧ (v.cellOk = true → v'.cellOk = true)
  | .und, v', x, hf, hd => by simp [V.frz] at hf
  | .dead, v', x, hf, hd => by simp [V.frz] at hf
  | .bool _, v', x, hf, hd => by simp only [V.frz] at hf; injection hf with hf; subst hf; exact ⟨hd, rfl, fun _ => rfl⟩
  | .int _ _, v', x, hf, hd => by simp only [V.frz] at hf; injection hf with hf; subst hf; exact ⟨hd, rfl, fun _ => rfl⟩
  | .agg cs, v', x, hf, hd => by
    simp only [V.frz] at hf
    split at hf
    · rename_i cs' hcs
      injection hf with hf; subst hf
      simp only [Den] at hd ⊢
      obtain ⟨xs, h1, h2⟩ := hd
      obtain ⟨g1, g2⟩ := DenL.frz hrd cs cs' xs hcs h2
      exact ⟨⟨xs, h1, g1⟩, by simpa [V.pure] using g2, fun h => by simp [V.cellOk] at h⟩
    · cases hf
  | .tup cs, v', x, hf, hd => by simp [V.frz] at hf
  | .nil, v', x, hf, hd => by simp only [V.frz] at hf; injection hf with hf; subst hf; exact ⟨hd, rfl, fun _ => rfl⟩
  | .sl none sz es, v', x, hf, hd => by
    simp only [V.frz] at hf; injection hf with hf; subst hf
    exact ⟨Den.extP (cOwn_extP Ω w) _ _ rfl hd, rfl, fun _ => rfl⟩
  | .sl (some t) sz es, v', x, hf, hd => by
    simp only [V.frz] at hf; injection hf with hf; subst hf
    refine ⟨?_, rfl, fun _ => rfl⟩
    simp only [Den] at hd ⊢
    obtain ⟨b, cap, p, h1, h2, h3, _, h5⟩ := hd
    exact .inr ⟨b, 0, cap, h1, cOwn_arr h2, DenE.extP (cOwn_extP Ω w) es sz b 0 (Nat.le_of_eq (cOwn_lim (by intro s hs; rw [h2] at hs; cases hs)).symm) (fun _ _ => rfl) h5⟩
  | .fn (.f n) cs, v', x, hf, hd => by
    simp only [V.frz] at hf
    split at hf
    · rename_i cs' hcs
      injection hf with hf; subst hf
      simp only [Den] at hd ⊢
      obtain ⟨xs, hg, h2⟩ := hd
      obtain ⟨g1, g2⟩ := DenL.frz hrd cs cs' xs hcs h2
      exact ⟨⟨xs, hg, g1⟩, by simpa [V.pure] using g2, fun _ => rfl⟩
    · cases hf
  | .fn (.m n) cs, v', x, hf, hd => by
    simp only [V.frz] at hf
    split at hf
    · rename_i cs' hcs
      injection hf with hf; subst hf
      simp only [Den] at hd ⊢
      obtain ⟨xs, hg, h2⟩ := hd
      obtain ⟨g1, g2⟩ := DenL.frz hrd cs cs' xs hcs h2
      exact ⟨⟨xs, hg, g1⟩, by simpa [V.pure] using g2, fun _ => rfl⟩
    · cases hf
  | .fn (.y _) cs, v', x, hf, hd => by simp [V.frz] at hf
  | .ref s off, v', x, hf, hd => by
    simp only [V.frz] at hf
    split at hf
    · rename_i cs hcs
      injection hf with hf; subst hf
      simp only [Den] at hd ⊢
      obtain ⟨b, h1, h2⟩ := hd
      have h3 := hrd s cs b hcs h2
      exact ⟨⟨b, off, h1, .inr (by simp [cOwn, h2]), by simpa using h3.drop off⟩, rfl, fun _ => rfl⟩
    · cases hf
  | .cref cs, v', x, hf, hd => by
    simp only [V.frz] at hf; injection hf with hf; subst hf
    exact ⟨Den.extP (cOwn_extP Ω w) _ _ rfl hd, rfl, fun _ => rfl⟩
  | .gref cs, v', x, hf, hd => by
    simp only [V.frz] at hf; injection hf with hf; subst hf
    exact ⟨Den.extP (cOwn_extP Ω w) _ _ rfl hd, rfl, fun _ => rfl⟩
  | .bag sz es, v', x, hf, hd => by
    simp only [V.frz] at hf; injection hf with hf; subst hf
    exact ⟨Den.extP (cOwn_extP Ω w) _ _ rfl hd, rfl, fun _ => rfl⟩
  | .np, v', x, hf, hd => by
    simp only [V.frz] at hf; injection hf with hf; subst hf
    exact ⟨hd, rfl, fun _ => rfl⟩
  | .eref t n i off cs, v', x, hf, hd => by simp [V.frz] at hf
  | .box _, v', x, hf, hd => by simp [V.frz] at hf
  | .mbox _, v', x, hf, hd => by simp [V.frz] at hf
  | .mref _, v', x, hf, hd => by simp [V.frz] at hf
theorem DenL.frz {Ω : Own} {w : World} {rd : Nat → Option (List V)} (hrd : RdOk Ω w rd) : ∀ (vs vs' : List V) (xs : List Value), frzL rd vs = some vs' → DenL Ω w vs xs → DenL (cOwn Ω w) w vs' xs ∧ pureL vs' = true
  | [], vs', xs, hf, hd => by
    simp only [frzL] at hf; injection hf with hf; subst hf
    simp only [DenL] at hd ⊢
    exact ⟨hd, rfl⟩
  | v :: vs, vs', xs, hf, hd => by
    simp only [frzL] at hf
    split at hf
    · rename_i v' us hv hus
      injection hf with hf; subst hf
      simp only [DenL] at hd
      obtain ⟨x, ys, rfl, h2, h3⟩ := hd
      obtain ⟨g1, g2, _⟩ := Den.frz hrd v v' x hv h2
      obtain ⟨k1, k2⟩ := DenL.frz hrd vs us ys hus h3
      exact ⟨DenL.cons g1 k1, by simp [pureL, g2, k2]⟩
    · cases hf
end
end Go.Lo

/- The invariant between a logical state and a real frame and world, and the effects that keep it. -/
namespace Go.Lo

/-- Nothing that was there has turned, but for blocks of X. -/
structure Kept (X : Nat → Prop) (w0 w : World) : Prop where
  os : w.os = w0.os
  tape : w.tape = w0.tape
  output : w.output = w0.output
  size : w0.heap.size ≤ w.heap.size
  block : ∀ b, b < w0.heap.size → ¬ X b → w.heap[b]? = w0.heap[b]?
theorem Kept.refl (X : Nat → Prop) (w : World) : Kept X w w := ⟨rfl, rfl, rfl, Nat.le_refl _, fun _ _ _ => rfl⟩
theorem Kept.trans {X : Nat → Prop} {a b c : World} (h : Kept X a b) (k : Kept X b c) : Kept X a c :=
  ⟨k.os.trans h.os, k.tape.trans h.tape, k.output.trans h.output, Nat.le_trans h.size k.size, fun i hi hx => (k.block i (Nat.lt_of_lt_of_le hi h.size) hx).trans (h.block i hi hx)⟩
theorem Kept.mono {X Y : Nat → Prop} {a b : World} (h : Kept X a b) (hs : ∀ i, i < a.heap.size → X i → Y i) : Kept Y a b :=
  ⟨h.os, h.tape, h.output, h.size, fun i hi hx => h.block i hi (fun hX => hx (hs i hi hX))⟩

/-- The blocks that a frame may turn. -/
def Own.mine (Ω : Own) (b : Nat) : Prop := (∃ s, Ω.o b = .box s) ∨ ∃ t p, Ω.o b = .arr t p
/-- A step that turns nothing but one's own blocks. -/
structure Stp0 (Ω Ω' : Own) (w w' : World) : Prop where
  os : w'.os = w.os
  tape : w'.tape = w.tape
  output : w'.output = w.output
  size : w.heap.size ≤ w'.heap.size
  block : ∀ b, b < w.heap.size → ¬ Ω.mine b → w'.heap[b]? = w.heap[b]?
  same : ∀ b, b < w.heap.size → ¬ Ω.mine b → Ω'.o b = Ω.o b ∧ Ω'.lim b = Ω.lim b
/-- And what is frozen stays. -/
structure Stp (Ω Ω' : Own) (w w' : World) : Prop where
  s : Stp0 Ω Ω' w w'
  m : ExtM Ω Ω' w w'
  bnd : ∀ b, Ω'.o b ≠ .out → b < w'.heap.size
  yl : Ω'.yl = Ω.yl
  bnd0 : ∀ b, Ω.o b ≠ .out → b < w.heap.size
/-- Where a walk is at work (and what it must leave as it is, while it goes on: j): the blocks that were there and may be turned, and who owned the others. -/
structure Sc where
  x : Nat → Prop
  o : Nat → OwnK
  lim : Nat → Nat
  j : Option (List (List V)) → Own → World → Prop
  st : ∀ {tr : Option (List (List V))} {Ω Ω' : Own} {w w' : World}, j tr Ω w → Stp Ω Ω' w w' → j tr Ω' w'
/-- The content of a map: every entry is known, and every known key is there. -/
def MapD (Ω : Own) (w : World) (cs : List V) (es : Array MapEntry) : Prop :=
  (∀ e ∈ es.toList, ∃ n v, e.key = .int .i64 n ∧ (Lit.int .i64 n).wf = true ∧ lookM cs n = some v ∧ Den Ω w v e.val) ∧ (∀ n v, lookM cs n = some v → ∃ e ∈ es.toList, e.key = .int .i64 n) ∧ (es.toList.map (·.key)).Nodup
theorem MapD.mp {Ω Ω' : Own} {w w' : World} {cs cs' : List V} {es : Array MapEntry} (h : MapD Ω w cs es) (f : V → V) (hl : ∀ n, lookM cs' n = (lookM cs n).map f) (hd : ∀ v x, Den Ω w v x → Den Ω' w' (f v) x) : MapD Ω' w' cs' es := by
  refine ⟨fun e he => ?_, fun n v hv => ?_, h.2.2⟩
  · obtain ⟨n, v, h1, h2, h3, h4⟩ := h.1 e he
    exact ⟨n, f v, h1, h2, by rw [hl, h3]; rfl, hd _ _ h4⟩
  · rw [hl] at hv
    obtain ⟨u, hu, _⟩ := Option.map_eq_some_iff.1 hv
    exact h.2.1 n u hu
theorem lookM_one (c : V) (n : Int) : lookM [c] n = none := by cases c <;> rfl
theorem lookM_non {c v : V} {cs : List V} {n : Int} (h : ∀ q k, c ≠ .int q k) : lookM (c :: v :: cs) n = none := by
  cases c <;> first
    | rfl
    | exact absurd rfl (h _ _)
theorem lookM_map (f : V → V) (hi : ∀ q k, f (.int q k) = .int q k) (hn : ∀ v, (∀ q k, v ≠ .int q k) → ∀ q k, f v ≠ .int q k) : ∀ (cs : List V) (n : Int), lookM (cs.map f) n = (lookM cs n).map f
  | [], _ => rfl
  | [c], n => by rw [List.map_cons, List.map_nil, lookM_one, lookM_one]; rfl
  | c :: v :: cs, n => by
    by_cases hc : ∃ q k, c = .int q k
    · obtain ⟨q, k, rfl⟩ := hc
      simp only [List.map_cons, hi, lookM]
      split
      · rfl
      · exact lookM_map f hi hn cs n
    · have h1 : ∀ q k, c ≠ .int q k := fun q k e => hc ⟨q, k, e⟩
      rw [List.map_cons, List.map_cons, lookM_non (hn c h1), lookM_non h1]; rfl
theorem lookM_set : ∀ (cs : List V) (n : Int) (x : V) (m : Int), lookM (setM cs n x) m = if n = m then some x else lookM cs m
  | [], n, x, m => by simp only [setM, lookM]
  | [c], n, x, m => by
    have : setM [c] n x = [.int .i64 n, x] := by cases c <;> rfl
    rw [this, lookM_one]; simp only [lookM]
  | c :: v :: cs, n, x, m => by
    by_cases hc : ∃ q k, c = .int q k
    · obtain ⟨q, k, rfl⟩ := hc
      simp only [setM]
      by_cases h1 : k = n
      · subst h1
        simp only [if_true, lookM]
        by_cases h2 : k = m <;> simp [h2]
      · simp only [if_neg h1, lookM]
        by_cases h2 : k = m
        · subst h2; simp [Ne.symm h1]
        · simp only [if_neg h2]; exact lookM_set cs n x m
    · have h1 : ∀ q k, c ≠ .int q k := fun q k e => hc ⟨q, k, e⟩
      have : setM (c :: v :: cs) n x = [.int .i64 n, x] := by
        cases c <;> first
          | rfl
          | exact absurd rfl (h1 _ _)
      rw [this, lookM_non h1]; simp only [lookM]
def DenS (Ω : Own) (w : World) (s : Nat) : V → Value → Prop
  | .box cs, x => ∃ b xs T, x = .pointer (some ⟨b, 0, none⟩) ∧ Ω.o b = .box s ∧ w.heap[b]? = some (.cells (List.toArray xs) T (0, 0)) ∧ DenL Ω w cs xs ∧ ∀ v ∈ cs, v.cellOk = true ∨ v = .dead
  | .mbox cs, x => ∃ b es clk, x = .map (some b) ∧ Ω.o b = .box s ∧ w.heap[b]? = some (.map es clk) ∧ MapD Ω w cs es
  | .mref t, x => Den Ω w (.mref t) x
  | .und, x => Den Ω w .und x
  | .dead, x => Den Ω w .dead x
  | .bool b, x => Den Ω w (.bool b) x
  | .int k n, x => Den Ω w (.int k n) x
  | .agg cs, x => Den Ω w (.agg cs) x
  | .tup cs, x => Den Ω w (.tup cs) x
  | .nil, x => Den Ω w .nil x
  | .sl t sz es, x => Den Ω w (.sl t sz es) x
  | .fn f cs, x => Den Ω w (.fn f cs) x
  | .ref t o, x => Den Ω w (.ref t o) x
  | .cref cs, x => Den Ω w (.cref cs) x
  | .gref cs, x => Den Ω w (.gref cs) x
  | .np, x => Den Ω w .np x
  | .bag sz es, x => Den Ω w (.bag sz es) x
  | .eref t n i o cs, x => Den Ω w (.eref t n i o cs) x
theorem DenS.of {Ω : Own} {w : World} {s : Nat} {v : V} {x : Value} (h : Den Ω w v x) : DenS Ω w s v x := by
  cases v <;> first | exact h | (simp only [Den] at h)

/-- Where an array lies now. -/
def TokOk (Ω : Own) (w : World) (t n : Nat) (wr : Bool) : Prop :=
  ∃ c k T xs, Ω.cur t = some (c, k, n) ∧ (∃ p, Ω.o c = .arr t p) ∧ w.heap[c]? = some (.cells xs T (0, 0)) ∧ xs.size = k * Ω.tsz t ∧ n ≤ k ∧
    Ω.lim c = n * Ω.tsz t ∧ 0 < Ω.tsz t ∧ (wr = true → ∀ b p, Ω.o b = .arr t p → p = false)

structure Inv (X : Sc) (w0 : World) (Ω : Own) (w : World) (tm : Array Value) (σ : St) : Prop where
  kept : Kept X.x w0 w
  ownB : ∀ b s, Ω.o b = .box s → w0.heap.size ≤ b ∨ X.x b
  ownA : ∀ b t p, Ω.o b = .arr t p → w0.heap.size ≤ b ∨ X.x b
  bnd : ∀ b, Ω.o b ≠ .out → b < w.heap.size
  uniq : ∀ b b' s, Ω.o b = .box s → Ω.o b' = .box s → b = b'
  limB : ∀ b s, Ω.o b = .box s → Ω.lim b = 0
  slot : ∀ s v, get σ.fr s = some v → s < tm.size ∧ DenS Ω w s v (tm.getD s undef)
  tok : ∀ t n wr, get σ.tk t = some (n, wr) → TokOk Ω w t n wr
  old : ∀ b, b < w0.heap.size → ¬ X.x b → Ω.o b = X.o b ∧ Ω.lim b = X.lim b
  out : X.j σ.tr Ω w

/-- Nothing is made yet in the slot d. -/
def Fresh (Ω : Own) (d : Nat) : Prop := (∀ b, Ω.o b ≠ .box d) ∧ ∀ b t p, t / 100 = d → Ω.o b ≠ .arr t p

section
variable {X : Sc} {w0 w w' : World} {Ω Ω' : Own} {tm : Array Value} {σ : St}

theorem getD_set_same {tm : Array Value} {d : Nat} {x : Value} (h : d < tm.size) : (tm.setIfInBounds d x).getD d undef = x := by
  simp [Array.getD, h]
theorem getD_set_other {tm : Array Value} {d s : Nat} {x : Value} (h : d ≠ s) : (tm.setIfInBounds d x).getD s undef = tm.getD s undef := by
  simp [Array.getD_eq_getD_getElem?, h]

theorem Inv.newNe (h : Inv X w0 Ω w tm σ) {b : Nat} (hb : b < w0.heap.size) : b ≠ w.heap.size := fun e => Nat.lt_irrefl _ (Nat.lt_of_lt_of_le (e ▸ hb) h.kept.size)
theorem Inv.oldBox (h : Inv X w0 Ω w tm σ) {b : Nat} (hb : b < w0.heap.size) (hX : ¬ X.x b) (s : Nat) : Ω.o b ≠ .box s := fun e => by
  rcases h.ownB b s e with k | k
  · exact Nat.lt_irrefl _ (Nat.lt_of_lt_of_le hb k)
  · exact hX k
theorem Inv.oldArr (h : Inv X w0 Ω w tm σ) {b : Nat} (hb : b < w0.heap.size) (hX : ¬ X.x b) (t : Nat) (p : Bool) : Ω.o b ≠ .arr t p := fun e => by
  rcases h.ownA b t p e with k | k
  · exact Nat.lt_irrefl _ (Nat.lt_of_lt_of_le hb k)
  · exact hX k
/-- A value into a slot. -/
theorem Inv.put (h : Inv X w0 Ω w tm σ) {d : Nat} {v : V} {x : Value} (hd : d < tm.size) (hv : DenS Ω w d v x) :
    Inv X w0 Ω w (tm.setIfInBounds d x) { σ with fr := put σ.fr d v } where
  kept := h.kept
  ownB := h.ownB
  ownA := h.ownA
  bnd := h.bnd
  uniq := h.uniq
  limB := h.limB
  slot s u hs := by
    rw [get_put] at hs
    split at hs
    · rename_i e; subst e; injection hs with hs; subst hs
      exact ⟨by simpa using hd, by rw [getD_set_same hd]; exact hv⟩
    · rename_i e
      obtain ⟨h1, h2⟩ := h.slot s u hs
      exact ⟨by simpa using h1, by rw [getD_set_other e]; exact h2⟩
  tok := h.tok
  old := h.old
  out := h.out
theorem Inv.putO (h : Inv X w0 Ω w tm σ) {dst : Option Nat} {v : V} {x : Value} (hd : ∀ d, dst = some d → d < tm.size) (hv : Den Ω w v x) (a : Act) (ha : a.tmps = tm) :
    Inv X w0 Ω w (a.put dst x).tmps { σ with fr := Lo.putO σ.fr dst v } := by
  cases dst with
  | none => simpa [Lo.putO, Act.put, ha] using h
  | some d =>
    simp only [Lo.putO, Act.put, ha]
    exact h.put (hd d rfl) (DenS.of hv)

/-- The world goes on. -/
theorem DenS.ext (h : Ext Ω Ω' w w') (hb : ∀ b s O, Ω.o b = .box s → w.heap[b]? = some O → w'.heap[b]? = some O) {s : Nat} {v : V} {x : Value} (hd : DenS Ω w s v x) : DenS Ω' w' s v x := by
  cases v <;> first
    | exact Den.ext h _ _ hd
    | (simp only [DenS] at hd ⊢
       obtain ⟨b, xs, T, h1, h2, h3, h4, h5⟩ := hd
       exact ⟨b, xs, T, h1, h.box b s h2, hb b s _ h2 h3, DenL.ext h _ _ h4, h5⟩)
    | (simp only [DenS] at hd ⊢
       obtain ⟨b, es, clk, h1, h2, h3, h4⟩ := hd
       exact ⟨b, es, clk, h1, h.box b s h2, hb b s _ h2 h3, h4.mp id (fun _ => by simp) fun v x hv => Den.ext h v x hv⟩)
structure Goes (X : Sc) (w0 : World) (Ω Ω' : Own) (w w' : World) : Prop where
  ext : Ext Ω Ω' w w'
  kept : Kept X.x w0 w'
  ownB : ∀ b s, Ω'.o b = .box s → w0.heap.size ≤ b ∨ X.x b
  ownA : ∀ b t p, Ω'.o b = .arr t p → w0.heap.size ≤ b ∨ X.x b
  bnd : ∀ b, Ω'.o b ≠ .out → b < w'.heap.size
  uniq : ∀ b b' s, Ω'.o b = .box s → Ω'.o b' = .box s → b = b'
  limB : ∀ b s, Ω'.o b = .box s → Ω'.lim b = 0
  old : ∀ b, b < w0.heap.size → ¬ X.x b → Ω'.o b = X.o b ∧ Ω'.lim b = X.lim b
  stp : Stp0 Ω Ω' w w'
  boxes : ∀ b s O, Ω.o b = .box s → w.heap[b]? = some O → w'.heap[b]? = some O
theorem Inv.goes (h : Inv X w0 Ω w tm σ) (g : Goes X w0 Ω Ω' w w') {tk' : List (Nat × Nat × Bool)} (ht : ∀ t n wr, get tk' t = some (n, wr) → TokOk Ω' w' t n wr) : Inv X w0 Ω' w' tm { σ with tk := tk' } where
  kept := g.kept
  ownB := g.ownB
  ownA := g.ownA
  bnd := g.bnd
  uniq := g.uniq
  limB := g.limB
  slot s v hs := by
    obtain ⟨h1, h2⟩ := h.slot s v hs
    exact ⟨h1, h2.ext g.ext g.boxes⟩
  tok := ht
  old := g.old
  out := X.st h.out ⟨g.stp, ⟨g.ext.froz, fun b hb => g.ext.lim b (Own.froz_ne hb), fun b off hb => g.ext.cell b off (Own.froz_ne hb)⟩, g.bnd, g.ext.yl, h.bnd⟩

/-! ### Draws -/
theorem goes_drew (h : Inv X w0 Ω w tm σ) (n : Nat) : Goes X w0 Ω Ω w (w.drewN n) where
  ext := ⟨fun _ h => h, fun _ h => .inr h, fun _ _ p h => ⟨p, h⟩, fun _ _ h => h, fun _ _ => Nat.le_refl _, fun _ _ _ _ => rfl, fun _ _ _ _ => rfl, fun _ _ _ c k n _ h => ⟨c, k, n, h, .inl ⟨rfl, rfl, rfl⟩⟩, rfl, fun _ h => h⟩
  kept := ⟨h.kept.os, h.kept.tape, h.kept.output, h.kept.size, h.kept.block⟩
  ownB := h.ownB
  ownA := h.ownA
  bnd := h.bnd
  uniq := h.uniq
  limB := h.limB
  old := h.old
  stp := ⟨rfl, rfl, rfl, Nat.le_refl _, fun _ _ _ => rfl, fun _ _ _ => ⟨rfl, rfl⟩⟩
  boxes _ _ _ _ h := h
theorem Inv.drew (h : Inv X w0 Ω w tm σ) (n : Nat) : Inv X w0 Ω (w.drewN n) tm σ := h.goes (goes_drew h n) (fun t m wr ht => h.tok t m wr ht)

/-! ### New blocks -/
theorem heap_alloc_lt (w : World) (o : Obj) {b : Nat} (h : b < w.heap.size) : (w.alloc o).heap[b]? = w.heap[b]? := heap_alloc_old w o b h
theorem kept_alloc (h : Kept X.x w0 w) (o : Obj) : Kept X.x w0 (w.alloc o) :=
  h.trans ⟨rfl, rfl, rfl, by simp, fun b hb _ => heap_alloc_lt w o hb⟩

def Own.mkBox (Ω : Own) (b d : Nat) : Own :=
  { Ω with o := fun c => if c = b then .box d else Ω.o c, lim := fun c => if c = b then 0 else Ω.lim c }
def Own.mkArr (Ω : Own) (b t k n sz : Nat) : Own where
  o c := if c = b then .arr t false else Ω.o c
  lim c := if c = b then n * sz else Ω.lim c
  cur u := if u = t then some (b, k, n) else Ω.cur u
  tsz u := if u = t then sz else Ω.tsz u
  yl := Ω.yl

theorem goes_mkBox (h : Inv X w0 Ω w tm σ) (d : Nat) (hf : ∀ b, Ω.o b ≠ .box d) (O : Obj) :
    Goes X w0 Ω (Ω.mkBox w.heap.size d) w (w.alloc O) := by
  have hout : Ω.o w.heap.size = .out := by
    apply Decidable.byContradiction
    intro hne
    exact absurd (h.bnd _ hne) (Nat.lt_irrefl _)
  have hold : ∀ b, Ω.o b ≠ .out → b ≠ w.heap.size := fun b hb e => hb (e ▸ hout)
  have ho : ∀ b, Ω.o b ≠ .out → (Ω.mkBox w.heap.size d).o b = Ω.o b := fun b hb => by simp [Own.mkBox, hold b hb]
  have hl : ∀ b, Ω.o b ≠ .out → (Ω.mkBox w.heap.size d).lim b = Ω.lim b := fun b hb => by simp [Own.mkBox, hold b hb]
  constructor
  · constructor
    · intro b hb
      have hne := Own.froz_ne hb
      unfold Own.froz at hb ⊢
      rw [ho b hne]; exact hb
    · intro b hb; exact .inr (by rw [ho b (by simp [hb])]; exact hb)
    · intro b t p hb; exact ⟨p, by rw [ho b (by simp [hb])]; exact hb⟩
    · intro b s hb; rw [ho b (by simp [hb])]; exact hb
    · intro b hb; rw [hl b hb]; exact Nat.le_refl _
    · intro b off hb _; exact World.cell?_of_block (heap_alloc_lt w _ (h.bnd b hb))
    · intro b t p hb; rfl
    · intro b t p c k n _ hc; exact ⟨c, k, n, hc, .inl ⟨rfl, rfl, rfl⟩⟩
    · rfl
    · intro b hb; rw [ho b (by simp [hb])]; exact hb
  · exact kept_alloc h.kept _
  · intro b s hb
    by_cases e : b = w.heap.size
    · subst e; exact .inl h.kept.size
    · simp only [Own.mkBox, if_neg e] at hb; exact h.ownB b s hb
  · intro b t p hb
    by_cases e : b = w.heap.size
    · subst e; simp [Own.mkBox] at hb
    · simp only [Own.mkBox, if_neg e] at hb; exact h.ownA b t p hb
  · intro b hb
    by_cases e : b = w.heap.size
    · subst e; simp
    · simp only [Own.mkBox, if_neg e] at hb
      have := h.bnd b hb
      simp only [World.size_alloc]; omega
  · intro b b' s hb hb'
    by_cases e : b = w.heap.size <;> by_cases e' : b' = w.heap.size
    · rw [e, e']
    · simp only [Own.mkBox, if_pos e, if_neg e'] at hb hb'
      injection hb with hb; subst hb
      exact absurd hb' (hf b')
    · simp only [Own.mkBox, if_neg e, if_pos e'] at hb hb'
      injection hb' with hb'; subst hb'
      exact absurd hb (hf b)
    · simp only [Own.mkBox, if_neg e, if_neg e'] at hb hb'
      exact h.uniq b b' s hb hb'
  · intro b s hb
    by_cases e : b = w.heap.size
    · subst e; simp [Own.mkBox]
    · simp only [Own.mkBox, if_neg e] at hb ⊢; exact h.limB b s hb
  · intro b hb hX
    have hne : b ≠ w.heap.size := fun e => Nat.lt_irrefl _ (Nat.lt_of_lt_of_le (e ▸ hb) h.kept.size)
    simp only [Own.mkBox, if_neg hne]
    exact h.old b hb hX
  · refine ⟨rfl, rfl, rfl, by simp, fun b hb _ => heap_alloc_lt w _ hb, fun b hb _ => ?_⟩
    simp only [Own.mkBox, if_neg (Nat.ne_of_lt hb), and_self]
  · intro b s O' hb hh
    rw [heap_alloc_lt w _ (h.bnd b (by simp [hb]))]; exact hh
theorem TokOk.old (h : Inv X w0 Ω w tm σ) {b : Nat} (hb : Ω.o b = .out) {t n : Nat} {wr : Bool} (ht : TokOk Ω w t n wr)
    (hc : Ω'.cur t = Ω.cur t) (hz : Ω'.tsz t = Ω.tsz t) (ho : ∀ c, c ≠ b → Ω'.o c = Ω.o c) (hob : ∀ p, Ω'.o b ≠ .arr t p) (hl : ∀ c, c ≠ b → Ω'.lim c = Ω.lim c) (hh : ∀ c, c < w.heap.size → w'.heap[c]? = w.heap[c]?) : TokOk Ω' w' t n wr := by
  obtain ⟨c, k, T, xs, h1, ⟨p, h2⟩, h3, h4, h5, h6, h7, h8⟩ := ht
  have hcb : c ≠ b := fun e => by rw [e, hb] at h2; cases h2
  refine ⟨c, k, T, xs, by rw [hc, h1], ⟨p, by rw [ho c hcb, h2]⟩, by rw [hh c (h.bnd c (by simp [h2])), h3], by rw [hz]; exact h4, h5, by rw [hl c hcb, hz]; exact h6, by rw [hz]; exact h7, fun hw b' p' hb' => ?_⟩
  by_cases e : b' = b
  · subst e; exact absurd hb' (hob p')
  · rw [ho b' e] at hb'; exact h8 hw b' p' hb'
theorem out_size (h : Inv X w0 Ω w tm σ) : Ω.o w.heap.size = .out := by
  apply Decidable.byContradiction
  intro hne
  exact absurd (h.bnd _ hne) (Nat.lt_irrefl _)
/-- A new variable. -/
theorem Inv.mkBox (h : Inv X w0 Ω w tm σ) {d : Nat} (hd : d < tm.size) (hf : ∀ b, Ω.o b ≠ .box d) (xs : List Value) (T : TypeId) {cs : List V} (hc : DenL Ω w cs xs) (hk : ∀ v ∈ cs, v.cellOk = true ∨ v = .dead) :
    Inv X w0 (Ω.mkBox w.heap.size d) (w.alloc (.cells xs.toArray T)) (tm.setIfInBounds d (.pointer (some ⟨w.heap.size, 0, none⟩))) { σ with fr := Lo.put σ.fr d (.box cs) } := by
  have g := goes_mkBox h d hf (.cells xs.toArray T)
  have h1 := h.goes g (tk' := σ.tk) (fun t n wr ht => (h.tok t n wr ht).old h (out_size h) rfl rfl (fun c hc => by simp [Own.mkBox, hc]) (fun p => by simp [Own.mkBox]) (fun c hc => by simp [Own.mkBox, hc]) (fun c hc => heap_alloc_lt w _ hc))
  refine h1.put hd ?_
  simp only [DenS]
  exact ⟨w.heap.size, xs, T, rfl, by simp [Own.mkBox], heap_alloc_new w _, DenL.ext g.ext _ _ hc, hk⟩
theorem Inv.mkMap (h : Inv X w0 Ω w tm σ) {d : Nat} (hd : d < tm.size) (hf : ∀ b, Ω.o b ≠ .box d) :
    Inv X w0 (Ω.mkBox w.heap.size d) (w.alloc (.map #[] 0)) (tm.setIfInBounds d (.map (some w.heap.size))) { σ with fr := Lo.put σ.fr d (.mbox []) } := by
  have g := goes_mkBox h d hf (.map #[] 0)
  have h1 := h.goes g (tk' := σ.tk) (fun t n wr ht => (h.tok t n wr ht).old h (out_size h) rfl rfl (fun c hc => by simp [Own.mkBox, hc]) (fun p => by simp [Own.mkBox]) (fun c hc => by simp [Own.mkBox, hc]) (fun c hc => heap_alloc_lt w _ hc))
  refine h1.put hd ?_
  simp only [DenS]
  exact ⟨w.heap.size, #[], 0, rfl, by simp [Own.mkBox], heap_alloc_new w _, by simp, fun n v hv => by simp [lookM] at hv, by simp⟩
end
end Go.Lo

/- Arrays: new ones, protected ones; boxes that are written. -/
namespace Go.Lo
section
variable {X : Sc} {w0 w w' : World} {Ω Ω' : Own} {tm : Array Value} {σ : St}

/-- Elements lie in memory as a row of values says. -/
theorem rowC {b : Nat} : ∀ {cs : List V} {ys : List Value} {off : Nat}, DenL Ω w cs ys → (∀ v ∈ cs, v.pure = true ∧ v.cellOk = true) →
    (∀ j y, ys[j]? = some y → off + j < Ω.lim b ∧ w.cell? ⟨b, off + j, none⟩ = some y) → DenC Ω w cs b off
  | [], _, _, _, _, _ => by simp [DenC]
  | v :: cs, ys, off, hd, hp, hc => by
    simp only [DenL] at hd
    obtain ⟨x, zs, rfl, h2, h3⟩ := hd
    obtain ⟨g1, g2⟩ := hc 0 x rfl
    simp only [DenC]
    refine ⟨⟨x, by simpa using g1, by simpa using g2, (hp v (by simp)).1, (hp v (by simp)).2, h2⟩, rowC h3 (fun u hu => hp u (by simp [hu])) (fun j y hj => ?_)⟩
    have := hc (j + 1) y (by simpa using hj)
    rwa [show off + (j + 1) = off + 1 + j by omega] at this
theorem rowE {b sz : Nat} : ∀ {es : List (List V)} {ys : List Value} {off : Nat}, DenL Ω w es.flatten ys → (∀ cs ∈ es, cs.length = sz ∧ cs.all V.pm = true) →
    (∀ j y, ys[j]? = some y → off + j < Ω.lim b ∧ w.cell? ⟨b, off + j, none⟩ = some y) → DenE Ω w es sz b off
  | [], _, _, _, _, _ => by simp [DenE]
  | cs :: es, ys, off, hd, hp, hc => by
    simp only [List.flatten_cons] at hd
    have hl : cs.length = sz := (hp cs (by simp)).1
    have hd1 := hd.take cs.length
    have hd2 := hd.drop cs.length
    rw [List.take_left] at hd1
    rw [List.drop_left] at hd2
    simp only [DenE]
    refine ⟨hl, (hp cs (by simp)).2, rowC hd1 (fun v hv => V.pm_pure (List.all_eq_true.1 (hp cs (by simp)).2 v hv)) (fun j y hj => ?_), rowE hd2 (fun u hu => hp u (by simp [hu])) (fun j y hj => ?_)⟩
    · rw [List.getElem?_take] at hj
      split at hj
      · exact hc j y hj
      · cases hj
    · rw [List.getElem?_drop] at hj
      have := hc _ y hj
      rwa [hl, show off + (sz + j) = off + sz + j by omega] at this

theorem goes_mkArr (h : Inv X w0 Ω w tm σ) (t k n sz : Nat) (hf : ∀ b p, Ω.o b ≠ .arr t p) (c : Array Value) (T : TypeId) :
    Goes X w0 Ω (Ω.mkArr w.heap.size t k n sz) w (w.alloc (.cells c T)) := by
  have hout := out_size h
  have hold : ∀ b, Ω.o b ≠ .out → b ≠ w.heap.size := fun b hb e => hb (e ▸ hout)
  have ho : ∀ b, Ω.o b ≠ .out → (Ω.mkArr w.heap.size t k n sz).o b = Ω.o b := fun b hb => by simp [Own.mkArr, hold b hb]
  have hl : ∀ b, Ω.o b ≠ .out → (Ω.mkArr w.heap.size t k n sz).lim b = Ω.lim b := fun b hb => by simp [Own.mkArr, hold b hb]
  constructor
  · constructor
    · intro b hb
      have hne := Own.froz_ne hb
      unfold Own.froz at hb ⊢
      rw [ho b hne]; exact hb
    · intro b hb; exact .inr (by rw [ho b (by simp [hb])]; exact hb)
    · intro b u p hb; exact ⟨p, by rw [ho b (by simp [hb])]; exact hb⟩
    · intro b s hb; rw [ho b (by simp [hb])]; exact hb
    · intro b hb; rw [hl b hb]; exact Nat.le_refl _
    · intro b off hb _; exact World.cell?_of_block (heap_alloc_lt w _ (h.bnd b hb))
    · intro b u p hb
      have hu : u ≠ t := fun e => hf b p (e ▸ hb)
      simp [Own.mkArr, hu]
    · intro b u p c k n hb hc
      have hu : u ≠ t := fun e => hf b p (e ▸ hb)
      simp only [Own.mkArr, if_neg hu] at hc
      exact ⟨c, k, n, hc, .inl ⟨rfl, rfl, rfl⟩⟩
    · rfl
    · intro b hb; rw [ho b (by simp [hb])]; exact hb
  · exact kept_alloc h.kept _
  · intro b s hb
    by_cases e : b = w.heap.size
    · subst e; exact .inl h.kept.size
    · simp only [Own.mkArr, if_neg e] at hb; exact h.ownB b s hb
  · intro b u p hb
    by_cases e : b = w.heap.size
    · subst e; exact .inl h.kept.size
    · simp only [Own.mkArr, if_neg e] at hb; exact h.ownA b u p hb
  · intro b hb
    by_cases e : b = w.heap.size
    · subst e; simp
    · simp only [Own.mkArr, if_neg e] at hb
      have := h.bnd b hb
      simp only [World.size_alloc]; omega
  · intro b b' s hb hb'
    by_cases e : b = w.heap.size
    · simp [Own.mkArr, e] at hb
    · by_cases e' : b' = w.heap.size
      · simp [Own.mkArr, e'] at hb'
      · simp only [Own.mkArr, if_neg e, if_neg e'] at hb hb'
        exact h.uniq b b' s hb hb'
  · intro b s hb
    by_cases e : b = w.heap.size
    · simp [Own.mkArr, e] at hb
    · simp only [Own.mkArr, if_neg e] at hb ⊢; exact h.limB b s hb
  · intro b hb hX
    simp only [Own.mkArr, if_neg (h.newNe hb)]
    exact h.old b hb hX
  · refine ⟨rfl, rfl, rfl, by simp, fun b hb _ => heap_alloc_lt w _ hb, fun b hb _ => ?_⟩
    simp only [Own.mkArr, if_neg (Nat.ne_of_lt hb), and_self]
  · intro b s O hb hh
    rw [heap_alloc_lt w _ (h.bnd b (by simp [hb]))]; exact hh

/-- A new array. -/
theorem Inv.mkArr (h : Inv X w0 Ω w tm σ) {t k n sz : Nat} (hf : ∀ b p, Ω.o b ≠ .arr t p) (c : Array Value) (T : TypeId) (hc : c.size = k * sz) (hn : n ≤ k) (hsz : 0 < sz)
    {es : List (List V)} (hes : es.length = n) {ys : List Value} (hd : DenL Ω w es.flatten ys) (hp : ∀ cs ∈ es, cs.length = sz ∧ cs.all V.pm = true)
    (hy : ∀ (j : Nat) (y : Value), ys[j]? = some y → c[j]? = some y) :
    Inv X w0 (Ω.mkArr w.heap.size t k n sz) (w.alloc (.cells c T)) tm { σ with tk := Lo.put σ.tk t (n, true) } ∧
      Den (Ω.mkArr w.heap.size t k n sz) (w.alloc (.cells c T)) (.sl (some t) sz es) (.slice (some ⟨w.heap.size, 0, none⟩) n k) := by
  have g := goes_mkArr h t k n sz hf c T
  refine ⟨h.goes g (tk' := Lo.put σ.tk t (n, true)) (fun u m wr hu => ?_), ?_⟩
  · rw [get_put] at hu
    split at hu
    · rename_i e; subst e
      injection hu with hu
      injection hu with h1 h2
      subst h1; subst h2
      refine ⟨w.heap.size, k, T, c, by simp [Own.mkArr], ⟨false, by simp [Own.mkArr]⟩, heap_alloc_new w _, by simpa [Own.mkArr] using hc, hn, by simp [Own.mkArr], by simpa [Own.mkArr] using hsz, fun _ b p hb => ?_⟩
      simp only [Own.mkArr] at hb
      split at hb
      · injection hb with _ hb; exact hb.symm
      · exact absurd hb (hf b p)
    · rename_i e
      have e' : u ≠ t := fun x => e x.symm
      exact (h.tok u m wr hu).old h (out_size h) (by simp [Own.mkArr, e']) (by simp [Own.mkArr, e']) (fun c hc => by simp [Own.mkArr, hc]) (fun p => by simp [Own.mkArr]; exact fun x => absurd x.symm e') (fun c hc => by simp [Own.mkArr, hc]) (fun c hc => heap_alloc_lt w _ hc)
  · simp only [Den]
    refine ⟨w.heap.size, k - n, false, by rw [hes]; congr 1; omega, by simp [Own.mkArr], by simp [Own.mkArr], ?_, ?_⟩
    · intro c' k' n' hcur
      simp only [Own.mkArr, if_true, Option.some.injEq, Prod.mk.injEq] at hcur
      obtain ⟨h1, h2, h3⟩ := hcur
      exact ⟨by omega, fun _ => ⟨h1, by omega⟩⟩
    · refine rowE (DenL.ext g.ext _ _ hd) hp (fun j y hj => ?_)
      have hy' := hy j y hj
      have hlen : j < es.flatten.length := by
        have := (List.getElem?_eq_some_iff.1 hj).1
        rw [hd.length] at this; exact this
      have hfl : es.flatten.length = n * sz := by
        rw [List.length_flatten]
        have : es.map List.length = List.replicate es.length sz := by
          apply List.ext_getElem (by simp)
          intro i h1 h2
          simp only [List.getElem_map, List.getElem_replicate]
          exact (hp _ (List.getElem_mem _)).1
        rw [this, hes, List.sum_replicate_nat]
      refine ⟨by simp [Own.mkArr]; omega, ?_⟩
      simp only [Nat.zero_add, World.cell?_alloc_new]
      exact hy'

/-! ### Protection -/
def Own.prot (Ω : Own) (ps : List Nat) : Own :=
  { Ω with o := fun b => match Ω.o b with | .arr t p => .arr t (p || memN t ps) | x => x }
theorem prot_arr {Ω : Own} {ps : List Nat} {b t : Nat} {p : Bool} (h : (Ω.prot ps).o b = .arr t p) : ∃ q, Ω.o b = .arr t q ∧ p = (q || memN t ps) := by
  simp only [Own.prot] at h
  split at h
  · rename_i u q hb
    injection h with h1 h2
    subst h1
    exact ⟨q, hb, h2.symm⟩
  · rename_i hb
    exact absurd h (hb _ _)
theorem prot_other {Ω : Own} {ps : List Nat} {b : Nat} (h : ∀ t p, Ω.o b ≠ .arr t p) : (Ω.prot ps).o b = Ω.o b := by
  simp only [Own.prot]
theorem prot_box {Ω : Own} {ps : List Nat} {b s : Nat} (h : (Ω.prot ps).o b = .box s) : Ω.o b = .box s := by
  simp only [Own.prot] at h
  cases hb : Ω.o b <;> rw [hb] at h <;> simp only at h <;> first | exact h | cases h
theorem prot_ne {Ω : Own} {ps : List Nat} {b : Nat} (h : (Ω.prot ps).o b ≠ .out) : Ω.o b ≠ .out := by
  intro e
  exact h (by rw [prot_other (by intro t p; rw [e]; simp), e])
theorem ext_prot (Ω : Own) (w : World) (ps : List Nat) : Ext Ω (Ω.prot ps) w w := by
  constructor
  · intro b hb
    rcases hb with hb | ⟨t, hb⟩
    · exact .inl (by rw [prot_other (by intro t p; rw [hb]; simp), hb])
    · exact .inr ⟨t, by simp [Own.prot, hb]⟩
  · intro b hb; exact .inr (by rw [prot_other (by intro t p; rw [hb]; simp), hb])
  · intro b t p hb; exact ⟨p || memN t ps, by simp only [Own.prot, hb]⟩
  · intro b s hb; rw [prot_other (by intro t p; rw [hb]; simp), hb]
  · intro b _; exact Nat.le_refl _
  · intro b off _ _; rfl
  · intro b t p _; rfl
  · intro b t p c k n _ hc; exact ⟨c, k, n, hc, .inl ⟨rfl, rfl, rfl⟩⟩
  · rfl
  · intro b hb; rw [prot_other (by intro t p; rw [hb]; simp), hb]
theorem goes_prot (h : Inv X w0 Ω w tm σ) (ps : List Nat) : Goes X w0 Ω (Ω.prot ps) w w where
  ext := ext_prot Ω w ps
  kept := h.kept
  ownB b s hb := h.ownB b s (prot_box hb)
  ownA b t p hb := by obtain ⟨q, hq, _⟩ := prot_arr hb; exact h.ownA b t q hq
  bnd b hb := h.bnd b (prot_ne hb)
  uniq b b' s hb hb' := h.uniq b b' s (prot_box hb) (prot_box hb')
  limB b s hb := h.limB b s (prot_box hb)
  old b hb hX := by rw [prot_other (h.oldArr hb hX)]; exact h.old b hb hX
  stp := ⟨rfl, rfl, rfl, Nat.le_refl _, fun _ _ _ => rfl, fun b _ hm => ⟨prot_other fun t p hb => hm (.inr ⟨t, p, hb⟩), rfl⟩⟩
  boxes _ _ _ _ h := h
theorem TokOk.prot {ps : List Nat} {t n : Nat} {wr wr' : Bool} (ht : TokOk Ω w t n wr) (h1 : wr' = true → wr = true ∧ memN t ps = false) : TokOk (Ω.prot ps) w t n wr' := by
  obtain ⟨c, k, T, xs, g1, ⟨p, g2⟩, g3, g4, g5, g6, g7, g8⟩ := ht
  refine ⟨c, k, T, xs, g1, ⟨p || memN t ps, by simp only [Own.prot, g2]⟩, g3, g4, g5, g6, g7, fun hw b q hb => ?_⟩
  obtain ⟨q', hq, rfl⟩ := prot_arr hb
  obtain ⟨k1, k2⟩ := h1 hw
  simp [g8 k1 b q' hq, k2]
theorem Inv.prot (h : Inv X w0 Ω w tm σ) (ps : List Nat) : Inv X w0 (Ω.prot ps) w tm { σ with tk := protT ps σ.tk } :=
  h.goes (goes_prot h ps) (fun t n wr ht => by
    rw [get_protT] at ht
    cases hg : get σ.tk t with
    | none => rw [hg] at ht; cases ht
    | some x =>
      obtain ⟨m, wr0⟩ := x
      rw [hg] at ht
      simp only [Option.map_some, Option.some.injEq] at ht
      split at ht
      · injection ht with e1 e2; subst e1; subst e2
        exact (h.tok t _ _ hg).prot (fun x => by cases x)
      · rename_i hm
        injection ht with e1 e2; subst e1; subst e2
        exact (h.tok t _ _ hg).prot (fun x => ⟨x, by simpa using hm⟩))
/-- A view of an array that is protected now. -/
theorem Den.view {ps : List Nat} {t sz : Nat} {es : List (List V)} {x : Value} (hp : memN t ps = true) (hd : Den Ω w (.sl (some t) sz es) x) : Den (Ω.prot ps) w (.sl none sz es) x := by
  simp only [Den] at hd ⊢
  obtain ⟨b, cap, p, h1, h2, h3, _, h5⟩ := hd
  refine .inr ⟨b, 0, cap, h1, .inr ⟨t, by simp [Own.prot, h2, hp]⟩, DenE.ext (ext_prot Ω w ps) es sz b 0 (by rw [h2]; simp) h5⟩

mutual
/-- A value that becomes a part of an array. -/
theorem Den.frzE {ps : List Nat} : ∀ (v v' : V) (ts : List Nat) (x : Value), v.frzE = some (v', ts) → (∀ t ∈ ts, memN t ps = true) → Den Ω w v x → Den (Ω.prot ps) w v' x ∧ v'.pure = true ∧ (v.cellOk = true → v'.cellOk = true)
  | .und, v', ts, x, hf, _, _ => by simp [V.frzE] at hf
  | .dead, v', ts, x, hf, _, _ => by simp [V.frzE] at hf
  | .bool _, v', ts, x, hf, _, hd => by simp only [V.frzE, Option.some.injEq, Prod.mk.injEq] at hf; obtain ⟨rfl, rfl⟩ := hf; exact ⟨hd, rfl, fun _ => rfl⟩
  | .int _ _, v', ts, x, hf, _, hd => by simp only [V.frzE, Option.some.injEq, Prod.mk.injEq] at hf; obtain ⟨rfl, rfl⟩ := hf; exact ⟨hd, rfl, fun _ => rfl⟩
  | .nil, v', ts, x, hf, _, hd => by simp only [V.frzE, Option.some.injEq, Prod.mk.injEq] at hf; obtain ⟨rfl, rfl⟩ := hf; exact ⟨hd, rfl, fun _ => rfl⟩
  | .sl none sz es, v', ts, x, hf, _, hd => by
    simp only [V.frzE, Option.some.injEq, Prod.mk.injEq] at hf; obtain ⟨rfl, rfl⟩ := hf
    exact ⟨Den.ext (ext_prot Ω w ps) _ _ hd, rfl, fun _ => rfl⟩
  | .sl (some t) sz es, v', ts, x, hf, hp, hd => by
    simp only [V.frzE, Option.some.injEq, Prod.mk.injEq] at hf; obtain ⟨rfl, rfl⟩ := hf
    exact ⟨hd.view (hp t (by simp)), rfl, fun _ => rfl⟩
  | .agg cs, v', ts, x, hf, hp, hd => by
    simp only [V.frzE] at hf
    split at hf
    · rename_i cs' us hcs
      simp only [Option.some.injEq, Prod.mk.injEq] at hf; obtain ⟨rfl, rfl⟩ := hf
      simp only [Den] at hd ⊢
      obtain ⟨xs, h1, h2⟩ := hd
      obtain ⟨g1, g2, _⟩ := DenL.frzE cs cs' _ xs hcs hp h2
      exact ⟨⟨xs, h1, g1⟩, by simpa [V.pure] using g2, fun h => by simp [V.cellOk] at h⟩
    · cases hf
  | .tup _, v', ts, x, hf, _, _ => by simp [V.frzE] at hf
  | .fn _ _, v', ts, x, hf, _, _ => by simp [V.frzE] at hf
  | .ref _ _, v', ts, x, hf, _, _ => by simp [V.frzE] at hf
  | .cref _, v', ts, x, hf, _, _ => by simp [V.frzE] at hf
  | .gref cs, v', ts, x, hf, _, hd => by
    simp only [V.frzE, Option.some.injEq, Prod.mk.injEq] at hf; obtain ⟨rfl, rfl⟩ := hf
    exact ⟨Den.ext (ext_prot Ω w ps) _ _ hd, rfl, fun _ => rfl⟩
  | .np, v', ts, x, hf, _, hd => by simp only [V.frzE, Option.some.injEq, Prod.mk.injEq] at hf; obtain ⟨rfl, rfl⟩ := hf; exact ⟨hd, rfl, fun _ => rfl⟩
  | .bag _ _, v', ts, x, hf, _, _ => by simp [V.frzE] at hf
  | .eref _ _ _ _ _, v', ts, x, hf, _, _ => by simp [V.frzE] at hf
  | .box _, v', ts, x, hf, _, _ => by simp [V.frzE] at hf
  | .mbox _, v', ts, x, hf, _, _ => by simp [V.frzE] at hf
  | .mref _, v', ts, x, hf, _, _ => by simp [V.frzE] at hf
theorem DenL.frzE {ps : List Nat} : ∀ (vs vs' : List V) (ts : List Nat) (xs : List Value), frzEL vs = some (vs', ts) → (∀ t ∈ ts, memN t ps = true) → DenL Ω w vs xs →
    DenL (Ω.prot ps) w vs' xs ∧ pureL vs' = true ∧ vs'.length = vs.length
  | [], vs', ts, xs, hf, _, hd => by
    simp only [frzEL, Option.some.injEq, Prod.mk.injEq] at hf; obtain ⟨rfl, rfl⟩ := hf
    simp only [DenL] at hd
    subst hd
    exact ⟨DenL.nil, rfl, rfl⟩
  | v :: vs, vs', ts, xs, hf, hp, hd => by
    simp only [frzEL] at hf
    split at hf
    · rename_i v' us ws zs hv hvs
      simp only [Option.some.injEq, Prod.mk.injEq] at hf; obtain ⟨rfl, rfl⟩ := hf
      simp only [DenL] at hd
      obtain ⟨x, ys, rfl, h2, h3⟩ := hd
      obtain ⟨g1, g2, _⟩ := Den.frzE v v' us x hv (fun t ht => hp t (by simp [ht])) h2
      obtain ⟨k1, k2, k3⟩ := DenL.frzE vs ws zs ys hvs (fun t ht => hp t (by simp [ht])) h3
      exact ⟨DenL.cons g1 k1, by simp [pureL, g2, k2], by simp [k3]⟩
    · cases hf
end

/-! ### A box is written -/
theorem Inv.sto (h : Inv X w0 Ω w tm σ) {s b : Nat} {old : Array Value} {T : TypeId} (hb : Ω.o b = .box s) (hh : w.heap[b]? = some (.cells old T (0, 0)))
    {xs : List Value} {cs cs0 : List V} (hs : get σ.fr s = some (.box cs0)) (hd : DenL Ω w cs xs) (hk : ∀ v ∈ cs, v.cellOk = true ∨ v = .dead) :
    Inv X w0 Ω (w.setRow b xs.toArray) tm { σ with fr := Lo.put σ.fr s (.box cs) } := by
  have hlim := h.limB b s hb
  have hx : Ext Ω Ω w (w.setRow b xs.toArray) :=
    ⟨fun _ h => h, fun _ h => .inr h, fun _ _ p h => ⟨p, h⟩, fun _ _ h => h, fun _ _ => Nat.le_refl _, fun c off hc ho => by
      refine cell_setRow_other w b _ ⟨c, off, none⟩ (fun e => ?_)
      simp only at e; subst e; rw [hlim] at ho; omega, fun _ _ _ _ => rfl, fun _ _ _ c k n _ h => ⟨c, k, n, h, .inl ⟨rfl, rfl, rfl⟩⟩, rfl, fun _ h => h⟩
  have hsize : (w.setRow b xs.toArray).heap.size = w.heap.size := by simp [World.setRow]
  constructor
  · refine ⟨h.kept.os, h.kept.tape, h.kept.output, by rw [hsize]; exact h.kept.size, fun c hc hX => ?_⟩
    by_cases e : c = b
    · subst e
      rcases h.ownB c s hb with h1 | h1
      · exact absurd hc (Nat.not_lt_of_le h1)
      · exact absurd h1 hX
    · rw [setRow_other w b c _ e]; exact h.kept.block c hc hX
  · exact h.ownB
  · exact h.ownA
  · intro c hc; rw [hsize]; exact h.bnd c hc
  · exact h.uniq
  · exact h.limB
  · intro s' v hs'
    rw [get_put] at hs'
    split at hs'
    · rename_i e; subst e
      injection hs' with hs'; subst hs'
      obtain ⟨h1, h2⟩ := h.slot s _ hs
      refine ⟨h1, ?_⟩
      simp only [DenS] at h2 ⊢
      obtain ⟨b', xs', T', e1, e2, e3, _⟩ := h2
      have := h.uniq b b' s hb e2
      subst this
      exact ⟨b, xs, T, e1, hb, setRow_heap w b old _ T _ hh, DenL.ext hx _ _ hd, hk⟩
    · rename_i e
      obtain ⟨h1, h2⟩ := h.slot s' v hs'
      refine ⟨h1, ?_⟩
      cases v <;> first
        | exact Den.ext hx _ _ h2
        | (simp only [DenS] at h2 ⊢
           obtain ⟨b', xs', T', e1, e2, e3, e4, e5⟩ := h2
           have hne : b' ≠ b := fun x => by subst x; rw [hb] at e2; injection e2 with e2; exact e e2
           exact ⟨b', xs', T', e1, e2, by rw [setRow_other w b b' _ hne]; exact e3, DenL.ext hx _ _ e4, e5⟩)
        | (simp only [DenS] at h2 ⊢
           obtain ⟨b', es', clk', e1, e2, e3, e4⟩ := h2
           have hne : b' ≠ b := fun x => by subst x; rw [hb] at e2; injection e2 with e2; exact e e2
           exact ⟨b', es', clk', e1, e2, by rw [setRow_other w b b' _ hne]; exact e3, e4.mp id (fun _ => by simp) fun v x hv => Den.ext hx v x hv⟩)
  · intro t n wr ht
    obtain ⟨c, k, T', ys, g1, ⟨p, g2⟩, g3, g4⟩ := h.tok t n wr ht
    have hne : c ≠ b := fun x => by subst x; rw [hb] at g2; cases g2
    exact ⟨c, k, T', ys, g1, ⟨p, g2⟩, by rw [setRow_other w b c _ hne]; exact g3, g4⟩
  · exact h.old
  · refine X.st h.out ⟨⟨rfl, rfl, rfl, Nat.le_of_eq hsize.symm, fun c hc hm => setRow_other w b c _ (fun e => hm (e ▸ .inl ⟨s, hb⟩)), fun _ _ _ => ⟨rfl, rfl⟩⟩, ⟨fun _ h => h, fun _ _ => Nat.le_refl _, fun c off hc _ => ?_⟩, fun c hc => by rw [hsize]; exact h.bnd c hc, rfl, h.bnd⟩
    have hne : c ≠ b := fun e => by subst e; rcases hc with hc | ⟨t, hc⟩ <;> rw [hb] at hc <;> cases hc
    exact World.cell?_of_block (setRow_other w b c _ hne)
/-- A map is written. -/
theorem Inv.msto (h : Inv X w0 Ω w tm σ) {s b : Nat} {es es' : Array MapEntry} {clk clk' : Nat} (hb : Ω.o b = .box s) (hh : w.heap[b]? = some (.map es clk)) {w' : World}
    (hos : w'.os = w.os ∧ w'.tape = w.tape ∧ w'.output = w.output ∧ w'.heap.size = w.heap.size) (hnew : w'.heap[b]? = some (.map es' clk')) (hoth : ∀ c, c ≠ b → w'.heap[c]? = w.heap[c]?) {cs cs0 : List V} (hs : get σ.fr s = some (.mbox cs0)) (hd : MapD Ω w cs es') :
    Inv X w0 Ω w' tm { σ with fr := Lo.put σ.fr s (.mbox cs) } := by
  have hlim := h.limB b s hb
  have hx : Ext Ω Ω w w' :=
    ⟨fun _ h => h, fun _ h => .inr h, fun _ _ p h => ⟨p, h⟩, fun _ _ h => h, fun _ _ => Nat.le_refl _, fun c off hc ho => by
      refine World.cell?_of_block (hoth c (fun e => ?_))
      subst e; rw [hlim] at ho; omega, fun _ _ _ _ => rfl, fun _ _ _ c k n _ h => ⟨c, k, n, h, .inl ⟨rfl, rfl, rfl⟩⟩, rfl, fun _ h => h⟩
  constructor
  · refine ⟨hos.1.trans h.kept.os, hos.2.1.trans h.kept.tape, hos.2.2.1.trans h.kept.output, by rw [hos.2.2.2]; exact h.kept.size, fun c hc hX => ?_⟩
    by_cases e : c = b
    · subst e
      rcases h.ownB c s hb with h1 | h1
      · exact absurd hc (Nat.not_lt_of_le h1)
      · exact absurd h1 hX
    · rw [hoth c e]; exact h.kept.block c hc hX
  · exact h.ownB
  · exact h.ownA
  · intro c hc; rw [hos.2.2.2]; exact h.bnd c hc
  · exact h.uniq
  · exact h.limB
  · intro s' v hs'
    rw [get_put] at hs'
    split at hs'
    · rename_i e; subst e
      injection hs' with hs'; subst hs'
      obtain ⟨h1, h2⟩ := h.slot s _ hs
      refine ⟨h1, ?_⟩
      simp only [DenS] at h2 ⊢
      obtain ⟨b', es0, clk0, e1, e2, e3, _⟩ := h2
      have := h.uniq b b' s hb e2
      subst this
      exact ⟨b, es', clk', e1, hb, hnew, hd.mp id (fun _ => by simp) fun v x hv => Den.ext hx v x hv⟩
    · rename_i e
      obtain ⟨h1, h2⟩ := h.slot s' v hs'
      refine ⟨h1, ?_⟩
      cases v <;> first
        | exact Den.ext hx _ _ h2
        | (simp only [DenS] at h2 ⊢
           obtain ⟨b', xs', T', e1, e2, e3, e4, e5⟩ := h2
           have hne : b' ≠ b := fun x => by subst x; rw [hb] at e2; injection e2 with e2; exact e e2
           exact ⟨b', xs', T', e1, e2, by rw [hoth b' hne]; exact e3, DenL.ext hx _ _ e4, e5⟩)
        | (simp only [DenS] at h2 ⊢
           obtain ⟨b', es0, clk0, e1, e2, e3, e4⟩ := h2
           have hne : b' ≠ b := fun x => by subst x; rw [hb] at e2; injection e2 with e2; exact e e2
           exact ⟨b', es0, clk0, e1, e2, by rw [hoth b' hne]; exact e3, e4.mp id (fun _ => by simp) fun v x hv => Den.ext hx v x hv⟩)
  · intro t n wr ht
    obtain ⟨c, k, T', ys, g1, ⟨p, g2⟩, g3, g4⟩ := h.tok t n wr ht
    have hne : c ≠ b := fun x => by subst x; rw [hb] at g2; cases g2
    exact ⟨c, k, T', ys, g1, ⟨p, g2⟩, by rw [hoth c hne]; exact g3, g4⟩
  · exact h.old
  · refine X.st h.out ⟨⟨hos.1, hos.2.1, hos.2.2.1, Nat.le_of_eq hos.2.2.2.symm, fun c hc hm => hoth c (fun e => hm (e ▸ .inl ⟨s, hb⟩)), fun _ _ _ => ⟨rfl, rfl⟩⟩, ⟨fun _ h => h, fun _ _ => Nat.le_refl _, fun c off hc _ => ?_⟩, fun c hc => by rw [hos.2.2.2]; exact h.bnd c hc, rfl, h.bnd⟩
    have hne : c ≠ b := fun e => by subst e; rcases hc with hc | ⟨t, hc⟩ <;> rw [hb] at hc <;> cases hc
    exact World.cell?_of_block (hoth c hne)
end
end Go.Lo

/- Arrays that grow, elements that are written, slots that are made anew. -/
namespace Go.Lo
section
variable {X : Sc} {w0 w w' : World} {Ω Ω' : Own} {tm : Array Value} {σ : St}

theorem flatten_length {es : List (List V)} {sz : Nat} (h : ∀ cs ∈ es, cs.length = sz) : es.flatten.length = es.length * sz := by
  rw [List.length_flatten]
  have : es.map List.length = List.replicate es.length sz := by
    apply List.ext_getElem (by simp)
    intro i h1 h2
    simp only [List.getElem_map, List.getElem_replicate]
    exact h _ (List.getElem_mem _)
  rw [this, List.sum_replicate_nat]

/-- The array t lies in block c now, with n elements. -/
def Own.app (Ω : Own) (t c k n : Nat) : Own :=
  { Ω with lim := fun b => if b = c then n * Ω.tsz t else Ω.lim b, cur := fun u => if u = t then some (c, k, n) else Ω.cur u }

/-- An append into the room that there is. -/
theorem Inv.app (h : Inv X w0 Ω w tm σ) {t n m sz c k : Nat} {wr p : Bool} {T : TypeId} {old : Array Value} (ht : get σ.tk t = some (n, wr)) (hcur : Ω.cur t = some (c, k, n)) (ho : Ω.o c = .arr t p)
    (hh : w.heap[c]? = some (.cells old T (0, 0))) (hsz : sz = Ω.tsz t) (hks : old.size = k * sz) (hnm : n + m ≤ k)
    {es fs : List (List V)} (hes : es.length = n) (hfs : fs.length = m) (hE : DenE Ω w es sz c 0) {ys : List Value} (hd : DenL Ω w fs.flatten ys) (hp : ∀ cs ∈ fs, cs.length = sz ∧ cs.all V.pm = true) :
    Inv X w0 (Ω.app t c k (n + m)) (w.setRow c (old.toList.take (n * sz) ++ ys ++ old.toList.drop (n * sz + ys.length)).toArray) tm { σ with tk := lenT t (n + m) σ.tk } ∧
      Den (Ω.app t c k (n + m)) (w.setRow c (old.toList.take (n * sz) ++ ys ++ old.toList.drop (n * sz + ys.length)).toArray) (.sl (some t) sz (es ++ fs)) (.slice (some ⟨c, 0, none⟩) (n + m) k) := by
  have hyl : ys.length = m * sz := by rw [hd.length, flatten_length (fun cs hc => (hp cs hc).1), hfs]
  have hnsz : n * sz + m * sz ≤ old.size := by rw [hks, ← Nat.add_mul]; exact Nat.mul_le_mul_right _ hnm
  generalize hw' : (old.toList.take (n * sz) ++ ys ++ old.toList.drop (n * sz + ys.length)).toArray = cs'
  have hcs : cs'.size = old.size := by
    rw [← hw']; simp only [List.size_toArray, List.length_append, List.length_take, List.length_drop, Array.length_toList, hyl]; omega
  have hsize : (w.setRow c cs').heap.size = w.heap.size := by simp [World.setRow]
  obtain ⟨c1, k1, T1, xs1, g1, ⟨p1, g2⟩, g3, g4, g5, g6, g7, g8⟩ := h.tok t n wr ht
  rw [hcur] at g1
  injection g1 with g1
  injection g1 with e1 g1
  injection g1 with e2 _
  subst e1; subst e2
  rw [hh] at g3
  injection g3 with g3
  injection g3 with g3
  subst g3
  have hlimle : n * Ω.tsz t ≤ (n + m) * Ω.tsz t := Nat.mul_le_mul_right _ (by omega)
  have hold : ∀ off, off < n * sz → (w.setRow c cs').cell? ⟨c, off, none⟩ = w.cell? ⟨c, off, none⟩ := by
    intro off hoff
    rw [cell_setRow_same w c off old cs' T (0, 0) hh, cell_of_row w c off old T (0, 0) hh, ← hw']
    have hl : (old.toList.take (n * sz)).length = n * sz := by rw [List.length_take, Array.length_toList]; omega
    rw [List.getElem?_toArray, List.append_assoc, List.getElem?_append_left (by rw [hl]; exact hoff), List.getElem?_take_of_lt hoff, Array.getElem?_toList]
  have hx : Ext Ω (Ω.app t c k (n + m)) w (w.setRow c cs') := by
    constructor
    · exact fun _ h => h
    · exact fun _ h => .inr h
    · exact fun _ _ p h => ⟨p, h⟩
    · exact fun _ _ h => h
    · intro b _
      simp only [Own.app]
      split
      · rename_i e; subst e; rw [g6]; exact hlimle
      · exact Nat.le_refl _
    · intro b off hb hoff
      by_cases e : b = c
      · subst e; exact hold off (by rw [g6, ← hsz] at hoff; exact hoff)
      · exact cell_setRow_other w c cs' ⟨b, off, none⟩ e
    · exact fun _ _ _ _ => rfl
    · intro b u q c' k' n' _ hc
      simp only [Own.app] at hc
      split at hc
      · rename_i e; subst e
        simp only [Option.some.injEq, Prod.mk.injEq] at hc
        obtain ⟨rfl, rfl, rfl⟩ := hc
        refine ⟨c, k, n, hcur, ?_⟩
        by_cases hm : m = 0
        · subst hm; exact .inl ⟨rfl, rfl, rfl⟩
        · exact .inr (by omega)
      · exact ⟨c', k', n', hc, .inl ⟨rfl, rfl, rfl⟩⟩
    · rfl
    · exact fun _ h => h
  have hg : Goes X w0 Ω (Ω.app t c k (n + m)) w (w.setRow c cs') := by
    refine ⟨hx, ⟨h.kept.os, h.kept.tape, h.kept.output, by rw [hsize]; exact h.kept.size, fun b hb hX => ?_⟩, h.ownB, h.ownA, fun b hb => by rw [hsize]; exact h.bnd b hb, h.uniq, fun b s hb => ?_, fun b hb hX => ?_, ⟨rfl, rfl, rfl, Nat.le_of_eq hsize.symm, fun b _ hm => setRow_other w c b _ (fun e => hm (e ▸ .inr ⟨t, p, ho⟩)), fun b _ hm => ⟨rfl, by simp only [Own.app]; exact if_neg (fun e => hm (by subst e; exact .inr ⟨t, p, ho⟩))⟩⟩, fun b s O hb hbh => ?_⟩
    · by_cases e : b = c
      · subst e
        rcases h.ownA b t p ho with h1 | h1
        · exact absurd hb (Nat.not_lt_of_le h1)
        · exact absurd h1 hX
      · rw [setRow_other w c b _ e]; exact h.kept.block b hb hX
    · have e : b ≠ c := fun e => by subst e; have hb : Ω.o b = .box s := hb; rw [ho] at hb; cases hb
      simp only [Own.app, if_neg e]; exact h.limB b s hb
    · have e : b ≠ c := fun e => by subst e; exact h.oldArr hb hX t p ho
      simp only [Own.app, if_neg e]; exact h.old b hb hX
    · have e : b ≠ c := fun e => by subst e; rw [ho] at hb; cases hb
      rw [setRow_other w c b _ e]; exact hbh
  refine ⟨h.goes hg (fun u l wr' hu => ?_), ?_⟩
  · rw [get_lenT] at hu
    split at hu
    · rename_i e; subst e
      rw [ht] at hu
      simp only [Option.map_some, Option.some.injEq, Prod.mk.injEq] at hu
      obtain ⟨rfl, rfl⟩ := hu
      exact ⟨c, k, T, cs', by simp [Own.app], ⟨p, ho⟩, setRow_heap w c old cs' T (0, 0) hh, by rw [hcs]; exact g4, hnm, by simp [Own.app], g7, g8⟩
    · rename_i e
      obtain ⟨c2, k2, T2, xs2, q1, ⟨p2, q2⟩, q3, q4, q5, q6, q7, q8⟩ := h.tok u l wr' hu
      have hne : c2 ≠ c := fun x => by subst x; rw [ho] at q2; injection q2 with q2; exact e q2.symm
      exact ⟨c2, k2, T2, xs2, by simp only [Own.app, if_neg e]; exact q1, ⟨p2, q2⟩, by rw [setRow_other w c c2 _ hne]; exact q3, q4, q5, by simp only [Own.app, if_neg hne]; exact q6, q7, q8⟩
  · simp only [Den]
    refine ⟨c, k - (n + m), p, by rw [List.length_append, hes, hfs]; congr 1; omega, ho, hsz, ?_, ?_⟩
    · intro c' k' n' hc
      simp only [Own.app, if_true, Option.some.injEq, Prod.mk.injEq] at hc
      obtain ⟨rfl, rfl, rfl⟩ := hc
      rw [List.length_append, hes, hfs]
      exact ⟨Nat.le_refl _, fun _ => ⟨rfl, by omega⟩⟩
    · refine DenE.append (DenE.ext hx es sz c 0 (by rw [ho]; simp) hE) (rowE (DenL.ext hx _ _ hd) hp (fun j y hj => ?_))
      have hjl : j < m * sz := by rw [← hyl]; exact (List.getElem?_eq_some_iff.1 hj).1
      rw [Nat.zero_add, hes]
      refine ⟨by simp only [Own.app, if_true, ← hsz, Nat.add_mul]; omega, ?_⟩
      rw [cell_setRow_same w c _ old cs' T (0, 0) hh, ← hw']
      have hl : (old.toList.take (n * sz)).length = n * sz := by rw [List.length_take, Array.length_toList]; omega
      rw [List.getElem?_toArray, List.append_assoc, List.getElem?_append_right (by rw [hl]; omega), hl, List.getElem?_append_left (by rw [hyl]; omega)]
      rw [show n * sz + j - n * sz = j by omega]
      exact hj

def Own.grow (Ω : Own) (b t k n : Nat) : Own where
  o c := if c = b then .arr t false else Ω.o c
  lim c := if c = b then n * Ω.tsz t else Ω.lim c
  cur u := if u = t then some (b, k, n) else Ω.cur u
  tsz := Ω.tsz
  yl := Ω.yl
/-- An append that moves the array. -/
theorem Inv.grow (h : Inv X w0 Ω w tm σ) {t n m sz k : Nat} {wr : Bool} (ht : get σ.tk t = some (n, wr)) (hsz : sz = Ω.tsz t) (hm : 0 < m) (new : Array Value) (T : TypeId) (hks : new.size = k * sz) (hnm : n + m ≤ k)
    {es fs : List (List V)} (hes : es.length = n) (hfs : fs.length = m) {ys : List Value} (hd : DenL Ω w (es ++ fs).flatten ys) (hp : ∀ cs ∈ es ++ fs, cs.length = sz ∧ cs.all V.pm = true)
    (hy : ∀ (j : Nat) (y : Value), ys[j]? = some y → new[j]? = some y) :
    Inv X w0 (Ω.grow w.heap.size t k (n + m)) (w.alloc (.cells new T)) tm { σ with tk := lenT t (n + m) σ.tk } ∧
      Den (Ω.grow w.heap.size t k (n + m)) (w.alloc (.cells new T)) (.sl (some t) sz (es ++ fs)) (.slice (some ⟨w.heap.size, 0, none⟩) (n + m) k) := by
  have hout := out_size h
  obtain ⟨c1, k1, T1, xs1, g1, ⟨p1, g2⟩, g3, g4, g5, g6, g7, g8⟩ := h.tok t n wr ht
  have hold : ∀ b, Ω.o b ≠ .out → b ≠ w.heap.size := fun b hb e => hb (e ▸ hout)
  have ho : ∀ b, Ω.o b ≠ .out → (Ω.grow w.heap.size t k (n + m)).o b = Ω.o b := fun b hb => by simp [Own.grow, hold b hb]
  have hl : ∀ b, Ω.o b ≠ .out → (Ω.grow w.heap.size t k (n + m)).lim b = Ω.lim b := fun b hb => by simp [Own.grow, hold b hb]
  have hx : Ext Ω (Ω.grow w.heap.size t k (n + m)) w (w.alloc (.cells new T)) := by
    constructor
    · intro b hb
      have hne := Own.froz_ne hb
      unfold Own.froz at hb ⊢
      rw [ho b hne]; exact hb
    · intro b hb; exact .inr (by rw [ho b (by simp [hb])]; exact hb)
    · intro b u p hb; exact ⟨p, by rw [ho b (by simp [hb])]; exact hb⟩
    · intro b s hb; rw [ho b (by simp [hb])]; exact hb
    · intro b hb; rw [hl b hb]; exact Nat.le_refl _
    · intro b off hb _; exact World.cell?_of_block (heap_alloc_lt w _ (h.bnd b hb))
    · intro b u p hb; rfl
    · intro b u p c' k' n' hb hc
      simp only [Own.grow] at hc
      split at hc
      · rename_i e; subst e
        simp only [Option.some.injEq, Prod.mk.injEq] at hc
        obtain ⟨rfl, rfl, rfl⟩ := hc
        exact ⟨c1, k1, n, g1, .inr (by omega)⟩
      · exact ⟨c', k', n', hc, .inl ⟨rfl, rfl, rfl⟩⟩
    · rfl
    · intro b hb; rw [ho b (by simp [hb])]; exact hb
  have hg : Goes X w0 Ω (Ω.grow w.heap.size t k (n + m)) w (w.alloc (.cells new T)) := by
    refine ⟨hx, kept_alloc h.kept _, fun b s hb => ?_, fun b u p hb => ?_, fun b hb => ?_, fun b b' s hb hb' => ?_, fun b s hb => ?_, fun b hb hX => ?_, ⟨rfl, rfl, rfl, by simp, fun b hb _ => heap_alloc_lt w _ hb, fun b hb _ => by
      simp only [Own.grow, if_neg (Nat.ne_of_lt hb), and_self]⟩, fun b s O hb hbh => ?_⟩
    · by_cases e : b = w.heap.size
      · subst e; exact .inl h.kept.size
      · simp only [Own.grow, if_neg e] at hb; exact h.ownB b s hb
    · by_cases e : b = w.heap.size
      · subst e; exact .inl h.kept.size
      · simp only [Own.grow, if_neg e] at hb; exact h.ownA b u p hb
    · by_cases e : b = w.heap.size
      · subst e; simp
      · simp only [Own.grow, if_neg e] at hb
        have := h.bnd b hb
        simp only [World.size_alloc]; omega
    · by_cases e : b = w.heap.size
      · simp [Own.grow, e] at hb
      · by_cases e' : b' = w.heap.size
        · simp [Own.grow, e'] at hb'
        · simp only [Own.grow, if_neg e, if_neg e'] at hb hb'
          exact h.uniq b b' s hb hb'
    · by_cases e : b = w.heap.size
      · simp [Own.grow, e] at hb
      · simp only [Own.grow, if_neg e] at hb ⊢; exact h.limB b s hb
    · simp only [Own.grow, if_neg (h.newNe hb)]; exact h.old b hb hX
    · rw [heap_alloc_lt w _ (h.bnd b (by simp [hb]))]; exact hbh
  have hlen : (es ++ fs).length = n + m := by rw [List.length_append, hes, hfs]
  refine ⟨h.goes hg (fun u l wr' hu => ?_), ?_⟩
  · rw [get_lenT] at hu
    split at hu
    · rename_i e; subst e
      rw [ht] at hu
      simp only [Option.map_some, Option.some.injEq, Prod.mk.injEq] at hu
      obtain ⟨rfl, rfl⟩ := hu
      refine ⟨w.heap.size, k, T, new, by simp [Own.grow], ⟨false, by simp [Own.grow]⟩, heap_alloc_new w _, by rw [hks, hsz]; rfl, hnm, by simp [Own.grow], g7, fun hw b q hb => ?_⟩
      simp only [Own.grow] at hb
      split at hb
      · injection hb with _ hb; exact hb.symm
      · exact g8 hw b q hb
    · rename_i e
      exact (h.tok u l wr' hu).old h hout (by simp only [Own.grow, if_neg e]) rfl (fun c hc => by simp only [Own.grow, if_neg hc]) (fun q => by simp only [Own.grow, if_true]; intro x; injection x with x; exact e x.symm) (fun c hc => by simp only [Own.grow, if_neg hc]) (fun c hc => heap_alloc_lt w _ hc)
  · simp only [Den]
    refine ⟨w.heap.size, k - (n + m), false, by rw [hlen]; congr 1; omega, by simp [Own.grow], hsz, ?_, ?_⟩
    · intro c' k' n' hc
      simp only [Own.grow, if_true, Option.some.injEq, Prod.mk.injEq] at hc
      obtain ⟨rfl, rfl, rfl⟩ := hc
      rw [hlen]
      exact ⟨Nat.le_refl _, fun _ => ⟨rfl, by omega⟩⟩
    · refine rowE (DenL.ext hx _ _ hd) hp (fun j y hj => ?_)
      have hjl : j < (n + m) * sz := by
        have := (List.getElem?_eq_some_iff.1 hj).1
        rw [hd.length, flatten_length (fun cs hc => (hp cs hc).1), hlen] at this
        exact this
      refine ⟨by simp only [Own.grow, if_true, ← hsz]; omega, ?_⟩
      simp only [Nat.zero_add, World.cell?_alloc_new]
      exact hy j y hj
end
end Go.Lo

/- Elements that are written; slots that are made anew. -/
namespace Go.Lo
section
variable {X : Sc} {w0 w w' : World} {Ω Ω' : Own} {tm : Array Value} {σ : St}

/-! ### An element is written -/
/-- Of the settled cells only those of the element i of block c have turned. -/
structure EstW (Ω : Own) (w w' : World) (t c n i sz : Nat) (e : List V) : Prop where
  cur : ∃ k, Ω.cur t = some (c, k, n)
  own : ∀ b p, Ω.o b = .arr t p → p = false
  tsz : Ω.tsz t = sz
  len : e.length = sz
  pm : e.all V.pm = true
  new : DenC Ω w' e c (i * sz)
  oth : ∀ b off, Ω.o b ≠ .out → (b ≠ c ∨ off < i * sz ∨ i * sz + sz ≤ off) → w'.cell? ⟨b, off, none⟩ = w.cell? ⟨b, off, none⟩
  isC : ∃ p, Ω.o c = .arr t p
theorem prepL_eq (ds : List Nat) : ∀ cs, prepL ds cs = cs.map (V.prep ds)
  | [] => rfl
  | c :: cs => by simp only [prepL, List.map_cons, prepL_eq ds cs]
theorem estL_eq (t n i : Nat) (e : List V) : ∀ cs, estL t n i e cs = cs.map (V.est t n i e)
  | [] => rfl
  | c :: cs => by simp only [estL, List.map_cons, estL_eq t n i e cs]
theorem killL_eq (t : Nat) : ∀ cs, killL t cs = cs.map (V.kill t)
  | [] => rfl
  | c :: cs => by simp only [killL, List.map_cons, killL_eq t cs]
theorem lookM_prep {ds : List Nat} (cs : List V) (m : Int) : lookM (prepL ds cs) m = (lookM cs m).map (V.prep ds) := by
  rw [prepL_eq]
  refine lookM_map _ (fun _ _ => rfl) (fun v hv q k x => ?_) cs m
  cases v
  case sl u sz es =>
    cases u with
    | none => simp only [V.prep, reduceCtorEq] at x
    | some u => simp only [V.prep] at x; repeat' split at x
                all_goals cases x
  all_goals first
    | exact absurd rfl (hv _ _)
    | (simp only [V.prep, reduceCtorEq] at x; done)
    | (simp only [V.prep] at x; split at x <;> cases x)
theorem lookM_est {t n i : Nat} {e : List V} (cs : List V) (m : Int) : lookM (estL t n i e cs) m = (lookM cs m).map (V.est t n i e) := by
  rw [estL_eq]
  refine lookM_map _ (fun _ _ => rfl) (fun v hv q k x => ?_) cs m
  cases v
  case sl u sz es =>
    cases u with
    | none => simp only [V.est, reduceCtorEq] at x
    | some u => simp only [V.est] at x; repeat' split at x
                all_goals cases x
  all_goals first
    | exact absurd rfl (hv _ _)
    | (simp only [V.est, reduceCtorEq] at x; done)
    | (simp only [V.est] at x; split at x <;> cases x)
theorem lookM_kill {t : Nat} (cs : List V) (m : Int) : lookM (killL t cs) m = (lookM cs m).map (V.kill t) := by
  rw [killL_eq]
  refine lookM_map _ (fun _ _ => rfl) (fun v hv q k x => ?_) cs m
  cases v
  case sl u sz es =>
    cases u with
    | none => simp only [V.kill, reduceCtorEq] at x
    | some u => simp only [V.kill] at x; repeat' split at x
                all_goals cases x
  all_goals first
    | exact absurd rfl (hv _ _)
    | (simp only [V.kill, reduceCtorEq] at x; done)
    | (simp only [V.kill] at x; split at x <;> cases x)
theorem EstW.ne {t c n i sz : Nat} {e : List V} (h : EstW Ω w w' t c n i sz e) {b : Nat} (hb : Ω.frozp b) : b ≠ c := by
  intro x
  subst x
  obtain ⟨p, hp⟩ := h.isC
  have := h.own b p hp
  subst this
  rcases hb with (hb | ⟨u, hb⟩) | hb <;> rw [hp] at hb <;> cases hb
theorem EstW.extP {t c n i sz : Nat} {e : List V} (h : EstW Ω w w' t c n i sz e) : ExtP Ω Ω w w' :=
  ⟨fun _ h => h, fun _ h => .inr h, fun _ _ => Nat.le_refl _, fun b off hb _ => h.oth b off (Own.frozp_ne hb) (.inl (h.ne hb)), fun b hb => ⟨hb, Nat.le_refl _, fun off _ => h.oth b off (by rw [hb]; simp) (.inl (fun e => by obtain ⟨p, hp⟩ := h.isC; rw [← e, hb] at hp; cases hp))⟩⟩
/-- Elements that are not touched. -/
theorem DenE.apart {b sz : Nat} (hx : ExtP Ω Ω w w') : ∀ {es : List (List V)} {off : Nat}, (∀ o, off ≤ o → o < off + es.length * sz → w'.cell? ⟨b, o, none⟩ = w.cell? ⟨b, o, none⟩) → DenE Ω w es sz b off → DenE Ω w' es sz b off
  | [], _, _, _ => by simp [DenE]
  | cs :: es, off, hc, hd => by
    simp only [DenE] at hd ⊢
    have hlen : (cs :: es).length * sz = sz + es.length * sz := by simp [Nat.add_mul]; omega
    refine ⟨hd.1, hd.2.1, ?_, DenE.apart hx (fun o h1 h2 => hc o (by omega) (by omega)) hd.2.2.2⟩
    have key : ∀ (vs : List V) (o : Nat), off ≤ o → o + vs.length ≤ off + sz → DenC Ω w vs b o → DenC Ω w' vs b o := by
      intro vs
      induction vs with
      | nil => intro _ _ _ _; simp [DenC]
      | cons v vs ih =>
        intro o h1 h2 h
        simp only [DenC] at h ⊢
        simp only [List.length_cons] at h2
        obtain ⟨⟨x, g1, g2, g3, g4, g5⟩, g6⟩ := h
        exact ⟨⟨x, g1, (hc o (by omega) (by omega)).trans g2, g3, g4, Den.extP hx v x g3 g5⟩, ih (o + 1) (by omega) (by omega) g6⟩
    exact key cs off (Nat.le_refl _) (by rw [hd.1]; exact Nat.le_refl _) hd.2.2.1
theorem DenE.setE {b sz : Nat} (hx : ExtP Ω Ω w w') {e : List V} (hl : e.length = sz) (hp : e.all V.pm = true) : ∀ {es : List (List V)} {off i : Nat}, i < es.length →
    (∀ o, off ≤ o → (o < off + i * sz ∨ off + i * sz + sz ≤ o) → w'.cell? ⟨b, o, none⟩ = w.cell? ⟨b, o, none⟩) → DenC Ω w' e b (off + i * sz) → DenE Ω w es sz b off → DenE Ω w' (es.set i e) sz b off
  | [], _, _, hi, _, _, _ => by simp at hi
  | cs :: es, off, 0, _, hc, he, hd => by
    simp only [DenE] at hd
    simp only [List.set_cons_zero, DenE]
    simp only [Nat.zero_mul, Nat.add_zero] at he hc
    exact ⟨hl, hp, he, DenE.apart hx (fun o h1 _ => hc o (by omega) (.inr h1)) hd.2.2.2⟩
  | cs :: es, off, i + 1, hi, hc, he, hd => by
    simp only [DenE] at hd
    simp only [List.set_cons_succ, DenE]
    have e1 : (i + 1) * sz = sz + i * sz := by rw [Nat.add_mul]; omega
    rw [e1] at hc he
    have hone : DenE Ω w [cs] sz b off := by simp only [DenE]; exact ⟨hd.1, hd.2.1, hd.2.2.1, trivial⟩
    have h1 := DenE.apart hx (es := [cs]) (off := off) (fun o h1 h2 => hc o h1 (.inl (by simp at h2; omega))) hone
    simp only [DenE] at h1
    refine ⟨h1.1, h1.2.1, h1.2.2.1, DenE.setE hx hl hp (by simpa using hi) (fun o g1 g2 => hc o (by omega) (by omega)) (by rw [show off + sz + i * sz = off + (sz + i * sz) by omega]; exact he) hd.2.2.2⟩
mutual
theorem Den.estD {t c n i sz : Nat} {e : List V} (h : EstW Ω w w' t c n i sz e) (hi : i < n) : ∀ (v : V) (x : Value), Den Ω w v x → Den Ω w' (V.est t n i e v) x
  | .und, _, hd => hd
  | .dead, _, _ => trivial
  | .bool _, _, hd => hd
  | .int _ _, _, hd => hd
  | .agg cs, x, hd => by
    simp only [Den, V.est] at hd ⊢
    obtain ⟨xs, h1, h2⟩ := hd
    exact ⟨xs, h1, DenL.estD h hi cs xs h2⟩
  | .tup cs, x, hd => by
    simp only [Den, V.est] at hd ⊢
    obtain ⟨xs, h1, h2⟩ := hd
    exact ⟨xs, h1, DenL.estD h hi cs xs h2⟩
  | .nil, _, hd => hd
  | .sl none sz es, x, hd => Den.extP h.extP _ _ rfl hd
  | .sl (some u) sz' es, x, hd => by
    simp only [V.est]
    obtain ⟨k, hcur⟩ := h.cur
    split
    · rename_i hu
      subst hu
      split
      · rename_i hn
        simp only [Den] at hd ⊢
        obtain ⟨b, cap, p, h1, h2, h3, h4, h5⟩ := hd
        have hb := (h4 c k n hcur)
        obtain ⟨rfl, rfl⟩ := hb.2 hn
        refine ⟨b, cap, p, by rw [List.length_set]; exact h1, h2, h3, by rw [List.length_set]; exact h4, ?_⟩
        have hs : sz' = sz := by rw [h3, h.tsz]
        subst hs
        exact DenE.setE h.extP h.len h.pm (by omega) (fun o _ ho => h.oth b o (by rw [h2]; simp) (.inr (by simpa using ho))) (by simpa using h.new) h5
      · simp only [Den]
    · rename_i hu
      simp only [Den] at hd ⊢
      obtain ⟨b, cap, p, h1, h2, h3, h4, h5⟩ := hd
      obtain ⟨q, hq⟩ := h.isC
      have hne : b ≠ c := fun x => by subst x; rw [h2] at hq; injection hq with hq; exact hu hq
      exact ⟨b, cap, p, h1, h2, h3, h4, DenE.extP h.extP es sz' b 0 (Nat.le_refl _) (fun o _ => h.oth b o (by rw [h2]; simp) (.inl hne)) h5⟩
  | .fn f cs, x, hd => by
    simp only [Den, V.est] at hd ⊢
    obtain ⟨xs, hg, h2⟩ := hd
    exact ⟨xs, hg, DenL.estD h hi cs xs h2⟩
  | .ref s off, x, hd => hd
  | .mref s, x, hd => hd
  | .cref cs, x, hd => Den.extP h.extP _ _ rfl hd
  | .gref cs, x, hd => Den.extP h.extP _ _ rfl hd
  | .bag sz es, x, hd => Den.extP h.extP _ _ rfl hd
  | .np, x, hd => hd
  | .eref u m j off cs, x, hd => by
    simp only [V.est]
    split
    · simp only [Den]
    · rename_i hu
      simp only [Den] at hd ⊢
      obtain ⟨b, p, h1, h2, h3, h4, h5, h5', h6⟩ := hd
      obtain ⟨q, hq⟩ := h.isC
      have hne : b ≠ c := fun x => by subst x; rw [h2] at hq; injection hq with hq; exact hu hq
      exact ⟨b, p, h1, h2, h3, h4, h5, h5', DenC.extP h.extP cs b _ (Nat.le_refl _) (fun o _ => h.oth b o (by rw [h2]; simp) (.inl hne)) h6⟩
  | .box _, _, hd => by simp only [Den] at hd
  | .mbox _, _, hd => by simp only [Den] at hd
theorem DenL.estD {t c n i sz : Nat} {e : List V} (h : EstW Ω w w' t c n i sz e) (hi : i < n) : ∀ (vs : List V) (xs : List Value), DenL Ω w vs xs → DenL Ω w' (estL t n i e vs) xs
  | [], _, hd => by simp only [DenL] at hd; subst hd; simp [DenL, estL]
  | v :: vs, xs, hd => by
    simp only [DenL, estL] at hd ⊢
    obtain ⟨x, ys, h1, h2, h3⟩ := hd
    exact ⟨x, ys, h1, Den.estD h hi v x h2, DenL.estD h hi vs ys h3⟩
end
theorem est_cell1 {t n i : Nat} {e : List V} : ∀ (v : V), v.cellOk = true → (V.est t n i e v).cellOk = true ∨ V.est t n i e v = .dead
  | .bool _, _ => .inl rfl
  | .int _ _, _ => .inl rfl
  | .nil, _ => .inl rfl
  | .sl none _ _, _ => .inl rfl
  | .sl (some u) sz es, _ => by
    simp only [V.est]
    split
    · split
      · exact .inl rfl
      · exact .inr rfl
    · exact .inl rfl
  | .fn _ _, _ => .inl rfl
  | .ref _ _, _ => .inl rfl
  | .cref _, _ => .inl rfl
  | .gref _, _ => .inl rfl
  | .np, _ => .inl rfl
  | .bag _ _, _ => .inl rfl
  | .eref u m j off cs, _ => by
    simp only [V.est]
    split
    · exact .inr rfl
    · exact .inl rfl
  | .und, h => by simp [V.cellOk] at h
  | .dead, h => by simp [V.cellOk] at h
  | .agg _, h => by simp [V.cellOk] at h
  | .tup _, h => by simp [V.cellOk] at h
  | .box _, h => by simp [V.cellOk] at h
  | .mbox _, h => by simp [V.cellOk] at h
  | .mref _, h => by simp [V.cellOk] at h
theorem est_cellOk {t n i : Nat} {e : List V} : ∀ {vs : List V}, (∀ v ∈ vs, v.cellOk = true ∨ v = .dead) → ∀ v ∈ estL t n i e vs, v.cellOk = true ∨ v = .dead
  | [], _, v, hv => by simp [estL] at hv
  | u :: vs, h, v, hv => by
    simp only [estL, List.mem_cons] at hv
    rcases hv with rfl | hv
    · rcases h u (by simp) with hu | rfl
      · exact est_cell1 u hu
      · exact .inr rfl
    · exact est_cellOk (fun v hv => h v (by simp [hv])) v hv

theorem Inv.est (h : Inv X w0 Ω w tm σ) {t c n i sz : Nat} {e : List V} (hw : EstW Ω w w' t c n i sz e) (hi : i < n) (hk : Kept X.x w0 w') (hs : w.heap.size ≤ w'.heap.size)
    (hb : ∀ b, b ≠ c → w'.heap[b]? = w.heap[b]?) (hc : ∀ xs T, w.heap[c]? = some (.cells xs T (0, 0)) → ∃ ys, w'.heap[c]? = some (.cells ys T (0, 0)) ∧ ys.size = xs.size) :
    Inv X w0 Ω w' tm { σ with fr := estF t n i e σ.fr } where
  kept := hk
  ownB := h.ownB
  ownA := h.ownA
  bnd b hb := Nat.lt_of_lt_of_le (h.bnd b hb) hs
  uniq := h.uniq
  limB := h.limB
  old := h.old
  out := X.st h.out ⟨⟨hk.os.trans h.kept.os.symm, hk.tape.trans h.kept.tape.symm, hk.output.trans h.kept.output.symm, hs, fun b _ hm => hb b (fun e => hm (by
    obtain ⟨p, hp⟩ := hw.isC
    exact e ▸ .inr ⟨t, p, hp⟩)), fun _ _ _ => ⟨rfl, rfl⟩⟩, ⟨fun _ h => h, fun _ _ => Nat.le_refl _, fun b off hb hl => hw.extP.cell b off (.inl hb) hl⟩, fun b hb => Nat.lt_of_lt_of_le (h.bnd b hb) hs, rfl, h.bnd⟩
  slot s v hv := by
    obtain ⟨u, hu, rfl⟩ := get_estF hv
    obtain ⟨h1, h2⟩ := h.slot s u hu
    refine ⟨h1, ?_⟩
    cases u <;> first
      | exact DenS.of (Den.estD hw hi _ _ h2)
      | (simp only [DenS, V.est] at h2 ⊢
         obtain ⟨b, xs, T, g1, g2, g3, g4, g5⟩ := h2
         obtain ⟨p, hp⟩ := hw.isC
         have hne : b ≠ c := fun x => by subst x; rw [g2] at hp; cases hp
         exact ⟨b, xs, T, g1, g2, by rw [hb b hne]; exact g3, DenL.estD hw hi _ _ g4, est_cellOk g5⟩)
      | (simp only [DenS, V.est] at h2 ⊢
         obtain ⟨b, es, clk, g1, g2, g3, g4⟩ := h2
         obtain ⟨p, hp⟩ := hw.isC
         have hne : b ≠ c := fun x => by subst x; rw [g2] at hp; cases hp
         exact ⟨b, es, clk, g1, g2, by rw [hb b hne]; exact g3, g4.mp (V.est t n i e) (fun n => lookM_est _ n) fun v x hv => Den.estD hw hi v x hv⟩)
  tok u l wr hu := by
    obtain ⟨c2, k2, T2, xs2, q1, q2, q3, q4, q5⟩ := h.tok u l wr hu
    by_cases hcc : c2 = c
    · subst hcc
      obtain ⟨ys, g1, g2⟩ := hc xs2 T2 q3
      exact ⟨c2, k2, T2, ys, q1, q2, g1, by rw [g2]; exact q4, q5⟩
    · exact ⟨c2, k2, T2, xs2, q1, q2, by rw [hb c2 hcc]; exact q3, q4, q5⟩

/-! ### Slots that are made anew -/
def Own.prep (Ω : Own) (ds : List Nat) : Own :=
  { Ω with o := fun b => match Ω.o b with
    | .box s => if memN s ds = true then .out else .box s
    | .arr t p => if memN (t / 100) ds = true then .frz else .arr t p
    | x => x }
theorem prep_frz {ds : List Nat} {b : Nat} (h : Ω.o b = .frz) : (Ω.prep ds).o b = .frz := by simp [Own.prep, h]
theorem prep_frzb {ds : List Nat} {b : Nat} (h : Ω.o b = .frzb) : (Ω.prep ds).o b = .frzb := by simp [Own.prep, h]
theorem prep_box {ds : List Nat} {b s : Nat} (h : (Ω.prep ds).o b = .box s) : Ω.o b = .box s ∧ memN s ds = false := by
  simp only [Own.prep] at h
  cases hb : Ω.o b <;> rw [hb] at h <;> simp only at h <;> try (cases h; done)
  · split at h
    · cases h
    · rename_i hm; injection h with h; subst h; exact ⟨rfl, by simpa using hm⟩
  · split at h <;> cases h
theorem prep_arr {ds : List Nat} {b t : Nat} {p : Bool} (h : (Ω.prep ds).o b = .arr t p) : Ω.o b = .arr t p ∧ memN (t / 100) ds = false := by
  simp only [Own.prep] at h
  cases hb : Ω.o b <;> rw [hb] at h <;> simp only at h <;> try (cases h; done)
  · split at h <;> cases h
  · split at h
    · cases h
    · rename_i hm; injection h with h1 h2; subst h1; subst h2; exact ⟨rfl, by simpa using hm⟩
theorem prep_ne {ds : List Nat} {b : Nat} (h : (Ω.prep ds).o b ≠ .out) : Ω.o b ≠ .out := by
  intro e; exact h (by simp [Own.prep, e])
theorem prep_froz {ds : List Nat} {b : Nat} (h : Ω.froz b) : (Ω.prep ds).froz b := by
  rcases h with h | ⟨t, h⟩
  · exact .inl (prep_frz h)
  · by_cases hm : memN (t / 100) ds = true
    · exact .inl (by simp [Own.prep, h, hm])
    · exact .inr ⟨t, by simp [Own.prep, h, hm]⟩
theorem prep_extP (ds : List Nat) : ExtP Ω (Ω.prep ds) w w :=
  ⟨fun _ h => prep_froz h, fun _ h => .inr (prep_frzb h), fun _ _ => Nat.le_refl _, fun _ _ _ _ => rfl, fun b h => ⟨by simp [Own.prep, h], Nat.le_refl _, fun _ _ => rfl⟩⟩
mutual
theorem Den.prepD {ds : List Nat} : ∀ (v : V) (x : Value), Den Ω w v x → Den (Ω.prep ds) w (v.prep ds) x
  | .und, _, hd => hd
  | .dead, _, _ => trivial
  | .bool _, _, hd => hd
  | .int _ _, _, hd => hd
  | .agg cs, x, hd => by
    simp only [Den, V.prep] at hd ⊢
    obtain ⟨xs, h1, h2⟩ := hd
    exact ⟨xs, h1, DenL.prepD cs xs h2⟩
  | .tup cs, x, hd => by
    simp only [Den, V.prep] at hd ⊢
    obtain ⟨xs, h1, h2⟩ := hd
    exact ⟨xs, h1, DenL.prepD cs xs h2⟩
  | .nil, _, hd => hd
  | .sl none sz es, x, hd => Den.extP (prep_extP ds) _ _ rfl hd
  | .sl (some t) sz es, x, hd => by
    simp only [V.prep]
    simp only [Den] at hd
    obtain ⟨b, cap, p, h1, h2, h3, h4, h5⟩ := hd
    split
    · rename_i hm
      simp only [Den]
      exact .inr ⟨b, 0, cap, h1, .inl (by simp [Own.prep, h2, hm]), DenE.extP (prep_extP ds) es sz b 0 (Nat.le_refl _) (fun _ _ => rfl) h5⟩
    · rename_i hm
      simp only [Den]
      exact ⟨b, cap, p, h1, by simp [Own.prep, h2, hm], h3, h4, DenE.extP (prep_extP ds) es sz b 0 (Nat.le_refl _) (fun _ _ => rfl) h5⟩
  | .fn f cs, x, hd => by
    simp only [Den, V.prep] at hd ⊢
    obtain ⟨xs, hg, h2⟩ := hd
    exact ⟨xs, hg, DenL.prepD cs xs h2⟩
  | .ref s off, x, hd => by
    simp only [V.prep]
    split
    · trivial
    · rename_i hm
      simp only [Den] at hd ⊢
      obtain ⟨b, h1, h2⟩ := hd
      exact ⟨b, h1, by simp [Own.prep, h2, hm]⟩
  | .mref s, x, hd => by
    simp only [V.prep]
    split
    · trivial
    · rename_i hm
      simp only [Den] at hd ⊢
      obtain ⟨b, h1, h2⟩ := hd
      exact ⟨b, h1, by simp [Own.prep, h2, hm]⟩
  | .cref cs, x, hd => Den.extP (prep_extP ds) _ _ rfl hd
  | .gref cs, x, hd => Den.extP (prep_extP ds) _ _ rfl hd
  | .bag sz es, x, hd => Den.extP (prep_extP ds) _ _ rfl hd
  | .np, x, hd => hd
  | .eref t n i off cs, x, hd => by
    simp only [V.prep]
    split
    · trivial
    · rename_i hm
      simp only [Den] at hd ⊢
      obtain ⟨b, p, h1, h2, h3, h4, h5, h5', h6⟩ := hd
      exact ⟨b, p, h1, by simp [Own.prep, h2, hm], h3, h4, h5, h5', DenC.extP (prep_extP ds) cs b _ (Nat.le_refl _) (fun _ _ => rfl) h6⟩
  | .box _, _, hd => by simp only [Den] at hd
  | .mbox _, _, hd => by simp only [Den] at hd
theorem DenL.prepD {ds : List Nat} : ∀ (vs : List V) (xs : List Value), DenL Ω w vs xs → DenL (Ω.prep ds) w (prepL ds vs) xs
  | [], _, hd => by simp only [DenL] at hd; subst hd; simp [DenL, prepL]
  | v :: vs, xs, hd => by
    simp only [DenL, prepL] at hd ⊢
    obtain ⟨x, ys, h1, h2, h3⟩ := hd
    exact ⟨x, ys, h1, Den.prepD v x h2, DenL.prepD vs ys h3⟩
end
theorem prep_cell1 {ds : List Nat} : ∀ (v : V), v.cellOk = true → (v.prep ds).cellOk = true ∨ v.prep ds = .dead
  | .bool _, _ => .inl rfl
  | .int _ _, _ => .inl rfl
  | .nil, _ => .inl rfl
  | .sl none _ _, _ => .inl rfl
  | .sl (some u) sz es, _ => by
    simp only [V.prep]
    split <;> exact .inl rfl
  | .fn _ _, _ => .inl rfl
  | .ref _ _, _ => by
    simp only [V.prep]
    split
    · exact .inr rfl
    · exact .inl rfl
  | .cref _, _ => .inl rfl
  | .gref _, _ => .inl rfl
  | .np, _ => .inl rfl
  | .bag _ _, _ => .inl rfl
  | .eref u m j off cs, _ => by
    simp only [V.prep]
    split
    · exact .inr rfl
    · exact .inl rfl
  | .und, h => by simp [V.cellOk] at h
  | .dead, h => by simp [V.cellOk] at h
  | .agg _, h => by simp [V.cellOk] at h
  | .tup _, h => by simp [V.cellOk] at h
  | .box _, h => by simp [V.cellOk] at h
  | .mbox _, h => by simp [V.cellOk] at h
  | .mref _, h => by simp [V.cellOk] at h
theorem prep_cellOk {ds : List Nat} : ∀ {vs : List V}, (∀ v ∈ vs, v.cellOk = true ∨ v = .dead) → ∀ v ∈ prepL ds vs, v.cellOk = true ∨ v = .dead
  | [], _, v, hv => by simp [prepL] at hv
  | u :: vs, h, v, hv => by
    simp only [prepL, List.mem_cons] at hv
    rcases hv with rfl | hv
    · rcases h u (by simp) with hu | rfl
      · exact prep_cell1 u hu
      · exact .inr rfl
    · exact prep_cellOk (fun v hv => h v (by simp [hv])) v hv
theorem Inv.prep (h : Inv X w0 Ω w tm σ) (ds : List Nat) : Inv X w0 (Ω.prep ds) w tm { σ with fr := prepF ds σ.fr, tk := prepT ds σ.tk } where
  kept := h.kept
  ownB b s hb := h.ownB b s (prep_box hb).1
  ownA b t p hb := h.ownA b t p (prep_arr hb).1
  bnd b hb := h.bnd b (prep_ne hb)
  uniq b b' s hb hb' := h.uniq b b' s (prep_box hb).1 (prep_box hb').1
  limB b s hb := h.limB b s (prep_box hb).1
  old b hb hX := by
    have h1 := h.old b hb hX
    refine ⟨?_, h1.2⟩
    rw [← h1.1]
    simp only [Own.prep]
    cases hb' : Ω.o b with
    | box s => exact (h.oldBox hb hX s hb').elim
    | arr t p => exact (h.oldArr hb hX t p hb').elim
    | _ => rfl
  out := X.st h.out ⟨⟨rfl, rfl, rfl, Nat.le_refl _, fun _ _ _ => rfl, fun b _ hm => ⟨by
    simp only [Own.prep]
    split
    · rename_i s hs; exact (hm (.inl ⟨s, hs⟩)).elim
    · rename_i t p hp; exact (hm (.inr ⟨t, p, hp⟩)).elim
    · rfl, rfl⟩⟩, ⟨fun _ hb => prep_froz hb, fun _ _ => Nat.le_refl _, fun _ _ _ _ => rfl⟩, fun b hb => h.bnd b (prep_ne hb), rfl, h.bnd⟩
  slot s v hv := by
    obtain ⟨hm, u, hu, rfl⟩ := get_prepF hv
    obtain ⟨h1, h2⟩ := h.slot s u hu
    refine ⟨h1, ?_⟩
    cases u <;> first
      | exact DenS.of (Den.prepD _ _ h2)
      | (simp only [DenS, V.prep] at h2 ⊢
         obtain ⟨b, xs, T, g1, g2, g3, g4, g5⟩ := h2
         exact ⟨b, xs, T, g1, by simp [Own.prep, g2, hm], g3, DenL.prepD _ _ g4, prep_cellOk g5⟩)
      | (simp only [DenS, V.prep] at h2 ⊢
         obtain ⟨b, es, clk, g1, g2, g3, g4⟩ := h2
         exact ⟨b, es, clk, g1, by simp [Own.prep, g2, hm], g3, g4.mp (V.prep ds) (fun n => lookM_prep _ n) fun v x hv => Den.prepD v x hv⟩)
  tok t n wr ht := by
    obtain ⟨hm, ht⟩ := get_prepT ht
    obtain ⟨c, k, T, xs, g1, ⟨p, g2⟩, g3, g4, g5, g6, g7, g8⟩ := h.tok t n wr ht
    exact ⟨c, k, T, xs, g1, ⟨p, by simp [Own.prep, g2, hm]⟩, g3, g4, g5, g6, g7, fun hw b q hb => g8 hw b q (prep_arr hb).1⟩
theorem fresh_prep {ds : List Nat} {d : Nat} (hd : memN d ds = true) : Fresh (Ω.prep ds) d := by
  refine ⟨fun b hb => ?_, fun b t p e hb => ?_⟩
  · have := (prep_box hb).2; rw [hd] at this; cases this
  · have := (prep_arr hb).2; rw [e, hd] at this; cases this

/-! ### An array is cut short -/
def Own.trunc (Ω : Own) (t c k n : Nat) : Own :=
  { Ω with lim := fun b => if b = c then n * Ω.tsz t else Ω.lim b, cur := fun u => if u = t then some (c, k, n) else Ω.cur u }
theorem trunc_extP {t c k n : Nat} (hc : ∃ p, Ω.o c = .arr t p) (hp : ∀ b p, Ω.o b = .arr t p → p = false) : ExtP Ω (Ω.trunc t c k n) w w := by
  have hne : ∀ b, Ω.frozp b → b ≠ c := by
    intro b hb e
    subst e
    obtain ⟨p, h1⟩ := hc
    have := hp b p h1
    subst this
    rcases hb with (hb | ⟨u, hb⟩) | hb <;> rw [h1] at hb <;> cases hb
  exact ⟨fun _ h => h, fun _ h => .inr h, fun b hb => by simp only [Own.trunc, if_neg (hne b hb)]; exact Nat.le_refl _, fun _ _ _ _ => rfl, fun b hb => ⟨hb, by
    have : b ≠ c := fun e => by obtain ⟨p, h1⟩ := hc; rw [← e, hb] at h1; cases h1
    simp only [Own.trunc, if_neg this]; exact Nat.le_refl _, fun _ _ => rfl⟩⟩
mutual
theorem Den.killD {t c k n : Nat} (hc : ∃ p, Ω.o c = .arr t p) (hp : ∀ b p, Ω.o b = .arr t p → p = false) : ∀ (v : V) (x : Value), Den Ω w v x → Den (Ω.trunc t c k n) w (v.kill t) x
  | .und, _, hd => hd
  | .dead, _, _ => trivial
  | .bool _, _, hd => hd
  | .int _ _, _, hd => hd
  | .agg cs, x, hd => by
    simp only [Den, V.kill] at hd ⊢
    obtain ⟨xs, h1, h2⟩ := hd
    exact ⟨xs, h1, DenL.killD hc hp cs xs h2⟩
  | .tup cs, x, hd => by
    simp only [Den, V.kill] at hd ⊢
    obtain ⟨xs, h1, h2⟩ := hd
    exact ⟨xs, h1, DenL.killD hc hp cs xs h2⟩
  | .nil, _, hd => hd
  | .sl none sz es, x, hd => Den.extP (trunc_extP hc hp) _ _ rfl hd
  | .sl (some u) sz es, x, hd => by
    simp only [V.kill]
    split
    · trivial
    · rename_i hm
      simp only [Den] at hd ⊢
      obtain ⟨b, cap, p, h1, h2, h3, h4, h5⟩ := hd
      have hbc : b ≠ c := fun e => by
        subst e
        obtain ⟨q, h6⟩ := hc
        rw [h2] at h6
        injection h6 with h6; exact hm h6
      refine ⟨b, cap, p, h1, h2, h3, by simp only [Own.trunc, if_neg hm]; exact h4, DenE.extP (trunc_extP hc hp) es sz b 0 ?_ (fun _ _ => rfl) h5⟩
      simp only [Own.trunc, if_neg hbc]; exact Nat.le_refl _
  | .fn f cs, x, hd => by
    simp only [Den, V.kill] at hd ⊢
    obtain ⟨xs, hg, h2⟩ := hd
    exact ⟨xs, hg, DenL.killD hc hp cs xs h2⟩
  | .ref s off, x, hd => by
    simp only [Den, V.kill] at hd ⊢
    exact hd
  | .mref s, x, hd => by
    simp only [Den, V.kill] at hd ⊢
    exact hd
  | .cref cs, x, hd => Den.extP (trunc_extP hc hp) _ _ rfl hd
  | .gref cs, x, hd => Den.extP (trunc_extP hc hp) _ _ rfl hd
  | .bag sz es, x, hd => Den.extP (trunc_extP hc hp) _ _ rfl hd
  | .np, x, hd => hd
  | .eref u m i off cs, x, hd => by
    simp only [V.kill]
    split
    · trivial
    · rename_i hm
      simp only [Den] at hd ⊢
      obtain ⟨b, p, h1, h2, h3, h4, h5, h5', h6⟩ := hd
      have hbc : b ≠ c := fun e => by
        subst e
        obtain ⟨q, h7⟩ := hc
        rw [h2] at h7
        injection h7 with h7; exact hm h7
      refine ⟨b, p, h1, h2, h3, by simp only [Own.trunc, if_neg hm]; exact h4, h5, h5', DenC.extP (trunc_extP hc hp) cs b _ ?_ (fun _ _ => rfl) h6⟩
      simp only [Own.trunc, if_neg hbc]; exact Nat.le_refl _
  | .box _, _, hd => by simp only [Den] at hd
  | .mbox _, _, hd => by simp only [Den] at hd
theorem DenL.killD {t c k n : Nat} (hc : ∃ p, Ω.o c = .arr t p) (hp : ∀ b p, Ω.o b = .arr t p → p = false) : ∀ (vs : List V) (xs : List Value), DenL Ω w vs xs → DenL (Ω.trunc t c k n) w (killL t vs) xs
  | [], _, hd => by simp only [DenL] at hd; subst hd; simp [DenL, killL]
  | v :: vs, xs, hd => by
    simp only [DenL, killL] at hd ⊢
    obtain ⟨x, ys, h1, h2, h3⟩ := hd
    exact ⟨x, ys, h1, Den.killD hc hp v x h2, DenL.killD hc hp vs ys h3⟩
end
theorem get_killF {t : Nat} : ∀ {l : List (Nat × V)} {s : Nat} {v : V}, get (killF t l) s = some v → ∃ u, get l s = some u ∧ v = u.kill t
  | [], s, v, h => by simp [killF, get] at h
  | (k, u) :: l, s, v, h => by
    simp only [killF, get] at h ⊢
    split at h
    · rename_i e; rw [if_pos e]; injection h with h; exact ⟨u, rfl, h.symm⟩
    · rename_i e; rw [if_neg e]; exact get_killF h
theorem kill_cell1 {t : Nat} : ∀ (v : V), v.cellOk = true → (v.kill t).cellOk = true ∨ v.kill t = .dead
  | .bool _, _ => .inl rfl
  | .int _ _, _ => .inl rfl
  | .nil, _ => .inl rfl
  | .sl none _ _, _ => .inl rfl
  | .sl (some u) sz es, _ => by
    simp only [V.kill]
    split
    · exact .inr rfl
    · exact .inl rfl
  | .fn _ _, _ => .inl rfl
  | .ref _ _, _ => .inl rfl
  | .cref _, _ => .inl rfl
  | .gref _, _ => .inl rfl
  | .np, _ => .inl rfl
  | .bag _ _, _ => .inl rfl
  | .eref u m j off cs, _ => by
    simp only [V.kill]
    split
    · exact .inr rfl
    · exact .inl rfl
  | .und, h => by simp [V.cellOk] at h
  | .dead, h => by simp [V.cellOk] at h
  | .agg _, h => by simp [V.cellOk] at h
  | .tup _, h => by simp [V.cellOk] at h
  | .box _, h => by simp [V.cellOk] at h
  | .mbox _, h => by simp [V.cellOk] at h
  | .mref _, h => by simp [V.cellOk] at h
theorem kill_cellOk {t : Nat} : ∀ {vs : List V}, (∀ v ∈ vs, v.cellOk = true ∨ v = .dead) → ∀ v ∈ killL t vs, v.cellOk = true ∨ v = .dead
  | [], _, v, hv => by simp [killL] at hv
  | u :: vs, h, v, hv => by
    simp only [killL, List.mem_cons] at hv
    rcases hv with rfl | hv
    · rcases h u (by simp) with hu | rfl
      · exact kill_cell1 u hu
      · exact .inr rfl
    · exact kill_cellOk (fun v hv => h v (by simp [hv])) v hv
theorem Inv.trunc (h : Inv X w0 Ω w tm σ) {t n m c k : Nat} (ht : get σ.tk t = some (n, true)) (hm : m ≤ n) (hcur : Ω.cur t = some (c, k, n)) : Inv X w0 (Ω.trunc t c k m) w tm { σ with fr := killF t σ.fr, tk := lenT t m σ.tk } := by
  obtain ⟨c0, k0, T, xs, g1, ⟨p, g2⟩, g3, g4, g5, g6, g7, g8⟩ := h.tok t n true ht
  rw [hcur] at g1
  simp only [Option.some.injEq, Prod.mk.injEq] at g1
  obtain ⟨rfl, rfl, _⟩ := g1
  have hc : ∃ p, Ω.o c = .arr t p := ⟨p, g2⟩
  exact {
    kept := h.kept
    ownB := h.ownB
    ownA := h.ownA
    bnd := h.bnd
    uniq := h.uniq
    limB := fun b s hb => by
      have hne : b ≠ c := fun e => by subst e; have hb : Ω.o b = .box s := hb; rw [g2] at hb; cases hb
      simp only [Own.trunc, if_neg hne]; exact h.limB b s hb
    old := fun b hb hX => by
      have hne : b ≠ c := fun e => by subst e; exact h.oldArr hb hX t p g2
      simp only [Own.trunc, if_neg hne]; exact h.old b hb hX
    out := X.st h.out ⟨⟨rfl, rfl, rfl, Nat.le_refl _, fun _ _ _ => rfl, fun b _ hm => ⟨rfl, by
      simp only [Own.trunc]; exact if_neg (fun e => hm (by subst e; exact .inr ⟨t, p, g2⟩))⟩⟩, ⟨fun _ hb => hb, fun b hb => (trunc_extP (w := w) hc (g8 rfl)).lim b (.inl hb), fun _ _ _ _ => rfl⟩, h.bnd, rfl, h.bnd⟩
    slot := fun s v hv => by
      obtain ⟨u, hu, rfl⟩ := get_killF hv
      obtain ⟨h1, h2⟩ := h.slot s u hu
      refine ⟨h1, ?_⟩
      cases u <;> first
        | exact DenS.of (Den.killD hc (g8 rfl) _ _ h2)
        | (simp only [DenS, V.kill] at h2 ⊢
           obtain ⟨b, ys, T', q1, q2, q3, q4, q5⟩ := h2
           exact ⟨b, ys, T', q1, q2, q3, DenL.killD hc (g8 rfl) _ _ q4, kill_cellOk q5⟩)
        | (simp only [DenS, V.kill] at h2 ⊢
           obtain ⟨b, es, clk, q1, q2, q3, q4⟩ := h2
           exact ⟨b, es, clk, q1, q2, q3, q4.mp (V.kill t) (fun n => lookM_kill _ n) fun v x hv => Den.killD hc (g8 rfl) v x hv⟩)
    tok := fun u l wr hu => by
      rw [get_lenT] at hu
      split at hu
      · rename_i e; subst e
        rw [ht] at hu
        simp only [Option.map_some, Option.some.injEq, Prod.mk.injEq] at hu
        obtain ⟨rfl, rfl⟩ := hu
        exact ⟨c, k, T, xs, by simp [Own.trunc], ⟨p, g2⟩, g3, g4, by omega, by simp [Own.trunc], g7, g8⟩
      · rename_i e
        obtain ⟨c2, k2, T2, xs2, q1, ⟨p2, q2⟩, q3, q4, q5, q6, q7, q8⟩ := h.tok u l wr hu
        have hne : c2 ≠ c := fun x => by subst x; rw [g2] at q2; injection q2 with q2; exact e q2.symm
        exact ⟨c2, k2, T2, xs2, by simp only [Own.trunc, if_neg e]; exact q1, ⟨p2, q2⟩, q3, q4, q5, by simp only [Own.trunc, if_neg hne]; exact q6, q7, q8⟩ }
/-- What is left of it. -/
theorem Den.cut (h : Inv X w0 Ω w tm σ) {t n m c k sz : Nat} (ht : get σ.tk t = some (n, true)) (hm : m ≤ n) (hcur : Ω.cur t = some (c, k, n)) (hsz : sz = Ω.tsz t) {es : List (List V)} (hn : es.length = n) (hE : DenE Ω w es sz c 0) :
    Den (Ω.trunc t c k m) w (.sl (some t) sz (es.take m)) (.slice (some ⟨c, 0, none⟩) m k) := by
  obtain ⟨c0, k0, T, xs, g1, ⟨p, g2⟩, g3, g4, g5, g6, g7, g8⟩ := h.tok t n true ht
  rw [hcur] at g1
  simp only [Option.some.injEq, Prod.mk.injEq] at g1
  obtain ⟨rfl, rfl, _⟩ := g1
  have hl : (es.take m).length = m := by rw [List.length_take]; omega
  have hT := hE.take m
  obtain ⟨ys, k1, k2⟩ := hT.cells.vals
  have hpm : ∀ cs ∈ es.take m, cs.length = sz ∧ cs.all V.pm = true := fun cs hcs => by
    obtain ⟨i, hi⟩ := List.getElem?_of_mem hcs
    obtain ⟨r1, r2, _⟩ := hT.get hi
    exact ⟨r1, r2⟩
  have hyl : ys.length = m * sz := by rw [k1.length, hT.length_flatten, hl]
  simp only [Den]
  refine ⟨c, k - m, p, by rw [hl]; congr 1; omega, g2, hsz, fun c' k' n' hc' => ?_, ?_⟩
  · simp only [Own.trunc, if_true, Option.some.injEq, Prod.mk.injEq] at hc'
    obtain ⟨rfl, rfl, rfl⟩ := hc'
    exact ⟨by omega, fun _ => ⟨rfl, by omega⟩⟩
  · refine rowE (ys := ys) ?_ hpm (fun j y hj => ⟨?_, k2 j y hj⟩)
    · have key : ∀ (vs : List V) (us : List Value), (∀ v ∈ vs, v.pm = true) → DenL Ω w vs us → DenL (Ω.trunc t c k m) w vs us := by
        intro vs
        induction vs with
        | nil => intro us _ h; simpa [DenL] using h
        | cons v vs ih =>
          intro us hp h
          simp only [DenL] at h
          obtain ⟨x, us', rfl, q2, q3⟩ := h
          exact DenL.cons (Den.extP (trunc_extP ⟨p, g2⟩ (g8 rfl)) v x (V.pm_pure (hp v (by simp))).1 q2) (ih us' (fun v hv => hp v (by simp [hv])) q3)
      refine key _ _ (fun v hv => ?_) k1
      obtain ⟨cs, hcs, hvc⟩ := List.mem_flatten.1 hv
      exact List.all_eq_true.1 (hpm cs hcs).2 v hvc
    · have := (List.getElem?_eq_some_iff.1 hj).1
      simp only [Own.trunc, if_true]
      rw [hyl, hsz] at this
      omega
end
end Go.Lo

/- Results of calls. -/
namespace Go.Lo
open Go.RowKit (Below)

/-- What is known of an own map at the start of a call: nothing may be written. -/
structure Base (Ω : Own) (w : World) : Prop where
  o : ∀ b, Ω.o b = .out ∨ Ω.o b = .frz ∨ Ω.o b = .frzb ∨ Ω.o b = .frg
  bnd : ∀ b, Ω.o b ≠ .out → b < w.heap.size
/-- What is known of the own map behind it. -/
structure ResOk (Ω Ω1 : Own) (w w1 : World) (R : V) : Prop where
  old : ∀ b, b < w.heap.size → Ω1.o b = Ω.o b ∧ Ω1.lim b = Ω.lim b
  bnd : ∀ b, Ω1.o b ≠ .out → b < w1.heap.size
  toks : ∀ k n, (k, n) ∈ R.tks → TokOk Ω1 w1 k n true
section
variable {X : Sc} {w0 w w1 : World} {Ω Ω1 : Own} {tm : Array Value} {σ : St}

theorem base_cOwn (h : Inv X w0 Ω w tm σ) : Base (cOwn Ω w) w := by
  constructor
  · intro b
    simp only [cOwn]
    cases hb : Ω.o b <;> simp
  · intro b hb
    refine h.bnd b (fun e => hb ?_)
    simp [cOwn, e]

def Own.res (Ω Ω1 : Own) (n d : Nat) (al : Bool) : Own where
  o b := if b < n then (match Ω.o b with
      | .arr t p => .arr t (p || al)
      | x => x)
    else match Ω1.o b with
      | .arr k p => if k < 100 then .arr (d * 100 + k) p else .frz
      | .frz => .frz
      | .frg => .frg
      | _ => .out
  lim b := if b < n then Ω.lim b else Ω1.lim b
  cur t := if t / 100 = d then Ω1.cur (t % 100) else Ω.cur t
  tsz t := if t / 100 = d then Ω1.tsz (t % 100) else Ω.tsz t
  yl := Ω.yl

theorem res_old {n d b : Nat} {al : Bool} (hb : b < n) : (Ω.res Ω1 n d al).o b = (match Ω.o b with
      | .arr t p => .arr t (p || al)
      | x => x) := by simp [Own.res, hb]
theorem res_box {n d b s : Nat} {al : Bool} (h : (Ω.res Ω1 n d al).o b = .box s) : b < n ∧ Ω.o b = .box s := by
  simp only [Own.res] at h
  split at h
  · rename_i hb
    refine ⟨hb, ?_⟩
    split at h
    · cases h
    · exact h
  · split at h
    · split at h <;> cases h
    · cases h
    · cases h
    · cases h
theorem res_arr {n d b t : Nat} {p al : Bool} (h : (Ω.res Ω1 n d al).o b = .arr t p) :
    (b < n ∧ ∃ q, Ω.o b = .arr t q ∧ p = (q || al)) ∨ (n ≤ b ∧ ∃ k, k < 100 ∧ t = d * 100 + k ∧ Ω1.o b = .arr k p) := by
  simp only [Own.res] at h
  split at h
  · rename_i hb
    refine .inl ⟨hb, ?_⟩
    split at h
    · rename_i u q hu
      injection h with h1 h2
      subst h1
      exact ⟨q, hu, h2.symm⟩
    · rename_i hne
      exact absurd h (hne _ _)
  · rename_i hb
    refine .inr ⟨Nat.le_of_not_lt hb, ?_⟩
    split at h
    · rename_i k q hk
      split at h
      · rename_i hk1
        injection h with h1 h2
        subst h2
        exact ⟨k, hk1, h1.symm, hk⟩
      · cases h
    · cases h
    · cases h
    · cases h
theorem res_ne {n d b : Nat} {al : Bool} (hb : b < n) (h : (Ω.res Ω1 n d al).o b ≠ .out) : Ω.o b ≠ .out := by
  intro e
  exact h (by rw [res_old hb, e])
theorem res_ne' {n d b : Nat} {al : Bool} (hb : ¬ b < n) (h : (Ω.res Ω1 n d al).o b ≠ .out) : Ω1.o b ≠ .out := by
  intro e
  exact h (by simp [Own.res, hb, e])

theorem goes_res (h : Inv X w0 Ω w tm σ) {d : Nat} (hf : ∀ b t p, t / 100 = d → Ω.o b ≠ .arr t p) (al : Bool) (hb : Below w.heap.size w w1) (hbnd : ∀ b, Ω1.o b ≠ .out → b < w1.heap.size) :
    Goes X w0 Ω (Ω.res Ω1 w.heap.size d al) w w1 := by
  have hcell : ∀ b off, b < w.heap.size → w1.cell? ⟨b, off, none⟩ = w.cell? ⟨b, off, none⟩ := fun b off hlt => hb.cell (p := ⟨b, off, none⟩) hlt
  constructor
  · constructor
    · intro b hfz
      have hlt := h.bnd b (Own.froz_ne hfz)
      rcases hfz with hfz | ⟨t, hfz⟩
      · exact .inl (by rw [res_old hlt, hfz])
      · exact .inr ⟨t, by rw [res_old hlt, hfz]; rfl⟩
    · intro b hfz
      have hlt := h.bnd b (by simp [hfz])
      exact .inr (by rw [res_old hlt, hfz])
    · intro b t p hfz
      have hlt := h.bnd b (by simp [hfz])
      exact ⟨p || al, by rw [res_old hlt, hfz]⟩
    · intro b s hfz
      have hlt := h.bnd b (by simp [hfz])
      rw [res_old hlt, hfz]
    · intro b hne
      have hlt := h.bnd b hne
      simp [Own.res, hlt]
    · intro b off hne _
      exact hcell b off (h.bnd b hne)
    · intro b t p hfz
      have : t / 100 ≠ d := fun e => hf b t p e hfz
      simp [Own.res, this]
    · intro b t p c k n hfz hc
      have : t / 100 ≠ d := fun e => hf b t p e hfz
      simp only [Own.res, if_neg this] at hc
      exact ⟨c, k, n, hc, .inl ⟨rfl, rfl, rfl⟩⟩
    · rfl
    · intro b hb; rw [res_old (h.bnd b (by simp [hb])), hb]
  · exact h.kept.trans ⟨hb.os, hb.tape, hb.output, hb.size, fun b hlt _ => hb.block b hlt⟩
  · intro b s hs
    obtain ⟨h1, h2⟩ := res_box hs
    exact h.ownB b s h2
  · intro b t p hp
    rcases res_arr hp with ⟨h1, q, h2, _⟩ | ⟨h1, _⟩
    · exact h.ownA b t q h2
    · exact .inl (Nat.le_trans h.kept.size h1)
  · intro b hne
    by_cases hlt : b < w.heap.size
    · exact Nat.lt_of_lt_of_le hlt hb.size
    · exact hbnd b (res_ne' hlt hne)
  · intro b b' s h1 h2
    exact h.uniq b b' s (res_box h1).2 (res_box h2).2
  · intro b s hs
    obtain ⟨h1, h2⟩ := res_box hs
    simp only [Own.res, if_pos h1]
    exact h.limB b s h2
  · intro b hlt hX
    have hlt' := Nat.lt_of_lt_of_le hlt h.kept.size
    have h1 := h.old b hlt hX
    refine ⟨?_, by simp only [Own.res, if_pos hlt']; exact h1.2⟩
    rw [res_old hlt', ← h1.1]
    cases hb' : Ω.o b with
    | arr t p => exact (h.oldArr hlt hX t p hb').elim
    | _ => rfl
  · refine ⟨hb.os, hb.tape, hb.output, hb.size, fun b hlt _ => hb.block b hlt, fun b hlt hm => ?_⟩
    refine ⟨?_, by simp only [Own.res, if_pos hlt]⟩
    rw [res_old hlt]
    split
    · rename_i t p hp; exact (hm (.inr ⟨t, p, hp⟩)).elim
    · rfl
  · intro b s O hs hh
    rw [hb.block b (h.bnd b (by simp [hs]))]
    exact hh

theorem get_addT : ∀ (l : List (Nat × Nat)) (tk : List (Nat × Nat × Bool)) (t n : Nat) (wr : Bool), get (addT l tk) t = some (n, wr) → ((t, n) ∈ l ∧ wr = true) ∨ (get tk t = some (n, wr))
  | [], tk, t, n, wr, h => .inr h
  | (u, m) :: r, tk, t, n, wr, h => by
    simp only [addT] at h
    rcases get_addT r _ t n wr h with ⟨h1, h2⟩ | h1
    · exact .inl ⟨by simp [h1], h2⟩
    · rw [get_put] at h1
      split at h1
      · rename_i e; subst e
        injection h1 with h1
        injection h1 with h1 h2
        subst h1; subst h2
        exact .inl ⟨by simp, rfl⟩
      · exact .inr h1
mutual
theorem rn_tks {d : Nat} : ∀ (v : V) {t n : Nat}, (t, n) ∈ (v.rn d).tks → ∃ k, t = d * 100 + k ∧ (k, n) ∈ v.tks
  | .agg cs, t, n, h => by simp only [V.rn, V.tks] at h ⊢; exact rnL_tks cs h
  | .tup cs, t, n, h => by simp only [V.rn, V.tks] at h ⊢; exact rnL_tks cs h
  | .sl (some k) sz es, t, n, h => by
    simp only [V.rn, V.tks, List.mem_singleton, Prod.mk.injEq] at h ⊢
    exact ⟨k, h.1, rfl, h.2⟩
  | .sl none _ _, _, _, h => by simp [V.rn, V.tks] at h
  | .und, _, _, h => by simp [V.rn, V.tks] at h
  | .dead, _, _, h => by simp [V.rn, V.tks] at h
  | .bool _, _, _, h => by simp [V.rn, V.tks] at h
  | .int _ _, _, _, h => by simp [V.rn, V.tks] at h
  | .nil, _, _, h => by simp [V.rn, V.tks] at h
  | .fn _ _, _, _, h => by simp [V.rn, V.tks] at h
  | .ref _ _, _, _, h => by simp [V.rn, V.tks] at h
  | .cref _, _, _, h => by simp [V.rn, V.tks] at h
  | .gref _, _, _, h => by simp [V.rn, V.tks] at h
  | .np, _, _, h => by simp [V.rn, V.tks] at h
  | .bag _ _, _, _, h => by simp [V.rn, V.tks] at h
  | .eref _ _ _ _ _, _, _, h => by simp [V.rn, V.tks] at h
  | .box _, _, _, h => by simp [V.rn, V.tks] at h
  | .mbox _, _, _, h => by simp [V.rn, V.tks] at h
  | .mref _, _, _, h => by simp [V.rn, V.tks] at h
theorem rnL_tks {d : Nat} : ∀ (vs : List V) {t n : Nat}, (t, n) ∈ tksL (rnL d vs) → ∃ k, t = d * 100 + k ∧ (k, n) ∈ tksL vs
  | [], _, _, h => by simp [rnL, tksL] at h
  | v :: vs, t, n, h => by
    simp only [rnL, tksL, List.mem_append] at h ⊢
    rcases h with h | h
    · obtain ⟨k, h1, h2⟩ := rn_tks v h
      exact ⟨k, h1, .inl h2⟩
    · obtain ⟨k, h1, h2⟩ := rnL_tks vs h
      exact ⟨k, h1, .inr h2⟩
end
theorem res_tok {d : Nat} (hf : ∀ b t p, t / 100 = d → Ω.o b ≠ .arr t p) {al : Bool} (hold : ∀ b, b < w.heap.size → Ω1.o b = (cOwn Ω w).o b)
    {k n : Nat} (hk : k < 100) (ht : TokOk Ω1 w1 k n true) : TokOk (Ω.res Ω1 w.heap.size d al) w1 (d * 100 + k) n true := by
  obtain ⟨c, cap, T, xs, g1, ⟨p, g2⟩, g3, g4, g5, g6, g7, g8⟩ := ht
  have hd1 : (d * 100 + k) / 100 = d := by omega
  have hd2 : (d * 100 + k) % 100 = k := by omega
  have hc : ¬ c < w.heap.size := by
    intro hlt
    have := hold c hlt
    rw [g2] at this
    simp only [cOwn] at this
    cases ho : Ω.o c <;> rw [ho] at this <;> simp at this
  have ho : (Ω.res Ω1 w.heap.size d al).o c = .arr (d * 100 + k) p := by simp [Own.res, hc, g2, hk]
  refine ⟨c, cap, T, xs, by simp [Own.res, hd1, hd2, g1], ⟨p, ho⟩, g3, by simp only [Own.res, hd1, hd2, if_true]; exact g4, g5, by simp only [Own.res, hd1, hd2, if_true, if_neg hc]; exact g6, by simp only [Own.res, hd1, hd2, if_true]; exact g7, fun _ b q hbq => ?_⟩
  rcases res_arr hbq with ⟨h1, q', h2, _⟩ | ⟨h1, k', hk', h2, h3⟩
  · exact absurd h2 (hf b _ q' hd1)
  · have : k' = k := by omega
    subst this
    exact g8 rfl b q h3
theorem res_tok_old (h : Inv X w0 Ω w tm σ) {d : Nat} (hf : ∀ b t p, t / 100 = d → Ω.o b ≠ .arr t p) {al : Bool} (hb : Below w.heap.size w w1)
    {t n : Nat} {wr wr' : Bool} (ht : TokOk Ω w t n wr) (hw : wr' = true → wr = true ∧ al = false) : TokOk (Ω.res Ω1 w.heap.size d al) w1 t n wr' := by
  obtain ⟨c, cap, T, xs, g1, ⟨p, g2⟩, g3, g4, g5, g6, g7, g8⟩ := ht
  have hd : t / 100 ≠ d := fun e => hf c t p e g2
  have hc := h.bnd c (by simp [g2])
  refine ⟨c, cap, T, xs, by simp only [Own.res, if_neg hd]; exact g1, ⟨p || al, by rw [res_old hc, g2]⟩, by rw [hb.block c hc]; exact g3, by simp only [Own.res, if_neg hd]; exact g4, g5, by simp only [Own.res, if_neg hd, if_pos hc]; exact g6, by simp only [Own.res, if_neg hd]; exact g7, fun hw' b q hbq => ?_⟩
  obtain ⟨hw1, hw2⟩ := hw hw'
  rcases res_arr hbq with ⟨h1, q', h2, h3⟩ | ⟨h1, k', hk', h2, h3⟩
  · rw [h3, g8 hw1 b q' h2, hw2]; rfl
  · exact absurd (by omega) hd

theorem res_extM {d : Nat} (hold : ∀ b, b < w.heap.size → Ω1.o b = (cOwn Ω w).o b ∧ Ω1.lim b = (cOwn Ω w).lim b) : ExtM Ω1 (Ω.res Ω1 w.heap.size d true) w1 w1 := by
  have key : ∀ b, Ω1.froz b → b < w.heap.size → Ω.o b = .frz ∨ ∃ t p, Ω.o b = .arr t p := by
    intro b hb hlt
    unfold Own.froz at hb
    rw [(hold b hlt).1] at hb
    simp only [cOwn] at hb
    cases ho : Ω.o b <;> rw [ho] at hb <;> simp at hb
    · exact .inl rfl
    · exact .inr ⟨_, _, rfl⟩
  refine ⟨fun b hb => ?_, fun b hb => ?_, fun _ _ _ _ => rfl⟩
  · by_cases hlt : b < w.heap.size
    · rcases key b hb hlt with ho | ⟨t, p, ho⟩
      · exact .inl (by rw [res_old hlt, ho])
      · exact .inr ⟨t, by rw [res_old hlt, ho]; simp⟩
    · rcases hb with hb | ⟨t, hb⟩
      · exact .inl (by simp [Own.res, hlt, hb])
      · by_cases hk : t < 100
        · exact .inr ⟨d * 100 + t, by simp [Own.res, hlt, hb, hk]⟩
        · exact .inl (by simp [Own.res, hlt, hb, hk])
  · by_cases hlt : b < w.heap.size
    · simp only [Own.res, if_pos hlt]
      rw [(hold b hlt).2]
      refine Nat.le_of_eq (cOwn_lim (fun s hs => ?_))
      rcases key b hb hlt with ho | ⟨t, p, ho⟩ <;> rw [hs] at ho <;> cases ho
    · simp [Own.res, hlt]
mutual
theorem Den.res {d : Nat} {al : Bool} (hold : ∀ b, b < w.heap.size → Ω1.o b = (cOwn Ω w).o b ∧ Ω1.lim b = (cOwn Ω w).lim b) :
    ∀ (v : V) (x : Value), v.pureR = true → (al = true ∨ v.al = false) → (∀ k n, (k, n) ∈ v.tks → k < 100) → Den Ω1 w1 v x → Den (Ω.res Ω1 w.heap.size d al) w1 (v.rn d) x
  | .bool _, _, _, _, _, hd => hd
  | .int _ _, _, _, _, _, hd => hd
  | .nil, _, _, _, _, hd => hd
  | .agg cs, x, hp, ha, hk, hd => by
    simp only [Den, V.rn] at hd ⊢
    obtain ⟨xs, h1, h2⟩ := hd
    exact ⟨xs, h1, DenL.res hold cs xs (by simpa [V.pureR] using hp) (by simpa [V.al] using ha) (by simpa [V.tks] using hk) h2⟩
  | .tup cs, x, hp, ha, hk, hd => by
    simp only [Den, V.rn] at hd ⊢
    obtain ⟨xs, h1, h2⟩ := hd
    exact ⟨xs, h1, DenL.res hold cs xs (by simpa [V.pureR] using hp) (by simpa [V.al] using ha) (by simpa [V.tks] using hk) h2⟩
  | .sl none sz es, x, hp, ha, hk, hd => by
    have ha : al = true := ha.resolve_right (by simp [V.al])
    subst ha
    exact Den.extM (res_extM hold) _ _ rfl hd
  | .sl (some k) sz es, x, hp, ha, hk, hd => by
    have hk1 := hk k es.length (by simp [V.tks])
    simp only [Den, V.rn] at hd ⊢
    obtain ⟨b, cap, p, h1, h2, h3, h4, h5⟩ := hd
    have hd1 : (d * 100 + k) / 100 = d := by omega
    have hd2 : (d * 100 + k) % 100 = k := by omega
    have hc : ¬ b < w.heap.size := by
      intro hlt
      have := (hold b hlt).1
      rw [h2] at this
      simp only [cOwn] at this
      cases ho : Ω.o b <;> rw [ho] at this <;> simp at this
    refine ⟨b, cap, p, h1, by simp [Own.res, hc, h2, hk1], by simp only [Own.res, hd1, hd2, if_true]; exact h3, by simp only [Own.res, hd1, hd2, if_true]; exact h4, ?_⟩
    have hl : Ω1.lim b ≤ (Ω.res Ω1 w.heap.size d al).lim b := by simp [Own.res, hc]
    rcases ha with ha | ha
    · subst ha
      exact DenE.extM (res_extM hold) es sz b 0 hl (fun _ _ => rfl) h5
    · exact DenE.flat es sz b 0 hl (fun _ _ => rfl) (by simpa [V.al] using ha) h5
  | .und, _, hp, _, _, _ => by simp [V.pureR] at hp
  | .dead, _, hp, _, _, _ => by simp [V.pureR] at hp
  | .fn (.f f) cs, x, hp, ha, hk, hd => by
    have ha : al = true := ha.resolve_right (by simp [V.al])
    subst ha
    simp only [Den, V.rn] at hd ⊢
    obtain ⟨xs, h1, h2⟩ := hd
    exact ⟨xs, h1, DenL.extMa (res_extM hold) cs xs (by simpa [V.pureR] using hp) h2⟩
  | .fn (.m _) _, _, hp, _, _, _ => by simp [V.pureR] at hp
  | .fn (.y _) _, _, hp, _, _, _ => by simp [V.pureR] at hp
  | .ref _ _, _, hp, _, _, _ => by simp [V.pureR] at hp
  | .cref _, _, hp, _, _, _ => by simp [V.pureR] at hp
  | .gref cs, x, hp, ha, hk, hd => by
    have ha : al = true := ha.resolve_right (by simp [V.al])
    subst ha
    exact Den.extM (res_extM hold) _ _ rfl hd
  | .np, _, _, _, _, hd => hd
  | .bag sz es, x, hp, ha, hk, hd => by
    simp only [Den, V.rn] at hd ⊢
    refine hd.mono fun b hb => ?_
    by_cases hlt : b < w.heap.size
    · have h1 := (hold b hlt).1
      rw [hb] at h1
      have ho : Ω.o b = .frg := by
        simp only [cOwn] at h1
        cases ho : Ω.o b <;> rw [ho] at h1 <;> first | rfl | (simp at h1; done)
      refine ⟨by rw [res_old hlt, ho], ?_, fun _ _ => rfl⟩
      simp only [Own.res, if_pos hlt]
      rw [(hold b hlt).2]
      exact Nat.le_of_eq (cOwn_lim (fun s hs => by rw [hs] at ho; cases ho))
    · exact ⟨by simp [Own.res, hlt, hb], by simp [Own.res, hlt], fun _ _ => rfl⟩
  | .eref _ _ _ _ _, _, hp, _, _, _ => by simp [V.pureR] at hp
  | .box _, _, hp, _, _, _ => by simp [V.pureR] at hp
  | .mbox _, _, hp, _, _, _ => by simp [V.pureR] at hp
  | .mref _, _, hp, _, _, _ => by simp [V.pureR] at hp
theorem DenL.res {d : Nat} {al : Bool} (hold : ∀ b, b < w.heap.size → Ω1.o b = (cOwn Ω w).o b ∧ Ω1.lim b = (cOwn Ω w).lim b) :
    ∀ (vs : List V) (xs : List Value), pureRL vs = true → (al = true ∨ alL vs = false) → (∀ k n, (k, n) ∈ tksL vs → k < 100) → DenL Ω1 w1 vs xs → DenL (Ω.res Ω1 w.heap.size d al) w1 (rnL d vs) xs
  | [], xs, _, _, _, hd => by simp only [DenL] at hd; subst hd; simp [rnL, DenL]
  | v :: vs, xs, hp, ha, hk, hd => by
    simp only [DenL] at hd
    obtain ⟨x, ys, rfl, h2, h3⟩ := hd
    simp only [pureRL] at hp
    split at hp
    · rename_i hv
      have ha1 : al = true ∨ v.al = false := by
        rcases ha with ha | ha
        · exact .inl ha
        · simp only [alL] at ha
          split at ha
          · cases ha
          · rename_i hq; exact .inr (by simpa using hq)
      have ha2 : al = true ∨ alL vs = false := by
        rcases ha with ha | ha
        · exact .inl ha
        · simp only [alL] at ha
          split at ha
          · cases ha
          · exact .inr ha
      simp only [rnL]
      exact DenL.cons (Den.res hold v x hv ha1 (fun k n hk' => hk k n (by simp [tksL, hk'])) h2) (DenL.res hold vs ys hp ha2 (fun k n hk' => hk k n (by simp [tksL, hk'])) h3)
    · cases hp
end
theorem Inv.res (h : Inv X w0 Ω w tm σ) {d : Nat} (hf : ∀ b t p, t / 100 = d → Ω.o b ≠ .arr t p) {al : Bool} {R : V} {x : Value} (hb : Below w.heap.size w w1) (hr : ResOk (cOwn Ω w) Ω1 w w1 R)
    (hd : Den Ω1 w1 R x) (hp : R.pureR = true) (hal : al = true ∨ R.al = false) (hk : ∀ k n, (k, n) ∈ R.tks → k < 100) :
    Inv X w0 (Ω.res Ω1 w.heap.size d al) w1 tm { σ with tk := addT (R.rn d).tks (if al = true then protAll σ.tk else σ.tk) } ∧ Den (Ω.res Ω1 w.heap.size d al) w1 (R.rn d) x := by
  refine ⟨h.goes (goes_res h hf al hb hr.bnd) (fun t n wr ht => ?_), Den.res hr.old R x hp hal hk hd⟩
  rcases get_addT _ _ t n wr ht with ⟨h1, h2⟩ | h1
  · subst h2
    obtain ⟨k, rfl, hk2⟩ := rn_tks R h1
    exact res_tok hf (fun b hlt => (hr.old b hlt).1) (hk k n hk2) (hr.toks k n hk2)
  · split at h1
    · rename_i ha
      rw [get_protAll] at h1
      cases hg : get σ.tk t with
      | none => rw [hg] at h1; cases h1
      | some y =>
        rw [hg] at h1
        simp only [Option.map_some, Option.some.injEq, Prod.mk.injEq] at h1
        obtain ⟨h1, h2⟩ := h1
        subst h1; subst h2
        exact res_tok_old h hf hb (h.tok t _ _ hg) (fun x => by cases x)
    · rename_i ha
      exact res_tok_old h hf hb (h.tok t n wr h1) (fun x => ⟨x, by simpa using ha⟩)
mutual
/-- A result that owns nothing and shares nothing. -/
theorem Den.bare {Ω' : Own} {w' : World} : ∀ (v : V) (x : Value), v.pureR = true → v.tks = [] → v.al = false → v.nb = true → Den Ω1 w1 v x → Den Ω' w' v x
  | .bool _, _, _, _, _, _, hd => hd
  | .int _ _, _, _, _, _, _, hd => hd
  | .nil, _, _, _, _, _, hd => hd
  | .agg cs, x, hp, ht, ha, hn, hd => by
    simp only [Den] at hd ⊢
    obtain ⟨xs, h1, h2⟩ := hd
    exact ⟨xs, h1, DenL.bare cs xs (by simpa [V.pureR] using hp) (by simpa [V.tks] using ht) (by simpa [V.al] using ha) (by simpa [V.nb] using hn) h2⟩
  | .tup cs, x, hp, ht, ha, hn, hd => by
    simp only [Den] at hd ⊢
    obtain ⟨xs, h1, h2⟩ := hd
    exact ⟨xs, h1, DenL.bare cs xs (by simpa [V.pureR] using hp) (by simpa [V.tks] using ht) (by simpa [V.al] using ha) (by simpa [V.nb] using hn) h2⟩
  | .sl none _ _, _, _, _, ha, _, _ => by simp [V.al] at ha
  | .sl (some k) _ _, _, _, ht, _, _, _ => by simp [V.tks] at ht
  | .und, _, hp, _, _, _, _ => by simp [V.pureR] at hp
  | .dead, _, hp, _, _, _, _ => by simp [V.pureR] at hp
  | .fn _ _, _, _, _, ha, _, _ => by simp [V.al] at ha
  | .ref _ _, _, hp, _, _, _, _ => by simp [V.pureR] at hp
  | .cref _, _, hp, _, _, _, _ => by simp [V.pureR] at hp
  | .gref _, _, _, _, ha, _, _ => by simp [V.al] at ha
  | .bag _ _, _, _, _, _, hn, _ => by simp [V.nb] at hn
  | .np, _, _, _, _, _, hd => hd
  | .eref _ _ _ _ _, _, hp, _, _, _, _ => by simp [V.pureR] at hp
  | .box _, _, hp, _, _, _, _ => by simp [V.pureR] at hp
  | .mbox _, _, hp, _, _, _, _ => by simp [V.pureR] at hp
  | .mref _, _, hp, _, _, _, _ => by simp [V.pureR] at hp
theorem DenL.bare {Ω' : Own} {w' : World} : ∀ (vs : List V) (xs : List Value), pureRL vs = true → tksL vs = [] → alL vs = false → nbL vs = true → DenL Ω1 w1 vs xs → DenL Ω' w' vs xs
  | [], xs, _, _, _, _, hd => by simpa [DenL] using hd
  | v :: vs, xs, hp, ht, ha, hn, hd => by
    simp only [DenL] at hd
    obtain ⟨x, ys, rfl, h2, h3⟩ := hd
    simp only [pureRL] at hp
    simp only [tksL, List.append_eq_nil_iff] at ht
    simp only [alL] at ha
    split at hp
    · rename_i hv
      split at ha
      · cases ha
      · rename_i hva
        simp only [nbL] at hn
        split at hn
        · rename_i hvn
          exact DenL.cons (Den.bare v x hv ht.1 (by simpa using hva) hvn h2) (DenL.bare vs ys hp ht.2 ha hn h3)
        · cases hn
    · cases hp
end
end
end Go.Lo

/- Operations: operands, and what each one yields. -/
namespace Go.Lo
open Go.RowKit (Below)
section
variable {P : Program} {X : Sc} {w0 w : World} {Ω : Own} {a : Act} {σ : St}

mutual
theorem valV_den : ∀ (x : Value) (v : V), valV x = some v → Den Ω w v x
  | .bool b, v, h => by simp only [valV] at h; injection h with h; subst h; simp [Den]
  | .int k n, v, h => by simp only [valV] at h; injection h with h; subst h; simp [Den]
  | .slice none 0 0, v, h => by simp only [valV] at h; injection h with h; subst h; simp [Den]
  | .agg ⟨l⟩, v, h => by
    simp only [valV] at h
    split at h
    · rename_i l' hl
      injection h with h; subst h
      simp only [Den]
      exact ⟨l, rfl, valVL_den l l' hl⟩
    · cases h
  | .slice none (n + 1) c, v, h => by simp [valV] at h
  | .slice none 0 (c + 1), v, h => by simp [valV] at h
  | .slice (some _) _ _, v, h => by simp [valV] at h
  | .float _ _, v, h => by simp [valV] at h
  | .complex _ _ _, v, h => by simp [valV] at h
  | .string _, v, h => by simp [valV] at h
  | .pointer none, v, h => by simp only [valV] at h; injection h with h; subst h; simp [Den]
  | .pointer (some _), v, h => by simp [valV] at h
  | .map none, v, h => by simp only [valV] at h; injection h with h; subst h; simp [Den]
  | .map (some _), v, h => by simp [valV] at h
  | .chan _, v, h => by simp [valV] at h
  | .func _ _ _, v, h => by simp [valV] at h
  | .nilFunc, v, h => by simp only [valV] at h; injection h with h; subst h; simp [Den]
  | .iface _ _, v, h => by simp [valV] at h
  | .nilIface, v, h => by simp only [valV] at h; injection h with h; subst h; simp [Den]
  | .tuple _, v, h => by simp [valV] at h
theorem valVL_den : ∀ (xs : List Value) (vs : List V), valVL xs = some vs → DenL Ω w vs xs
  | [], vs, h => by simp only [valVL] at h; injection h with h; subst h; exact DenL.nil
  | x :: xs, vs, h => by
    simp only [valVL] at h
    split at h
    · rename_i v' vs' hv hvs
      injection h with h; subst h
      exact DenL.cons (valV_den x v' hv) (valVL_den xs vs' hvs)
    · cases h
end

theorem opd_sound (h : Inv X w0 Ω w a.tmps σ) {x : Operand} {y : Opd} {v : V} (hc : opdC x = some y) (hv : opd σ.fr y = some v) : Den Ω w v (a.eval x) := by
  cases x with
  | tmp s =>
    simp only [opdC, Option.some.injEq] at hc
    subst hc
    simp only [opd] at hv
    cases hg : get σ.fr s with
    | none => rw [hg] at hv; cases hv
    | some u =>
      rw [hg] at hv
      obtain ⟨h1, h2⟩ := h.slot s u hg
      simp only [Act.eval]
      cases u <;> simp only [Option.some.injEq, reduceCtorEq] at hv <;> subst hv <;> first
        | exact h2
        | (simp only [DenS] at h2
           obtain ⟨b, xs, T, e1, e2, _⟩ := h2
           simp only [Den]
           exact ⟨b, e1, e2⟩)
        | (simp only [DenS] at h2
           obtain ⟨b, es, clk, e1, e2, _⟩ := h2
           simp only [Den]
           exact ⟨b, e1, e2⟩)
  | const c =>
    simp only [opdC] at hc
    cases hvc : valV c with
    | none => rw [hvc] at hc; cases hc
    | some v' =>
      rw [hvc] at hc
      simp only [Option.some.injEq] at hc
      subst hc
      simp only [opd, Option.some.injEq] at hv
      subst hv
      exact valV_den c v' hvc
  | func f =>
    simp only [opdC, Option.some.injEq] at hc
    subst hc
    simp only [opd, Option.some.injEq] at hv
    subst hv
    simp only [Den, DenL, Act.eval]
    exact ⟨[], rfl, rfl⟩
  | global g => simp [opdC] at hc
theorem opds_sound (h : Inv X w0 Ω w a.tmps σ) : ∀ {xs : List Operand} {ys : List Opd} {vs : List V}, opdsC xs = some ys → opds σ.fr ys = some vs → DenL Ω w vs (xs.map a.eval)
  | [], ys, vs, hc, hv => by
    simp only [opdsC, Option.some.injEq] at hc; subst hc
    simp only [opds, Option.some.injEq] at hv; subst hv
    exact DenL.nil
  | x :: xs, ys, vs, hc, hv => by
    simp only [opdsC] at hc
    split at hc
    · rename_i y ys' hy hys
      injection hc with hc; subst hc
      simp only [opds] at hv
      split at hv
      · rename_i v vs' h1 h2
        injection hv with hv; subst hv
        exact DenL.cons (opd_sound h hy h1) (opds_sound h hys h2)
      · cases hv
    · cases hc

/-! ### Cells of values -/
theorem Den.one : ∀ {v : V} {x : Value}, v.cellOk = true → Den Ω w v x → x.oneCell' = true
  | .bool _, x, _, h => by simp only [Den] at h; subst h; rfl
  | .int _ _, x, _, h => by simp only [Den] at h; subst h; rfl
  | .nil, x, _, h => by simp only [Den] at h; subst h; rfl
  | .sl none _ _, x, _, h => by
    simp only [Den] at h
    rcases h with ⟨_, _, rfl⟩ | ⟨_, _, _, rfl, _⟩ <;> rfl
  | .sl (some _) _ _, x, _, h => by simp only [Den] at h; obtain ⟨_, _, _, rfl, _⟩ := h; rfl
  | .fn (.f _) _, x, _, h => by simp only [Den, Fk.Is] at h; obtain ⟨_, rfl, _⟩ := h; rfl
  | .fn (.m _) _, x, _, h => by simp only [Den, Fk.Is] at h; obtain ⟨_, rfl, _⟩ := h; rfl
  | .fn (.y _) _, x, _, h => by simp only [Den, Fk.Is] at h; obtain ⟨_, ⟨_, _, rfl⟩, _⟩ := h; rfl
  | .ref _ _, x, _, h => by simp only [Den] at h; obtain ⟨_, rfl, _⟩ := h; rfl
  | .cref _, x, _, h => by simp only [Den] at h; obtain ⟨_, _, rfl, _⟩ := h; rfl
  | .gref _, x, _, h => by simp only [Den] at h; obtain ⟨_, _, rfl, _⟩ := h; rfl
  | .np, x, _, h => by simp only [Den] at h; subst h; rfl
  | .bag _ _, x, _, h => by simp only [Den] at h; obtain ⟨_, _, _, rfl⟩ := h.slice; rfl
  | .eref _ _ _ _ _, x, _, h => by simp only [Den] at h; obtain ⟨_, _, rfl, _⟩ := h; rfl
  | .und, _, hc, _ => by simp [V.cellOk] at hc
  | .dead, _, hc, _ => by simp [V.cellOk] at hc
  | .agg _, _, hc, _ => by simp [V.cellOk] at hc
  | .tup _, _, hc, _ => by simp [V.cellOk] at hc
  | .box _, _, hc, _ => by simp [V.cellOk] at hc
  | .mbox _, _, hc, _ => by simp [V.cellOk] at hc
  | .mref _, _, hc, _ => by simp [V.cellOk] at hc
theorem one_cells {x : Value} (h : x.oneCell' = true) : x.cells = #[x] := by
  cases x <;> simp [Value.oneCell'] at h <;> rfl
theorem DenL.one : ∀ {vs : List V} {xs : List Value}, vs.all V.cellOk = true → DenL Ω w vs xs → ∀ x ∈ xs, x.oneCell' = true
  | [], xs, _, h, x, hx => by simp only [DenL] at h; subst h; simp at hx
  | v :: vs, xs, hc, h, x, hx => by
    simp only [DenL] at h
    obtain ⟨y, ys, rfl, h2, h3⟩ := h
    simp only [List.all_cons, Bool.and_eq_true] at hc
    simp only [List.mem_cons] at hx
    rcases hx with rfl | hx
    · exact Den.one hc.1 h2
    · exact DenL.one hc.2 h3 x hx
theorem Den.cells {v : V} {x : Value} (hc : v.cells.all V.cellOk = true) (h : Den Ω w v x) : DenL Ω w v.cells x.cells.toList := by
  have key : v.cellOk = true → v.cells = [v] → DenL Ω w v.cells x.cells.toList := fun h1 h2 => by
    rw [h2, one_cells (Den.one h1 h)]
    exact DenL.cons h DenL.nil
  cases v <;> first
    | exact key (by simpa [V.cells] using hc) rfl
    | (simp only [Den] at h
       obtain ⟨xs, rfl, h2⟩ := h
       simpa [V.cells, Value.cells] using h2)
    | (simp [V.cells, V.cellOk] at hc)
theorem cells_cellOk {v : V} (hc : v.cells.all V.cellOk = true) : ∀ u ∈ v.cells, u.cellOk = true ∨ u = .dead :=
  fun u hu => .inl (List.all_eq_true.1 hc u hu)

/-- What an operation without a call comes to. -/
def Yields (P : Program) (X : Sc) (w0 : World) (Ω : Own) (w : World) (a : Act) (o : Oper) (σ' : St) (mk : Bool) : Prop :=
  ∃ x w' Ω', ((execOp a.eval o).run P w = .ok (.value x) w' ∨ ((execOp a.eval o).run P w = .ok .skip w' ∧ x = undef)) ∧
    Inv X w0 Ω' w' (a.put o.dst x).tmps σ' ∧ ∀ d, Fresh Ω d → (mk = true → o.dst ≠ some d) → Fresh Ω' d

/-- A value that is reckoned, in the very world. -/
theorem Yields.val (h : Inv X w0 Ω w a.tmps σ) {o : Oper} {v : V} {x : Value} {mk : Bool} (hd : ∀ d, o.dst = some d → d < a.tmps.size) (hr : (execOp a.eval o).run P w = .ok (.value x) w) (hv : Den Ω w v x) :
    Yields P X w0 Ω w a o (apply σ o.dst (.val v)) mk :=
  ⟨x, w, Ω, .inl hr, h.putO hd hv a rfl, fun _ h _ => h⟩
/-- The same, but for what is protected. -/
theorem Yields.prot (h : Inv X w0 Ω w a.tmps σ) {o : Oper} {v : V} {x : Value} {ps : List Nat} {mk : Bool} (hd : ∀ d, o.dst = some d → d < a.tmps.size) (hr : (execOp a.eval o).run P w = .ok (.value x) w) (hv : Den (Ω.prot ps) w v x) :
    Yields P X w0 Ω w a o (apply σ o.dst (.prot v ps)) mk := by
  refine ⟨x, w, Ω.prot ps, .inl hr, (h.prot ps).putO hd hv a rfl, fun d hf _ => ⟨fun b hb => hf.1 b (prot_box hb), fun b t p e hb => ?_⟩⟩
  obtain ⟨q, hq, _⟩ := prot_arr hb
  exact hf.2 b t q e hq
/-- A new box. -/
theorem Yields.box (h : Inv X w0 Ω w a.tmps σ) {o : Oper} {xs : List Value} {T : TypeId} {cs : List V} {d : Nat} (hdst : o.dst = some d) (hd : d < a.tmps.size) (hf : Fresh Ω d)
    (hr : (execOp a.eval o).run P w = .ok (.value (.pointer (some ⟨w.heap.size, 0, none⟩))) (w.alloc (.cells xs.toArray T))) (hc : DenL Ω w cs xs) (hk : ∀ v ∈ cs, v.cellOk = true ∨ v = .dead) :
    Yields P X w0 Ω w a o (apply σ o.dst (.val (.box cs))) true := by
  refine ⟨_, _, Ω.mkBox w.heap.size d, .inl hr, ?_, fun d' hf' hne => ?_⟩
  · simp only [apply, hdst, Lo.putO, Act.put]
    exact h.mkBox hd hf.1 xs T hc hk
  · have hne : d' ≠ d := fun e => hne rfl (e ▸ hdst)
    refine ⟨fun b hb => ?_, fun b t p e hb => ?_⟩
    · simp only [Own.mkBox] at hb
      split at hb
      · injection hb with hb; exact hne hb.symm
      · exact hf'.1 b hb
    · simp only [Own.mkBox] at hb
      split at hb
      · cases hb
      · exact hf'.2 b t p e hb
/-- A new array. -/
theorem Yields.arr (h : Inv X w0 Ω w a.tmps σ) {o : Oper} {c : Array Value} {T : TypeId} {d nd k n sz : Nat} {es : List (List V)} {ps : List Nat} (hdst : o.dst = some d) (hd : d < a.tmps.size) (hf : Fresh Ω d)
    (hr : (execOp a.eval o).run P w = .ok (.value (.slice (some ⟨w.heap.size, 0, none⟩) n k)) ((w.drewN nd).alloc (.cells c T))) (hc : c.size = k * sz) (hn : n ≤ k) (hsz : 0 < sz) (hes : es.length = n)
    {ys : List Value} (hden : DenL (Ω.prot ps) w es.flatten ys) (hp : ∀ cs ∈ es, cs.length = sz ∧ cs.all V.pm = true) (hy : ∀ (j : Nat) (y : Value), ys[j]? = some y → c[j]? = some y) :
    Yields P X w0 Ω w a o (apply σ o.dst (.mk (.sl (some (d * 100)) sz es) (d * 100) n ps)) true := by
  have h1 := (h.prot ps).drew nd
  have hfr : ∀ b p, (Ω.prot ps).o b ≠ .arr (d * 100) p := fun b p hb => by
    obtain ⟨q, hq, _⟩ := prot_arr hb
    exact hf.2 b (d * 100) q (by omega) hq
  have hden' : DenL (Ω.prot ps) (w.drewN nd) es.flatten ys := DenL.ext (goes_drew (h.prot ps) nd).ext _ _ hden
  obtain ⟨g1, g2⟩ := h1.mkArr (t := d * 100) (k := k) (n := n) (sz := sz) hfr c T hc hn hsz hes hden' hp hy
  refine ⟨_, _, (Ω.prot ps).mkArr w.heap.size (d * 100) k n sz, .inl hr, ?_, fun d' hf' hne => ?_⟩
  · simp only [apply]
    exact g1.putO (fun d' hd' => by rw [hdst] at hd'; injection hd' with hd'; subst hd'; exact hd) g2 a rfl
  · have hne : d' ≠ d := fun e => hne rfl (e ▸ hdst)
    refine ⟨fun b hb => ?_, fun b t p e hb => ?_⟩
    · simp only [Own.mkArr] at hb
      split at hb
      · cases hb
      · exact hf'.1 b (prot_box hb)
    · simp only [Own.mkArr] at hb
      split at hb
      · injection hb with hb _; subst hb; exact hne (by omega)
      · obtain ⟨q, hq, _⟩ := prot_arr hb
        exact hf'.2 b t q e hq
end
end Go.Lo
