/- The logical machine: values, states and the evaluator of compiled functions. -/
import Derived.TacticsIn
import Derived.OrdersIn
namespace Go.Lo

/-- What a function value runs: a function; one whose first arguments are bound; or the body of a range over a function: 0: every round goes on; k + 1: the round k stops. -/
inductive Fk where
  | f (n : Nat) | m (n : Nat) | y (a : Nat)
  deriving Inhabited, DecidableEq
/-- Logical values. A slice is its elements; 'tok' says which array of this frame it owns (none: never written again). -/
inductive V where
  | und | dead
  | bool (b : Bool)
  | int (k : IntKind) (n : Int)
  | agg (cs : List V)
  | tup (cs : List V)
  | nil
  | sl (tok : Option Nat) (sz : Nat) (es : List (List V))
  | fn (f : Fk) (caps : List V)
  | ref (s off : Nat)
  | cref (cs : List V)
  | eref (t n i off : Nat) (cs : List V)
  | box (cs : List V)
  deriving Inhabited

inductive Opd where
  | t (n : Nat) | c (v : V) | f (n : Nat)
  deriving Inhabited

inductive K where
  | mv | pick | box
  | alloc (zs : List V)
  | build (zs : List V) (pl : List (Nat × Nat))
  | bsl (sz : Nat) (z : List V) (len : Nat) (ix : List Nat)
  | load (n : Option Nat)
  | store (n : Nat) (root : Option Nat)
  | bin (ty : Nat) (op : BinOp)
  | eqs (ne : Bool) (sh : List (Option IntKind))
  | un (op : UnOp)
  | conv (k : IntKind)
  | mkf (f : Nat)
  | mkm (f : Nat)
  | fa (off : Nat)
  | fld (off : Nat) (n : Option Nat)
  | ixs (sz : Nat)
  | ixa (len sz : Nat)
  | idx (len sz : Nat) (n : Option Nat)
  | mks (sz bytes : Nat) (z : List V)
  | sls (sz : Nat) (lo hi mx : Bool)
  | sla (len sz : Nat) (lo hi mx : Bool)
  | ext (i : Nat)
  | call (dr al mk : Bool)
  | len | cap
  | append (dr : Bool) (sz bytes : Nat)
  | appz (sz bytes : Nat) (z : List V)
  | trunc (sz : Nat)
  | min | max
  | nilc
  | bad
  deriving Inhabited

structure LIns where
  dst : Option Nat
  k : K
  xs : List Opd
  guard : Option (Nat × Bool)
  ex : List Nat
  deriving Inhabited

inductive LCode where
  | skip
  | reg (lp : Bool) (ds pp : List Nat) (ops : List LIns) (kn : Nat) (kp : List Nat)
  | seq (a b : LCode)
  | cond (c : Opd) (a b : LCode)
  | block (id : Nat) (a : LCode)
  | loop (a : LCode)
  | rng (g : Opd) (ps wr : List Nat) (asg body : LCode)
  | exit (id : Nat)
  | ret
  | bad
  deriving Inhabited

inductive RV where
  | t (n : Nat)
  | c (s : Nat) (n : Option Nat)
  deriving Inhabited

structure LFun where
  np : Nat
  nt : Nat
  sl : List Nat
  body : LCode
  res : List RV
  deriving Inhabited

/-! ### Association lists -/
def get {α : Type} : List (Nat × α) → Nat → Option α
  | [], _ => none
  | (k, v) :: t, s => if k = s then some v else get t s
def put {α : Type} : List (Nat × α) → Nat → α → List (Nat × α)
  | [], s, v => [(s, v)]
  | (k, u) :: t, s, v => if k = s then (s, v) :: t else if s < k then (s, v) :: (k, u) :: t else (k, u) :: put t s v
def memN : Nat → List Nat → Bool
  | _, [] => false
  | s, k :: t => if k = s then true else memN s t
def keepL {α : Type} (n : Nat) (ks : List Nat) : List (Nat × α) → List (Nat × α)
  | [] => []
  | (k, v) :: t => if k < n then (k, v) :: keepL n ks t else if memN k ks = true then (k, v) :: keepL n ks t else keepL n ks t

structure St where
  fr : List (Nat × V)
  tk : List (Nat × Nat × Bool)
  tr : Option (List (List V)) := none
  deriving Inhabited

def V.cells : V → List V
  | .agg cs => cs
  | v => [v]
def V.cellOk : V → Bool
  | .bool _ => true
  | .int _ _ => true
  | .nil => true
  | .sl _ _ _ => true
  | .fn _ _ => true
  | .ref _ _ => true
  | .cref _ => true
  | .eref _ _ _ _ _ => true
  | _ => false

/-! ### Freezing: a value without owned arrays or boxes of this frame -/
mutual
/-- Of an element of an array: the tokens that it holds are listed (they may not be written any more). -/
def V.frzE : V → Option (V × List Nat)
  | .bool b => some (.bool b, [])
  | .int k n => some (.int k n, [])
  | .nil => some (.nil, [])
  | .sl none sz es => some (.sl none sz es, [])
  | .sl (some t) sz es => some (.sl none sz es, [t])
  | .agg cs => match frzEL cs with
    | some (cs', ts) => some (.agg cs', ts)
    | none => none
  | _ => none
def frzEL : List V → Option (List V × List Nat)
  | [] => some ([], [])
  | v :: vs => match v.frzE, frzEL vs with
    | some (v', ts), some (vs', us) => some (v' :: vs', ts ++ us)
    | _, _ => none
end
mutual
/-- Of an argument of a call: 'rd' reads a box of this frame, frozen. -/
def V.frz (rd : Nat → Option (List V)) : V → Option V
  | .bool b => some (.bool b)
  | .int k n => some (.int k n)
  | .nil => some .nil
  | .sl _ sz es => some (.sl none sz es)
  | .fn (.f f) cs => match frzL rd cs with
    | some cs' => some (.fn (.f f) cs')
    | none => none
  | .fn (.m f) cs => match frzL rd cs with
    | some cs' => some (.fn (.m f) cs')
    | none => none
  | .fn (.y _) _ => none
  | .agg cs => match frzL rd cs with
    | some cs' => some (.agg cs')
    | none => none
  | .ref s off => match rd s with
    | some cs => some (.cref (cs.drop off))
    | none => none
  | .cref cs => some (.cref cs)
  | _ => none
def frzL (rd : Nat → Option (List V)) : List V → Option (List V)
  | [] => some []
  | v :: vs => match v.frz rd, frzL rd vs with
    | some v', some vs' => some (v' :: vs')
    | _, _ => none
end
/-- A box, frozen, and the boxes that it leads to, so many deep. -/
def bxF (bx : Nat → Option (List V)) : Nat → Nat → Option (List V)
  | 0, _ => none
  | n + 1, s => match bx s with
    | some cs => frzL (bxF bx n) cs
    | none => none

/-! ### Tokens -/
mutual
def V.rn (d : Nat) : V → V
  | .agg cs => .agg (rnL d cs)
  | .tup cs => .tup (rnL d cs)
  | .sl (some k) sz es => .sl (some (d * 100 + k)) sz es
  | v => v
def rnL (d : Nat) : List V → List V
  | [] => []
  | v :: vs => v.rn d :: rnL d vs
end
mutual
/-- The arrays of a value: token and length. -/
def V.tks : V → List (Nat × Nat)
  | .agg cs => tksL cs
  | .tup cs => tksL cs
  | .sl (some k) _ es => [(k, es.length)]
  | _ => []
def tksL : List V → List (Nat × Nat)
  | [] => []
  | v :: vs => v.tks ++ tksL vs
end
/-- Numbers and truth values alone. -/
def V.flat : V → Bool
  | .bool _ => true
  | .int _ _ => true
  | _ => false
def flatE (es : List (List V)) : Bool := es.all fun cs => cs.all V.flat
def distinctN : List Nat → Bool
  | [] => true
  | d :: ds => if memN d ds = true then false else distinctN ds
mutual
/-- May it share memory with something that was there before? -/
def V.al : V → Bool
  | .agg cs => alL cs
  | .tup cs => alL cs
  | .sl none _ _ => true
  | .und => false
  | .bool _ => false
  | .int _ _ => false
  | .nil => false
  | .sl (some _) _ es => !flatE es
  | _ => true
def alL : List V → Bool
  | [] => false
  | v :: vs => if v.al = true then true else alL vs
end
mutual
/-- Behind the start of a region that makes the slots 'ds' anew. -/
def V.prep (ds : List Nat) : V → V
  | .agg cs => .agg (prepL ds cs)
  | .tup cs => .tup (prepL ds cs)
  | .box cs => .box (prepL ds cs)
  | .fn f cs => .fn f (prepL ds cs)
  | .sl (some t) sz es => if memN (t / 100) ds = true then .sl none sz es else .sl (some t) sz es
  | .ref s off => if memN s ds = true then .dead else .ref s off
  | .eref t n i off cs => if memN (t / 100) ds = true then .dead else .eref t n i off cs
  | v => v
def prepL (ds : List Nat) : List V → List V
  | [] => []
  | v :: vs => v.prep ds :: prepL ds vs
end
mutual
/-- Behind a store of 'e' into the element i of the array t, which has n. -/
def V.est (t n i : Nat) (e : List V) : V → V
  | .agg cs => .agg (estL t n i e cs)
  | .tup cs => .tup (estL t n i e cs)
  | .box cs => .box (estL t n i e cs)
  | .fn f cs => .fn f (estL t n i e cs)
  | .sl (some u) sz es => if u = t then (if es.length = n then .sl (some u) sz (es.set i e) else .dead) else .sl (some u) sz es
  | .eref u m j off cs => if u = t then .dead else .eref u m j off cs
  | v => v
def estL (t n i : Nat) (e : List V) : List V → List V
  | [] => []
  | v :: vs => V.est t n i e v :: estL t n i e vs
end
mutual
/-- Whoever holds the array t holds nothing that is known any more. -/
def V.kill (t : Nat) : V → V
  | .agg cs => .agg (killL t cs)
  | .tup cs => .tup (killL t cs)
  | .box cs => .box (killL t cs)
  | .fn f cs => .fn f (killL t cs)
  | .sl (some u) sz es => if u = t then .dead else .sl (some u) sz es
  | .eref u n i off cs => if u = t then .dead else .eref u n i off cs
  | v => v
def killL (t : Nat) : List V → List V
  | [] => []
  | v :: vs => v.kill t :: killL t vs
end
def killF (t : Nat) : List (Nat × V) → List (Nat × V)
  | [] => []
  | (k, v) :: r => (k, v.kill t) :: killF t r
mutual
/-- A result of a call. -/
def V.pureR : V → Bool
  | .bool _ => true
  | .int _ _ => true
  | .nil => true
  | .sl _ _ _ => true
  | .agg cs => pureRL cs
  | .tup cs => pureRL cs
  | _ => false
def pureRL : List V → Bool
  | [] => true
  | v :: vs => if v.pureR = true then pureRL vs else false
end
def prepF (ds : List Nat) : List (Nat × V) → List (Nat × V)
  | [] => []
  | (k, v) :: t => if memN k ds = true then prepF ds t else (k, v.prep ds) :: prepF ds t
def prepT (ds : List Nat) : List (Nat × Nat × Bool) → List (Nat × Nat × Bool)
  | [] => []
  | (k, x) :: t => if memN (k / 100) ds = true then prepT ds t else (k, x) :: prepT ds t
def estF (t n i : Nat) (e : List V) : List (Nat × V) → List (Nat × V)
  | [] => []
  | (k, v) :: r => (k, V.est t n i e v) :: estF t n i e r
def protT (ps : List Nat) : List (Nat × Nat × Bool) → List (Nat × Nat × Bool)
  | [] => []
  | (k, n, w) :: t => (if memN k ps = true then (k, n, false) else (k, n, w)) :: protT ps t
def protAll : List (Nat × Nat × Bool) → List (Nat × Nat × Bool)
  | [] => []
  | (k, n, _) :: t => (k, n, false) :: protAll t
def lenT (t m : Nat) : List (Nat × Nat × Bool) → List (Nat × Nat × Bool)
  | [] => []
  | (k, n, w) :: r => if k = t then (k, m, w) :: r else (k, n, w) :: lenT t m r
def addT : List (Nat × Nat) → List (Nat × Nat × Bool) → List (Nat × Nat × Bool)
  | [], tk => tk
  | (t, n) :: r, tk => addT r (put tk t (n, true))

/-! ### Operations -/
/-- Cells of the given kinds (none: truth values) are compared. -/
def eqSh : List (Option IntKind) → List V → List V → Option Bool
  | [], [], [] => some true
  | some k :: sh, .int k1 a :: cs, .int k2 b :: ds => if k1 = k ∧ k2 = k then (match eqSh sh cs ds with | some r => some (a == b && r) | none => none) else none
  | none :: sh, .bool a :: cs, .bool b :: ds => match eqSh sh cs ds with | some r => some (a == b && r) | none => none
  | _, _, _ => none
def intBits (op : BinOp) (k : IntKind) (x y : Int) : Option Int :=
  match op with
  | .and => some (k.wrap (BitVec.ofInt k.bits x &&& BitVec.ofInt k.bits y).toNat)
  | .or => some (k.wrap (BitVec.ofInt k.bits x ||| BitVec.ofInt k.bits y).toNat)
  | .xor => some (k.wrap (BitVec.ofInt k.bits x ^^^ BitVec.ofInt k.bits y).toNat)
  | .andNot => some (k.wrap (BitVec.ofInt k.bits x &&& ~~~ BitVec.ofInt k.bits y).toNat)
  | _ => none
def binI (op : BinOp) (k : IntKind) (a b : Int) : Option V :=
  match op with
  | .add => some (.int k (k.wrap (a + b)))
  | .sub => some (.int k (k.wrap (a - b)))
  | .mul => some (.int k (k.wrap (a * b)))
  | .quo => if b = 0 then none else some (.int k (k.wrap (a.tdiv b)))
  | .rem => if b = 0 then none else some (.int k (a.tmod b))
  | .eql => some (.bool (decide (a = b)))
  | .neq => some (.bool (decide (a ≠ b)))
  | .lss => some (.bool (decide (a < b)))
  | .leq => some (.bool (decide (a ≤ b)))
  | .gtr => some (.bool (decide (a > b)))
  | .geq => some (.bool (decide (a ≥ b)))
  | .and => match intBits .and k a b with | some r => some (.int k r) | none => none
  | .or => match intBits .or k a b with | some r => some (.int k r) | none => none
  | .xor => match intBits .xor k a b with | some r => some (.int k r) | none => none
  | .andNot => match intBits .andNot k a b with | some r => some (.int k r) | none => none
  | _ => none
def binS (op : BinOp) (k : IntKind) (a b : Int) : Option V :=
  if b < 0 then none else
  match op with
  | .shl => some (.int k (k.wrap (a * 2 ^ (Min.min b.toNat k.bits))))
  | .shr => some (.int k (a.fdiv (2 ^ (Min.min b.toNat k.bits))))
  | _ => none
/-- A slice beside nil. -/
def nilCmp (op : BinOp) (b : Bool) : Option V :=
  match op with
  | .eql => some (.bool b)
  | .neq => some (.bool (!b))
  | _ => none
/-- 'ty' tells the operands' type: 1 truth values, 2 slices. -/
def binV (ty : Nat) (op : BinOp) : V → V → Option V
  | .int k a, .int k' b =>
    match op with
    | .shl => binS .shl k a b
    | .shr => binS .shr k a b
    | _ => if k = k' then binI op k a b else none
  | .bool a, .bool b => if ty = 1 then (match op with
    | .eql => some (.bool (a == b))
    | .neq => some (.bool (!(a == b)))
    | _ => none) else none
  | .nil, .nil => if ty = 2 then nilCmp op true else none
  | .sl (some _) _ _, .nil => if ty = 2 then nilCmp op false else none
  | _, _ => none
def unV (op : UnOp) : V → Option V
  | .int k n => match op with
    | .neg => some (.int k (k.wrap (0 - n)))
    | _ => none
  | .bool b => match op with
    | .not => some (.bool (!b))
    | _ => none
  | _ => none
/-- A part of cells: one cell, or so many. -/
def partV (cs : List V) (off : Nat) : Option Nat → Option V
  | none => cs[off]?
  | some n => if off + n ≤ cs.length then some (.agg ((cs.drop off).take n)) else none
def splice (cs : List V) (off : Nat) (new : List V) : Option (List V) :=
  if off + new.length ≤ cs.length then some (cs.take off ++ new ++ cs.drop (off + new.length)) else none
def fill : List (Nat × Nat) → List V → List V → Option (List V)
  | [], [], cs => some cs
  | (off, n) :: pl, v :: vs, cs => if v.cells.length = n ∧ v.cells.all V.cellOk = true then (match splice cs off v.cells with | some cs' => fill pl vs cs' | none => none) else none
  | _, _, _ => none
/-- What may lie in an array: no pointer, no variable. -/
def V.pm : V → Bool
  | .bool _ => true
  | .int _ _ => true
  | .nil => true
  | .sl none _ _ => true
  | .fn (.f _) [] => true
  | _ => false
def fillE (sz : Nat) : List Nat → List V → List (List V) → Option (List (List V) × List Nat)
  | [], [], es => some (es, [])
  | i :: ix, v :: vs, es => match v.frzE with
    | some (v', ts) => if v'.cells.length = sz ∧ v'.cells.all V.pm = true ∧ i < es.length then (match fillE sz ix vs (es.set i v'.cells) with
        | some (es', us) => some (es', ts ++ us)
        | none => none) else none
    | none => none
  | _, _, _ => none

inductive Eff where
  | val (v : V)
  | mk (v : V) (t n : Nat) (ps : List Nat)
  | mkp (v : V) (d n : Nat)
  | trunc (v : V) (t h : Nat)
  | app (v : V) (t n : Nat)
  | prot (v : V) (ps : List Nat)
  | yld (a : Nat) (as : List V) (ps : List Nat)
  | sto (s : Nat) (cs : List V)
  | est (t n i : Nat) (e : List V)
  | res (v : V) (al : Bool)

def valO : Option V → Option Eff
  | some v => some (.val v)
  | none => none
def intsOf : List V → Option (IntKind × List Int)
  | [.int k n] => some (k, [n])
  | .int k n :: vs => match intsOf vs with
    | some (k', ns) => if k = k' then some (k, n :: ns) else none
    | none => none
  | _ => none
def maxL : Int → List Int → Int
  | a, [] => a
  | a, b :: l => maxL (if b > a then b else a) l
def minL : Int → List Int → Int
  | a, [] => a
  | a, b :: l => minL (if b < a then b else a) l
/-- The bounds of a slice expression: low, high (elements); 'n': how many may be asked for. -/
def bounds (len n : Nat) (lo hi mx : Bool) : List V → Option (Nat × Nat)
  | vs =>
    let a : Option (Int × List V) := if lo = true then (match vs with | .int _ i :: r => some (i, r) | _ => none) else some (0, vs)
    match a with
    | none => none
    | some (l, vs) =>
      let b : Option (Int × List V) := if hi = true then (match vs with | .int _ i :: r => some (i, r) | _ => none) else some (len, vs)
      match b with
      | none => none
      | some (h, vs) =>
        let c : Option (Int × List V) := if mx = true then (match vs with | .int _ i :: r => some (i, r) | _ => none) else some (n, vs)
        match c with
        | some (m, []) => if 0 ≤ l ∧ l ≤ h ∧ h ≤ m ∧ m ≤ n then some (l.toNat, h.toNat) else none
        | _ => none

/-- What lies at an address. -/
def loadV (bx : Nat → Option (List V)) (n : Option Nat) : V → Option V
  | .ref s off => match bx s with
    | some cs => partV cs off n
    | none => none
  | .cref cs => partV cs 0 n
  | .eref _ _ _ off cs => partV cs off n
  | _ => none
/-- A call of a function. -/
def callE (call : Nat → List V → Option V) (bx : Nat → Option (List V)) (d : Nat) (dr al mk : Bool) (f : Nat) (vs : List V) : Option Eff :=
  match frzL (bxF bx 4) vs with
  | some as => (match call f as with
    | some r => if r.pureR = true then (if mk = true then (if distinctN (r.tks.map (·.1)) = true ∧ (r.tks.all fun x => decide (x.1 < 100)) = true then
        (if al = true ∨ r.al = true then (if dr = true then none else some (.res (r.rn d) true)) else some (.res (r.rn d) false)) else none) else
        (if r.tks.isEmpty = true ∧ r.al = false then some (.val r) else none)) else none
    | none => none)
  | none => none
/-- What an operation does with its operands' values. -/
def sem (call : Nat → List V → Option V) (bx : Nat → Option (List V)) (tk : Nat → Option (Nat × Bool)) (d : Nat) (k : K) (vs : List V) : Option Eff :=
  match k with
  | .mv => match vs with
    | [v] => some (.val v)
    | _ => none
  | .pick => match vs with
    | [.bool c, a, b] => some (.val (if c = true then a else b))
    | _ => none
  | .box => match vs with
    | [v] => if v.cells.all V.cellOk = true then some (.val (.box v.cells)) else none
    | _ => none
  | .alloc zs => match vs with
    | [] => some (.val (.box zs))
    | _ => none
  | .build zs pl => match fill pl vs zs with
    | some cs => some (.val (.agg cs))
    | none => none
  | .bsl sz z len ix => match fillE sz ix vs (List.replicate len z) with
    | some (es, ps) => if ps.all (fun t => (tk t).isSome) = true then some (.mk (.sl (some (d * 100)) sz es) (d * 100) len ps) else none
    | none => none
  | .load n => match vs with
    | [v] => valO (loadV bx n v)
    | _ => none
  | .store n root => match vs with
    | [.ref s off, v] => if v.cells.length = n ∧ v.cells.all V.cellOk = true ∧ (root = none ∨ root = some s) then (match bx s with
      | some cs => (match splice cs off v.cells with | some cs' => some (.sto s cs') | none => none)
      | none => none) else none
    | [.eref t m i off cs, v] => (match root with
      | some _ => none
      | none => (match v.frzE, tk t with
        | some (v', []), some (m', true) => if m = m' ∧ v'.cells.length = n ∧ v'.cells.all V.pm = true then (match splice cs off v'.cells with
          | some cs' => some (.est t m i cs')
          | none => none) else none
        | _, _ => none))
    | _ => none
  | .bin ty op => match vs with
    | [x, y] => valO (binV ty op x y)
    | _ => none
  | .eqs ne sh => match vs with
    | [.agg cs, .agg ds] => (match eqSh sh cs ds with
      | some r => some (.val (.bool (ne != r)))
      | none => none)
    | _ => none
  | .un op => match vs with
    | [x] => valO (unV op x)
    | _ => none
  | .conv k => match vs with
    | [.int _ n] => some (.val (.int k (k.wrap n)))
    | _ => none
  | .mkf f => some (.val (.fn (.f f) vs))
  | .mkm f => some (.val (.fn (.m f) vs))
  | .fa off => match vs with
    | [.ref s o] => some (.val (.ref s (o + off)))
    | [.cref cs] => some (.val (.cref (cs.drop off)))
    | [.eref t n i o cs] => some (.val (.eref t n i (o + off) cs))
    | _ => none
  | .fld off n => match vs with
    | [.agg cs] => valO (partV cs off n)
    | _ => none
  | .ixs sz => match vs with
    | [.sl none sz' es, .int _ i] => if sz = sz' ∧ 0 ≤ i then (match es[i.toNat]? with
      | some cs => some (.val (.cref cs)) | none => none) else none
    | [.sl (some t) sz' es, .int _ i] => if sz = sz' ∧ 0 ≤ i then (match es[i.toNat]? with
      | some cs => some (.val (.eref t es.length i.toNat 0 cs)) | none => none) else none
    | _ => none
  | .ixa len sz => match vs with
    | [.ref s o, .int _ i] => if 0 ≤ i ∧ i < len then some (.val (.ref s (o + i.toNat * sz))) else none
    | [.cref cs, .int _ i] => if 0 ≤ i ∧ i < len then some (.val (.cref (cs.drop (i.toNat * sz)))) else none
    | [.eref t n j o cs, .int _ i] => if 0 ≤ i ∧ i < len then some (.val (.eref t n j (o + i.toNat * sz) cs)) else none
    | _ => none
  | .idx len sz n => match vs with
    | [.agg cs, .int _ i] => if 0 ≤ i ∧ i < len then valO (partV cs (i.toNat * sz) n) else none
    | _ => none
  | .mks sz bytes z => match vs with
    | [.int _ l, .int _ c] => if 0 ≤ l ∧ l ≤ c ∧ c * bytes ≤ 140737488355328 then
      some (.mk (.sl (some (d * 100)) sz (List.replicate l.toNat z)) (d * 100) l.toNat []) else none
    | _ => none
  | .sls sz0 lo hi mx => match vs with
    | .sl none sz es :: vs => if sz0 = sz then (match bounds es.length es.length lo hi mx vs with
      | some (l, h) => some (.val (.sl none sz ((es.take h).drop l)))
      | none => none) else none
    | .sl (some t) sz es :: vs => if sz0 = sz then (match bounds es.length es.length lo hi mx vs with
      | some (l, h) => if (tk t).isSome = true then some (.prot (.sl none sz ((es.take h).drop l)) [t]) else none
      | none => none) else none
    | .nil :: vs => (match bounds 0 0 lo hi mx vs with
      | some _ => some (.val .nil)
      | none => none)
    | _ => none
  | .ext i => match vs with
    | [.tup cs] => valO cs[i]?
    | _ => none
  | .call dr al mk => match vs with
    | .fn (.f f) caps :: vs => callE call bx d dr al mk f (vs ++ caps)
    | .fn (.m f) caps :: vs => callE call bx d dr al mk f (caps ++ vs)
    | .fn (.y a) [] :: vs => if dr = true then none else (match frzEL vs with
      | some (as, ps) => if ps.all (fun t => (tk t).isSome) = true ∧ (as.all fun v => v.cells.all V.pm) = true then some (.yld a as ps) else none
      | none => none)
    | _ => none
  | .len => match vs with
    | [.sl _ _ es] => some (.val (.int .i64 es.length))
    | [.nil] => some (.val (.int .i64 0))
    | _ => none
  | .cap => match vs with
    | [.nil] => some (.val (.int .i64 0))
    | _ => none
  | .append dr sz bytes => match vs with
    | [.nil, y] => (match y with
      | .nil => some (.val .nil)
      | .sl _ sz' ys => if sz = sz' then (match ys with
        | [] => some (.val .nil)
        | _ :: _ => if ys.length * bytes ≤ 140737488355328 then (if dr = true then some (.mk (.sl (some (d * 100)) sz ys) (d * 100) ys.length []) else some (.mkp (.sl (some (d * 100)) sz ys) d ys.length)) else none) else none
      | _ => none)
    | [.sl (some t) sz1 xs, y] => (match tk t with
      | some (n, _) => if n = xs.length ∧ sz = sz1 then (match y with
        | .nil => some (.val (.sl (some t) sz1 xs))
        | .sl _ sz' ys => if sz = sz' ∧ (xs.length + ys.length) * bytes ≤ 140737488355328 then (match ys with
          | [] => some (.val (.sl (some t) sz1 xs))
          | _ :: _ => some (.app (.sl (some t) sz1 (xs ++ ys)) t (xs.length + ys.length))) else none
        | _ => none) else none
      | none => none)
    | _ => none
  | .appz sz bytes z => match vs with
    | [.nil, .int _ n] => if 0 ≤ n ∧ n * bytes ≤ 140737488355328 then (if n = 0 then some (.val .nil) else some (.mkp (.sl (some (d * 100)) sz (List.replicate n.toNat z)) d n.toNat)) else none
    | _ => none
  | .trunc sz => match vs with
    | [.sl (some t) sz' es, .int _ h] => (match tk t with
      | some (n, true) => if sz = sz' ∧ n = es.length ∧ 0 ≤ h ∧ h ≤ es.length then some (.trunc (.sl (some t) sz' (es.take h.toNat)) t h.toNat) else none
      | _ => none)
    | _ => none
  | .max => match intsOf vs with
    | some (k, n :: ns) => some (.val (.int k (maxL n ns)))
    | _ => none
  | .min => match intsOf vs with
    | some (k, n :: ns) => some (.val (.int k (minL n ns)))
    | _ => none
  | .nilc => match vs with
    | [.ref s o] => some (.val (.ref s o))
    | [.cref cs] => some (.val (.cref cs))
    | [.eref t n i o cs] => some (.val (.eref t n i o cs))
    | [.fn f cs] => some (.val (.fn f cs))
    | _ => none
  | .sla _ _ _ _ _ => none
  | .bad => none

def opd (fr : List (Nat × V)) : Opd → Option V
  | .c v => some v
  | .f n => some (.fn (.f n) [])
  | .t s => match get fr s with
    | some (.box _) => some (.ref s 0)
    | some .dead => none
    | some v => some v
    | none => none
def opds (fr : List (Nat × V)) : List Opd → Option (List V)
  | [] => some []
  | x :: xs => match opd fr x, opds fr xs with
    | some v, some vs => some (v :: vs)
    | _, _ => none
def bxOf (fr : List (Nat × V)) (ex : List Nat) (s : Nat) : Option (List V) :=
  if memN s ex = true then none else match get fr s with
    | some (.box cs) => some cs
    | _ => none
def tkOf (tk : List (Nat × Nat × Bool)) (ex : List Nat) (t : Nat) : Option (Nat × Bool) :=
  if memN (t / 100) ex = true then none else get tk t
def putO (fr : List (Nat × V)) : Option Nat → V → List (Nat × V)
  | some d, v => put fr d v
  | none, _ => fr
def prep (lp : Bool) (ds : List Nat) (σ : St) : St :=
  match lp, ds with
  | true, d :: l => { σ with fr := prepF (d :: l) σ.fr, tk := prepT (d :: l) σ.tk }
  | _, _ => σ
/-- Does the round go on? -/
def goesOn (a : Nat) : Option (List (List V)) → Bool
  | some l => a != l.length + 1
  | none => true
def apply (σ : St) (dst : Option Nat) : Eff → St
  | .val v => { σ with fr := putO σ.fr dst v }
  | .mk v t n ps => { σ with fr := putO σ.fr dst v, tk := put (protT ps σ.tk) t (n, true) }
  | .mkp v d n => { prep true [d] σ with fr := putO (prep true [d] σ).fr dst v, tk := put (prep true [d] σ).tk (d * 100) (n, true) }
  | .trunc v t h => { σ with fr := putO (killF t σ.fr) dst v, tk := lenT t h σ.tk }
  | .app v t n => { σ with fr := putO σ.fr dst v, tk := lenT t n σ.tk }
  | .prot v ps => { σ with fr := putO σ.fr dst v, tk := protT ps σ.tk }
  | .yld a as ps => { σ with fr := putO σ.fr dst (.bool (goesOn a σ.tr)), tk := protT ps σ.tk, tr := σ.tr.map (· ++ [as]) }
  | .sto s cs => { σ with fr := putO (put σ.fr s (.box cs)) dst .und }
  | .est t n i e => { σ with fr := putO (estF t n i e σ.fr) dst .und }
  | .res v al => { σ with fr := putO σ.fr dst v, tk := addT v.tks (if al = true then protAll σ.tk else σ.tk) }
def wanted (fr : List (Nat × V)) : Option (Nat × Bool) → Option Bool
  | none => some true
  | some (s, b) => match get fr s with
    | some (.bool c) => some (c == b)
    | some .und => some false
    | _ => none
def stepI (call : Nat → List V → Option V) (i : LIns) (σ : St) : Option St :=
  match wanted σ.fr i.guard with
  | some true => match opds σ.fr i.xs with
    | some vs => (match sem call (bxOf σ.fr i.ex) (tkOf σ.tk i.ex) (i.dst.getD 0) i.k vs with
      | some e => some (apply σ i.dst e)
      | none => none)
    | none => none
  | some false => some { σ with fr := putO σ.fr i.dst .und }
  | none => none
def stepL (call : Nat → List V → Option V) : List LIns → St → Option St
  | [], σ => some σ
  | i :: is, σ => match stepI call i σ with
    | some σ' => stepL call is σ'
    | none => none

inductive Ex where
  | normal | exit (id : Nat) | ret

def iter (f : St → Option (Ex × St)) : Nat → St → Option (Ex × St)
  | 0, _ => none
  | n + 1, σ => match f σ with
    | some (.normal, σ') => iter f n σ'
    | r => r
def dropL {α : Type} (ks : List Nat) : List (Nat × α) → List (Nat × α)
  | [] => []
  | (k, v) :: t => if memN k ks = true then dropL ks t else (k, v) :: dropL ks t
def putA : List Nat → List V → List (Nat × V) → List (Nat × V)
  | p :: ps, v :: vs, fr => putA ps vs (put fr p v)
  | _, _, fr => fr
/-- A round of a range over a function. -/
def roundE (evA evB : St → Option (Ex × St)) (ps wr : List Nat) (σ : St) (as : List V) : Option (Ex × St) :=
  if as.length = ps.length then
    match evA { σ with fr := putA ps as (dropL wr σ.fr) } with
    | some (.normal, σ1) => match evB σ1 with
      | some (ex, σ2) => some (ex, { σ2 with fr := dropL wr σ2.fr })
      | none => none
    | _ => none
  else none
/-- The rounds, up to one that does not go on. -/
def foldR (f : St → List V → Option (Ex × St)) : Nat → St → List (List V) → Option (Option (Nat × Ex) × St)
  | _, σ, [] => some (none, σ)
  | k, σ, x :: xs => match f σ x with
    | some (.normal, σ') => foldR f (k + 1) σ' xs
    | some (ex, σ') => some (some (k, ex), σ')
    | none => none
def itemsL : List V → Option (List (List V))
  | [] => some []
  | .tup as :: r => match itemsL r with
    | some l => some (as :: l)
    | none => none
  | _ => none
def itemsOf : Option V → Option (List (List V))
  | some (.tup vs) => itemsL vs
  | _ => none
def rngE (f : St → List V → Option (Ex × St)) (it : Nat → Option V) (σ : St) : Option (Ex × St) :=
  match itemsOf (it 0) with
  | none => none
  | some items => match foldR f 0 σ items with
    | some (none, σ') => some (.normal, σ')
    | some (some (k, _), _) => (match itemsOf (it (k + 1)) with
      | none => none
      | some items' => match foldR f 0 σ items' with
        | some (some (k', ex), σ') => if k' = k ∧ items'.length = k + 1 then some (ex, σ') else none
        | _ => none)
    | none => none
def evC (call : Nat → List V → Option V) (N : Nat) : LCode → St → Option (Ex × St)
  | .skip, σ => some (.normal, σ)
  | .reg lp _ pp ops kn kp, σ => match stepL call ops (prep lp pp σ) with
    | some σ' => some (.normal, { σ' with fr := keepL kn kp σ'.fr })
    | none => none
  | .seq a b, σ => match evC call N a σ with
    | some (.normal, σ') => evC call N b σ'
    | r => r
  | .cond c a b, σ => match opd σ.fr c with
    | some (.bool t) => if t = true then evC call N a σ else evC call N b σ
    | _ => none
  | .block id a, σ => match evC call N a σ with
    | some (.exit j, σ') => if j = id then some (.normal, σ') else some (.exit j, σ')
    | r => r
  | .loop a, σ => iter (evC call N a) N σ
  | .rng g ps wr asg body, σ => match σ.tr, opd σ.fr g with
    | none, some (.fn (.f f) caps) => (match frzEL caps with
      | some (cs, ts) => if (cs.all fun v => v.cells.all V.pm) = true then
          rngE (roundE (evC call N asg) (evC call N body) ps wr) (fun a => call f (.fn (.y a) [] :: cs)) { σ with fr := dropL wr σ.fr, tk := protT ts σ.tk } else none
      | none => none)
    | none, some (.fn (.m f) caps) => (match frzEL caps with
      | some (cs, ts) => if (cs.all fun v => v.cells.all V.pm) = true then
          rngE (roundE (evC call N asg) (evC call N body) ps wr) (fun a => call f (cs ++ [.fn (.y a) []])) { σ with fr := dropL wr σ.fr, tk := protT ts σ.tk } else none
      | none => none)
    | _, _ => none
  | .exit id, σ => some (.exit id, σ)
  | .ret, σ => some (.ret, σ)
  | .bad, _ => none

/-! ### Functions -/
mutual
/-- A result: owned arrays are numbered anew (the first list); the others are given away for good (the second). -/
def V.fin (tk : List (Nat × Nat × Bool)) : V → List Nat × List Nat → Option (V × List Nat × List Nat)
  | .bool b, us => some (.bool b, us)
  | .int k n, us => some (.int k n, us)
  | .nil, us => some (.nil, us)
  | .sl none sz es, us => some (.sl none sz es, us)
  | .sl (some t) sz es, (us, gs) => if memN t us = true then none else
    if get tk t = some (es.length, true) ∧ memN t gs = false then some (.sl (some us.length) sz es, us ++ [t], gs) else some (.sl none sz es, us, t :: gs)
  | .agg cs, us => match finL tk cs us with
    | some (cs', us') => some (.agg cs', us')
    | none => none
  | _, _ => none
def finL (tk : List (Nat × Nat × Bool)) : List V → List Nat × List Nat → Option (List V × List Nat × List Nat)
  | [], us => some ([], us)
  | v :: vs, us => match v.fin tk us with
    | some (v', us') => (match finL tk vs us' with
      | some (vs', us'') => some (v' :: vs', us'')
      | none => none)
    | none => none
end
def rvs (fr : List (Nat × V)) : List RV → Option (List V)
  | [] => some []
  | .t n :: rs => match opd fr (.t n), rvs fr rs with
    | some v, some vs => some (v :: vs)
    | _, _ => none
  | .c s n :: rs => match get fr s, rvs fr rs with
    | some (.box cs), some vs => (match partV cs 0 n with | some v => some (v :: vs) | none => none)
    | _, _ => none
def one : List V → V
  | [v] => v
  | vs => .tup vs
def result (res : List RV) (σ : St) : Option V :=
  match rvs σ.fr res with
  | some vs => (match finL σ.tk vs ([], []) with
    | some (vs', _) => some (one vs')
    | none => none)
  | none => none
def params : Nat → List V → List (Nat × V)
  | _, [] => []
  | n, v :: vs => (n, v) :: params (n + 1) vs
/-- Slots of which nothing is known yet. -/
def deadL : List Nat → List (Nat × V)
  | [] => []
  | s :: l => (s, .dead) :: deadL l
/-- Is it called with the body of a range? -/
def ranged : List V → Bool
  | [] => false
  | .fn (.y _) _ :: _ => true
  | _ :: vs => ranged vs
def tupsL : List (List V) → List V
  | [] => []
  | as :: l => .tup as :: tupsL l
def finish (it : Bool) (res : List RV) (σ : St) : Option V :=
  if it = true then (if res.isEmpty = true then (match σ.tr with
    | some l => some (.tup (tupsL l))
    | none => none) else none) else result res σ
def evBody (call : Nat → List V → Option V) (N : Nat) (lf : LFun) (args : List V) : Option V :=
  if args.length = lf.np then
    match evC call N lf.body { fr := params 0 args ++ deadL lf.sl, tk := [], tr := if ranged args = true then some [] else none } with
    | some (.normal, σ) => finish (ranged args) lf.res σ
    | some (.ret, σ) => finish (ranged args) lf.res σ
    | _ => none
  else none
/-- 'F': functions that are told by a law of their own. -/
def evF (F : Nat → Option (List V → Option V)) (C : Nat → Option LFun) : Nat → Nat → List V → Option V
  | 0, _, _ => none
  | n + 1, f, args => match F f with
    | some g => g args
    | none => match C f with
      | some lf => evBody (evF F C n) n lf args
      | none => none

/-! ### What an instruction looks at and turns -/
def rootK : K → Option Nat
  | .store _ r => r
  | _ => none
def isAppK : K → Bool
  | .append _ _ _ => true
  | _ => false
/-- Fit for a region that draws its order. -/
def drawK : K → Bool
  | .store _ none => false
  | .call dr _ _ => dr
  | .append dr _ _ => dr
  | .appz _ _ _ => false
  | .trunc _ => false
  | _ => true
def mkK : K → Bool
  | .bsl _ _ _ _ => true
  | .mks _ _ _ => true
  | .append _ _ _ => true
  | .call _ _ mk => mk
  | _ => false
def slotsL : List Opd → List Nat
  | [] => []
  | .t n :: xs => n :: slotsL xs
  | _ :: xs => slotsL xs
def looksL (i : LIns) : List Nat :=
  match i.guard with
  | some (g, _) => g :: slotsL i.xs
  | none => slotsL i.xs
/-- 'x' does not disturb 'y'. -/
def quietL (x y : LIns) : Bool :=
  (match x.dst with
   | some d => !memN d (looksL y) && y.dst != some d && rootK y.k != some d && memN d y.ex
   | none => true) &&
  (match rootK x.k with
   | some r => memN r y.ex && rootK y.k != some r && y.dst != some r
   | none => true) &&
  drawK x.k && (!mkK x.k || x.dst.isSome)
def apartL (x y : LIns) : Bool := quietL x y && quietL y x && !(isAppK x.k && isAppK y.k)

/-- Whatever is not ordered stands apart; 'b': which come before. -/
def drawOkL (b : Array Nat) (is : List LIns) : Bool :=
  is.zipIdx.all fun (y, i) => is.zipIdx.all fun (x, k) => if k < i && !((b.getD i 0).testBit k) then apartL x y else true
end Go.Lo
