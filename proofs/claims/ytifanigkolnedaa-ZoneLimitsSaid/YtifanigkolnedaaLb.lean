/- Loaded code is compiled for the logical machine: types are looked up once. -/
import Derived.Test.YtifanigkolnedaaLa
namespace Go.Lo
variable (P : Program)

mutual
def valV : Value → Option V
  | .bool b => some (.bool b)
  | .int k n => some (.int k n)
  | .slice none 0 0 => some .nil
  | .nilFunc => some .dead
  | .nilIface => some .dead
  | .pointer none => some .dead
  | .map none => some .dead
  | .agg cs => match cs with
    | ⟨l⟩ => match valVL l with
      | some l' => some (.agg l')
      | none => none
  | _ => none
def valVL : List Value → Option (List V)
  | [] => some []
  | v :: vs => match valV v, valVL vs with
    | some v', some vs' => some (v' :: vs')
    | _, _ => none
end
def opdC : Operand → Option Opd
  | .tmp t => some (.t t)
  | .const v => match valV v with | some v' => some (.c v') | none => none
  | .func f => some (.f f)
  | .global _ => none
def opdsC : List Operand → Option (List Opd)
  | [] => some []
  | x :: xs => match opdC x, opdsC xs with
    | some y, some ys => some (y :: ys)
    | _, _ => none
/-- The size, if the zero value can be told: so many cells, and all of them plain. -/
def zeroC (t : TypeId) : Option V :=
  match P.info? t with
  | some i => match i.zero with
    | some z => match valV z with
      | some v => if v.cells.length = i.size ∧ v.cells.all V.cellOk = true then some v else none
      | none => none
    | none => none
  | none => none
/-- The zero value of what may lie in an array. -/
def zeroE (t : TypeId) : Option V :=
  match zeroC P t with
  | some z => if z.cells.all V.pm = true then some z else none
  | none => none
/-- The cells of the zero value; those that can't be told are unknown. -/
def zeroD (t : TypeId) : Option (List V) :=
  match P.info? t with
  | some i => match i.zero with
    | some z => some (z.cells.toList.map fun x => match valV x with
      | some v => if v.cellOk then v else .dead
      | none => .dead)
    | none => none
  | none => none
def sizeC (t : TypeId) : Option Nat := (P.info? t).map (·.size)
def bytesC (t : TypeId) : Option Nat := (P.info? t).map (·.bytes)
/-- How a variable of the type is read: one cell, or so many. -/
def nC (t : TypeId) : Option (Option Nat) :=
  match P.underlying t, sizeC P t with
  | some (.struct _), some n => some (some n)
  | some (.array _ _), some n => some (some n)
  | some _, some n => if n = 1 then some none else none
  | _, _ => none
def elemC (t : TypeId) : Option TypeId :=
  match P.underlying t with
  | some (.slice e) => some e
  | _ => none
/-- Values of the type are compared cell by cell: the kinds of the cells. -/
def shapeFs (fl : TypeId → Option (List (Option IntKind))) : List Field → Nat → Option (List (Option IntKind))
  | [], _ => some []
  | f :: fs, o => match fl f.type with
    | some sh => if f.offset = o ∧ f.name ≠ "_" then (match shapeFs fl fs (o + sh.length) with
      | some sh' => some (sh ++ sh')
      | none => none) else none
    | none => none
def sized (t : TypeId) (sh : List (Option IntKind)) : Option (List (Option IntKind)) := if sizeC P t = some sh.length then some sh else none
def shapeC : Nat → TypeId → Option (List (Option IntKind))
  | 0, _ => none
  | d + 1, t => match P.underlying t with
    | some .bool => sized P t [none]
    | some (.int k) => sized P t [some k]
    | some (.struct fs) => if P.stoodInHeld t = true then none else match shapeFs (shapeC d) fs.toList 0 with
      | some sh => sized P t sh
      | none => none
    | some (.array n e) => match shapeC d e with
      | some sh => sized P t (List.replicate n sh).flatten
      | none => none
    | _ => none
def eqOpC : BinOp → Option Bool
  | .eql => some false
  | .neq => some true
  | _ => none
def eqsC (op : BinOp) (t : TypeId) (x y : Operand) : Option (K × List Operand) :=
  match eqOpC op, shapeC P 12 t with
  | some ne, some sh => if P.eqGuardType P.depth t = false then some (.eqs ne sh, [x, y]) else none
  | _, _ => none
def fieldC (t : TypeId) (i : Nat) : Option (Nat × TypeId) :=
  match P.underlying t with
  | some (.struct fs) => match fs[i]? with
    | some f => some (f.offset, f.type)
    | none => none
  | _ => none
/-- Where the parts of a composite value lie. -/
def placesC (t : TypeId) : Option (Nat → Option (Nat × Nat)) :=
  match P.underlying t with
  | some (.struct fs) => match fs.toList.mapM (fun f => (P.info? f.type).map fun i => (f.offset, i.size)) with
    | some l => some (l.toArray[·]?)
    | none => none
  | some (.array _ e) => match P.info? e with
    | some i => some fun j => some (j * i.size, i.size)
    | none => none
  | _ => none
def partsC (pl : Nat → Option (Nat × Nat)) : List (Nat × Operand) → Option (List (Nat × Nat))
  | [] => some []
  | (i, _) :: r => match pl i, partsC pl r with
    | some q, some qs => some (q :: qs)
    | _, _ => none
def buildC (t : TypeId) (ps : List (Nat × Operand)) : Option (K × List Operand) :=
  match zeroC P t, placesC P t with
  | some (.agg zs), some place => match partsC place ps with
    | some pl => some (.build zs pl, ps.map (·.2))
    | none => none
  | _, _ => none
def callC (c : Call) (dr al mk : Bool) : Option (K × List Operand) :=
  match c.callee with
  | .value f => some (.call dr al mk, f :: c.args.toList)
  | .invoke _ _ => none
  | .builtin b =>
    match b, c.args.toList, c.argTypes.toList with
    | .len, [x], [t] => (elemC P t).map fun _ => (.len, [x])
    | .cap, [x], [t] => (elemC P t).map fun _ => (.cap, [x])
    | .append, [x, y], [t, u] => match elemC P t, elemC P u with
      | some e, some _ => match sizeC P e, bytesC P e, zeroC P e with
        | some n, some b, some _ => if n ≠ 0 ∧ b ≠ 0 ∧ b ≤ 1000000 then some (.append dr n b, [x, y]) else none
        | _, _, _ => none
      | some e, none => match P.underlying u, sizeC P e, bytesC P e, zeroE P e with
        | some (.int _), some n, some b, some z => if n ≠ 0 ∧ b ≠ 0 ∧ dr = false then some (.appz n b z.cells, [x, y]) else none
        | _, _, _, _ => none
      | _, _ => none
    | .max, xs, _ => some (.max, xs)
    | .min, xs, _ => some (.min, xs)
    | _, _, _ => none
/-- Elements of its slices may hold slices. -/
def aliasC : Nat → TypeId → Bool
  | 0, _ => true
  | d + 1, t => match P.underlying t with
    | some .bool => false
    | some (.int _) => false
    | some (.slice e) => match P.info? e with
      | some i => i.hasPointers
      | none => true
    | some (.struct fs) => fs.toList.any fun f => aliasC d f.type
    | some (.array _ e) => aliasC d e
    | some (.tuple ts) => ts.toList.any fun u => aliasC d u
    | _ => true
/-- An operation: what it does, and its operands. 'dr': its region draws its order; 'root': the box that it writes. -/
def opC (o : Op) (dr al mk : Bool) (root : Option Nat) : Option (K × List Operand) :=
  match o with
  | .move x => some (.mv, [x])
  | .assign x => some (.mv, [x])
  | .pick c a b => some (.pick, [c, a, b])
  | .alloc t => match zeroD P t with
    | some zs => some (.alloc zs, [])
    | none => none
  | .box t x => match sizeC P t with
    | some _ => some (.box, [x])
    | none => none
  | .build t ps => buildC P t ps.toList
  | .buildSlice t len ps => match elemC P t with
    | some e => match sizeC P e, zeroE P e with
      | some n, some z => if n ≠ 0 ∧ len * n ≤ 16777216 then some (.bsl n z.cells len (ps.toList.map (·.1)), ps.toList.map (·.2)) else none
      | _, _ => none
    | none => none
  | .load t x => match nC P t with
    | some n => some (.load n, [x])
    | none => none
  | .store t a v => match sizeC P t with
    | some n => some (.store n root, [a, v])
    | none => none
  | .nilCheck x => some (.nilc, [x])
  | .binOp op t x y _ => match P.underlying t with
    | some (.int _) => some (.bin 0 op, [x, y])
    | some .bool => some (.bin 1 op, [x, y])
    | some (.slice _) => some (.bin 2 op, [x, y])
    | some (.struct _) => eqsC P op t x y
    | some (.array _ _) => eqsC P op t x y
    | _ => none
  | .unOp op _ x => some (.un op, [x])
  | .convert s d x => match P.underlying s, P.underlying d with
    | some (.int _), some (.int k) => some (.conv k, [x])
    | _, _ => none
  | .makeFunc (.func f) first caps => if first.isEmpty = true then some (.mkf f, caps.toList) else if caps.isEmpty = true then some (.mkm f, first.toList) else none
  | .fieldAddr t x i => match fieldC P t i with
    | some (off, u) => match sizeC P u with
      | some n => if n ≠ 0 then some (.fa off, [x]) else none
      | none => none
    | none => none
  | .field t x i => match fieldC P t i with
    | some (off, u) => match nC P u with
      | some n => some (.fld off n, [x])
      | none => none
    | none => none
  | .indexAddr t x i => match P.underlying t with
    | some (.slice e) => match sizeC P e with
      | some n => if n ≠ 0 then some (.ixs n, [x, i]) else none
      | none => none
    | some (.array len e) => match sizeC P e with
      | some n => if n ≠ 0 then some (.ixa len n, [x, i]) else none
      | none => none
    | _ => none
  | .index t x i => match P.underlying t with
    | some (.array len e) => match sizeC P e, nC P e with
      | some n, some m => some (.idx len n m, [x, i])
      | _, _ => none
    | _ => none
  | .makeSlice t l c => match elemC P t with
    | some e => match sizeC P e, bytesC P e, zeroE P e with
      | some n, some b, some z => if n ≠ 0 ∧ b ≠ 0 then some (.mks n b z.cells, [l, c]) else none
      | _, _, _ => none
    | none => none
  | .slice t x lo hi mx => match elemC P t with
    | some e => match sizeC P e with
      | some n => if n ≠ 0 ∧ (mx.isSome = true → hi.isSome = true) then (match root, lo, hi, mx with
        | some _, none, some h, none => some (.trunc n, [x, h])
        | _, _, _, _ => some (.sls n lo.isSome hi.isSome mx.isSome, x :: (lo.toList ++ hi.toList ++ mx.toList))) else none
      | none => none
    | none => none
  | .extract x i => some (.ext i, [x])
  | .call c => callC P c dr al mk
  | _ => none

/-! ### Regions -/
def tmpsOf (xs : List Operand) : List Nat := xs.filterMap fun
  | .tmp t => some t
  | _ => none
def looks (ops : Array Oper) (o : Oper) : List Nat :=
  tmpsOf o.op.operands.toList ++ (match o.guard with
    | some (j, _) => match ops[j]? with
      | some p => p.dst.toList
      | none => []
    | none => [])
/-- The slot whose box an address in 't' leads to, by the text. -/
def rootOf (ops : Array Oper) : Nat → Nat → Option Nat
  | 0, _ => none
  | n + 1, t => match ops.find? (fun o => o.dst == some t) with
    | none => some t
    | some o => match o.op with
      | .alloc _ => some t
      | .box _ _ => some t
      | .fieldAddr _ (.tmp x) _ => rootOf ops n x
      | .indexAddr _ (.tmp x) _ => rootOf ops n x
      | .move (.tmp x) => rootOf ops n x
      | _ => none
def storeRoot (ops : Array Oper) (o : Oper) : Option Nat :=
  match o.op with
  | .store _ (.tmp t) _ => rootOf ops (ops.size + 1) t
  | _ => none
def isStore (o : Oper) : Bool := match o.op with | .store .. => true | _ => false
def isAppend (o : Oper) : Bool := match o.op with | .call { callee := .builtin .append, .. } => true | _ => false
/-- The type holds something that leads to memory. -/
def leadsC (t : TypeId) : Bool :=
  match P.underlying t with
  | some (.tuple ts) => ts.toList.any fun u => match P.info? u with
    | some i => i.hasPointers
    | none => true
  | _ => match P.info? t with
    | some i => i.hasPointers
    | none => true
/-- It makes a box or an array in its slot. -/
def makes (o : Oper) : Bool :=
  match o.op with
  | .alloc _ => true
  | .box _ _ => true
  | .buildSlice .. => true
  | .makeSlice .. => true
  | .call { callee := .builtin .append, .. } => true
  | .call { callee := .value _, .. } => leadsC P o.type
  | _ => false
def marksOf (ops : Array Oper) (o : Oper) : List Nat := o.dst.toList ++ (storeRoot ops o).toList
def ordB (b : Array Nat) (i j : Nat) : Bool := if i < j then (b.getD j 0).testBit i else (b.getD i 0).testBit j
def exOf (ops : Array Oper) (b : Array Nat) (j : Nat) : List Nat :=
  (ops.toList.zipIdx.flatMap fun (o, i) => if i == j || ordB b i j then [] else marksOf ops o).eraseDups
/-- What 'b' says comes before does so, by the edges; and edges lead back. -/
def closedB (ops : Array Oper) (b : Array Nat) : Bool :=
  ops.toList.zipIdx.all fun (o, i) =>
    o.after.all (fun e => !Region.binds .any e || decide (e.on < i)) &&
    (List.range i).all fun k => !(b.getD i 0).testBit k || o.after.any fun e => Region.binds .any e && (e.on == k || (decide (k < e.on) && (b.getD e.on 0).testBit k))
/-- A slice of what the region itself has appended: it keeps the array. -/
def truncRoot (ops : Array Oper) (o : Oper) : Option Nat :=
  match o.op with
  | .slice _ (.tmp x) none (some _) none => if ops.any (fun p => p.dst == some x && isAppend p) = true then some 0 else none
  | _ => none
def badI : LIns := { dst := none, k := .bad, xs := [], guard := none, ex := [] }
def guardC (ops : Array Oper) (o : Oper) : Option (Option (Nat × Bool)) :=
  match o.guard with
  | none => some none
  | some (i, w) => match ops[i]? with
    | some p => match p.dst with
      | some d => some (some (d, w))
      | none => none
    | none => none
def insC (ops : Array Oper) (b : Array Nat) (draw da : Bool) (o : Oper) (j : Nat) : LIns :=
  if makes P o = true ∧ o.dst = none then badI else
  match opC P o.op (if isAppend o = true then da else draw) (aliasC P 12 o.type) (makes P o) (if draw then storeRoot ops o else truncRoot ops o) with
  | some (k, xs) => match opdsC xs with
    | none => badI
    | some ys => match guardC ops o with
      | some g => { dst := o.dst, k, xs := ys, guard := g, ex := if draw then exOf ops b j else [] }
      | none => badI
  | none => badI
def insCL (ops : Array Oper) (b : Array Nat) (draw da : Bool) : List Oper → Nat → List LIns
  | [], _ => []
  | o :: r, j => insC P ops b draw da o j :: insCL ops b draw da r (j + 1)
/-- Does some append change places with something else? -/
def drawsApp (ops : Array Oper) (b : Array Nat) (draw : Bool) : Bool := draw && ops.toList.zipIdx.any fun (o, j) => isAppend o && !(exOf ops b j).isEmpty
def needs (draw : Bool) (o : Oper) : Bool := makes P o && (draw || !isAppend o)
def ppOf (draw : Bool) (ops : List Oper) : List Nat := ops.filterMap fun o => if needs P draw o then o.dst else none
def dsOf (ops : List Oper) : List Nat := ops.filterMap fun o => if makes P o then o.dst else none
def regC (lp : Bool) (kn : Nat) (kp : List Nat) (ops : Array Oper) (draw : Bool) : Option LCode :=
  let b := if draw = true then Region.before ops else #[]
  let da := drawsApp ops b draw
  let is := insCL P ops b draw da ops.toList 0
  let ds := dsOf P ops.toList
  if (draw = true → drawOkL b is = true ∧ closedB ops b = true) ∧ distinctN ds = true then some (.reg lp ds (ppOf P da ops.toList) is kn kp) else none
def dstsC : LCode → List Nat
  | .reg _ _ _ ops _ _ => ops.filterMap (·.dst)
  | .seq a b => dstsC a ++ dstsC b
  | .cond _ a b => dstsC a ++ dstsC b
  | .block _ a => dstsC a
  | .loop a => dstsC a
  | .rng _ ps _ a b => ps ++ (dstsC a ++ dstsC b)
  | _ => []
def codeC (kp : Nat → List Nat) : Bool → Code → Option LCode
  | _, .skip => some .skip
  | lp, .region id ops draw => regC P lp 0 (kp id) ops draw
  | lp, .seq a b => match codeC kp lp a, codeC kp lp b with
    | some x, some y => some (.seq x y)
    | _, _ => none
  | lp, .cond c a b => match opdC c, codeC kp lp a, codeC kp lp b with
    | some c', some x, some y => some (.cond c' x y)
    | _, _, _ => none
  | lp, .block id a => match codeC kp lp a with
    | some x => some (.block id x)
    | none => none
  | _, .loop a => match codeC kp true a with
    | some x => some (.loop x)
    | none => none
  | _, .rangeFunc g ps a b => match opdC g, codeC kp true a, codeC kp true b with
    | some g', some x, some y => some (.rng g' ps.toList (ps.toList ++ (dstsC x ++ dstsC y)) x y)
    | _, _, _ => none
  | _, .exit id => some (.exit id)
  | _, .ret => some .ret
  | _, _ => some .bad
/-- What is made outside loops is made once. -/
def onceC : LCode → List Nat
  | .reg lp ds _ _ _ _ => if lp then [] else ds
  | .seq a b => onceC a ++ onceC b
  | .cond _ a b => onceC a ++ onceC b
  | .block _ a => onceC a
  | _ => []
def loopC : LCode → List Nat
  | .reg lp ds _ _ _ _ => if lp then ds else []
  | .seq a b => loopC a ++ loopC b
  | .cond _ a b => loopC a ++ loopC b
  | .block _ a => loopC a
  | .loop a => loopC a
  | .rng _ _ _ a b => loopC a ++ loopC b
  | _ => []
def rvC : ResultVar → Option RV
  | .tmp t => some (.t t)
  | .cell a t => match nC P t with
    | some n => some (.c a n)
    | none => none
def rvsC : List ResultVar → Option (List RV)
  | [] => some []
  | r :: rs => match rvC P r, rvsC rs with
    | some x, some xs => some (x :: xs)
    | _, _ => none
/-- The slots that are kept behind a region, by its number. -/
def kpOf (l : List (Nat × List Nat)) (id : Nat) : List Nat := match get l id with
  | some ks => ks
  | none => []
def funC (kp : List (Nat × List Nat)) (fn : Func) : Option LFun :=
  match fn.body with
  | some c => match codeC P (kpOf kp) false c, rvsC P fn.results.toList with
    | some b, some rs =>
      if (dstsC b).all (fun d => decide (d < fn.ntmps)) = true ∧ distinctN (onceC b) = true ∧ (onceC b).all (fun d => !memN d (loopC b) && decide (fn.params.size + fn.nfree ≤ d)) = true
        ∧ (loopC b).all (fun d => decide (fn.params.size + fn.nfree ≤ d)) = true ∧ fn.params.size + fn.nfree ≤ fn.ntmps
      then some { np := fn.params.size + fn.nfree, nt := fn.ntmps, sl := [], body := b, res := rs } else none
    | _, _ => none
  | none => none
end Go.Lo
