/- Slices, nil or not; lists that are equal, rows, copies, lists put together. -/
import Derived.Test.YtifanigkolnedaaSk
/-! Slices that may be nil: what the evaluator does with them. -/
namespace Go.Lo
open Go.Proofs
set_option linter.unusedSimpArgs false
/-- A slice, frozen, nil or not, of elements of one cell. -/
def isSl (v : V) : Prop := v = .nil ∨ ∃ es, v = .sl none 1 es
def els : V → List (List V)
  | .sl _ _ es => es
  | _ => []
def opdV (s : Nat) : Option V → Option V
  | some (.box _) => some (.ref s 0)
  | some .dead => none
  | some v => some v
  | none => none
theorem opd_t (fr : List (Nat × V)) (s : Nat) : opd fr (.t s) = opdV s (get fr s) := rfl
theorem opd_c (fr : List (Nat × V)) (v : V) : opd fr (.c v) = some v := rfl
theorem opd_f (fr : List (Nat × V)) (n : Nat) : opd fr (.f n) = some (.fn (.f n) []) := rfl
theorem opdV_box (s : Nat) (cs : List V) : opdV s (some (.box cs)) = some (.ref s 0) := rfl
theorem opdV_int (s : Nat) (k : IntKind) (n : Int) : opdV s (some (.int k n)) = some (.int k n) := rfl
theorem opdV_bool (s : Nat) (b : Bool) : opdV s (some (.bool b)) = some (.bool b) := rfl
theorem opdV_agg (s : Nat) (cs : List V) : opdV s (some (.agg cs)) = some (.agg cs) := rfl
theorem opdV_tup (s : Nat) (cs : List V) : opdV s (some (.tup cs)) = some (.tup cs) := rfl
theorem opdV_nil (s : Nat) : opdV s (some .nil) = some .nil := rfl
theorem opdV_sl (s : Nat) (o : Option Nat) (z : Nat) (es : List (List V)) : opdV s (some (.sl o z es)) = some (.sl o z es) := rfl
theorem opdV_fn (s : Nat) (f : Fk) (cs : List V) : opdV s (some (.fn f cs)) = some (.fn f cs) := rfl
theorem opdV_ref (s a b : Nat) : opdV s (some (.ref a b)) = some (.ref a b) := rfl
theorem opdV_cref (s : Nat) (cs : List V) : opdV s (some (.cref cs)) = some (.cref cs) := rfl
theorem opdV_eref (s a b c d : Nat) (cs : List V) : opdV s (some (.eref a b c d cs)) = some (.eref a b c d cs) := rfl
theorem opdV_und (s : Nat) : opdV s (some .und) = some .und := rfl
theorem opdV_dead (s : Nat) : opdV s (some .dead) = none := rfl
theorem opdV_none (s : Nat) : opdV s none = none := rfl
theorem opdV_isSl {v : V} (h : isSl v) (s : Nat) : opdV s (some v) = some v := by rcases h with rfl | ⟨es, rfl⟩ <;> rfl
theorem frz_isSl {v : V} (h : isSl v) (rd : Nat → Option (List V)) : v.frz rd = some v := by rcases h with rfl | ⟨es, rfl⟩ <;> simp [V.frz]
theorem frzE_isSl {v : V} (h : isSl v) : v.frzE = some (v, []) := by rcases h with rfl | ⟨es, rfl⟩ <;> simp [V.frzE]
theorem cells_isSl {v : V} (h : isSl v) : v.cells = [v] := by rcases h with rfl | ⟨es, rfl⟩ <;> rfl
theorem cellOk_isSl {v : V} (h : isSl v) : v.cellOk = true := by rcases h with rfl | ⟨es, rfl⟩ <;> rfl
theorem pm_isSl {v : V} (h : isSl v) : v.pm = true := by rcases h with rfl | ⟨es, rfl⟩ <;> rfl
theorem prep_isSl {v : V} (h : isSl v) (ds : List Nat) : v.prep ds = v := by rcases h with rfl | ⟨es, rfl⟩ <;> simp [V.prep]
theorem fin_isSl {v : V} (h : isSl v) (tk : List (Nat × Nat × Bool)) (us : List Nat × List Nat) : v.fin tk us = some (v, us) := by rcases h with rfl | ⟨es, rfl⟩ <;> simp [V.fin]
theorem pureR_isSl {v : V} (h : isSl v) : v.pureR = true := by rcases h with rfl | ⟨es, rfl⟩ <;> simp [V.pureR]
theorem ranged_isSl {v : V} (h : isSl v) (vs : List V) : ranged (v :: vs) = ranged vs := by rcases h with rfl | ⟨es, rfl⟩ <;> rfl
theorem cellOk_bool (b : Bool) : V.cellOk (.bool b) = true := rfl
theorem cells_bool (b : Bool) : V.cells (.bool b) = [.bool b] := rfl
theorem cellOk_int (k : IntKind) (n : Int) : V.cellOk (.int k n) = true := rfl
theorem cells_int (k : IntKind) (n : Int) : V.cells (.int k n) = [.int k n] := rfl
theorem cellOk_nil  : V.cellOk (.nil) = true := rfl
theorem cells_nil  : V.cells (.nil) = [.nil] := rfl
theorem cellOk_sl (o : Option Nat) (z : Nat) (es : List (List V)) : V.cellOk (.sl o z es) = true := rfl
theorem cells_sl (o : Option Nat) (z : Nat) (es : List (List V)) : V.cells (.sl o z es) = [.sl o z es] := rfl
theorem cellOk_fn (f : Fk) (cs : List V) : V.cellOk (.fn f cs) = true := rfl
theorem cells_fn (f : Fk) (cs : List V) : V.cells (.fn f cs) = [.fn f cs] := rfl
theorem cellOk_ref (a b : Nat) : V.cellOk (.ref a b) = true := rfl
theorem cells_ref (a b : Nat) : V.cells (.ref a b) = [.ref a b] := rfl
theorem cellOk_cref (cs : List V) : V.cellOk (.cref cs) = true := rfl
theorem cells_cref (cs : List V) : V.cells (.cref cs) = [.cref cs] := rfl
theorem cellOk_eref (a b c d : Nat) (cs : List V) : V.cellOk (.eref a b c d cs) = true := rfl
theorem cells_eref (a b c d : Nat) (cs : List V) : V.cells (.eref a b c d cs) = [.eref a b c d cs] := rfl
theorem cells_agg (cs : List V) : V.cells (.agg cs) = cs := rfl
theorem pm_bool (b : Bool) : V.pm (.bool b) = true := rfl
theorem pm_int (k : IntKind) (n : Int) : V.pm (.int k n) = true := rfl
theorem pm_nil  : V.pm (.nil) = true := rfl
theorem pm_slN (z : Nat) (es : List (List V)) : V.pm (.sl none z es) = true := rfl
theorem pm_slS (t z : Nat) (es : List (List V)) : V.pm (.sl (some t) z es) = false := rfl
theorem pm_fn (f : Nat) : V.pm (.fn (.f f) []) = true := rfl
theorem sem_len_isSl {v : V} (h : isSl v) (c : Nat → List V → Option V) (b : Nat → Option (List V)) (t : Nat → Option (Nat × Bool)) (d : Nat) : sem c b t d .len [v] = some (.val (I (els v).length)) := by rcases h with rfl | ⟨es, rfl⟩ <;> rfl
theorem sem_ixs_isSl {v : V} (h : isSl v) (c : Nat → List V → Option V) (b : Nat → Option (List V)) (t : Nat → Option (Nat × Bool)) (d : Nat) (k : IntKind) (i : Int) :
    sem c b t d (.ixs 1) [v, .int k i] = if 0 ≤ i then (match (els v)[i.toNat]? with | some cs => some (.val (.cref cs)) | none => none) else none := by
  rcases h with rfl | ⟨es, rfl⟩
  · simp [sem, els]
  · simp only [sem, els, true_and]
    split
    · cases es[i.toNat]? <;> rfl
    · rfl
theorem sem_len_sl (o : Option Nat) (z : Nat) (es : List (List V)) (c : Nat → List V → Option V) (b : Nat → Option (List V)) (t : Nat → Option (Nat × Bool)) (d : Nat) : sem c b t d .len [.sl o z es] = some (.val (I es.length)) := rfl
theorem sem_len_nil (c : Nat → List V → Option V) (b : Nat → Option (List V)) (t : Nat → Option (Nat × Bool)) (d : Nat) : sem c b t d .len [.nil] = some (.val (I 0)) := rfl
theorem sem_ixs_none (z z' : Nat) (es : List (List V)) (c : Nat → List V → Option V) (b : Nat → Option (List V)) (t : Nat → Option (Nat × Bool)) (d : Nat) (k : IntKind) (i : Int) :
    sem c b t d (.ixs z) [.sl none z' es, .int k i] = if z = z' ∧ 0 ≤ i then (match es[i.toNat]? with | some cs => some (.val (.cref cs)) | none => none) else none := by
  simp only [sem]
  split
  · cases es[i.toNat]? <;> rfl
  · rfl
theorem sem_ixs_some (z z' u : Nat) (es : List (List V)) (c : Nat → List V → Option V) (b : Nat → Option (List V)) (t : Nat → Option (Nat × Bool)) (d : Nat) (k : IntKind) (i : Int) :
    sem c b t d (.ixs z) [.sl (some u) z' es, .int k i] = if z = z' ∧ 0 ≤ i then (match es[i.toNat]? with | some cs => some (.val (.eref u es.length i.toNat 0 cs)) | none => none) else none := by
  simp only [sem]
  split
  · cases es[i.toNat]? <;> rfl
  · rfl
/-- The same again: the evaluator's steps other than these two. -/
def semR (call : Nat → List V → Option V) (bx : Nat → Option (List V)) (tk : Nat → Option (Nat × Bool)) (d : Nat) (k : K) (vs : List V) : Option Eff :=
  match k with
  | .mv => match vs with
    | [v] => some (.val v)
    | _ => none
  | .pick => match vs with
    | [.bool c, a, b] => some (.val (if c = true then a else b))
    | _ => none
  | .box => match vs with
    | [v] => if v.cells.all V.cellOk = true then some (.val (.box v.cells)) else none
    | _ => none
  | .alloc zs => match vs with
    | [] => some (.val (.box zs))
    | _ => none
  | .build zs pl => match fill pl vs zs with
    | some cs => some (.val (.agg cs))
    | none => none
  | .bsl sz z len ix => match fillE sz ix vs (List.replicate len z) with
    | some (es, ps) => if ps.all (fun t => (tk t).isSome) = true then some (.mk (.sl (some (d * 100)) sz es) (d * 100) len ps) else none
    | none => none
  | .load n => match vs with
    | [v] => valO (loadV bx n v)
    | _ => none
  | .store n root => match vs with
    | [.ref s off, v] => if v.cells.length = n ∧ v.cells.all V.cellOk = true ∧ (root = none ∨ root = some s) then (match bx s with
      | some cs => (match splice cs off v.cells with | some cs' => some (.sto s cs') | none => none)
      | none => none) else none
    | [.eref t m i off cs, v] => (match root with
      | some _ => none
      | none => (match v.frzE, tk t with
        | some (v', []), some (m', true) => if m = m' ∧ v'.cells.length = n ∧ v'.cells.all V.pm = true then (match splice cs off v'.cells with
          | some cs' => some (.est t m i cs')
          | none => none) else none
        | _, _ => none))
    | _ => none
  | .bin ty op => match vs with
    | [x, y] => valO (binV ty op x y)
    | _ => none
  | .eqs ne sh => match vs with
    | [.agg cs, .agg ds] => (match eqSh sh cs ds with
      | some r => some (.val (.bool (ne != r)))
      | none => none)
    | _ => none
  | .un op => match vs with
    | [x] => valO (unV op x)
    | _ => none
  | .conv k => match vs with
    | [.int _ n] => some (.val (.int k (k.wrap n)))
    | _ => none
  | .mkf f => some (.val (.fn (.f f) vs))
  | .mkm f => some (.val (.fn (.m f) vs))
  | .fa off => match vs with
    | [.ref s o] => some (.val (.ref s (o + off)))
    | [.cref cs] => some (.val (.cref (cs.drop off)))
    | [.eref t n i o cs] => some (.val (.eref t n i (o + off) cs))
    | _ => none
  | .fld off n => match vs with
    | [.agg cs] => valO (partV cs off n)
    | _ => none
  | .ixs sz => match vs with
    | [.sl none sz' es, .int _ i] => if sz = sz' ∧ 0 ≤ i then (match es[i.toNat]? with
      | some cs => some (.val (.cref cs)) | none => none) else none
    | [.sl (some t) sz' es, .int _ i] => if sz = sz' ∧ 0 ≤ i then (match es[i.toNat]? with
      | some cs => some (.val (.eref t es.length i.toNat 0 cs)) | none => none) else none
    | _ => none
  | .ixa len sz => match vs with
    | [.ref s o, .int _ i] => if 0 ≤ i ∧ i < len then some (.val (.ref s (o + i.toNat * sz))) else none
    | [.cref cs, .int _ i] => if 0 ≤ i ∧ i < len then some (.val (.cref (cs.drop (i.toNat * sz)))) else none
    | [.eref t n j o cs, .int _ i] => if 0 ≤ i ∧ i < len then some (.val (.eref t n j (o + i.toNat * sz) cs)) else none
    | _ => none
  | .idx len sz n => match vs with
    | [.agg cs, .int _ i] => if 0 ≤ i ∧ i < len then valO (partV cs (i.toNat * sz) n) else none
    | _ => none
  | .mks sz bytes z => match vs with
    | [.int _ l, .int _ c] => if 0 ≤ l ∧ l ≤ c ∧ c * bytes ≤ 140737488355328 then
      some (.mk (.sl (some (d * 100)) sz (List.replicate l.toNat z)) (d * 100) l.toNat []) else none
    | _ => none
  | .sls sz0 lo hi mx => match vs with
    | .sl none sz es :: vs => if sz0 = sz then (match bounds es.length es.length lo hi mx vs with
      | some (l, h) => some (.val (.sl none sz ((es.take h).drop l)))
      | none => none) else none
    | .sl (some t) sz es :: vs => if sz0 = sz then (match bounds es.length es.length lo hi mx vs with
      | some (l, h) => if (tk t).isSome = true then some (.prot (.sl none sz ((es.take h).drop l)) [t]) else none
      | none => none) else none
    | .nil :: vs => (match bounds 0 0 lo hi mx vs with
      | some _ => some (.val .nil)
      | none => none)
    | _ => none
  | .ext i => match vs with
    | [.tup cs] => valO cs[i]?
    | _ => none
  | .call dr al mk => match vs with
    | .fn (.f f) caps :: vs => callE call bx d dr al mk f (vs ++ caps)
    | .fn (.m f) caps :: vs => callE call bx d dr al mk f (caps ++ vs)
    | .fn (.y a) [] :: vs => if dr = true then none else (match frzEL vs with
      | some (ws, ps) => if ps.all (fun t => (tk t).isSome) = true ∧ (ws.all fun v => v.cells.all V.pm) = true then some (.yld a ws ps) else none
      | none => none)
    | _ => none
  | .len => match vs with
    | [.sl _ _ es] => some (.val (.int .i64 es.length))
    | [.nil] => some (.val (.int .i64 0))
    | _ => none
  | .cap => match vs with
    | [.nil] => some (.val (.int .i64 0))
    | _ => none
  | .append dr sz bytes => match vs with
    | [.nil, y] => (match y with
      | .nil => some (.val .nil)
      | .sl _ sz' ys => if sz = sz' then (match ys with
        | [] => some (.val .nil)
        | _ :: _ => if ys.length * bytes ≤ 140737488355328 then (if dr = true then some (.mk (.sl (some (d * 100)) sz ys) (d * 100) ys.length []) else some (.mkp (.sl (some (d * 100)) sz ys) d ys.length)) else none) else none
      | _ => none)
    | [.sl (some t) sz1 xs, y] => (match tk t with
      | some (n, _) => if n = xs.length ∧ sz = sz1 then (match y with
        | .nil => some (.val (.sl (some t) sz1 xs))
        | .sl _ sz' ys => if sz = sz' ∧ (xs.length + ys.length) * bytes ≤ 140737488355328 then (match ys with
          | [] => some (.val (.sl (some t) sz1 xs))
          | _ :: _ => some (.app (.sl (some t) sz1 (xs ++ ys)) t (xs.length + ys.length))) else none
        | _ => none) else none
      | none => none)
    | _ => none
  | .appz sz bytes z => match vs with
    | [.nil, .int _ n] => if 0 ≤ n ∧ n * bytes ≤ 140737488355328 then (if n = 0 then some (.val .nil) else some (.mkp (.sl (some (d * 100)) sz (List.replicate n.toNat z)) d n.toNat)) else none
    | _ => none
  | .trunc sz => match vs with
    | [.sl (some t) sz' es, .int _ h] => (match tk t with
      | some (n, true) => if sz = sz' ∧ n = es.length ∧ 0 ≤ h ∧ h ≤ es.length then some (.trunc (.sl (some t) sz' (es.take h.toNat)) t h.toNat) else none
      | _ => none)
    | _ => none
  | .max => match intsOf vs with
    | some (k, n :: ns) => some (.val (.int k (maxL n ns)))
    | _ => none
  | .min => match intsOf vs with
    | some (k, n :: ns) => some (.val (.int k (minL n ns)))
    | _ => none
  | .nilc => match vs with
    | [.ref s o] => some (.val (.ref s o))
    | [.cref cs] => some (.val (.cref cs))
    | [.eref t n i o cs] => some (.val (.eref t n i o cs))
    | [.fn f cs] => some (.val (.fn f cs))
    | _ => none
  | .sla _ _ _ _ _ => none
  | .bad => none
theorem semx_mv (c : Nat → List V → Option V) (b : Nat → Option (List V)) (t : Nat → Option (Nat × Bool)) (d : Nat) (vs : List V)  : sem c b t d (.mv ) vs = semR c b t d (.mv ) vs := rfl
theorem semx_pick (c : Nat → List V → Option V) (b : Nat → Option (List V)) (t : Nat → Option (Nat × Bool)) (d : Nat) (vs : List V)  : sem c b t d (.pick ) vs = semR c b t d (.pick ) vs := rfl
theorem semx_box (c : Nat → List V → Option V) (b : Nat → Option (List V)) (t : Nat → Option (Nat × Bool)) (d : Nat) (vs : List V)  : sem c b t d (.box ) vs = semR c b t d (.box ) vs := rfl
theorem semx_alloc (c : Nat → List V → Option V) (b : Nat → Option (List V)) (t : Nat → Option (Nat × Bool)) (d : Nat) (vs : List V) (zs : List V) : sem c b t d (.alloc zs) vs = semR c b t d (.alloc zs) vs := rfl
theorem semx_build (c : Nat → List V → Option V) (b : Nat → Option (List V)) (t : Nat → Option (Nat × Bool)) (d : Nat) (vs : List V) (zs : List V) (pl : List (Nat × Nat)) : sem c b t d (.build zs pl) vs = semR c b t d (.build zs pl) vs := rfl
theorem semx_bsl (c : Nat → List V → Option V) (b : Nat → Option (List V)) (t : Nat → Option (Nat × Bool)) (d : Nat) (vs : List V) (sz : Nat) (z : List V) (len : Nat) (ix : List Nat) : sem c b t d (.bsl sz z len ix) vs = semR c b t d (.bsl sz z len ix) vs := rfl
theorem semx_load (c : Nat → List V → Option V) (b : Nat → Option (List V)) (t : Nat → Option (Nat × Bool)) (d : Nat) (vs : List V) (n : Option Nat) : sem c b t d (.load n) vs = semR c b t d (.load n) vs := rfl
theorem semx_store (c : Nat → List V → Option V) (b : Nat → Option (List V)) (t : Nat → Option (Nat × Bool)) (d : Nat) (vs : List V) (n : Nat) (root : Option Nat) : sem c b t d (.store n root) vs = semR c b t d (.store n root) vs := rfl
theorem semx_bin (c : Nat → List V → Option V) (b : Nat → Option (List V)) (t : Nat → Option (Nat × Bool)) (d : Nat) (vs : List V) (ty : Nat) (op : BinOp) : sem c b t d (.bin ty op) vs = semR c b t d (.bin ty op) vs := rfl
theorem semx_eqs (c : Nat → List V → Option V) (b : Nat → Option (List V)) (t : Nat → Option (Nat × Bool)) (d : Nat) (vs : List V) (ne : Bool) (sh : List (Option IntKind)) : sem c b t d (.eqs ne sh) vs = semR c b t d (.eqs ne sh) vs := rfl
theorem semx_un (c : Nat → List V → Option V) (b : Nat → Option (List V)) (t : Nat → Option (Nat × Bool)) (d : Nat) (vs : List V) (op : UnOp) : sem c b t d (.un op) vs = semR c b t d (.un op) vs := rfl
theorem semx_conv (c : Nat → List V → Option V) (b : Nat → Option (List V)) (t : Nat → Option (Nat × Bool)) (d : Nat) (vs : List V) (kk : IntKind) : sem c b t d (.conv kk) vs = semR c b t d (.conv kk) vs := rfl
theorem semx_mkf (c : Nat → List V → Option V) (b : Nat → Option (List V)) (t : Nat → Option (Nat × Bool)) (d : Nat) (vs : List V) (f : Nat) : sem c b t d (.mkf f) vs = semR c b t d (.mkf f) vs := rfl
theorem semx_mkm (c : Nat → List V → Option V) (b : Nat → Option (List V)) (t : Nat → Option (Nat × Bool)) (d : Nat) (vs : List V) (f : Nat) : sem c b t d (.mkm f) vs = semR c b t d (.mkm f) vs := rfl
theorem semx_fa (c : Nat → List V → Option V) (b : Nat → Option (List V)) (t : Nat → Option (Nat × Bool)) (d : Nat) (vs : List V) (off : Nat) : sem c b t d (.fa off) vs = semR c b t d (.fa off) vs := rfl
theorem semx_fld (c : Nat → List V → Option V) (b : Nat → Option (List V)) (t : Nat → Option (Nat × Bool)) (d : Nat) (vs : List V) (off : Nat) (n : Option Nat) : sem c b t d (.fld off n) vs = semR c b t d (.fld off n) vs := rfl
theorem semx_ixa (c : Nat → List V → Option V) (b : Nat → Option (List V)) (t : Nat → Option (Nat × Bool)) (d : Nat) (vs : List V) (len sz : Nat) : sem c b t d (.ixa len sz) vs = semR c b t d (.ixa len sz) vs := rfl
theorem semx_idx (c : Nat → List V → Option V) (b : Nat → Option (List V)) (t : Nat → Option (Nat × Bool)) (d : Nat) (vs : List V) (len sz : Nat) (n : Option Nat) : sem c b t d (.idx len sz n) vs = semR c b t d (.idx len sz n) vs := rfl
theorem semx_mks (c : Nat → List V → Option V) (b : Nat → Option (List V)) (t : Nat → Option (Nat × Bool)) (d : Nat) (vs : List V) (sz bytes : Nat) (z : List V) : sem c b t d (.mks sz bytes z) vs = semR c b t d (.mks sz bytes z) vs := rfl
theorem semx_sls (c : Nat → List V → Option V) (b : Nat → Option (List V)) (t : Nat → Option (Nat × Bool)) (d : Nat) (vs : List V) (sz : Nat) (lo hi mx : Bool) : sem c b t d (.sls sz lo hi mx) vs = semR c b t d (.sls sz lo hi mx) vs := rfl
theorem semx_ext (c : Nat → List V → Option V) (b : Nat → Option (List V)) (t : Nat → Option (Nat × Bool)) (d : Nat) (vs : List V) (i : Nat) : sem c b t d (.ext i) vs = semR c b t d (.ext i) vs := rfl
theorem semx_call (c : Nat → List V → Option V) (b : Nat → Option (List V)) (t : Nat → Option (Nat × Bool)) (d : Nat) (vs : List V) (dr al mk : Bool) : sem c b t d (.call dr al mk) vs = semR c b t d (.call dr al mk) vs := rfl
theorem semx_append (c : Nat → List V → Option V) (b : Nat → Option (List V)) (t : Nat → Option (Nat × Bool)) (d : Nat) (vs : List V) (dr : Bool) (sz bytes : Nat) : sem c b t d (.append dr sz bytes) vs = semR c b t d (.append dr sz bytes) vs := rfl
theorem semx_appz (c : Nat → List V → Option V) (b : Nat → Option (List V)) (t : Nat → Option (Nat × Bool)) (d : Nat) (vs : List V) (sz bytes : Nat) (z : List V) : sem c b t d (.appz sz bytes z) vs = semR c b t d (.appz sz bytes z) vs := rfl
theorem semx_trunc (c : Nat → List V → Option V) (b : Nat → Option (List V)) (t : Nat → Option (Nat × Bool)) (d : Nat) (vs : List V) (sz : Nat) : sem c b t d (.trunc sz) vs = semR c b t d (.trunc sz) vs := rfl
theorem semx_cap (c : Nat → List V → Option V) (b : Nat → Option (List V)) (t : Nat → Option (Nat × Bool)) (d : Nat) (vs : List V)  : sem c b t d (.cap ) vs = semR c b t d (.cap ) vs := rfl
theorem semx_min (c : Nat → List V → Option V) (b : Nat → Option (List V)) (t : Nat → Option (Nat × Bool)) (d : Nat) (vs : List V)  : sem c b t d (.min ) vs = semR c b t d (.min ) vs := rfl
theorem semx_max (c : Nat → List V → Option V) (b : Nat → Option (List V)) (t : Nat → Option (Nat × Bool)) (d : Nat) (vs : List V)  : sem c b t d (.max ) vs = semR c b t d (.max ) vs := rfl
theorem semx_nilc (c : Nat → List V → Option V) (b : Nat → Option (List V)) (t : Nat → Option (Nat × Bool)) (d : Nat) (vs : List V)  : sem c b t d (.nilc ) vs = semR c b t d (.nilc ) vs := rfl
/-- A slice of integers. -/
structure Ints (v : V) (xs : List Int) : Prop where
  sl : isSl v
  el : els v = eI xs
/-- A slice of slices of integers. -/
structure RowsV (v : V) (rs : List (V × List Int)) : Prop where
  sl : isSl v
  el : els v = rs.map fun r => [r.1]
  row : ∀ r ∈ rs, Ints r.1 r.2
theorem Ints.len {v : V} {xs : List Int} (h : Ints v xs) : (els v).length = xs.length := by rw [h.el, eI_len]
theorem Ints.get {v : V} {xs : List Int} (h : Ints v xs) {i : Nat} (hi : i < xs.length) : (els v)[i]? = some [I xs[i]] := by rw [h.el]; simp [eI, hi]
theorem RowsV.len {v : V} {rs : List (V × List Int)} (h : RowsV v rs) : (els v).length = rs.length := by rw [h.el]; simp
theorem RowsV.get {v : V} {rs : List (V × List Int)} (h : RowsV v rs) {i : Nat} (hi : i < rs.length) : (els v)[i]? = some [rs[i].1] ∧ Ints rs[i].1 rs[i].2 := by
  refine ⟨by rw [h.el]; simp [hi], h.row _ (List.getElem_mem hi)⟩
/-- The first of some indices. -/
theorem find_any {n : Nat} {g : Nat → Bool} : ((List.range n).find? g).isSome = (List.range n).any g := by
  rw [Bool.eq_iff_iff, List.find?_isSome, List.any_eq_true]
theorem run54 {v : V} (h : isSl v) (n : Int) : run Ft Ct 54 [v, I n] = some (B (decide (n < (els v).length))) := by
  refine run_of_body (N := 1) rfl rfl ?_
  simp [l54, evBody, params, deadL, evC, prep, prepF, prepT, V.prep, prepL, stepL, stepI, wanted, opds, get, put, putO, callE, loadV, partV, valO, binV, binI, binS, unV, nilCmp, apply, keepL, memN, bxOf, tkOf, bxF, frzL, V.frz, frzEL, V.frzE, V.pureR, pureRL, V.tks, tksL, V.al, alL, V.rn, rnL, addT, protT, protAll, distinctN, fill, splice, fillE, eqSh, intsOf, maxL, minL, bounds, ranged, finish, result, rvs, finL, V.fin, one, goesOn, opd_t, opd_c, opd_f, opdV_box, opdV_int, opdV_bool, opdV_agg, opdV_tup, opdV_nil, opdV_sl, opdV_fn, opdV_ref, opdV_cref, opdV_eref, opdV_isSl, frz_isSl, frzE_isSl, cells_isSl, cellOk_isSl, pm_isSl, prep_isSl, fin_isSl, ranged_isSl, pureR_isSl, sem_len_isSl, sem_ixs_isSl, sem_len_sl, sem_len_nil, sem_ixs_none, sem_ixs_some, semR, semx_mv, semx_pick, semx_box, semx_alloc, semx_build, semx_bsl, semx_load, semx_store, semx_bin, semx_eqs, semx_un, semx_conv, semx_mkf, semx_mkm, semx_fa, semx_fld, semx_ixa, semx_idx, semx_mks, semx_sls, semx_ext, semx_call, semx_append, semx_appz, semx_trunc, semx_cap, semx_min, semx_max, semx_nilc, opdV_und, opdV_dead, opdV_none, cellOk_bool, cells_bool, cellOk_int, cells_int, cellOk_nil, cells_nil, cellOk_sl, cells_sl, cellOk_fn, cells_fn, cellOk_ref, cells_ref, cellOk_cref, cells_cref, cellOk_eref, cells_eref, cells_agg, pm_bool, pm_int, pm_nil, pm_slN, pm_slS, pm_fn, h]
theorem run55 {v : V} (h : isSl v) (n : Int) : run Ft Ct 55 [v, I n] = some (B (decide (n < (els v).length))) := by
  refine run_of_body (N := 1) rfl rfl ?_
  simp [l55, evBody, params, deadL, evC, prep, prepF, prepT, V.prep, prepL, stepL, stepI, wanted, opds, get, put, putO, callE, loadV, partV, valO, binV, binI, binS, unV, nilCmp, apply, keepL, memN, bxOf, tkOf, bxF, frzL, V.frz, frzEL, V.frzE, V.pureR, pureRL, V.tks, tksL, V.al, alL, V.rn, rnL, addT, protT, protAll, distinctN, fill, splice, fillE, eqSh, intsOf, maxL, minL, bounds, ranged, finish, result, rvs, finL, V.fin, one, goesOn, opd_t, opd_c, opd_f, opdV_box, opdV_int, opdV_bool, opdV_agg, opdV_tup, opdV_nil, opdV_sl, opdV_fn, opdV_ref, opdV_cref, opdV_eref, opdV_isSl, frz_isSl, frzE_isSl, cells_isSl, cellOk_isSl, pm_isSl, prep_isSl, fin_isSl, ranged_isSl, pureR_isSl, sem_len_isSl, sem_ixs_isSl, sem_len_sl, sem_len_nil, sem_ixs_none, sem_ixs_some, semR, semx_mv, semx_pick, semx_box, semx_alloc, semx_build, semx_bsl, semx_load, semx_store, semx_bin, semx_eqs, semx_un, semx_conv, semx_mkf, semx_mkm, semx_fa, semx_fld, semx_ixa, semx_idx, semx_mks, semx_sls, semx_ext, semx_call, semx_append, semx_appz, semx_trunc, semx_cap, semx_min, semx_max, semx_nilc, opdV_und, opdV_dead, opdV_none, cellOk_bool, cells_bool, cellOk_int, cells_int, cellOk_nil, cells_nil, cellOk_sl, cells_sl, cellOk_fn, cells_fn, cellOk_ref, cells_ref, cellOk_cref, cells_cref, cellOk_eref, cells_eref, cells_agg, pm_bool, pm_int, pm_nil, pm_slN, pm_slS, pm_fn, h]
theorem run57 {v a b c : V} (h : isSl v) (ha : isSl a) (hb : isSl b) (hc : isSl c) : run Ft Ct 57 [v, .cref [a, b, c]] = some (B (!((els v).length == (els a).length))) := by
  refine run_of_body (N := 1) rfl rfl ?_
  simp [l57, evBody, params, deadL, evC, prep, prepF, prepT, V.prep, prepL, stepL, stepI, wanted, opds, get, put, putO, callE, loadV, partV, valO, binV, binI, binS, unV, nilCmp, apply, keepL, memN, bxOf, tkOf, bxF, frzL, V.frz, frzEL, V.frzE, V.pureR, pureRL, V.tks, tksL, V.al, alL, V.rn, rnL, addT, protT, protAll, distinctN, fill, splice, fillE, eqSh, intsOf, maxL, minL, bounds, ranged, finish, result, rvs, finL, V.fin, one, goesOn, opd_t, opd_c, opd_f, opdV_box, opdV_int, opdV_bool, opdV_agg, opdV_tup, opdV_nil, opdV_sl, opdV_fn, opdV_ref, opdV_cref, opdV_eref, opdV_isSl, frz_isSl, frzE_isSl, cells_isSl, cellOk_isSl, pm_isSl, prep_isSl, fin_isSl, ranged_isSl, pureR_isSl, sem_len_isSl, sem_ixs_isSl, sem_len_sl, sem_len_nil, sem_ixs_none, sem_ixs_some, semR, semx_mv, semx_pick, semx_box, semx_alloc, semx_build, semx_bsl, semx_load, semx_store, semx_bin, semx_eqs, semx_un, semx_conv, semx_mkf, semx_mkm, semx_fa, semx_fld, semx_ixa, semx_idx, semx_mks, semx_sls, semx_ext, semx_call, semx_append, semx_appz, semx_trunc, semx_cap, semx_min, semx_max, semx_nilc, opdV_und, opdV_dead, opdV_none, cellOk_bool, cells_bool, cellOk_int, cells_int, cellOk_nil, cells_nil, cellOk_sl, cells_sl, cellOk_fn, cells_fn, cellOk_ref, cells_ref, cellOk_cref, cells_cref, cellOk_eref, cells_eref, cells_agg, pm_bool, pm_int, pm_nil, pm_slN, pm_slS, pm_fn, h, ha, hb, hc]
  rw [Bool.eq_iff_iff]
  simp
  omega
/-! ### A range of rows of which the first is asked -/
def s81 (v f : V) (n i : Nat) : St := { fr := [(0, v), (1, f), (7, I n), (8, I i)], tk := [] }
theorem step81 {g : Nat} {caps : List V} {p : V → Bool} {v : V} {rs : List (V × List Int)} (hv : RowsV v rs) (hc : ∀ rd, frzL rd caps = some caps) (hp : ∀ r ∈ rs, run Ft Ct g (r.1 :: caps) = some (B (p r.1))) (hl : rs.length < 9223372036854775807) {i : Nat} (hi : i < rs.length) (M : Nat) :
    evC (run Ft Ct) M b81_0 (s81 v (.fn (.f g) caps) rs.length i) = some (if p rs[i].1 = true then (.ret, { fr := [(4, I i)], tk := [] }) else (.normal, s81 v (.fn (.f g) caps) rs.length (i + 1))) := by
  obtain ⟨h1, h2⟩ := hv.get hi
  have h3 := hp _ (List.getElem_mem hi)
  have h4 := hv.sl
  have h5 := h2.sl
  have hlt : (i : Int) < rs.length := by omega
  have hw := wrap_succ hi hl
  unfold s81
  generalize ((i + 1 : Nat) : Int) = m at *
  generalize rs[i].1 = r at *
  cases hpr : p r <;> rw [hpr] at h3 <;> simp [b81_0, evBody, params, deadL, evC, prep, prepF, prepT, V.prep, prepL, stepL, stepI, wanted, opds, get, put, putO, callE, loadV, partV, valO, binV, binI, binS, unV, nilCmp, apply, keepL, memN, bxOf, tkOf, bxF, frzL, V.frz, frzEL, V.frzE, V.pureR, pureRL, V.tks, tksL, V.al, alL, V.rn, rnL, addT, protT, protAll, distinctN, fill, splice, fillE, eqSh, intsOf, maxL, minL, bounds, ranged, finish, result, rvs, finL, V.fin, one, goesOn, opd_t, opd_c, opd_f, opdV_box, opdV_int, opdV_bool, opdV_agg, opdV_tup, opdV_nil, opdV_sl, opdV_fn, opdV_ref, opdV_cref, opdV_eref, opdV_isSl, frz_isSl, frzE_isSl, cells_isSl, cellOk_isSl, pm_isSl, prep_isSl, fin_isSl, ranged_isSl, pureR_isSl, sem_len_isSl, sem_ixs_isSl, sem_len_sl, sem_len_nil, sem_ixs_none, sem_ixs_some, semR, semx_mv, semx_pick, semx_box, semx_alloc, semx_build, semx_bsl, semx_load, semx_store, semx_bin, semx_eqs, semx_un, semx_conv, semx_mkf, semx_mkm, semx_fa, semx_fld, semx_ixa, semx_idx, semx_mks, semx_sls, semx_ext, semx_call, semx_append, semx_appz, semx_trunc, semx_cap, semx_min, semx_max, semx_nilc, opdV_und, opdV_dead, opdV_none, cellOk_bool, cells_bool, cellOk_int, cells_int, cellOk_nil, cells_nil, cellOk_sl, cells_sl, cellOk_fn, cells_fn, cellOk_ref, cells_ref, cellOk_cref, cells_cref, cellOk_eref, cells_eref, cells_agg, pm_bool, pm_int, pm_nil, pm_slN, pm_slS, pm_fn, hlt, h1, h3, h4, h5, hc, hw]
theorem run56 {g : Nat} {caps : List V} {p : V → Bool} {v : V} {rs : List (V × List Int)} (hv : RowsV v rs) (hc : ∀ rd, frzL rd caps = some caps) (hp : ∀ r ∈ rs, run Ft Ct g (r.1 :: caps) = some (B (p r.1))) (hl : rs.length < 9223372036854775807) :
    run Ft Ct 56 [v, .fn (.f g) caps] = some (B (rs.any fun r => p r.1)) := by
  have h4 := hv.sl
  have h6 := hv.len
  have L := loop_find (s := s81 v (.fn (.f g) caps) rs.length) (f := evC (run Ft Ct) (rs.length + 1) b81_0) (n := rs.length) (g := fun i => if h : i < rs.length then p rs[i].1 else false) (E := fun i => (.ret, { fr := [(4, I i)], tk := [] })) (X := (.exit 0, { fr := [(0, v), (1, .fn (.f g) caps), (7, I rs.length), (8, I rs.length), (9, B false)], tk := [] }))
    (fun i hi => by rw [step81 hv hc hp hl hi]; simp [hi]) (fun _ => by simp) (by simp [b81_0, s81, evBody, params, deadL, evC, prep, prepF, prepT, V.prep, prepL, stepL, stepI, wanted, opds, get, put, putO, callE, loadV, partV, valO, binV, binI, binS, unV, nilCmp, apply, keepL, memN, bxOf, tkOf, bxF, frzL, V.frz, frzEL, V.frzE, V.pureR, pureRL, V.tks, tksL, V.al, alL, V.rn, rnL, addT, protT, protAll, distinctN, fill, splice, fillE, eqSh, intsOf, maxL, minL, bounds, ranged, finish, result, rvs, finL, V.fin, one, goesOn, opd_t, opd_c, opd_f, opdV_box, opdV_int, opdV_bool, opdV_agg, opdV_tup, opdV_nil, opdV_sl, opdV_fn, opdV_ref, opdV_cref, opdV_eref, opdV_isSl, frz_isSl, frzE_isSl, cells_isSl, cellOk_isSl, pm_isSl, prep_isSl, fin_isSl, ranged_isSl, pureR_isSl, sem_len_isSl, sem_ixs_isSl, sem_len_sl, sem_len_nil, sem_ixs_none, sem_ixs_some, semR, semx_mv, semx_pick, semx_box, semx_alloc, semx_build, semx_bsl, semx_load, semx_store, semx_bin, semx_eqs, semx_un, semx_conv, semx_mkf, semx_mkm, semx_fa, semx_fld, semx_ixa, semx_idx, semx_mks, semx_sls, semx_ext, semx_call, semx_append, semx_appz, semx_trunc, semx_cap, semx_min, semx_max, semx_nilc, opdV_und, opdV_dead, opdV_none, cellOk_bool, cells_bool, cellOk_int, cells_int, cellOk_nil, cells_nil, cellOk_sl, cells_sl, cellOk_fn, cells_fn, cellOk_ref, cells_ref, cellOk_cref, cells_cref, cellOk_eref, cells_eref, cells_agg, pm_bool, pm_int, pm_nil, pm_slN, pm_slS, pm_fn, h4]) (by simp) rs.length 0 (by omega)
  rw [← List.range_eq_range'] at L
  have ha : (rs.any fun r => p r.1) = ((List.range rs.length).find? (fun i => if h : i < rs.length then p rs[i].1 else false)).isSome := by
    rw [find_any, Bool.eq_iff_iff, List.any_eq_true, List.any_eq_true]
    constructor
    · rintro ⟨r, h1, h2⟩
      obtain ⟨i, hi, rfl⟩ := List.mem_iff_getElem.1 h1
      exact ⟨i, by simp [hi], by simp [hi, h2]⟩
    · rintro ⟨i, h1, h2⟩
      have hi : i < rs.length := by simpa using h1
      simp [hi] at h2
      exact ⟨_, List.getElem_mem hi, h2⟩
  rw [ha]
  have h81 : run Ft Ct 81 [v, .fn (.f g) caps] = some (I (match (List.range rs.length).find? (fun i => if h : i < rs.length then p rs[i].1 else false) with | some j => j | none => -1)) := by
    refine run_of_body (N := rs.length + 1) rfl rfl ?_
    generalize hF : evC (run Ft Ct) (rs.length + 1) b81_0 = F at L
    generalize (List.range rs.length).find? (fun i => if h : i < rs.length then p rs[i].1 else false) = o at L
    unfold s81 at L
    cases o with
    | none => simp at L; simp [l81, evBody, params, deadL, evC, prep, prepF, prepT, V.prep, prepL, stepL, stepI, wanted, opds, get, put, putO, callE, loadV, partV, valO, binV, binI, binS, unV, nilCmp, apply, keepL, memN, bxOf, tkOf, bxF, frzL, V.frz, frzEL, V.frzE, V.pureR, pureRL, V.tks, tksL, V.al, alL, V.rn, rnL, addT, protT, protAll, distinctN, fill, splice, fillE, eqSh, intsOf, maxL, minL, bounds, ranged, finish, result, rvs, finL, V.fin, one, goesOn, opd_t, opd_c, opd_f, opdV_box, opdV_int, opdV_bool, opdV_agg, opdV_tup, opdV_nil, opdV_sl, opdV_fn, opdV_ref, opdV_cref, opdV_eref, opdV_isSl, frz_isSl, frzE_isSl, cells_isSl, cellOk_isSl, pm_isSl, prep_isSl, fin_isSl, ranged_isSl, pureR_isSl, sem_len_isSl, sem_ixs_isSl, sem_len_sl, sem_len_nil, sem_ixs_none, sem_ixs_some, semR, semx_mv, semx_pick, semx_box, semx_alloc, semx_build, semx_bsl, semx_load, semx_store, semx_bin, semx_eqs, semx_un, semx_conv, semx_mkf, semx_mkm, semx_fa, semx_fld, semx_ixa, semx_idx, semx_mks, semx_sls, semx_ext, semx_call, semx_append, semx_appz, semx_trunc, semx_cap, semx_min, semx_max, semx_nilc, opdV_und, opdV_dead, opdV_none, cellOk_bool, cells_bool, cellOk_int, cells_int, cellOk_nil, cells_nil, cellOk_sl, cells_sl, cellOk_fn, cells_fn, cellOk_ref, cells_ref, cellOk_cref, cells_cref, cellOk_eref, cells_eref, cells_agg, pm_bool, pm_int, pm_nil, pm_slN, pm_slS, pm_fn, h4, h6, hc, hF, L]
    | some j => simp at L; simp [l81, evBody, params, deadL, evC, prep, prepF, prepT, V.prep, prepL, stepL, stepI, wanted, opds, get, put, putO, callE, loadV, partV, valO, binV, binI, binS, unV, nilCmp, apply, keepL, memN, bxOf, tkOf, bxF, frzL, V.frz, frzEL, V.frzE, V.pureR, pureRL, V.tks, tksL, V.al, alL, V.rn, rnL, addT, protT, protAll, distinctN, fill, splice, fillE, eqSh, intsOf, maxL, minL, bounds, ranged, finish, result, rvs, finL, V.fin, one, goesOn, opd_t, opd_c, opd_f, opdV_box, opdV_int, opdV_bool, opdV_agg, opdV_tup, opdV_nil, opdV_sl, opdV_fn, opdV_ref, opdV_cref, opdV_eref, opdV_isSl, frz_isSl, frzE_isSl, cells_isSl, cellOk_isSl, pm_isSl, prep_isSl, fin_isSl, ranged_isSl, pureR_isSl, sem_len_isSl, sem_ixs_isSl, sem_len_sl, sem_len_nil, sem_ixs_none, sem_ixs_some, semR, semx_mv, semx_pick, semx_box, semx_alloc, semx_build, semx_bsl, semx_load, semx_store, semx_bin, semx_eqs, semx_un, semx_conv, semx_mkf, semx_mkm, semx_fa, semx_fld, semx_ixa, semx_idx, semx_mks, semx_sls, semx_ext, semx_call, semx_append, semx_appz, semx_trunc, semx_cap, semx_min, semx_max, semx_nilc, opdV_und, opdV_dead, opdV_none, cellOk_bool, cells_bool, cellOk_int, cells_int, cellOk_nil, cells_nil, cellOk_sl, cells_sl, cellOk_fn, cells_fn, cellOk_ref, cells_ref, cellOk_cref, cells_cref, cellOk_eref, cells_eref, cells_agg, pm_bool, pm_int, pm_nil, pm_slN, pm_slS, pm_fn, h4, h6, hc, hF, L]
  generalize (List.range rs.length).find? (fun i => if h : i < rs.length then p rs[i].1 else false) = o at h81
  refine run_of_body (N := 1) rfl rfl ?_
  cases o with
  | none => simp [l56, evBody, params, deadL, evC, prep, prepF, prepT, V.prep, prepL, stepL, stepI, wanted, opds, get, put, putO, callE, loadV, partV, valO, binV, binI, binS, unV, nilCmp, apply, keepL, memN, bxOf, tkOf, bxF, frzL, V.frz, frzEL, V.frzE, V.pureR, pureRL, V.tks, tksL, V.al, alL, V.rn, rnL, addT, protT, protAll, distinctN, fill, splice, fillE, eqSh, intsOf, maxL, minL, bounds, ranged, finish, result, rvs, finL, V.fin, one, goesOn, opd_t, opd_c, opd_f, opdV_box, opdV_int, opdV_bool, opdV_agg, opdV_tup, opdV_nil, opdV_sl, opdV_fn, opdV_ref, opdV_cref, opdV_eref, opdV_isSl, frz_isSl, frzE_isSl, cells_isSl, cellOk_isSl, pm_isSl, prep_isSl, fin_isSl, ranged_isSl, pureR_isSl, sem_len_isSl, sem_ixs_isSl, sem_len_sl, sem_len_nil, sem_ixs_none, sem_ixs_some, semR, semx_mv, semx_pick, semx_box, semx_alloc, semx_build, semx_bsl, semx_load, semx_store, semx_bin, semx_eqs, semx_un, semx_conv, semx_mkf, semx_mkm, semx_fa, semx_fld, semx_ixa, semx_idx, semx_mks, semx_sls, semx_ext, semx_call, semx_append, semx_appz, semx_trunc, semx_cap, semx_min, semx_max, semx_nilc, opdV_und, opdV_dead, opdV_none, cellOk_bool, cells_bool, cellOk_int, cells_int, cellOk_nil, cells_nil, cellOk_sl, cells_sl, cellOk_fn, cells_fn, cellOk_ref, cells_ref, cellOk_cref, cells_cref, cellOk_eref, cells_eref, cells_agg, pm_bool, pm_int, pm_nil, pm_slN, pm_slS, pm_fn, h4, hc, h81]
  | some j => simp [l56, evBody, params, deadL, evC, prep, prepF, prepT, V.prep, prepL, stepL, stepI, wanted, opds, get, put, putO, callE, loadV, partV, valO, binV, binI, binS, unV, nilCmp, apply, keepL, memN, bxOf, tkOf, bxF, frzL, V.frz, frzEL, V.frzE, V.pureR, pureRL, V.tks, tksL, V.al, alL, V.rn, rnL, addT, protT, protAll, distinctN, fill, splice, fillE, eqSh, intsOf, maxL, minL, bounds, ranged, finish, result, rvs, finL, V.fin, one, goesOn, opd_t, opd_c, opd_f, opdV_box, opdV_int, opdV_bool, opdV_agg, opdV_tup, opdV_nil, opdV_sl, opdV_fn, opdV_ref, opdV_cref, opdV_eref, opdV_isSl, frz_isSl, frzE_isSl, cells_isSl, cellOk_isSl, pm_isSl, prep_isSl, fin_isSl, ranged_isSl, pureR_isSl, sem_len_isSl, sem_ixs_isSl, sem_len_sl, sem_len_nil, sem_ixs_none, sem_ixs_some, semR, semx_mv, semx_pick, semx_box, semx_alloc, semx_build, semx_bsl, semx_load, semx_store, semx_bin, semx_eqs, semx_un, semx_conv, semx_mkf, semx_mkm, semx_fa, semx_fld, semx_ixa, semx_idx, semx_mks, semx_sls, semx_ext, semx_call, semx_append, semx_appz, semx_trunc, semx_cap, semx_min, semx_max, semx_nilc, opdV_und, opdV_dead, opdV_none, cellOk_bool, cells_bool, cellOk_int, cells_int, cellOk_nil, cells_nil, cellOk_sl, cells_sl, cellOk_fn, cells_fn, cellOk_ref, cells_ref, cellOk_cref, cells_cref, cellOk_eref, cells_eref, cells_agg, pm_bool, pm_int, pm_nil, pm_slN, pm_slS, pm_fn, h4, hc, h81]
end Go.Lo
/-! Lists that are equal; rows; copies. -/
namespace Go.Lo
open Go.Proofs
set_option linter.unusedSimpArgs false
theorem len_lt {α : Type} {xs : List α} {i : Nat} (h : xs[i]? ≠ none) : i < xs.length := by
  apply Decidable.byContradiction
  intro hn
  exact h (List.getElem?_eq_none (by omega))
theorem run58' (a b : Int) {v : V} {xs : List Int} (h : Ints v xs) (hl : xs.length < 9223372036854775807) :
    run Ft Ct 58 [I a, I b, v] = some (B (xs.all fun n => decide (a ≤ n ∧ n ≤ b))) := by
  rcases h.sl with rfl | ⟨es, rfl⟩
  · have he := h.el
    have hx : xs = [] := by cases xs with | nil => rfl | cons x xs => simp [els, eI] at he
    subst hx
    have h87 : run Ft Ct 87 [.nil, .fn (.f 83) [.cref [I a], .cref [I b]]] = some (I (-1)) := by
      refine run_of_body (N := 1) rfl rfl ?_
      simp [l87, b87_0, iter, evBody, params, deadL, evC, prep, prepF, prepT, V.prep, prepL, stepL, stepI, wanted, opds, opd, get, put, putO, sem, callE, loadV, partV, valO, binV, binI, binS, unV, nilCmp, apply, keepL, memN, bxOf, tkOf, bxF, frzL, V.frz, frzEL, V.frzE, V.pureR, pureRL, V.tks, tksL, V.al, alL, V.rn, rnL, addT, protT, protAll, distinctN, fill, splice, fillE, V.cells, V.cellOk, V.pm, eqSh, intsOf, maxL, minL, bounds, ranged, finish, result, rvs, finL, V.fin, one, goesOn]
    have h82 : run Ft Ct 82 [.nil, .fn (.f 83) [.cref [I a], .cref [I b]]] = some (B false) := by
      refine run_of_body (N := 1) rfl rfl ?_
      simp [l82, evBody, params, deadL, evC, prep, prepF, prepT, V.prep, prepL, stepL, stepI, wanted, opds, opd, get, put, putO, sem, callE, loadV, partV, valO, binV, binI, binS, unV, nilCmp, apply, keepL, memN, bxOf, tkOf, bxF, frzL, V.frz, frzEL, V.frzE, V.pureR, pureRL, V.tks, tksL, V.al, alL, V.rn, rnL, addT, protT, protAll, distinctN, fill, splice, fillE, V.cells, V.cellOk, V.pm, eqSh, intsOf, maxL, minL, bounds, ranged, finish, result, rvs, finL, V.fin, one, goesOn, h87]
    refine run_of_body (N := 1) rfl rfl ?_
    simp [l58, evBody, params, deadL, evC, prep, prepF, prepT, V.prep, prepL, stepL, stepI, wanted, opds, opd, get, put, putO, sem, callE, loadV, partV, valO, binV, binI, binS, unV, nilCmp, apply, keepL, memN, bxOf, tkOf, bxF, frzL, V.frz, frzEL, V.frzE, V.pureR, pureRL, V.tks, tksL, V.al, alL, V.rn, rnL, addT, protT, protAll, distinctN, fill, splice, fillE, V.cells, V.cellOk, V.pm, eqSh, intsOf, maxL, minL, bounds, ranged, finish, result, rvs, finL, V.fin, one, goesOn, h82]
  · have he := h.el
    simp only [els] at he
    rw [he]
    exact run58 a b hl
/-! ### equal -/
def s63 (a b : V) (i : Nat) : St := { fr := [(0, a), (1, b), (5, I i)], tk := [] }
theorem step63 {a b : V} {xs ys : List Int} (ha : Ints a xs) (hb : Ints b ys) (hl : xs.length = ys.length) (hb2 : xs.length < 9223372036854775807) {i : Nat} (hi : i < xs.length) (M : Nat) :
    evC (run Ft Ct) M b63_0 (s63 a b i) = some (if (!(xs[i]? == ys[i]?)) = true then (.ret, { fr := [(4, B false)], tk := [] }) else (.normal, s63 a b (i + 1))) := by
  obtain ⟨x, e1⟩ : ∃ x, xs[i]? = some x := ⟨xs[i], by simp [hi]⟩
  obtain ⟨y, e2⟩ : ∃ y, ys[i]? = some y := ⟨ys[i]'(by omega), by simp⟩
  have h1 : (els a)[i]? = some [I x] := by rw [ha.el]; simp [eI, e1]
  have h2 : (els b)[i]? = some [I y] := by rw [hb.el]; simp [eI, e2]
  have h3 := ha.sl
  have h4 := hb.sl
  have h5 := ha.len
  have hlt : (i : Int) < xs.length := by omega
  have hw := wrap_succ hi hb2
  rw [e1, e2]
  unfold s63
  generalize ((i + 1 : Nat) : Int) = m at *
  by_cases h : x = y
  · subst h
    simp [b63_0, evBody, params, deadL, evC, prep, prepF, prepT, V.prep, prepL, stepL, stepI, wanted, opds, get, put, putO, callE, loadV, partV, valO, binV, binI, binS, unV, nilCmp, apply, keepL, memN, bxOf, tkOf, bxF, frzL, V.frz, frzEL, V.frzE, V.pureR, pureRL, V.tks, tksL, V.al, alL, V.rn, rnL, addT, protT, protAll, distinctN, fill, splice, fillE, eqSh, intsOf, maxL, minL, bounds, ranged, finish, result, rvs, finL, V.fin, one, goesOn, opd_t, opd_c, opd_f, opdV_box, opdV_int, opdV_bool, opdV_agg, opdV_tup, opdV_nil, opdV_sl, opdV_fn, opdV_ref, opdV_cref, opdV_eref, opdV_isSl, frz_isSl, frzE_isSl, cells_isSl, cellOk_isSl, pm_isSl, prep_isSl, fin_isSl, ranged_isSl, pureR_isSl, sem_len_isSl, sem_ixs_isSl, sem_len_sl, sem_len_nil, sem_ixs_none, sem_ixs_some, semR, semx_mv, semx_pick, semx_box, semx_alloc, semx_build, semx_bsl, semx_load, semx_store, semx_bin, semx_eqs, semx_un, semx_conv, semx_mkf, semx_mkm, semx_fa, semx_fld, semx_ixa, semx_idx, semx_mks, semx_sls, semx_ext, semx_call, semx_append, semx_appz, semx_trunc, semx_cap, semx_min, semx_max, semx_nilc, opdV_und, opdV_dead, opdV_none, cellOk_bool, cells_bool, cellOk_int, cells_int, cellOk_nil, cells_nil, cellOk_sl, cells_sl, cellOk_fn, cells_fn, cellOk_ref, cells_ref, cellOk_cref, cells_cref, cellOk_eref, cells_eref, cells_agg, pm_bool, pm_int, pm_nil, pm_slN, pm_slS, pm_fn, hlt, h1, h2, h3, h4, h5, hw]
  · simp [b63_0, evBody, params, deadL, evC, prep, prepF, prepT, V.prep, prepL, stepL, stepI, wanted, opds, get, put, putO, callE, loadV, partV, valO, binV, binI, binS, unV, nilCmp, apply, keepL, memN, bxOf, tkOf, bxF, frzL, V.frz, frzEL, V.frzE, V.pureR, pureRL, V.tks, tksL, V.al, alL, V.rn, rnL, addT, protT, protAll, distinctN, fill, splice, fillE, eqSh, intsOf, maxL, minL, bounds, ranged, finish, result, rvs, finL, V.fin, one, goesOn, opd_t, opd_c, opd_f, opdV_box, opdV_int, opdV_bool, opdV_agg, opdV_tup, opdV_nil, opdV_sl, opdV_fn, opdV_ref, opdV_cref, opdV_eref, opdV_isSl, frz_isSl, frzE_isSl, cells_isSl, cellOk_isSl, pm_isSl, prep_isSl, fin_isSl, ranged_isSl, pureR_isSl, sem_len_isSl, sem_ixs_isSl, sem_len_sl, sem_len_nil, sem_ixs_none, sem_ixs_some, semR, semx_mv, semx_pick, semx_box, semx_alloc, semx_build, semx_bsl, semx_load, semx_store, semx_bin, semx_eqs, semx_un, semx_conv, semx_mkf, semx_mkm, semx_fa, semx_fld, semx_ixa, semx_idx, semx_mks, semx_sls, semx_ext, semx_call, semx_append, semx_appz, semx_trunc, semx_cap, semx_min, semx_max, semx_nilc, opdV_und, opdV_dead, opdV_none, cellOk_bool, cells_bool, cellOk_int, cells_int, cellOk_nil, cells_nil, cellOk_sl, cells_sl, cellOk_fn, cells_fn, cellOk_ref, cells_ref, cellOk_cref, cells_cref, cellOk_eref, cells_eref, cells_agg, pm_bool, pm_int, pm_nil, pm_slN, pm_slS, pm_fn, hlt, h1, h2, h3, h4, h5, hw, h]
theorem run63 {a b : V} {xs ys : List Int} (ha : Ints a xs) (hb : Ints b ys) (hb2 : xs.length < 9223372036854775807) : run Ft Ct 63 [a, b] = some (B (decide (xs = ys))) := by
  have h3 := ha.sl
  have h4 := hb.sl
  have h5 := ha.len
  have h6 := hb.len
  by_cases hl : xs.length = ys.length
  · have L := loop_find (s := s63 a b) (f := evC (run Ft Ct) (xs.length + 1) b63_0) (n := xs.length) (g := fun i => !(xs[i]? == ys[i]?)) (E := fun i => (.ret, { fr := [(4, B false)], tk := [] })) (X := (.exit 0, { fr := [(0, a), (1, b), (5, I xs.length), (14, B false)], tk := [] }))
      (fun i hi => step63 ha hb hl hb2 hi _) (fun _ => by simp) (by simp [b63_0, s63, evBody, params, deadL, evC, prep, prepF, prepT, V.prep, prepL, stepL, stepI, wanted, opds, get, put, putO, callE, loadV, partV, valO, binV, binI, binS, unV, nilCmp, apply, keepL, memN, bxOf, tkOf, bxF, frzL, V.frz, frzEL, V.frzE, V.pureR, pureRL, V.tks, tksL, V.al, alL, V.rn, rnL, addT, protT, protAll, distinctN, fill, splice, fillE, eqSh, intsOf, maxL, minL, bounds, ranged, finish, result, rvs, finL, V.fin, one, goesOn, opd_t, opd_c, opd_f, opdV_box, opdV_int, opdV_bool, opdV_agg, opdV_tup, opdV_nil, opdV_sl, opdV_fn, opdV_ref, opdV_cref, opdV_eref, opdV_isSl, frz_isSl, frzE_isSl, cells_isSl, cellOk_isSl, pm_isSl, prep_isSl, fin_isSl, ranged_isSl, pureR_isSl, sem_len_isSl, sem_ixs_isSl, sem_len_sl, sem_len_nil, sem_ixs_none, sem_ixs_some, semR, semx_mv, semx_pick, semx_box, semx_alloc, semx_build, semx_bsl, semx_load, semx_store, semx_bin, semx_eqs, semx_un, semx_conv, semx_mkf, semx_mkm, semx_fa, semx_fld, semx_ixa, semx_idx, semx_mks, semx_sls, semx_ext, semx_call, semx_append, semx_appz, semx_trunc, semx_cap, semx_min, semx_max, semx_nilc, opdV_und, opdV_dead, opdV_none, cellOk_bool, cells_bool, cellOk_int, cells_int, cellOk_nil, cells_nil, cellOk_sl, cells_sl, cellOk_fn, cells_fn, cellOk_ref, cells_ref, cellOk_cref, cells_cref, cellOk_eref, cells_eref, cells_agg, pm_bool, pm_int, pm_nil, pm_slN, pm_slS, pm_fn, h3, h4, h5]) (by simp) xs.length 0 (by omega)
    rw [← List.range_eq_range'] at L
    refine run_of_body (N := xs.length + 1) rfl rfl ?_
    generalize hF : evC (run Ft Ct) (xs.length + 1) b63_0 = F at L
    have hl' : ((xs.length : Int) = ys.length) := by omega
    cases hf : (List.range xs.length).find? (fun i => !(xs[i]? == ys[i]?)) with
    | none =>
      have he : xs = ys := by
        apply List.ext_getElem? 
        intro i
        by_cases hi : i < xs.length
        · have := List.find?_eq_none.1 hf i (List.mem_range.2 hi)
          simpa using this
        · rw [List.getElem?_eq_none (by omega), List.getElem?_eq_none (by omega)]
      rw [hf] at L
      unfold s63 at L
      simp at L
      subst he
      simp [l63, evBody, params, deadL, evC, prep, prepF, prepT, V.prep, prepL, stepL, stepI, wanted, opds, get, put, putO, callE, loadV, partV, valO, binV, binI, binS, unV, nilCmp, apply, keepL, memN, bxOf, tkOf, bxF, frzL, V.frz, frzEL, V.frzE, V.pureR, pureRL, V.tks, tksL, V.al, alL, V.rn, rnL, addT, protT, protAll, distinctN, fill, splice, fillE, eqSh, intsOf, maxL, minL, bounds, ranged, finish, result, rvs, finL, V.fin, one, goesOn, opd_t, opd_c, opd_f, opdV_box, opdV_int, opdV_bool, opdV_agg, opdV_tup, opdV_nil, opdV_sl, opdV_fn, opdV_ref, opdV_cref, opdV_eref, opdV_isSl, frz_isSl, frzE_isSl, cells_isSl, cellOk_isSl, pm_isSl, prep_isSl, fin_isSl, ranged_isSl, pureR_isSl, sem_len_isSl, sem_ixs_isSl, sem_len_sl, sem_len_nil, sem_ixs_none, sem_ixs_some, semR, semx_mv, semx_pick, semx_box, semx_alloc, semx_build, semx_bsl, semx_load, semx_store, semx_bin, semx_eqs, semx_un, semx_conv, semx_mkf, semx_mkm, semx_fa, semx_fld, semx_ixa, semx_idx, semx_mks, semx_sls, semx_ext, semx_call, semx_append, semx_appz, semx_trunc, semx_cap, semx_min, semx_max, semx_nilc, opdV_und, opdV_dead, opdV_none, cellOk_bool, cells_bool, cellOk_int, cells_int, cellOk_nil, cells_nil, cellOk_sl, cells_sl, cellOk_fn, cells_fn, cellOk_ref, cells_ref, cellOk_cref, cells_cref, cellOk_eref, cells_eref, cells_agg, pm_bool, pm_int, pm_nil, pm_slN, pm_slS, pm_fn, h3, h4, h5, h6, hF, L]
    | some j =>
      have he : ¬ xs = ys := by
        intro h
        have := List.find?_some hf
        rw [h] at this
        simp at this
      rw [hf] at L
      unfold s63 at L
      simp at L
      simp [l63, evBody, params, deadL, evC, prep, prepF, prepT, V.prep, prepL, stepL, stepI, wanted, opds, get, put, putO, callE, loadV, partV, valO, binV, binI, binS, unV, nilCmp, apply, keepL, memN, bxOf, tkOf, bxF, frzL, V.frz, frzEL, V.frzE, V.pureR, pureRL, V.tks, tksL, V.al, alL, V.rn, rnL, addT, protT, protAll, distinctN, fill, splice, fillE, eqSh, intsOf, maxL, minL, bounds, ranged, finish, result, rvs, finL, V.fin, one, goesOn, opd_t, opd_c, opd_f, opdV_box, opdV_int, opdV_bool, opdV_agg, opdV_tup, opdV_nil, opdV_sl, opdV_fn, opdV_ref, opdV_cref, opdV_eref, opdV_isSl, frz_isSl, frzE_isSl, cells_isSl, cellOk_isSl, pm_isSl, prep_isSl, fin_isSl, ranged_isSl, pureR_isSl, sem_len_isSl, sem_ixs_isSl, sem_len_sl, sem_len_nil, sem_ixs_none, sem_ixs_some, semR, semx_mv, semx_pick, semx_box, semx_alloc, semx_build, semx_bsl, semx_load, semx_store, semx_bin, semx_eqs, semx_un, semx_conv, semx_mkf, semx_mkm, semx_fa, semx_fld, semx_ixa, semx_idx, semx_mks, semx_sls, semx_ext, semx_call, semx_append, semx_appz, semx_trunc, semx_cap, semx_min, semx_max, semx_nilc, opdV_und, opdV_dead, opdV_none, cellOk_bool, cells_bool, cellOk_int, cells_int, cellOk_nil, cells_nil, cellOk_sl, cells_sl, cellOk_fn, cells_fn, cellOk_ref, cells_ref, cellOk_cref, cells_cref, cellOk_eref, cells_eref, cells_agg, pm_bool, pm_int, pm_nil, pm_slN, pm_slS, pm_fn, h3, h4, h5, h6, hl', hF, L, he]
  · have he : ¬ xs = ys := fun h => hl (by rw [h])
    have hl' : ¬ ((xs.length : Int) = ys.length) := by omega
    refine run_of_body (N := 1) rfl rfl ?_
    simp [l63, evBody, params, deadL, evC, prep, prepF, prepT, V.prep, prepL, stepL, stepI, wanted, opds, get, put, putO, callE, loadV, partV, valO, binV, binI, binS, unV, nilCmp, apply, keepL, memN, bxOf, tkOf, bxF, frzL, V.frz, frzEL, V.frzE, V.pureR, pureRL, V.tks, tksL, V.al, alL, V.rn, rnL, addT, protT, protAll, distinctN, fill, splice, fillE, eqSh, intsOf, maxL, minL, bounds, ranged, finish, result, rvs, finL, V.fin, one, goesOn, opd_t, opd_c, opd_f, opdV_box, opdV_int, opdV_bool, opdV_agg, opdV_tup, opdV_nil, opdV_sl, opdV_fn, opdV_ref, opdV_cref, opdV_eref, opdV_isSl, frz_isSl, frzE_isSl, cells_isSl, cellOk_isSl, pm_isSl, prep_isSl, fin_isSl, ranged_isSl, pureR_isSl, sem_len_isSl, sem_ixs_isSl, sem_len_sl, sem_len_nil, sem_ixs_none, sem_ixs_some, semR, semx_mv, semx_pick, semx_box, semx_alloc, semx_build, semx_bsl, semx_load, semx_store, semx_bin, semx_eqs, semx_un, semx_conv, semx_mkf, semx_mkm, semx_fa, semx_fld, semx_ixa, semx_idx, semx_mks, semx_sls, semx_ext, semx_call, semx_append, semx_appz, semx_trunc, semx_cap, semx_min, semx_max, semx_nilc, opdV_und, opdV_dead, opdV_none, cellOk_bool, cells_bool, cellOk_int, cells_int, cellOk_nil, cells_nil, cellOk_sl, cells_sl, cellOk_fn, cells_fn, cellOk_ref, cells_ref, cellOk_cref, cells_cref, cellOk_eref, cells_eref, cells_agg, pm_bool, pm_int, pm_nil, pm_slN, pm_slS, pm_fn, h3, h4, h5, h6, hl', he]
/-! ### The reference's rows -/
def s64 (v : V) (many least : Int) (form : Bool) (i : Nat) : St := { fr := [(0, v), (1, I many), (2, I least), (3, B form), (9, I i)], tk := [] }
theorem step64t {v : V} {rs : List (V × List Int)} (hv : RowsV v rs) (many least : Int) (hl : rs.length < 9223372036854775807) {i : Nat} (hi : i < rs.length) (M : Nat) :
    evC (run Ft Ct) (M + 1) b64_0 (s64 v many least true i) = some (if (!decide ((rs[i].2.length : Int) = many)) = true then (.ret, { fr := [(8, I 4)], tk := [] }) else (.normal, s64 v many least true (i + 1))) := by
  obtain ⟨h1, h2⟩ := hv.get hi
  have h3 := hv.sl
  have h4 := h2.sl
  have h5 := hv.len
  have h6 := h2.len
  have hlt : (i : Int) < rs.length := by omega
  have hw := wrap_succ hi hl
  unfold s64
  generalize ((i + 1 : Nat) : Int) = m at *
  generalize rs[i].1 = r at *
  generalize rs[i].2.length = k at *
  by_cases hk : (k : Int) = many
  · subst hk
    by_cases h0 : 0 < k
    · simp [b64_0, b64_1, iter_step, evBody, params, deadL, evC, prep, prepF, prepT, V.prep, prepL, stepL, stepI, wanted, opds, get, put, putO, callE, loadV, partV, valO, binV, binI, binS, unV, nilCmp, apply, keepL, memN, bxOf, tkOf, bxF, frzL, V.frz, frzEL, V.frzE, V.pureR, pureRL, V.tks, tksL, V.al, alL, V.rn, rnL, addT, protT, protAll, distinctN, fill, splice, fillE, eqSh, intsOf, maxL, minL, bounds, ranged, finish, result, rvs, finL, V.fin, one, goesOn, opd_t, opd_c, opd_f, opdV_box, opdV_int, opdV_bool, opdV_agg, opdV_tup, opdV_nil, opdV_sl, opdV_fn, opdV_ref, opdV_cref, opdV_eref, opdV_isSl, frz_isSl, frzE_isSl, cells_isSl, cellOk_isSl, pm_isSl, prep_isSl, fin_isSl, ranged_isSl, pureR_isSl, sem_len_isSl, sem_ixs_isSl, sem_len_sl, sem_len_nil, sem_ixs_none, sem_ixs_some, semR, semx_mv, semx_pick, semx_box, semx_alloc, semx_build, semx_bsl, semx_load, semx_store, semx_bin, semx_eqs, semx_un, semx_conv, semx_mkf, semx_mkm, semx_fa, semx_fld, semx_ixa, semx_idx, semx_mks, semx_sls, semx_ext, semx_call, semx_append, semx_appz, semx_trunc, semx_cap, semx_min, semx_max, semx_nilc, opdV_und, opdV_dead, opdV_none, cellOk_bool, cells_bool, cellOk_int, cells_int, cellOk_nil, cells_nil, cellOk_sl, cells_sl, cellOk_fn, cells_fn, cellOk_ref, cells_ref, cellOk_cref, cells_cref, cellOk_eref, cells_eref, cells_agg, pm_bool, pm_int, pm_nil, pm_slN, pm_slS, pm_fn, hlt, h1, h3, h4, h5, h6, hw, h0]
    · simp [b64_0, b64_1, iter_step, evBody, params, deadL, evC, prep, prepF, prepT, V.prep, prepL, stepL, stepI, wanted, opds, get, put, putO, callE, loadV, partV, valO, binV, binI, binS, unV, nilCmp, apply, keepL, memN, bxOf, tkOf, bxF, frzL, V.frz, frzEL, V.frzE, V.pureR, pureRL, V.tks, tksL, V.al, alL, V.rn, rnL, addT, protT, protAll, distinctN, fill, splice, fillE, eqSh, intsOf, maxL, minL, bounds, ranged, finish, result, rvs, finL, V.fin, one, goesOn, opd_t, opd_c, opd_f, opdV_box, opdV_int, opdV_bool, opdV_agg, opdV_tup, opdV_nil, opdV_sl, opdV_fn, opdV_ref, opdV_cref, opdV_eref, opdV_isSl, frz_isSl, frzE_isSl, cells_isSl, cellOk_isSl, pm_isSl, prep_isSl, fin_isSl, ranged_isSl, pureR_isSl, sem_len_isSl, sem_ixs_isSl, sem_len_sl, sem_len_nil, sem_ixs_none, sem_ixs_some, semR, semx_mv, semx_pick, semx_box, semx_alloc, semx_build, semx_bsl, semx_load, semx_store, semx_bin, semx_eqs, semx_un, semx_conv, semx_mkf, semx_mkm, semx_fa, semx_fld, semx_ixa, semx_idx, semx_mks, semx_sls, semx_ext, semx_call, semx_append, semx_appz, semx_trunc, semx_cap, semx_min, semx_max, semx_nilc, opdV_und, opdV_dead, opdV_none, cellOk_bool, cells_bool, cellOk_int, cells_int, cellOk_nil, cells_nil, cellOk_sl, cells_sl, cellOk_fn, cells_fn, cellOk_ref, cells_ref, cellOk_cref, cells_cref, cellOk_eref, cells_eref, cells_agg, pm_bool, pm_int, pm_nil, pm_slN, pm_slS, pm_fn, hlt, h1, h3, h4, h5, h6, hw, h0]
  · simp [b64_0, evBody, params, deadL, evC, prep, prepF, prepT, V.prep, prepL, stepL, stepI, wanted, opds, get, put, putO, callE, loadV, partV, valO, binV, binI, binS, unV, nilCmp, apply, keepL, memN, bxOf, tkOf, bxF, frzL, V.frz, frzEL, V.frzE, V.pureR, pureRL, V.tks, tksL, V.al, alL, V.rn, rnL, addT, protT, protAll, distinctN, fill, splice, fillE, eqSh, intsOf, maxL, minL, bounds, ranged, finish, result, rvs, finL, V.fin, one, goesOn, opd_t, opd_c, opd_f, opdV_box, opdV_int, opdV_bool, opdV_agg, opdV_tup, opdV_nil, opdV_sl, opdV_fn, opdV_ref, opdV_cref, opdV_eref, opdV_isSl, frz_isSl, frzE_isSl, cells_isSl, cellOk_isSl, pm_isSl, prep_isSl, fin_isSl, ranged_isSl, pureR_isSl, sem_len_isSl, sem_ixs_isSl, sem_len_sl, sem_len_nil, sem_ixs_none, sem_ixs_some, semR, semx_mv, semx_pick, semx_box, semx_alloc, semx_build, semx_bsl, semx_load, semx_store, semx_bin, semx_eqs, semx_un, semx_conv, semx_mkf, semx_mkm, semx_fa, semx_fld, semx_ixa, semx_idx, semx_mks, semx_sls, semx_ext, semx_call, semx_append, semx_appz, semx_trunc, semx_cap, semx_min, semx_max, semx_nilc, opdV_und, opdV_dead, opdV_none, cellOk_bool, cells_bool, cellOk_int, cells_int, cellOk_nil, cells_nil, cellOk_sl, cells_sl, cellOk_fn, cells_fn, cellOk_ref, cells_ref, cellOk_cref, cells_cref, cellOk_eref, cells_eref, cells_agg, pm_bool, pm_int, pm_nil, pm_slN, pm_slS, pm_fn, hlt, h1, h3, h4, h5, h6, hw, hk]
theorem all_find {n : Nat} {g : Nat → Bool} : (List.range n).all g = ((List.range n).find? fun i => !g i).isNone := by
  rw [Bool.eq_iff_iff, List.all_eq_true, Option.isNone_iff_eq_none, List.find?_eq_none]
  simp
theorem any_rows {rs : List (V × List Int)} {p : List Int → Bool} : (rs.map (·.2)).any p = ((List.range rs.length).find? fun i => if h : i < rs.length then p rs[i].2 else false).isSome := by
  rw [find_any, Bool.eq_iff_iff, List.any_eq_true, List.any_eq_true]
  constructor
  · rintro ⟨r, h1, h2⟩
    obtain ⟨i, hi, rfl⟩ := List.mem_iff_getElem.1 h1
    rw [List.length_map] at hi
    exact ⟨i, by simp [hi], by simpa [hi] using h2⟩
  · rintro ⟨i, h1, h2⟩
    have hi : i < rs.length := by simpa using h1
    simp [hi] at h2
    exact ⟨_, List.mem_map_of_mem (List.getElem_mem hi), h2⟩
theorem run64t {v : V} {rs : List (V × List Int)} (hv : RowsV v rs) (many least : Int) (hl : rs.length < 9223372036854775807) :
    run Ft Ct 64 [v, I many, I least, B true] = some (I (if (rs.map (·.2)).any (fun r => !decide ((r.length : Int) = many)) = true then 4 else 0)) := by
  have h3 := hv.sl
  have h5 := hv.len
  have L := loop_find (s := s64 v many least true) (f := evC (run Ft Ct) (rs.length + 1) b64_0) (n := rs.length) (g := fun i => if h : i < rs.length then (fun r : List Int => !decide ((r.length : Int) = many)) rs[i].2 else false) (E := fun i => (.ret, { fr := [(8, I 4)], tk := [] })) (X := (.exit 0, { fr := [(0, v), (1, I many), (2, I least), (3, B true), (9, I rs.length), (14, B false)], tk := [] }))
    (fun i hi => by rw [step64t hv many least hl hi]; simp [hi]) (fun _ => by simp) (by simp [b64_0, s64, evBody, params, deadL, evC, prep, prepF, prepT, V.prep, prepL, stepL, stepI, wanted, opds, get, put, putO, callE, loadV, partV, valO, binV, binI, binS, unV, nilCmp, apply, keepL, memN, bxOf, tkOf, bxF, frzL, V.frz, frzEL, V.frzE, V.pureR, pureRL, V.tks, tksL, V.al, alL, V.rn, rnL, addT, protT, protAll, distinctN, fill, splice, fillE, eqSh, intsOf, maxL, minL, bounds, ranged, finish, result, rvs, finL, V.fin, one, goesOn, opd_t, opd_c, opd_f, opdV_box, opdV_int, opdV_bool, opdV_agg, opdV_tup, opdV_nil, opdV_sl, opdV_fn, opdV_ref, opdV_cref, opdV_eref, opdV_isSl, frz_isSl, frzE_isSl, cells_isSl, cellOk_isSl, pm_isSl, prep_isSl, fin_isSl, ranged_isSl, pureR_isSl, sem_len_isSl, sem_ixs_isSl, sem_len_sl, sem_len_nil, sem_ixs_none, sem_ixs_some, semR, semx_mv, semx_pick, semx_box, semx_alloc, semx_build, semx_bsl, semx_load, semx_store, semx_bin, semx_eqs, semx_un, semx_conv, semx_mkf, semx_mkm, semx_fa, semx_fld, semx_ixa, semx_idx, semx_mks, semx_sls, semx_ext, semx_call, semx_append, semx_appz, semx_trunc, semx_cap, semx_min, semx_max, semx_nilc, opdV_und, opdV_dead, opdV_none, cellOk_bool, cells_bool, cellOk_int, cells_int, cellOk_nil, cells_nil, cellOk_sl, cells_sl, cellOk_fn, cells_fn, cellOk_ref, cells_ref, cellOk_cref, cells_cref, cellOk_eref, cells_eref, cells_agg, pm_bool, pm_int, pm_nil, pm_slN, pm_slS, pm_fn, h3, h5]) (by simp) rs.length 0 (by omega)
  rw [← List.range_eq_range'] at L
  rw [any_rows]
  refine run_of_body (N := rs.length + 1) rfl rfl ?_
  generalize hF : evC (run Ft Ct) (rs.length + 1) b64_0 = F at L
  generalize (List.range rs.length).find? (fun i => if h : i < rs.length then (fun r : List Int => !decide ((r.length : Int) = many)) rs[i].2 else false) = o at *
  unfold s64 at L
  cases o with
  | none => simp at L; simp [l64, evBody, params, deadL, evC, prep, prepF, prepT, V.prep, prepL, stepL, stepI, wanted, opds, get, put, putO, callE, loadV, partV, valO, binV, binI, binS, unV, nilCmp, apply, keepL, memN, bxOf, tkOf, bxF, frzL, V.frz, frzEL, V.frzE, V.pureR, pureRL, V.tks, tksL, V.al, alL, V.rn, rnL, addT, protT, protAll, distinctN, fill, splice, fillE, eqSh, intsOf, maxL, minL, bounds, ranged, finish, result, rvs, finL, V.fin, one, goesOn, opd_t, opd_c, opd_f, opdV_box, opdV_int, opdV_bool, opdV_agg, opdV_tup, opdV_nil, opdV_sl, opdV_fn, opdV_ref, opdV_cref, opdV_eref, opdV_isSl, frz_isSl, frzE_isSl, cells_isSl, cellOk_isSl, pm_isSl, prep_isSl, fin_isSl, ranged_isSl, pureR_isSl, sem_len_isSl, sem_ixs_isSl, sem_len_sl, sem_len_nil, sem_ixs_none, sem_ixs_some, semR, semx_mv, semx_pick, semx_box, semx_alloc, semx_build, semx_bsl, semx_load, semx_store, semx_bin, semx_eqs, semx_un, semx_conv, semx_mkf, semx_mkm, semx_fa, semx_fld, semx_ixa, semx_idx, semx_mks, semx_sls, semx_ext, semx_call, semx_append, semx_appz, semx_trunc, semx_cap, semx_min, semx_max, semx_nilc, opdV_und, opdV_dead, opdV_none, cellOk_bool, cells_bool, cellOk_int, cells_int, cellOk_nil, cells_nil, cellOk_sl, cells_sl, cellOk_fn, cells_fn, cellOk_ref, cells_ref, cellOk_cref, cells_cref, cellOk_eref, cells_eref, cells_agg, pm_bool, pm_int, pm_nil, pm_slN, pm_slS, pm_fn, h3, h5, hF, L]
  | some j => simp at L; simp [l64, evBody, params, deadL, evC, prep, prepF, prepT, V.prep, prepL, stepL, stepI, wanted, opds, get, put, putO, callE, loadV, partV, valO, binV, binI, binS, unV, nilCmp, apply, keepL, memN, bxOf, tkOf, bxF, frzL, V.frz, frzEL, V.frzE, V.pureR, pureRL, V.tks, tksL, V.al, alL, V.rn, rnL, addT, protT, protAll, distinctN, fill, splice, fillE, eqSh, intsOf, maxL, minL, bounds, ranged, finish, result, rvs, finL, V.fin, one, goesOn, opd_t, opd_c, opd_f, opdV_box, opdV_int, opdV_bool, opdV_agg, opdV_tup, opdV_nil, opdV_sl, opdV_fn, opdV_ref, opdV_cref, opdV_eref, opdV_isSl, frz_isSl, frzE_isSl, cells_isSl, cellOk_isSl, pm_isSl, prep_isSl, fin_isSl, ranged_isSl, pureR_isSl, sem_len_isSl, sem_ixs_isSl, sem_len_sl, sem_len_nil, sem_ixs_none, sem_ixs_some, semR, semx_mv, semx_pick, semx_box, semx_alloc, semx_build, semx_bsl, semx_load, semx_store, semx_bin, semx_eqs, semx_un, semx_conv, semx_mkf, semx_mkm, semx_fa, semx_fld, semx_ixa, semx_idx, semx_mks, semx_sls, semx_ext, semx_call, semx_append, semx_appz, semx_trunc, semx_cap, semx_min, semx_max, semx_nilc, opdV_und, opdV_dead, opdV_none, cellOk_bool, cells_bool, cellOk_int, cells_int, cellOk_nil, cells_nil, cellOk_sl, cells_sl, cellOk_fn, cells_fn, cellOk_ref, cells_ref, cellOk_cref, cells_cref, cellOk_eref, cells_eref, cells_agg, pm_bool, pm_int, pm_nil, pm_slN, pm_slS, pm_fn, h3, h5, hF, L]
def inR (a b : Int) (xs : List Int) : Bool := xs.all fun n => decide (a ≤ n ∧ n ≤ b)
def s64i (v : V) (many least : Int) (i k : Nat) : St := { fr := [(0, v), (1, I many), (2, I least), (3, B false), (9, I i), (10, I k)], tk := [] }
theorem step64i {v : V} {rs : List (V × List Int)} (hv : RowsV v rs) (many least : Int) {i : Nat} (hi : i < rs.length) (hl : rs[i].2.length < 9223372036854775807) {k : Nat} (hk : k < rs[i].2.length) (M : Nat) :
    evC (run Ft Ct) M b64_1 (s64i v many least i k) = some (if (!decide (least ≤ rs[i].2[k] ∧ rs[i].2[k] ≤ 100000)) = true then (.ret, { fr := [(8, I 2)], tk := [] }) else (.normal, s64i v many least i (k + 1))) := by
  obtain ⟨h1, h2⟩ := hv.get hi
  have h3 := hv.sl
  have h4 := h2.sl
  have h6 := h2.len
  have h7 := h2.get hk
  have hlt : (k : Int) < rs[i].2.length := by omega
  have hw := wrap_succ hk hl
  have h65 := run65 rs[i].2[k] least 100000
  unfold s64i
  generalize ((k + 1 : Nat) : Int) = m at *
  generalize rs[i].2[k] = x at *
  generalize rs[i].2.length = n at *
  generalize rs[i].1 = r at *
  by_cases hx : least ≤ x ∧ x ≤ 100000
  · rw [decide_eq_true hx] at h65
    simp [b64_1, evBody, params, deadL, evC, prep, prepF, prepT, V.prep, prepL, stepL, stepI, wanted, opds, get, put, putO, callE, loadV, partV, valO, binV, binI, binS, unV, nilCmp, apply, keepL, memN, bxOf, tkOf, bxF, frzL, V.frz, frzEL, V.frzE, V.pureR, pureRL, V.tks, tksL, V.al, alL, V.rn, rnL, addT, protT, protAll, distinctN, fill, splice, fillE, eqSh, intsOf, maxL, minL, bounds, ranged, finish, result, rvs, finL, V.fin, one, goesOn, opd_t, opd_c, opd_f, opdV_box, opdV_int, opdV_bool, opdV_agg, opdV_tup, opdV_nil, opdV_sl, opdV_fn, opdV_ref, opdV_cref, opdV_eref, opdV_isSl, frz_isSl, frzE_isSl, cells_isSl, cellOk_isSl, pm_isSl, prep_isSl, fin_isSl, ranged_isSl, pureR_isSl, sem_len_isSl, sem_ixs_isSl, sem_len_sl, sem_len_nil, sem_ixs_none, sem_ixs_some, semR, semx_mv, semx_pick, semx_box, semx_alloc, semx_build, semx_bsl, semx_load, semx_store, semx_bin, semx_eqs, semx_un, semx_conv, semx_mkf, semx_mkm, semx_fa, semx_fld, semx_ixa, semx_idx, semx_mks, semx_sls, semx_ext, semx_call, semx_append, semx_appz, semx_trunc, semx_cap, semx_min, semx_max, semx_nilc, opdV_und, opdV_dead, opdV_none, cellOk_bool, cells_bool, cellOk_int, cells_int, cellOk_nil, cells_nil, cellOk_sl, cells_sl, cellOk_fn, cells_fn, cellOk_ref, cells_ref, cellOk_cref, cells_cref, cellOk_eref, cells_eref, cells_agg, pm_bool, pm_int, pm_nil, pm_slN, pm_slS, pm_fn, hlt, h1, h3, h4, h6, h7, hw, h65, hx]
  · rw [decide_eq_false hx] at h65
    rw [decide_eq_false hx]
    simp [b64_1, evBody, params, deadL, evC, prep, prepF, prepT, V.prep, prepL, stepL, stepI, wanted, opds, get, put, putO, callE, loadV, partV, valO, binV, binI, binS, unV, nilCmp, apply, keepL, memN, bxOf, tkOf, bxF, frzL, V.frz, frzEL, V.frzE, V.pureR, pureRL, V.tks, tksL, V.al, alL, V.rn, rnL, addT, protT, protAll, distinctN, fill, splice, fillE, eqSh, intsOf, maxL, minL, bounds, ranged, finish, result, rvs, finL, V.fin, one, goesOn, opd_t, opd_c, opd_f, opdV_box, opdV_int, opdV_bool, opdV_agg, opdV_tup, opdV_nil, opdV_sl, opdV_fn, opdV_ref, opdV_cref, opdV_eref, opdV_isSl, frz_isSl, frzE_isSl, cells_isSl, cellOk_isSl, pm_isSl, prep_isSl, fin_isSl, ranged_isSl, pureR_isSl, sem_len_isSl, sem_ixs_isSl, sem_len_sl, sem_len_nil, sem_ixs_none, sem_ixs_some, semR, semx_mv, semx_pick, semx_box, semx_alloc, semx_build, semx_bsl, semx_load, semx_store, semx_bin, semx_eqs, semx_un, semx_conv, semx_mkf, semx_mkm, semx_fa, semx_fld, semx_ixa, semx_idx, semx_mks, semx_sls, semx_ext, semx_call, semx_append, semx_appz, semx_trunc, semx_cap, semx_min, semx_max, semx_nilc, opdV_und, opdV_dead, opdV_none, cellOk_bool, cells_bool, cellOk_int, cells_int, cellOk_nil, cells_nil, cellOk_sl, cells_sl, cellOk_fn, cells_fn, cellOk_ref, cells_ref, cellOk_cref, cells_cref, cellOk_eref, cells_eref, cells_agg, pm_bool, pm_int, pm_nil, pm_slN, pm_slS, pm_fn, hlt, h1, h3, h4, h6, h7, hw, h65]
theorem loop64i {v : V} {rs : List (V × List Int)} (hv : RowsV v rs) (many least : Int) {i : Nat} (hi : i < rs.length) (hl : rs[i].2.length < 9223372036854775807) (M : Nat) :
    iter (evC (run Ft Ct) M b64_1) (rs[i].2.length + 1) (s64i v many least i 0) = some (if inR least 100000 rs[i].2 = true then (.exit 2, { fr := [(0, v), (1, I many), (2, I least), (3, B false), (9, I i), (10, I rs[i].2.length), (37, B false)], tk := [] }) else (.ret, { fr := [(8, I 2)], tk := [] })) := by
  obtain ⟨h1, h2⟩ := hv.get hi
  have h3 := hv.sl
  have h4 := h2.sl
  have h6 := h2.len
  have L := loop_find (s := s64i v many least i) (f := evC (run Ft Ct) M b64_1) (n := rs[i].2.length) (g := fun k => if h : k < rs[i].2.length then !decide (least ≤ rs[i].2[k] ∧ rs[i].2[k] ≤ 100000) else false) (E := fun _ => (.ret, { fr := [(8, I 2)], tk := [] })) (X := (.exit 2, { fr := [(0, v), (1, I many), (2, I least), (3, B false), (9, I i), (10, I rs[i].2.length), (37, B false)], tk := [] }))
    (fun k hk => by rw [step64i hv many least hi hl hk]; simp [hk]) (fun _ => by simp) (by simp [b64_1, s64i, evBody, params, deadL, evC, prep, prepF, prepT, V.prep, prepL, stepL, stepI, wanted, opds, get, put, putO, callE, loadV, partV, valO, binV, binI, binS, unV, nilCmp, apply, keepL, memN, bxOf, tkOf, bxF, frzL, V.frz, frzEL, V.frzE, V.pureR, pureRL, V.tks, tksL, V.al, alL, V.rn, rnL, addT, protT, protAll, distinctN, fill, splice, fillE, eqSh, intsOf, maxL, minL, bounds, ranged, finish, result, rvs, finL, V.fin, one, goesOn, opd_t, opd_c, opd_f, opdV_box, opdV_int, opdV_bool, opdV_agg, opdV_tup, opdV_nil, opdV_sl, opdV_fn, opdV_ref, opdV_cref, opdV_eref, opdV_isSl, frz_isSl, frzE_isSl, cells_isSl, cellOk_isSl, pm_isSl, prep_isSl, fin_isSl, ranged_isSl, pureR_isSl, sem_len_isSl, sem_ixs_isSl, sem_len_sl, sem_len_nil, sem_ixs_none, sem_ixs_some, semR, semx_mv, semx_pick, semx_box, semx_alloc, semx_build, semx_bsl, semx_load, semx_store, semx_bin, semx_eqs, semx_un, semx_conv, semx_mkf, semx_mkm, semx_fa, semx_fld, semx_ixa, semx_idx, semx_mks, semx_sls, semx_ext, semx_call, semx_append, semx_appz, semx_trunc, semx_cap, semx_min, semx_max, semx_nilc, opdV_und, opdV_dead, opdV_none, cellOk_bool, cells_bool, cellOk_int, cells_int, cellOk_nil, cells_nil, cellOk_sl, cells_sl, cellOk_fn, cells_fn, cellOk_ref, cells_ref, cellOk_cref, cells_cref, cellOk_eref, cells_eref, cells_agg, pm_bool, pm_int, pm_nil, pm_slN, pm_slS, pm_fn, h1, h3, h4, h6]) (by simp) rs[i].2.length 0 (by omega)
  rw [← List.range_eq_range'] at L
  rw [L]
  have : inR least 100000 rs[i].2 = ((List.range rs[i].2.length).find? fun k => if h : k < rs[i].2.length then !decide (least ≤ rs[i].2[k] ∧ rs[i].2[k] ≤ 100000) else false).isNone := by
    rw [Bool.eq_iff_iff, Option.isNone_iff_eq_none, List.find?_eq_none]
    unfold inR
    rw [List.all_eq_true]
    constructor
    · intro h k hk
      have hk : k < rs[i].2.length := by simpa using hk
      have := h _ (List.getElem_mem hk)
      simpa [hk] using this
    · intro h x hx
      obtain ⟨k, hk, rfl⟩ := List.mem_iff_getElem.1 hx
      have := h k (by simpa using hk)
      simpa [hk] using this
  rw [this]
  cases (List.range rs[i].2.length).find? fun k => if h : k < rs[i].2.length then !decide (least ≤ rs[i].2[k] ∧ rs[i].2[k] ≤ 100000) else false <;> simp
theorem step64f {v : V} {rs : List (V × List Int)} (hv : RowsV v rs) (many least : Int) (hl : rs.length < 9223372036854775807) {i : Nat} (hi : i < rs.length) (hl2 : rs[i].2.length < 9223372036854775807) {M : Nat} (hM : rs[i].2.length < M) :
    evC (run Ft Ct) M b64_0 (s64 v many least false i) = some (if (!inR least 100000 rs[i].2) = true then (.ret, { fr := [(8, I 2)], tk := [] }) else (.normal, s64 v many least false (i + 1))) := by
  obtain ⟨h1, h2⟩ := hv.get hi
  have L := loop64i hv many least hi hl2 M
  have L := iter_le (f := evC (run Ft Ct) M b64_1) (fun _ _ h => h) (show rs[i].2.length + 1 ≤ M by omega) L
  have h3 := hv.sl
  have h4 := h2.sl
  have h5 := hv.len
  have hlt : (i : Int) < rs.length := by omega
  have hw := wrap_succ hi hl
  generalize hF : evC (run Ft Ct) M b64_1 = F at L
  unfold s64
  unfold s64i at L
  generalize ((i + 1 : Nat) : Int) = m at *
  generalize inR least 100000 rs[i].2 = o at *
  cases o <;> simp at L <;> simp [b64_0, evBody, params, deadL, evC, prep, prepF, prepT, V.prep, prepL, stepL, stepI, wanted, opds, get, put, putO, callE, loadV, partV, valO, binV, binI, binS, unV, nilCmp, apply, keepL, memN, bxOf, tkOf, bxF, frzL, V.frz, frzEL, V.frzE, V.pureR, pureRL, V.tks, tksL, V.al, alL, V.rn, rnL, addT, protT, protAll, distinctN, fill, splice, fillE, eqSh, intsOf, maxL, minL, bounds, ranged, finish, result, rvs, finL, V.fin, one, goesOn, opd_t, opd_c, opd_f, opdV_box, opdV_int, opdV_bool, opdV_agg, opdV_tup, opdV_nil, opdV_sl, opdV_fn, opdV_ref, opdV_cref, opdV_eref, opdV_isSl, frz_isSl, frzE_isSl, cells_isSl, cellOk_isSl, pm_isSl, prep_isSl, fin_isSl, ranged_isSl, pureR_isSl, sem_len_isSl, sem_ixs_isSl, sem_len_sl, sem_len_nil, sem_ixs_none, sem_ixs_some, semR, semx_mv, semx_pick, semx_box, semx_alloc, semx_build, semx_bsl, semx_load, semx_store, semx_bin, semx_eqs, semx_un, semx_conv, semx_mkf, semx_mkm, semx_fa, semx_fld, semx_ixa, semx_idx, semx_mks, semx_sls, semx_ext, semx_call, semx_append, semx_appz, semx_trunc, semx_cap, semx_min, semx_max, semx_nilc, opdV_und, opdV_dead, opdV_none, cellOk_bool, cells_bool, cellOk_int, cells_int, cellOk_nil, cells_nil, cellOk_sl, cells_sl, cellOk_fn, cells_fn, cellOk_ref, cells_ref, cellOk_cref, cells_cref, cellOk_eref, cells_eref, cells_agg, pm_bool, pm_int, pm_nil, pm_slN, pm_slS, pm_fn, hlt, h3, h5, hw, hF, L]
theorem le_sum {rs : List (V × List Int)} : ∀ r ∈ rs, r.2.length ≤ (rs.map (·.2.length)).sum := by
  induction rs with
  | nil => intro r hr; cases hr
  | cons x xs ih =>
    intro r hr
    simp only [List.map_cons, List.sum_cons]
    rcases List.mem_cons.1 hr with rfl | hr
    · omega
    · have := ih r hr; omega
theorem run64f {v : V} {rs : List (V × List Int)} (hv : RowsV v rs) (many least : Int) (hl : rs.length < 9223372036854775807) (hl2 : ∀ r ∈ rs, r.2.length < 9223372036854775807) :
    run Ft Ct 64 [v, I many, I least, B false] = some (I (if (rs.map (·.2)).any (fun r => !inR least 100000 r) = true ∨ rs.length = 0 then 2 else 0)) := by
  have h3 := hv.sl
  have h5 := hv.len
  obtain ⟨K, hK⟩ : ∃ K, (rs.map (·.2.length)).sum = K := ⟨_, rfl⟩
  have L := loop_find (s := s64 v many least false) (f := evC (run Ft Ct) (K + rs.length + 1) b64_0) (n := rs.length) (g := fun i => if h : i < rs.length then (fun r : List Int => !inR least 100000 r) rs[i].2 else false) (E := fun i => (.ret, { fr := [(8, I 2)], tk := [] })) (X := (.exit 0, { fr := [(0, v), (1, I many), (2, I least), (3, B false), (9, I rs.length), (14, B false)], tk := [] }))
    (fun i hi => by rw [step64f hv many least hl hi (hl2 _ (List.getElem_mem hi)) (by have := le_sum _ (List.getElem_mem hi); omega)]; simp [hi]) (fun _ => by simp) (by simp [b64_0, s64, evBody, params, deadL, evC, prep, prepF, prepT, V.prep, prepL, stepL, stepI, wanted, opds, get, put, putO, callE, loadV, partV, valO, binV, binI, binS, unV, nilCmp, apply, keepL, memN, bxOf, tkOf, bxF, frzL, V.frz, frzEL, V.frzE, V.pureR, pureRL, V.tks, tksL, V.al, alL, V.rn, rnL, addT, protT, protAll, distinctN, fill, splice, fillE, eqSh, intsOf, maxL, minL, bounds, ranged, finish, result, rvs, finL, V.fin, one, goesOn, opd_t, opd_c, opd_f, opdV_box, opdV_int, opdV_bool, opdV_agg, opdV_tup, opdV_nil, opdV_sl, opdV_fn, opdV_ref, opdV_cref, opdV_eref, opdV_isSl, frz_isSl, frzE_isSl, cells_isSl, cellOk_isSl, pm_isSl, prep_isSl, fin_isSl, ranged_isSl, pureR_isSl, sem_len_isSl, sem_ixs_isSl, sem_len_sl, sem_len_nil, sem_ixs_none, sem_ixs_some, semR, semx_mv, semx_pick, semx_box, semx_alloc, semx_build, semx_bsl, semx_load, semx_store, semx_bin, semx_eqs, semx_un, semx_conv, semx_mkf, semx_mkm, semx_fa, semx_fld, semx_ixa, semx_idx, semx_mks, semx_sls, semx_ext, semx_call, semx_append, semx_appz, semx_trunc, semx_cap, semx_min, semx_max, semx_nilc, opdV_und, opdV_dead, opdV_none, cellOk_bool, cells_bool, cellOk_int, cells_int, cellOk_nil, cells_nil, cellOk_sl, cells_sl, cellOk_fn, cells_fn, cellOk_ref, cells_ref, cellOk_cref, cells_cref, cellOk_eref, cells_eref, cells_agg, pm_bool, pm_int, pm_nil, pm_slN, pm_slS, pm_fn, h3, h5]) (by simp) rs.length 0 (by omega)
  have L := iter_le (f := evC (run Ft Ct) (K + rs.length + 1) b64_0) (fun _ _ h => h) (show rs.length + 1 ≤ K + rs.length + 1 by omega) L
  rw [← List.range_eq_range'] at L
  rw [any_rows]
  refine run_of_body (N := K + rs.length + 1) rfl rfl ?_
  generalize hF : evC (run Ft Ct) (K + rs.length + 1) b64_0 = F at L
  generalize (List.range rs.length).find? (fun i => if h : i < rs.length then (fun r : List Int => !inR least 100000 r) rs[i].2 else false) = o at *
  unfold s64 at L
  cases o with
  | none =>
    simp at L
    by_cases h0 : rs.length = 0
    · have hr : rs = [] := List.length_eq_zero_iff.1 h0
      subst hr
      simp at L h5 hF
      simp [l64, evBody, params, deadL, evC, prep, prepF, prepT, V.prep, prepL, stepL, stepI, wanted, opds, get, put, putO, callE, loadV, partV, valO, binV, binI, binS, unV, nilCmp, apply, keepL, memN, bxOf, tkOf, bxF, frzL, V.frz, frzEL, V.frzE, V.pureR, pureRL, V.tks, tksL, V.al, alL, V.rn, rnL, addT, protT, protAll, distinctN, fill, splice, fillE, eqSh, intsOf, maxL, minL, bounds, ranged, finish, result, rvs, finL, V.fin, one, goesOn, opd_t, opd_c, opd_f, opdV_box, opdV_int, opdV_bool, opdV_agg, opdV_tup, opdV_nil, opdV_sl, opdV_fn, opdV_ref, opdV_cref, opdV_eref, opdV_isSl, frz_isSl, frzE_isSl, cells_isSl, cellOk_isSl, pm_isSl, prep_isSl, fin_isSl, ranged_isSl, pureR_isSl, sem_len_isSl, sem_ixs_isSl, sem_len_sl, sem_len_nil, sem_ixs_none, sem_ixs_some, semR, semx_mv, semx_pick, semx_box, semx_alloc, semx_build, semx_bsl, semx_load, semx_store, semx_bin, semx_eqs, semx_un, semx_conv, semx_mkf, semx_mkm, semx_fa, semx_fld, semx_ixa, semx_idx, semx_mks, semx_sls, semx_ext, semx_call, semx_append, semx_appz, semx_trunc, semx_cap, semx_min, semx_max, semx_nilc, opdV_und, opdV_dead, opdV_none, cellOk_bool, cells_bool, cellOk_int, cells_int, cellOk_nil, cells_nil, cellOk_sl, cells_sl, cellOk_fn, cells_fn, cellOk_ref, cells_ref, cellOk_cref, cells_cref, cellOk_eref, cells_eref, cells_agg, pm_bool, pm_int, pm_nil, pm_slN, pm_slS, pm_fn, h3, h5, hF, L]
    · simp [l64, evBody, params, deadL, evC, prep, prepF, prepT, V.prep, prepL, stepL, stepI, wanted, opds, get, put, putO, callE, loadV, partV, valO, binV, binI, binS, unV, nilCmp, apply, keepL, memN, bxOf, tkOf, bxF, frzL, V.frz, frzEL, V.frzE, V.pureR, pureRL, V.tks, tksL, V.al, alL, V.rn, rnL, addT, protT, protAll, distinctN, fill, splice, fillE, eqSh, intsOf, maxL, minL, bounds, ranged, finish, result, rvs, finL, V.fin, one, goesOn, opd_t, opd_c, opd_f, opdV_box, opdV_int, opdV_bool, opdV_agg, opdV_tup, opdV_nil, opdV_sl, opdV_fn, opdV_ref, opdV_cref, opdV_eref, opdV_isSl, frz_isSl, frzE_isSl, cells_isSl, cellOk_isSl, pm_isSl, prep_isSl, fin_isSl, ranged_isSl, pureR_isSl, sem_len_isSl, sem_ixs_isSl, sem_len_sl, sem_len_nil, sem_ixs_none, sem_ixs_some, semR, semx_mv, semx_pick, semx_box, semx_alloc, semx_build, semx_bsl, semx_load, semx_store, semx_bin, semx_eqs, semx_un, semx_conv, semx_mkf, semx_mkm, semx_fa, semx_fld, semx_ixa, semx_idx, semx_mks, semx_sls, semx_ext, semx_call, semx_append, semx_appz, semx_trunc, semx_cap, semx_min, semx_max, semx_nilc, opdV_und, opdV_dead, opdV_none, cellOk_bool, cells_bool, cellOk_int, cells_int, cellOk_nil, cells_nil, cellOk_sl, cells_sl, cellOk_fn, cells_fn, cellOk_ref, cells_ref, cellOk_cref, cells_cref, cellOk_eref, cells_eref, cells_agg, pm_bool, pm_int, pm_nil, pm_slN, pm_slS, pm_fn, h3, h5, hF, L, h0]
  | some j => simp at L; simp [l64, evBody, params, deadL, evC, prep, prepF, prepT, V.prep, prepL, stepL, stepI, wanted, opds, get, put, putO, callE, loadV, partV, valO, binV, binI, binS, unV, nilCmp, apply, keepL, memN, bxOf, tkOf, bxF, frzL, V.frz, frzEL, V.frzE, V.pureR, pureRL, V.tks, tksL, V.al, alL, V.rn, rnL, addT, protT, protAll, distinctN, fill, splice, fillE, eqSh, intsOf, maxL, minL, bounds, ranged, finish, result, rvs, finL, V.fin, one, goesOn, opd_t, opd_c, opd_f, opdV_box, opdV_int, opdV_bool, opdV_agg, opdV_tup, opdV_nil, opdV_sl, opdV_fn, opdV_ref, opdV_cref, opdV_eref, opdV_isSl, frz_isSl, frzE_isSl, cells_isSl, cellOk_isSl, pm_isSl, prep_isSl, fin_isSl, ranged_isSl, pureR_isSl, sem_len_isSl, sem_ixs_isSl, sem_len_sl, sem_len_nil, sem_ixs_none, sem_ixs_some, semR, semx_mv, semx_pick, semx_box, semx_alloc, semx_build, semx_bsl, semx_load, semx_store, semx_bin, semx_eqs, semx_un, semx_conv, semx_mkf, semx_mkm, semx_fa, semx_fld, semx_ixa, semx_idx, semx_mks, semx_sls, semx_ext, semx_call, semx_append, semx_appz, semx_trunc, semx_cap, semx_min, semx_max, semx_nilc, opdV_und, opdV_dead, opdV_none, cellOk_bool, cells_bool, cellOk_int, cells_int, cellOk_nil, cells_nil, cellOk_sl, cells_sl, cellOk_fn, cells_fn, cellOk_ref, cells_ref, cellOk_cref, cells_cref, cellOk_eref, cells_eref, cells_agg, pm_bool, pm_int, pm_nil, pm_slN, pm_slS, pm_fn, h3, h5, hF, L]
end Go.Lo
/-! Copies, and lists put together. -/
namespace Go.Lo
open Go.Proofs
set_option linter.unusedSimpArgs false
theorem flatE_nil : flatE [] = true := rfl
theorem flatE_eI (xs : List Int) : flatE (eI xs) = true := by simp [flatE, eI, V.flat]
theorem run53 {v : V} {xs : List Int} (h : Ints v xs) (hl : xs.length ≤ 1000000000) : run Ft Ct 53 [v] = some (.sl (some 0) 1 (eI xs)) := by
  have he := h.el
  rcases h.sl with rfl | ⟨es, rfl⟩
  · have hx : xs = [] := by cases xs with | nil => rfl | cons x xs => simp [els, eI] at he
    subst hx
    refine run_of_body (N := 1) rfl rfl ?_
    simp [l53, evBody, params, deadL, evC, prep, prepF, prepT, V.prep, prepL, stepL, stepI, wanted, opds, opd, get, put, putO, sem, callE, loadV, partV, valO, binV, binI, binS, unV, nilCmp, apply, keepL, memN, bxOf, tkOf, bxF, frzL, V.frz, frzEL, V.frzE, V.pureR, pureRL, V.tks, tksL, V.al, alL, V.rn, rnL, addT, protT, protAll, distinctN, fill, splice, fillE, V.cells, V.cellOk, V.pm, eqSh, intsOf, maxL, minL, bounds, ranged, finish, result, rvs, finL, V.fin, one, goesOn, eI]
  · simp only [els] at he
    subst he
    refine run_of_body (N := 1) rfl rfl ?_
    cases xs with
    | nil => simp [l53, evBody, params, deadL, evC, prep, prepF, prepT, V.prep, prepL, stepL, stepI, wanted, opds, opd, get, put, putO, sem, callE, loadV, partV, valO, binV, binI, binS, unV, nilCmp, apply, keepL, memN, bxOf, tkOf, bxF, frzL, V.frz, frzEL, V.frzE, V.pureR, pureRL, V.tks, tksL, V.al, alL, V.rn, rnL, addT, protT, protAll, distinctN, fill, splice, fillE, V.cells, V.cellOk, V.pm, eqSh, intsOf, maxL, minL, bounds, ranged, finish, result, rvs, finL, V.fin, one, goesOn, eI]
    | cons x xs =>
      simp only [List.length_cons] at hl
      have hb : (xs.length + 1) * 8 ≤ 140737488355328 := by omega
      simp [l53, evBody, params, deadL, evC, prep, prepF, prepT, V.prep, prepL, stepL, stepI, wanted, opds, opd, get, put, putO, sem, callE, loadV, partV, valO, binV, binI, binS, unV, nilCmp, apply, keepL, memN, bxOf, tkOf, bxF, frzL, V.frz, frzEL, V.frzE, V.pureR, pureRL, V.tks, tksL, V.al, alL, V.rn, rnL, addT, protT, protAll, distinctN, fill, splice, fillE, V.cells, V.cellOk, V.pm, eqSh, intsOf, maxL, minL, bounds, ranged, finish, result, rvs, finL, V.fin, one, goesOn, eI, lenT, hb]
theorem run84 (n : Nat) (hn : n ≤ 1000000000) : run Ft Ct 84 [.nil, I n] = some (if n = 0 then .nil else .sl (some 0) 1 []) := by
  have h1 : ¬ ((n : Int) < 0) := by omega
  have w1 : IntKind.i64.wrap 0 = 0 := wr (by omega) (by omega)
  have w2 : IntKind.i64.wrap (n : Int) = n := wr (by omega) (by omega)
  by_cases h : n = 0
  · subst h
    refine run_of_body (N := 1) rfl rfl ?_
    simp [l84, evBody, params, deadL, evC, prep, prepF, prepT, V.prep, prepL, stepL, stepI, wanted, opds, opd, get, put, putO, sem, callE, loadV, partV, valO, binV, binI, binS, unV, nilCmp, apply, keepL, memN, bxOf, tkOf, bxF, frzL, V.frz, frzEL, V.frzE, V.pureR, pureRL, V.tks, tksL, V.al, alL, V.rn, rnL, addT, protT, protAll, distinctN, fill, splice, fillE, V.cells, V.cellOk, V.pm, eqSh, intsOf, maxL, minL, bounds, ranged, finish, result, rvs, finL, V.fin, one, goesOn, w1, wr]
  · have h5 : 0 < n := by omega
    have h2 : (0 : Int) < n := by omega
    have h3 : (n : Int) * 8 ≤ 140737488355328 := by omega
    have h4 : (0 : Int) ≤ n := by omega
    refine run_of_body (N := 1) rfl rfl ?_
    simp [l84, evBody, params, deadL, evC, prep, prepF, prepT, V.prep, prepL, stepL, stepI, wanted, opds, opd, get, put, putO, sem, callE, loadV, partV, valO, binV, binI, binS, unV, nilCmp, apply, keepL, memN, bxOf, tkOf, bxF, frzL, V.frz, frzEL, V.frzE, V.pureR, pureRL, V.tks, tksL, V.al, alL, V.rn, rnL, addT, protT, protAll, distinctN, fill, splice, fillE, V.cells, V.cellOk, V.pm, eqSh, intsOf, maxL, minL, bounds, ranged, finish, result, rvs, finL, V.fin, one, goesOn, w1, w2, h1, h2, h3, h4, h5, h, lenT, killF, V.kill, killL]
def flatR (rs : List (V × List Int)) : List Int := (rs.map (·.2)).flatten
def tot (rs : List (V × List Int)) : Nat := (rs.map (·.2.length)).sum
theorem flat_len (rs : List (V × List Int)) : (flatR rs).length = tot rs := by
  unfold flatR tot
  rw [List.length_flatten, List.map_map]
  rfl
theorem tot_take {rs : List (V × List Int)} {i : Nat} (hi : i < rs.length) : tot (rs.take (i + 1)) = tot (rs.take i) + rs[i].2.length := by
  unfold tot
  rw [List.take_add_one, List.map_append, List.sum_append]
  simp [hi]
theorem flat_take {rs : List (V × List Int)} {i : Nat} (hi : i < rs.length) : flatR (rs.take (i + 1)) = flatR (rs.take i) ++ rs[i].2 := by
  unfold flatR
  rw [List.take_add_one, List.map_append, List.flatten_append]
  simp [hi]
theorem tot_take_le {rs : List (V × List Int)} (i : Nat) : tot (rs.take i) ≤ tot rs := by
  have : tot rs = tot (rs.take i) + tot (rs.drop i) := by
    conv => lhs; rw [← List.take_append_drop i rs]
    unfold tot
    rw [List.map_append, List.sum_append]
  omega
def s59a (v : V) (n size i : Nat) : St := { fr := [(0, v), (3, I size), (9, v), (10, I n), (11, I i)], tk := [] }
theorem step59a {v : V} {rs : List (V × List Int)} (hv : RowsV v rs) (hl : rs.length ≤ 1000000000) (ht : tot rs ≤ 1000000000) {i : Nat} (hi : i < rs.length) (M : Nat) :
    evC (run Ft Ct) M b59_0 (s59a v rs.length (tot (rs.take i)) i) = some (.normal, s59a v rs.length (tot (rs.take (i + 1))) (i + 1)) := by
  obtain ⟨h1, h2⟩ := hv.get hi
  have h3 := hv.sl
  have h4 := h2.sl
  have h6 := h2.len
  have hlt : (i : Int) < rs.length := by omega
  have hw : IntKind.i64.wrap ((i : Int) + 1) = ((i + 1 : Nat) : Int) := wrap_succ hi (by omega)
  have t1 := tot_take hi
  have t2 := tot_take_le (rs := rs) (i + 1)
  have w1 : IntKind.i64.wrap ((tot (rs.take i) : Int) + (rs[i].2.length : Int)) = (tot (rs.take (i + 1)) : Int) := by rw [wr (by omega) (by omega)]; omega
  have n1 : ¬ ((tot (rs.take (i + 1)) : Int) < 0) := by omega
  unfold s59a
  generalize ((i + 1 : Nat) : Int) = m at *
  generalize (tot (rs.take (i + 1)) : Int) = u at *
  generalize (tot (rs.take i) : Int) = z at *
  generalize rs[i].2.length = k at *
  generalize rs[i].1 = r at *
  simp [b59_0, evBody, params, deadL, evC, prep, prepF, prepT, V.prep, prepL, stepL, stepI, wanted, opds, get, put, putO, callE, loadV, partV, valO, binV, binI, binS, unV, nilCmp, apply, keepL, memN, bxOf, tkOf, bxF, frzL, V.frz, frzEL, V.frzE, V.pureR, pureRL, V.tks, tksL, V.al, alL, V.rn, rnL, addT, protT, protAll, distinctN, fill, splice, fillE, eqSh, intsOf, maxL, minL, bounds, ranged, finish, result, rvs, finL, V.fin, one, goesOn, opd_t, opd_c, opd_f, opdV_box, opdV_int, opdV_bool, opdV_agg, opdV_tup, opdV_nil, opdV_sl, opdV_fn, opdV_ref, opdV_cref, opdV_eref, opdV_isSl, frz_isSl, frzE_isSl, cells_isSl, cellOk_isSl, pm_isSl, prep_isSl, fin_isSl, ranged_isSl, pureR_isSl, sem_len_isSl, sem_ixs_isSl, sem_len_sl, sem_len_nil, sem_ixs_none, sem_ixs_some, semR, semx_mv, semx_pick, semx_box, semx_alloc, semx_build, semx_bsl, semx_load, semx_store, semx_bin, semx_eqs, semx_un, semx_conv, semx_mkf, semx_mkm, semx_fa, semx_fld, semx_ixa, semx_idx, semx_mks, semx_sls, semx_ext, semx_call, semx_append, semx_appz, semx_trunc, semx_cap, semx_min, semx_max, semx_nilc, opdV_und, opdV_dead, opdV_none, cellOk_bool, cells_bool, cellOk_int, cells_int, cellOk_nil, cells_nil, cellOk_sl, cells_sl, cellOk_fn, cells_fn, cellOk_ref, cells_ref, cellOk_cref, cells_cref, cellOk_eref, cells_eref, cells_agg, pm_bool, pm_int, pm_nil, pm_slN, pm_slS, pm_fn, hlt, h1, h3, h4, h6, hw, w1, n1]
/-- What was put together so far. -/
def acc (t : Nat) (ys : List Int) : V := if t = 0 then .nil else .sl (some 2400) 1 (eI ys)
def accT (t : Nat) (ys : List Int) : List (Nat × Nat × Bool) := if t = 0 then [] else [(2400, ys.length, true)]
def s59b (v : V) (t : Nat) (ys : List Int) (n i : Nat) : St := { fr := [(6, acc t ys), (25, v), (26, I n), (27, I i)], tk := accT t ys }
theorem step59b {v : V} {rs : List (V × List Int)} (hv : RowsV v rs) (hl : rs.length ≤ 1000000000) (ht : tot rs ≤ 1000000000) {i : Nat} (hi : i < rs.length) (M : Nat) :
    evC (run Ft Ct) M b59_1 (s59b v (tot rs) (flatR (rs.take i)) rs.length i) = some (.normal, s59b v (tot rs) (flatR (rs.take (i + 1))) rs.length (i + 1)) := by
  obtain ⟨h1, h2⟩ := hv.get hi
  have h3 := hv.sl
  have h4 := h2.sl
  have hlt : (i : Int) < rs.length := by omega
  have hw : IntKind.i64.wrap ((i : Int) + 1) = ((i + 1 : Nat) : Int) := wrap_succ hi (by omega)
  have t0 := flat_take hi
  have t1 := tot_take hi
  have t2 := tot_take_le (rs := rs) (i + 1)
  have t3 := flat_len (rs.take i)
  unfold s59b acc accT
  rw [t0]
  generalize ((i + 1 : Nat) : Int) = m at *
  generalize flatR (rs.take i) = ys at *
  have he := h2.el
  generalize hx : rs[i].2 = xs at *
  by_cases h0 : tot rs = 0
  · have hx0 : xs = [] := List.length_eq_zero_iff.1 (by omega)
    subst hx0
    rcases h4 with h4 | ⟨es, h4⟩
    · rw [h4] at h1
      simp [b59_1, evBody, params, deadL, evC, prep, prepF, prepT, V.prep, prepL, stepL, stepI, wanted, opds, get, put, putO, callE, loadV, partV, valO, binV, binI, binS, unV, nilCmp, apply, keepL, memN, bxOf, tkOf, bxF, frzL, V.frz, frzEL, V.frzE, V.pureR, pureRL, V.tks, tksL, V.al, alL, V.rn, rnL, addT, protT, protAll, distinctN, fill, splice, fillE, eqSh, intsOf, maxL, minL, bounds, ranged, finish, result, rvs, finL, V.fin, one, goesOn, opd_t, opd_c, opd_f, opdV_box, opdV_int, opdV_bool, opdV_agg, opdV_tup, opdV_nil, opdV_sl, opdV_fn, opdV_ref, opdV_cref, opdV_eref, opdV_isSl, frz_isSl, frzE_isSl, cells_isSl, cellOk_isSl, pm_isSl, prep_isSl, fin_isSl, ranged_isSl, pureR_isSl, sem_len_isSl, sem_ixs_isSl, sem_len_sl, sem_len_nil, sem_ixs_none, sem_ixs_some, semR, semx_mv, semx_pick, semx_box, semx_alloc, semx_build, semx_bsl, semx_load, semx_store, semx_bin, semx_eqs, semx_un, semx_conv, semx_mkf, semx_mkm, semx_fa, semx_fld, semx_ixa, semx_idx, semx_mks, semx_sls, semx_ext, semx_call, semx_append, semx_appz, semx_trunc, semx_cap, semx_min, semx_max, semx_nilc, opdV_und, opdV_dead, opdV_none, cellOk_bool, cells_bool, cellOk_int, cells_int, cellOk_nil, cells_nil, cellOk_sl, cells_sl, cellOk_fn, cells_fn, cellOk_ref, cells_ref, cellOk_cref, cells_cref, cellOk_eref, cells_eref, cells_agg, pm_bool, pm_int, pm_nil, pm_slN, pm_slS, pm_fn, hlt, h1, h3, hw, h0]
    · rw [h4] at h1 he
      simp [els, eI] at he
      subst he
      simp [b59_1, evBody, params, deadL, evC, prep, prepF, prepT, V.prep, prepL, stepL, stepI, wanted, opds, get, put, putO, callE, loadV, partV, valO, binV, binI, binS, unV, nilCmp, apply, keepL, memN, bxOf, tkOf, bxF, frzL, V.frz, frzEL, V.frzE, V.pureR, pureRL, V.tks, tksL, V.al, alL, V.rn, rnL, addT, protT, protAll, distinctN, fill, splice, fillE, eqSh, intsOf, maxL, minL, bounds, ranged, finish, result, rvs, finL, V.fin, one, goesOn, opd_t, opd_c, opd_f, opdV_box, opdV_int, opdV_bool, opdV_agg, opdV_tup, opdV_nil, opdV_sl, opdV_fn, opdV_ref, opdV_cref, opdV_eref, opdV_isSl, frz_isSl, frzE_isSl, cells_isSl, cellOk_isSl, pm_isSl, prep_isSl, fin_isSl, ranged_isSl, pureR_isSl, sem_len_isSl, sem_ixs_isSl, sem_len_sl, sem_len_nil, sem_ixs_none, sem_ixs_some, semR, semx_mv, semx_pick, semx_box, semx_alloc, semx_build, semx_bsl, semx_load, semx_store, semx_bin, semx_eqs, semx_un, semx_conv, semx_mkf, semx_mkm, semx_fa, semx_fld, semx_ixa, semx_idx, semx_mks, semx_sls, semx_ext, semx_call, semx_append, semx_appz, semx_trunc, semx_cap, semx_min, semx_max, semx_nilc, opdV_und, opdV_dead, opdV_none, cellOk_bool, cells_bool, cellOk_int, cells_int, cellOk_nil, cells_nil, cellOk_sl, cells_sl, cellOk_fn, cells_fn, cellOk_ref, cells_ref, cellOk_cref, cells_cref, cellOk_eref, cells_eref, cells_agg, pm_bool, pm_int, pm_nil, pm_slN, pm_slS, pm_fn, hlt, h1, h3, hw, h0]
  · rcases h4 with h4 | ⟨es, h4⟩
    · rw [h4] at h1 he
      have hx0 : xs = [] := by cases xs with | nil => rfl | cons x xs => simp [els, eI] at he
      subst hx0
      simp [b59_1, evBody, params, deadL, evC, prep, prepF, prepT, V.prep, prepL, stepL, stepI, wanted, opds, get, put, putO, callE, loadV, partV, valO, binV, binI, binS, unV, nilCmp, apply, keepL, memN, bxOf, tkOf, bxF, frzL, V.frz, frzEL, V.frzE, V.pureR, pureRL, V.tks, tksL, V.al, alL, V.rn, rnL, addT, protT, protAll, distinctN, fill, splice, fillE, eqSh, intsOf, maxL, minL, bounds, ranged, finish, result, rvs, finL, V.fin, one, goesOn, opd_t, opd_c, opd_f, opdV_box, opdV_int, opdV_bool, opdV_agg, opdV_tup, opdV_nil, opdV_sl, opdV_fn, opdV_ref, opdV_cref, opdV_eref, opdV_isSl, frz_isSl, frzE_isSl, cells_isSl, cellOk_isSl, pm_isSl, prep_isSl, fin_isSl, ranged_isSl, pureR_isSl, sem_len_isSl, sem_ixs_isSl, sem_len_sl, sem_len_nil, sem_ixs_none, sem_ixs_some, semR, semx_mv, semx_pick, semx_box, semx_alloc, semx_build, semx_bsl, semx_load, semx_store, semx_bin, semx_eqs, semx_un, semx_conv, semx_mkf, semx_mkm, semx_fa, semx_fld, semx_ixa, semx_idx, semx_mks, semx_sls, semx_ext, semx_call, semx_append, semx_appz, semx_trunc, semx_cap, semx_min, semx_max, semx_nilc, opdV_und, opdV_dead, opdV_none, cellOk_bool, cells_bool, cellOk_int, cells_int, cellOk_nil, cells_nil, cellOk_sl, cells_sl, cellOk_fn, cells_fn, cellOk_ref, cells_ref, cellOk_cref, cells_cref, cellOk_eref, cells_eref, cells_agg, pm_bool, pm_int, pm_nil, pm_slN, pm_slS, pm_fn, hlt, h1, h3, hw, h0, eI]
    · rw [h4] at h1 he
      simp only [els] at he
      subst he
      have hb : (ys.length + xs.length) * 8 ≤ 140737488355328 := by omega
      cases xs with
      | nil =>
        simp only [List.length_nil, Nat.add_zero] at hb
        simp [b59_1, evBody, params, deadL, evC, prep, prepF, prepT, V.prep, prepL, stepL, stepI, wanted, opds, get, put, putO, callE, loadV, partV, valO, binV, binI, binS, unV, nilCmp, apply, keepL, memN, bxOf, tkOf, bxF, frzL, V.frz, frzEL, V.frzE, V.pureR, pureRL, V.tks, tksL, V.al, alL, V.rn, rnL, addT, protT, protAll, distinctN, fill, splice, fillE, eqSh, intsOf, maxL, minL, bounds, ranged, finish, result, rvs, finL, V.fin, one, goesOn, opd_t, opd_c, opd_f, opdV_box, opdV_int, opdV_bool, opdV_agg, opdV_tup, opdV_nil, opdV_sl, opdV_fn, opdV_ref, opdV_cref, opdV_eref, opdV_isSl, frz_isSl, frzE_isSl, cells_isSl, cellOk_isSl, pm_isSl, prep_isSl, fin_isSl, ranged_isSl, pureR_isSl, sem_len_isSl, sem_ixs_isSl, sem_len_sl, sem_len_nil, sem_ixs_none, sem_ixs_some, semR, semx_mv, semx_pick, semx_box, semx_alloc, semx_build, semx_bsl, semx_load, semx_store, semx_bin, semx_eqs, semx_un, semx_conv, semx_mkf, semx_mkm, semx_fa, semx_fld, semx_ixa, semx_idx, semx_mks, semx_sls, semx_ext, semx_call, semx_append, semx_appz, semx_trunc, semx_cap, semx_min, semx_max, semx_nilc, opdV_und, opdV_dead, opdV_none, cellOk_bool, cells_bool, cellOk_int, cells_int, cellOk_nil, cells_nil, cellOk_sl, cells_sl, cellOk_fn, cells_fn, cellOk_ref, cells_ref, cellOk_cref, cells_cref, cellOk_eref, cells_eref, cells_agg, pm_bool, pm_int, pm_nil, pm_slN, pm_slS, pm_fn, hlt, h1, h3, hw, h0, eI, hb]
      | cons x xs =>
        simp only [List.length_cons] at hb
        simp [eI] at h1
        simp [b59_1, evBody, params, deadL, evC, prep, prepF, prepT, V.prep, prepL, stepL, stepI, wanted, opds, get, put, putO, callE, loadV, partV, valO, binV, binI, binS, unV, nilCmp, apply, keepL, memN, bxOf, tkOf, bxF, frzL, V.frz, frzEL, V.frzE, V.pureR, pureRL, V.tks, tksL, V.al, alL, V.rn, rnL, addT, protT, protAll, distinctN, fill, splice, fillE, eqSh, intsOf, maxL, minL, bounds, ranged, finish, result, rvs, finL, V.fin, one, goesOn, opd_t, opd_c, opd_f, opdV_box, opdV_int, opdV_bool, opdV_agg, opdV_tup, opdV_nil, opdV_sl, opdV_fn, opdV_ref, opdV_cref, opdV_eref, opdV_isSl, frz_isSl, frzE_isSl, cells_isSl, cellOk_isSl, pm_isSl, prep_isSl, fin_isSl, ranged_isSl, pureR_isSl, sem_len_isSl, sem_ixs_isSl, sem_len_sl, sem_len_nil, sem_ixs_none, sem_ixs_some, semR, semx_mv, semx_pick, semx_box, semx_alloc, semx_build, semx_bsl, semx_load, semx_store, semx_bin, semx_eqs, semx_un, semx_conv, semx_mkf, semx_mkm, semx_fa, semx_fld, semx_ixa, semx_idx, semx_mks, semx_sls, semx_ext, semx_call, semx_append, semx_appz, semx_trunc, semx_cap, semx_min, semx_max, semx_nilc, opdV_und, opdV_dead, opdV_none, cellOk_bool, cells_bool, cellOk_int, cells_int, cellOk_nil, cells_nil, cellOk_sl, cells_sl, cellOk_fn, cells_fn, cellOk_ref, cells_ref, cellOk_cref, cells_cref, cellOk_eref, cells_eref, cells_agg, pm_bool, pm_int, pm_nil, pm_slN, pm_slS, pm_fn, hlt, h1, h3, hw, h0, eI, lenT, hb]
theorem run59 {v : V} {rs : List (V × List Int)} (hv : RowsV v rs) (hl : rs.length ≤ 1000000000) (ht : tot rs ≤ 1000000000) :
    run Ft Ct 59 [v] = some (if tot rs = 0 then .nil else .sl (some 0) 1 (eI (flatR rs))) := by
  have h3 := hv.sl
  have h5 := hv.len
  have L1 := loop_all (s := fun i => s59a v rs.length (tot (rs.take i)) i) (f := evC (run Ft Ct) (rs.length + 1) b59_0) (n := rs.length) (X := (.exit 0, { fr := [(0, v), (3, I (tot rs)), (9, v), (10, I rs.length), (11, I rs.length), (12, B false)], tk := [] }))
    (fun i hi => step59a hv hl ht hi _) (by rw [List.take_length]; simp [b59_0, s59a, evBody, params, deadL, evC, prep, prepF, prepT, V.prep, prepL, stepL, stepI, wanted, opds, get, put, putO, callE, loadV, partV, valO, binV, binI, binS, unV, nilCmp, apply, keepL, memN, bxOf, tkOf, bxF, frzL, V.frz, frzEL, V.frzE, V.pureR, pureRL, V.tks, tksL, V.al, alL, V.rn, rnL, addT, protT, protAll, distinctN, fill, splice, fillE, eqSh, intsOf, maxL, minL, bounds, ranged, finish, result, rvs, finL, V.fin, one, goesOn, opd_t, opd_c, opd_f, opdV_box, opdV_int, opdV_bool, opdV_agg, opdV_tup, opdV_nil, opdV_sl, opdV_fn, opdV_ref, opdV_cref, opdV_eref, opdV_isSl, frz_isSl, frzE_isSl, cells_isSl, cellOk_isSl, pm_isSl, prep_isSl, fin_isSl, ranged_isSl, pureR_isSl, sem_len_isSl, sem_ixs_isSl, sem_len_sl, sem_len_nil, sem_ixs_none, sem_ixs_some, semR, semx_mv, semx_pick, semx_box, semx_alloc, semx_build, semx_bsl, semx_load, semx_store, semx_bin, semx_eqs, semx_un, semx_conv, semx_mkf, semx_mkm, semx_fa, semx_fld, semx_ixa, semx_idx, semx_mks, semx_sls, semx_ext, semx_call, semx_append, semx_appz, semx_trunc, semx_cap, semx_min, semx_max, semx_nilc, opdV_und, opdV_dead, opdV_none, cellOk_bool, cells_bool, cellOk_int, cells_int, cellOk_nil, cells_nil, cellOk_sl, cells_sl, cellOk_fn, cells_fn, cellOk_ref, cells_ref, cellOk_cref, cells_cref, cellOk_eref, cells_eref, cells_agg, pm_bool, pm_int, pm_nil, pm_slN, pm_slS, pm_fn, h3]) (by simp)
  have L2 := loop_all (s := fun i => s59b v (tot rs) (flatR (rs.take i)) rs.length i) (f := evC (run Ft Ct) (rs.length + 1) b59_1) (n := rs.length) (X := (.exit 2, { fr := [(6, acc (tot rs) (flatR rs)), (25, v), (26, I rs.length), (27, I rs.length), (28, B false)], tk := accT (tot rs) (flatR rs) }))
    (fun i hi => step59b hv hl ht hi _) (by
      rw [List.take_length]
      unfold s59b acc accT
      by_cases h0 : tot rs = 0
      · simp [b59_1, evBody, params, deadL, evC, prep, prepF, prepT, V.prep, prepL, stepL, stepI, wanted, opds, get, put, putO, callE, loadV, partV, valO, binV, binI, binS, unV, nilCmp, apply, keepL, memN, bxOf, tkOf, bxF, frzL, V.frz, frzEL, V.frzE, V.pureR, pureRL, V.tks, tksL, V.al, alL, V.rn, rnL, addT, protT, protAll, distinctN, fill, splice, fillE, eqSh, intsOf, maxL, minL, bounds, ranged, finish, result, rvs, finL, V.fin, one, goesOn, opd_t, opd_c, opd_f, opdV_box, opdV_int, opdV_bool, opdV_agg, opdV_tup, opdV_nil, opdV_sl, opdV_fn, opdV_ref, opdV_cref, opdV_eref, opdV_isSl, frz_isSl, frzE_isSl, cells_isSl, cellOk_isSl, pm_isSl, prep_isSl, fin_isSl, ranged_isSl, pureR_isSl, sem_len_isSl, sem_ixs_isSl, sem_len_sl, sem_len_nil, sem_ixs_none, sem_ixs_some, semR, semx_mv, semx_pick, semx_box, semx_alloc, semx_build, semx_bsl, semx_load, semx_store, semx_bin, semx_eqs, semx_un, semx_conv, semx_mkf, semx_mkm, semx_fa, semx_fld, semx_ixa, semx_idx, semx_mks, semx_sls, semx_ext, semx_call, semx_append, semx_appz, semx_trunc, semx_cap, semx_min, semx_max, semx_nilc, opdV_und, opdV_dead, opdV_none, cellOk_bool, cells_bool, cellOk_int, cells_int, cellOk_nil, cells_nil, cellOk_sl, cells_sl, cellOk_fn, cells_fn, cellOk_ref, cells_ref, cellOk_cref, cells_cref, cellOk_eref, cells_eref, cells_agg, pm_bool, pm_int, pm_nil, pm_slN, pm_slS, pm_fn, h3, h0]
      · simp [b59_1, evBody, params, deadL, evC, prep, prepF, prepT, V.prep, prepL, stepL, stepI, wanted, opds, get, put, putO, callE, loadV, partV, valO, binV, binI, binS, unV, nilCmp, apply, keepL, memN, bxOf, tkOf, bxF, frzL, V.frz, frzEL, V.frzE, V.pureR, pureRL, V.tks, tksL, V.al, alL, V.rn, rnL, addT, protT, protAll, distinctN, fill, splice, fillE, eqSh, intsOf, maxL, minL, bounds, ranged, finish, result, rvs, finL, V.fin, one, goesOn, opd_t, opd_c, opd_f, opdV_box, opdV_int, opdV_bool, opdV_agg, opdV_tup, opdV_nil, opdV_sl, opdV_fn, opdV_ref, opdV_cref, opdV_eref, opdV_isSl, frz_isSl, frzE_isSl, cells_isSl, cellOk_isSl, pm_isSl, prep_isSl, fin_isSl, ranged_isSl, pureR_isSl, sem_len_isSl, sem_ixs_isSl, sem_len_sl, sem_len_nil, sem_ixs_none, sem_ixs_some, semR, semx_mv, semx_pick, semx_box, semx_alloc, semx_build, semx_bsl, semx_load, semx_store, semx_bin, semx_eqs, semx_un, semx_conv, semx_mkf, semx_mkm, semx_fa, semx_fld, semx_ixa, semx_idx, semx_mks, semx_sls, semx_ext, semx_call, semx_append, semx_appz, semx_trunc, semx_cap, semx_min, semx_max, semx_nilc, opdV_und, opdV_dead, opdV_none, cellOk_bool, cells_bool, cellOk_int, cells_int, cellOk_nil, cells_nil, cellOk_sl, cells_sl, cellOk_fn, cells_fn, cellOk_ref, cells_ref, cellOk_cref, cells_cref, cellOk_eref, cells_eref, cells_agg, pm_bool, pm_int, pm_nil, pm_slN, pm_slS, pm_fn, h3, h0]) (by simp)
  have h84 := run84 (tot rs) ht
  refine run_of_body (N := rs.length + 1) rfl rfl ?_
  generalize hF : evC (run Ft Ct) (rs.length + 1) b59_0 = F at L1
  generalize hG : evC (run Ft Ct) (rs.length + 1) b59_1 = G at L2
  have hft : flatR (rs.take 0) = [] := rfl
  have htt : tot (rs.take 0) = 0 := rfl
  simp only [hft, htt] at L1 L2
  unfold s59a at L1
  unfold s59b acc accT at L2
  have hfl := flat_len rs
  by_cases h0 : tot rs = 0
  · rw [if_pos h0] at h84
    rw [h0] at h84 L1 L2
    simp at L1 L2 h84
    rw [h0]
    simp [l59, evBody, params, deadL, evC, prep, prepF, prepT, V.prep, prepL, stepL, stepI, wanted, opds, get, put, putO, callE, loadV, partV, valO, binV, binI, binS, unV, nilCmp, apply, keepL, memN, bxOf, tkOf, bxF, frzL, V.frz, frzEL, V.frzE, V.pureR, pureRL, V.tks, tksL, V.al, alL, V.rn, rnL, addT, protT, protAll, distinctN, fill, splice, fillE, eqSh, intsOf, maxL, minL, bounds, ranged, finish, result, rvs, finL, V.fin, one, goesOn, opd_t, opd_c, opd_f, opdV_box, opdV_int, opdV_bool, opdV_agg, opdV_tup, opdV_nil, opdV_sl, opdV_fn, opdV_ref, opdV_cref, opdV_eref, opdV_isSl, frz_isSl, frzE_isSl, cells_isSl, cellOk_isSl, pm_isSl, prep_isSl, fin_isSl, ranged_isSl, pureR_isSl, sem_len_isSl, sem_ixs_isSl, sem_len_sl, sem_len_nil, sem_ixs_none, sem_ixs_some, semR, semx_mv, semx_pick, semx_box, semx_alloc, semx_build, semx_bsl, semx_load, semx_store, semx_bin, semx_eqs, semx_un, semx_conv, semx_mkf, semx_mkm, semx_fa, semx_fld, semx_ixa, semx_idx, semx_mks, semx_sls, semx_ext, semx_call, semx_append, semx_appz, semx_trunc, semx_cap, semx_min, semx_max, semx_nilc, opdV_und, opdV_dead, opdV_none, cellOk_bool, cells_bool, cellOk_int, cells_int, cellOk_nil, cells_nil, cellOk_sl, cells_sl, cellOk_fn, cells_fn, cellOk_ref, cells_ref, cellOk_cref, cells_cref, cellOk_eref, cells_eref, cells_agg, pm_bool, pm_int, pm_nil, pm_slN, pm_slS, pm_fn, h3, h5, h84, hF, L1, hG, L2]
  · rw [if_neg h0] at h84
    simp [h0, eI] at L1 L2
    have hm : (flatR rs).map (fun x => [I x]) = eI (flatR rs) := rfl
    simp [l59, evBody, params, deadL, evC, prep, prepF, prepT, V.prep, prepL, stepL, stepI, wanted, opds, get, put, putO, callE, loadV, partV, valO, binV, binI, binS, unV, nilCmp, apply, keepL, memN, bxOf, tkOf, bxF, frzL, V.frz, frzEL, V.frzE, V.pureR, pureRL, V.tks, tksL, V.al, alL, V.rn, rnL, addT, protT, protAll, distinctN, fill, splice, fillE, eqSh, intsOf, maxL, minL, bounds, ranged, finish, result, rvs, finL, V.fin, one, goesOn, opd_t, opd_c, opd_f, opdV_box, opdV_int, opdV_bool, opdV_agg, opdV_tup, opdV_nil, opdV_sl, opdV_fn, opdV_ref, opdV_cref, opdV_eref, opdV_isSl, frz_isSl, frzE_isSl, cells_isSl, cellOk_isSl, pm_isSl, prep_isSl, fin_isSl, ranged_isSl, pureR_isSl, sem_len_isSl, sem_ixs_isSl, sem_len_sl, sem_len_nil, sem_ixs_none, sem_ixs_some, semR, semx_mv, semx_pick, semx_box, semx_alloc, semx_build, semx_bsl, semx_load, semx_store, semx_bin, semx_eqs, semx_un, semx_conv, semx_mkf, semx_mkm, semx_fa, semx_fld, semx_ixa, semx_idx, semx_mks, semx_sls, semx_ext, semx_call, semx_append, semx_appz, semx_trunc, semx_cap, semx_min, semx_max, semx_nilc, opdV_und, opdV_dead, opdV_none, cellOk_bool, cells_bool, cellOk_int, cells_int, cellOk_nil, cells_nil, cellOk_sl, cells_sl, cellOk_fn, cells_fn, cellOk_ref, cells_ref, cellOk_cref, cells_cref, cellOk_eref, cells_eref, cells_agg, pm_bool, pm_int, pm_nil, pm_slN, pm_slS, pm_fn, h3, h5, h84, hF, L1, hG, L2, h0, eI, flatE_nil]
end Go.Lo
