/- Texts put together. -/
import Derived.Test.YtifanigkolnedaaPa
import Derived.Laws.Cover3
import Derived.Laws.MakeOwn
import Derived.Laws.Slices
import Derived.RangeFuncRecord
/- Binary operations. -/
namespace Go.Lo
section
variable {P : Program} {X : Sc} {w0 w : World} {Ω : Own} {a : Act} {σ : St} {o : Oper} {mk : Bool}

theorem run_binOp {op : BinOp} {t u : TypeId} {x y : Operand} (ho : o.op = .binOp op t x y u) :
    (execOp a.eval o).run P w = ((eqGuard op t x y (a.eval x) (a.eval y)).run P w).andThen fun _ w => ((binOp op t (a.eval x) (a.eval y)).run P w).andThen fun v w => .ok (.value v) w := by
  simp only [execOp, ho, Sem.run_bind]
  cases (eqGuard op t x y (a.eval x) (a.eval y)).run P w with
  | ok _ w =>
    simp only [Result.andThen_ok]
    congr 1
  | halt _ _ => rfl
theorem run_eqGuard_int (op : BinOp) (t : TypeId) (x y : Operand) (k k' : IntKind) (n m : Int) (w : World) : (eqGuard op t x y (.int k n) (.int k' m)).run P w = .ok () w := by
  cases op <;> simp [eqGuard]
theorem run_eqGuard_bool (op : BinOp) (t : TypeId) (x y : Operand) (n m : Bool) (w : World) : (eqGuard op t x y (.bool n) (.bool m)).run P w = .ok () w := by
  cases op <;> simp [eqGuard]
theorem run_eqGuard_sl (op : BinOp) (t : TypeId) (x y : Operand) (b c : Option Addr) (n m n' m' : Nat) (w : World) : (eqGuard op t x y (.slice b n m) (.slice c n' m')).run P w = .ok () w := by
  cases op <;> simp [eqGuard]
theorem run_binI {op : BinOp} {k : IntKind} {n m : Int} {r : V} (h : binI op k n m = some r) (t : TypeId) (w : World) : ∃ z, (binOp op t (.int k n) (.int k m)).run P w = .ok z w ∧ Den Ω w r z := by
  cases op <;> simp only [binI, reduceCtorEq, Option.some.injEq] at h
  all_goals first
    | (subst h
       refine ⟨_, ?_, (by simp only [Den]; rfl)⟩
       simp [binOp, Op.intArith, Op.intCmp]
       done)
    | (split at h
       · cases h
       · simp only [Option.some.injEq] at h
         subst h
         refine ⟨_, ?_, (by simp only [Den]; rfl)⟩
         simp [binOp, Op.intDiv, *]
         done)
    | (simp only [intBits, Option.some.injEq] at h
       subst h
       refine ⟨_, ?_, (by simp only [Den]; rfl)⟩
       simp [binOp, Op.intBits]
       done)
    | (subst h
       refine ⟨_, ?_, (by simp only [Den]; rfl)⟩
       simp only [binOp, ne_eq, not_true_eq_false, if_false, Op.intCmp, Sem.run_pure]
       congr 2
       first | done | (by_cases e : n = m <;> simp [e]))
theorem run_binS {op : BinOp} {k k' : IntKind} {n m : Int} {r : V} (h : binS op k n m = some r) (t : TypeId) (w : World) : ∃ z, (binOp op t (.int k n) (.int k' m)).run P w = .ok z w ∧ Den Ω w r z := by
  unfold binS at h
  split at h
  · cases h
  · cases op <;> simp only [reduceCtorEq, Option.some.injEq] at h
    all_goals
      subst h
      refine ⟨_, ?_, (by simp only [Den]; rfl)⟩
      simp [binOp, Op.shift, *]
/-- What the type of the operands tells. -/
def binTy (P : Program) (t : TypeId) (ty : Nat) : Prop := (ty = 1 → P.underlying t = some .bool) ∧ (ty = 2 → ∃ e, P.underlying t = some (.slice e))
theorem run_bin {op : BinOp} {t u : TypeId} {x y : Operand} (ho : o.op = .binOp op t x y u) {ty : Nat} (ht : binTy P t ty) {v v' r : V} (hx : Den Ω w v (a.eval x)) (hy : Den Ω w v' (a.eval y)) (h : binV ty op v v' = some r) :
    ∃ z, (execOp a.eval o).run P w = .ok (.value z) w ∧ Den Ω w r z := by
  rw [run_binOp ho]
  have fin : ∀ {s : V}, (eqGuard op t x y (a.eval x) (a.eval y)).run P w = .ok () w → (∃ z, (binOp op t (a.eval x) (a.eval y)).run P w = .ok z w ∧ Den Ω w s z) →
      ∃ z, ((eqGuard op t x y (a.eval x) (a.eval y)).run P w).andThen (fun _ w => ((binOp op t (a.eval x) (a.eval y)).run P w).andThen fun v w => .ok (Next.value v) w) = .ok (Next.value z) w ∧ Den Ω w s z := by
    rintro s h0 ⟨z, h1, h2⟩
    exact ⟨z, by rw [h0]; simp only [Result.andThen_ok]; rw [h1]; rfl, h2⟩
  have eqlNil : ∀ (p : Option Addr) (l c : Nat) (s : V), a.eval x = .slice p l c → a.eval y = .slice none 0 0 → ty = 2 → nilCmp op p.isNone = some s →
      ∃ z, ((eqGuard op t x y (a.eval x) (a.eval y)).run P w).andThen (fun _ w => ((binOp op t (a.eval x) (a.eval y)).run P w).andThen fun v w => .ok (Next.value v) w) = .ok (Next.value z) w ∧ Den Ω w s z := by
    intro p l c s h1 h2 h3 h4
    refine fin (by rw [h1, h2]; exact run_eqGuard_sl _ _ _ _ _ _ _ _ _ _ _) ?_
    rw [h1, h2]
    obtain ⟨e, he⟩ := ht.2 h3
    cases op <;> simp only [nilCmp, reduceCtorEq, Option.some.injEq] at h4
    · subst h4
      refine ⟨.bool p.isNone, ?_, by simp [Den]⟩
      simp [binOp, run_equal_slice_nil w t e p l c he]
    · subst h4
      refine ⟨.bool !p.isNone, ?_, by simp [Den]⟩
      simp [binOp, run_equal_slice_nil w t e p l c he]
  cases v with
  | int k n =>
    cases v' <;> simp only [binV, reduceCtorEq] at h
    rename_i k' m
    simp only [Den] at hx hy
    refine fin (by rw [hx, hy]; exact run_eqGuard_int _ _ _ _ _ _ _ _ _) ?_
    rw [hx, hy]
    split at h
    · exact run_binS h t w
    · exact run_binS h t w
    · split at h
      · rename_i hk
        subst hk
        exact run_binI h t w
      · cases h
  | bool b =>
    cases v' <;> simp only [binV, reduceCtorEq] at h
    rename_i c
    simp only [Den] at hx hy
    refine fin (by rw [hx, hy]; exact run_eqGuard_bool _ _ _ _ _ _ _) ?_
    rw [hx, hy]
    split at h
    · rename_i h1
      have hb := ht.1 h1
      cases op <;> simp only [reduceCtorEq, Option.some.injEq] at h
      · subst h; exact ⟨_, run_eql_bool w t b c hb, by simp [Den]⟩
      · subst h; exact ⟨_, run_neq_bool w t b c hb, by simp [Den]⟩
    · cases h
  | nil =>
    cases v' <;> simp only [binV, reduceCtorEq] at h
    simp only [Den] at hx hy
    split at h
    · rename_i h2
      exact eqlNil none 0 0 r hx hy h2 h
    · cases h
  | sl tok sz es =>
    cases tok <;> cases v' <;> simp only [binV, reduceCtorEq] at h
    simp only [Den] at hx hy
    obtain ⟨b, cap, p, h1, _⟩ := hx
    split at h
    · rename_i h2
      exact eqlNil _ _ _ r h1 hy h2 h
    · cases h
  | _ => cases v' <;> simp only [binV, reduceCtorEq] at h
/-- Structs and arrays, cell by cell. -/
theorem run_eqs {op : BinOp} {t u : TypeId} {x y : Operand} (ho : o.op = .binOp op t x y u) {ne : Bool} {sh : List (Option IntKind)} (hop : eqOpC op = some ne) (hs : shapeC P 12 t = some sh) (hg : P.eqGuardType P.depth t = false)
    (hr : ∃ k, P.underlying t = some k ∧ k.isRow = true)
    {cs ds : List V} {r : Bool} (hx : Den Ω w (.agg cs) (a.eval x)) (hy : Den Ω w (.agg ds) (a.eval y)) (h : eqSh sh cs ds = some r) :
    (execOp a.eval o).run P w = .ok (.value (.bool (ne != r))) w := by
  rw [run_binOp ho]
  simp only [Den] at hx hy
  obtain ⟨xs, hx1, hx2⟩ := hx
  obtain ⟨ys, hy1, hy2⟩ := hy
  have hv := eqVals_den h hx2 hy2
  rw [hx1, hy1, run_eqGuard_agg w op t x y _ _ hg]
  simp only [Result.andThen_ok]
  obtain ⟨k, hk1, hk2⟩ := hr
  have isv : ∀ zs : List Value, IsVal P t zs (.agg zs.toArray) := fun zs => by
    unfold IsVal
    cases k <;> simp at hk2 <;> simp [hk1]
  have he := run_equalIn_shape 12 t sh hs 9988 xs ys r _ _ w hv (isv xs) (isv ys)
  rw [show 9988 + 12 = 10000 from rfl] at he
  cases op <;> simp only [eqOpC, reduceCtorEq, Option.some.injEq] at hop
  · subst hop
    rw [run_eql_struct w, he]
    simp
  · subst hop
    rw [run_neq_struct w, he]
    simp
end
end Go.Lo

/- Composite values. -/
namespace Go.Lo
section
variable {P : Program} {X : Sc} {w0 w : World} {Ω : Own} {a : Act} {σ : St} {o : Oper} {mk : Bool}

theorem run_isAgg_yes {t : TypeId} {d : TypeDesc} (hd : P.underlying t = some d) (h : d.isRow = true) (w : World) : (isAgg t).run P w = .ok true w := by
  unfold isAgg
  rw [Sem.run_bind, run_underlying hd w]
  cases d <;> simp_all
/-- A part of cells that are known. -/
theorem run_partV {t : TypeId} {n : Option Nat} (h : nC P t = some n) {cs : List V} {xs : List Value} {off : Nat} {v : V} (hl : DenL Ω w cs xs) (hp : partV cs off n = some v) (w' : World) :
    ∃ x, (part t xs.toArray off).run P w' = .ok x w' ∧ Den Ω w v x := by
  cases n with
  | none =>
    obtain ⟨d, hd, hr⟩ := nC_one h
    simp only [partV] at hp
    obtain ⟨x, hx, hv⟩ := hl.get hp
    exact ⟨x, by simp [part, run_isAgg_no hd hr, hx], hv⟩
  | some n =>
    obtain ⟨⟨d, hd, hr⟩, hs⟩ := nC_many h
    simp only [partV] at hp
    split at hp
    · rename_i hle
      injection hp with hp; subst hp
      refine ⟨.agg (xs.toArray.extract off (off + n)), by simp [part, run_isAgg_yes hd hr, run_sizeOf hs], ?_⟩
      have e : xs.toArray.extract off (off + n) = ((xs.drop off).take n).toArray := by
        apply Array.ext'
        rw [Array.toList_extract]
        simp [List.extract]
      simp only [Den]
      exact ⟨_, by rw [e], (hl.drop off).take n⟩
    · cases hp
theorem run_field {t : TypeId} {x : Operand} {i : Nat} (ho : o.op = .field t x i) {off : Nat} {u : TypeId} {n : Option Nat} (hf : fieldC P t i = some (off, u)) (hn : nC P u = some n) {cs : List V} {v : V} (hx : Den Ω w (.agg cs) (a.eval x)) (hp : partV cs off n = some v) :
    ∃ y, (execOp a.eval o).run P w = .ok (.value y) w ∧ Den Ω w v y := by
  simp only [Den] at hx
  obtain ⟨xs, hx1, hx2⟩ := hx
  obtain ⟨fs, f, h1, h2, rfl, rfl⟩ := fieldC_spec hf
  obtain ⟨y, hy, hd⟩ := run_partV hn hx2 hp w
  exact ⟨y, by simp [execOp, ho, Instr.field, run_underlying h1, h2, hx1, asAgg, hy], hd⟩
theorem run_index {t e : TypeId} {x i : Operand} (ho : o.op = .index t x i) {len sz : Nat} {n : Option Nat} (ht : P.underlying t = some (.array len e)) (hs : sizeC P e = some sz) (hn : nC P e = some n) {cs : List V} {k : IntKind} {j : Int} {v : V}
    (hx : Den Ω w (.agg cs) (a.eval x)) (hi : Den Ω w (.int k j) (a.eval i)) (h0 : 0 ≤ j ∧ j < len) (hp : partV cs (j.toNat * sz) n = some v) :
    ∃ y, (execOp a.eval o).run P w = .ok (.value y) w ∧ Den Ω w v y := by
  simp only [Den] at hx hi
  obtain ⟨xs, hx1, hx2⟩ := hx
  obtain ⟨y, hy, hd⟩ := run_partV hn hx2 hp w
  exact ⟨y, by simp [execOp, ho, Instr.index, run_underlying ht, hx1, hi, asIntOf, h0, run_sizeOf hs, hy], hd⟩

/-! ### Filling -/
theorem foldl_set (off : Nat) : ∀ (vs : List Value) (k : Nat) (cells : Array Value), off + k + vs.length ≤ cells.size →
    (List.foldl (fun cs (p : Value × Nat) => cs.setIfInBounds (off + p.2) p.1) cells (vs.zipIdx k)).toList = cells.toList.take (off + k) ++ vs ++ cells.toList.drop (off + k + vs.length)
  | [], k, cells, _ => by simp
  | v :: vs, k, cells, h => by
    simp only [List.length_cons] at h
    rw [List.zipIdx_cons, List.foldl_cons, foldl_set off vs (k + 1) _ (by simp only [Array.size_setIfInBounds]; omega)]
    simp only [Array.toList_setIfInBounds, List.length_cons]
    have hlt : off + k < cells.toList.length := by simpa using (by omega : off + k < cells.size)
    rw [show off + (k + 1) = (off + k) + 1 by omega, List.take_succ_eq_append_getElem (by simpa using hlt), List.take_set_of_le (Nat.le_refl _), List.getElem_set_self, List.drop_set_of_lt (by omega)]
    rw [show off + k + 1 + vs.length = off + k + (vs.length + 1) by omega]
    simp
theorem fill_step (place : Nat → Option (Nat × Nat)) (cells : Array Value) (i : Nat) (v : Value) (rest : List (Nat × Value)) {off n : Nat} (hp : place i = some (off, n)) (hn : v.cells.size = n) (hle : off + n ≤ cells.size) :
    Instr.fill place cells ((i, v) :: rest) = Instr.fill place (cells.toList.take off ++ v.cells.toList ++ cells.toList.drop (off + n)).toArray rest := by
  have hc : ¬ ((decide (v.cells.size ≠ n) || decide (off + v.cells.size > cells.size)) = true) := by simp [hn]; omega
  simp only [Instr.fill, hp]
  rw [if_neg hc]
  congr 1
  apply Array.ext'
  rw [← Array.foldl_toList, Array.toList_zipIdx]
  have := foldl_set off v.cells.toList 0 cells (by simpa [hn] using hle)
  simp only [Nat.add_zero, Array.length_toList, hn] at this
  exact this
theorem fill_sound {place : Nat → Option (Nat × Nat)} : ∀ {pl : List (Nat × Nat)} {vs : List V} {zs cs : List V} {ps : List (Nat × Value)} {cells : Array Value}, fill pl vs zs = some cs →
    ps.map (fun p => place p.1) = pl.map some → DenL Ω w vs (ps.map (·.2)) → DenL Ω w zs cells.toList → ∃ cells', Instr.fill place cells ps = some cells' ∧ DenL Ω w cs cells'.toList := by
  intro pl
  induction pl with
  | nil =>
    intro vs zs cs ps cells h hp hv hz
    have hps : ps = [] := by simpa using hp
    subst hps
    cases vs with
    | nil => simp only [fill, Option.some.injEq] at h; subst h; exact ⟨cells, rfl, hz⟩
    | cons v vs => simp [fill] at h
  | cons q pl ih =>
    intro vs zs cs ps cells h hp hv hz
    obtain ⟨off, n⟩ := q
    cases vs with
    | nil => simp [fill] at h
    | cons v vs =>
      cases ps with
      | nil => simp at hp
      | cons p ps =>
        obtain ⟨i, x⟩ := p
        simp only [List.map_cons, List.cons.injEq] at hp hv
        simp only [DenL] at hv
        obtain ⟨x', xs', e, hv1, hv2⟩ := hv
        injection e with e1 e2
        subst e1; subst e2
        simp only [fill] at h
        split at h
        · rename_i hc
          split at h
          · rename_i zs' hs
            have hx := Den.cells hc.2 hv1
            have hxl : x.cells.size = n := by rw [← Array.length_toList, hx.length, hc.1]
            have hle : off + n ≤ cells.size := by
              have := hs
              unfold splice at this
              split at this
              · rename_i hl
                rw [hc.1, ← hz.length, Array.length_toList] at hl; exact hl
              · cases this
            obtain ⟨cells', g1, g2⟩ := ih (cells := (cells.toList.take off ++ x.cells.toList ++ cells.toList.drop (off + n)).toArray) h hp.2 hv2 (by
              have := DenL.splice hz hx hs
              rw [hc.1] at this
              exact this)
            exact ⟨cells', by rw [fill_step place cells i x ps hp.1 hxl hle]; exact g1, g2⟩
          · cases h
        · cases h
/-- The zero value of a type. -/
theorem zeroC_spec {t : TypeId} {z : V} (h : zeroC P t = some z) : ∃ i zv, P.info? t = some i ∧ i.zero = some zv ∧ valV zv = some z ∧ z.cells.length = i.size ∧ z.cells.all V.cellOk = true := by
  unfold zeroC at h
  cases hi : P.info? t with
  | none => simp [hi] at h
  | some i =>
    cases hz : i.zero with
    | none => simp [hi, hz] at h
    | some zv =>
      simp only [hi, hz] at h
      split at h
      · rename_i v hv
        split at h
        · rename_i hc
          injection h with h; subst h
          exact ⟨i, zv, rfl, hz, hv, hc.1, hc.2⟩
        · cases h
      · cases h
theorem partsC_spec {place : Nat → Option (Nat × Nat)} : ∀ {ps : List (Nat × Operand)} {pl : List (Nat × Nat)}, partsC place ps = some pl → ps.map (fun p => place p.1) = pl.map some
  | [], pl, h => by simp only [partsC, Option.some.injEq] at h; subst h; rfl
  | (i, x) :: ps, pl, h => by
    simp only [partsC] at h
    split at h
    · rename_i q qs h1 h2
      injection h with h; subst h
      simp [h1, partsC_spec h2]
    · cases h
theorem run_build {t : TypeId} {ps : Array (Nat × Operand)} (ho : o.op = .build t ps) {k : K} {xs : List Operand} (hb : buildC P t ps.toList = some (k, xs)) {vs : List V} (hv : DenL Ω w vs (xs.map a.eval)) {cs : List V}
    {zs : List V} {pl : List (Nat × Nat)} (hk : k = .build zs pl) (hf : fill pl vs zs = some cs) :
    ∃ y, (execOp a.eval o).run P w = .ok (.value y) w ∧ Den Ω w (.agg cs) y := by
  unfold buildC at hb
  split at hb
  · rename_i zs' place hz hpl
    split at hb
    · rename_i pl' hp
      simp only [Option.some.injEq, Prod.mk.injEq] at hb
      obtain ⟨rfl, rfl⟩ := hb
      injection hk with hk1 hk2
      subst hk1; subst hk2
      obtain ⟨it, zv, hi, hzz, hval, hl, hc⟩ := zeroC_spec hz
      have hzd := Den.cells (Ω := Ω) (w := w) hc (valV_den _ _ hval)
      have hp' := partsC_spec hp
      obtain ⟨cells, g1, g2⟩ := fill_sound (place := place) (ps := ps.toList.map fun p => (p.1, a.eval p.2)) hf (by rw [List.map_map]; exact hp') (by rw [List.map_map]; rw [List.map_map] at hv; exact hv) hzd
      have hbuilt : P.built t (ps.toList.map fun p => (p.1, a.eval p.2)) = some cells := by
        unfold placesC at hpl
        unfold Program.built
        rw [hi]
        cases hu : P.underlying t with
        | none => simp [hu] at hpl
        | some d =>
          cases d <;> simp only [hu, reduceCtorEq] at hpl
          case struct fs =>
            split at hpl
            · rename_i l hl
              injection hpl with hpl; subst hpl
              simp only [hzz, hl]
              exact g1
            · cases hpl
          case array n e =>
            split at hpl
            · rename_i ie hie
              injection hpl with hpl; subst hpl
              simp only [hzz, hie]
              exact g1
            · cases hpl
      refine ⟨.agg cells, ?_, ?_⟩
      · have := Go.run_build (P := P) w t (ps.map fun p => (p.1, a.eval p.2)) cells (by rw [Array.toList_map]; exact hbuilt)
        simp only [execOp, ho, Sem.run_bind]
        rw [this]
        rfl
      · simp only [Den]
        exact ⟨cells.toList, by simp, g2⟩
    · cases hb
  · cases hb

/-! ### Slices -/
theorem replicate_made (z : List Value) : ∀ (m : Nat), ((List.range (m * z.length)).map fun i => z.toArray[i % z.length]!) = (List.replicate m z).flatten
  | 0 => by simp
  | m + 1 => by
    rw [Nat.succ_mul, Nat.add_comm, List.range_add, List.map_append, List.map_map, List.replicate_succ, List.flatten_cons, ← replicate_made z m]
    congr 1
    · apply List.ext_getElem
      · simp
      · intro i h1 h2
        simp only [List.length_map, List.length_range] at h1
        simp [Nat.mod_eq_of_lt h1, h1]
    · apply List.map_congr_left
      intro i _
      simp
theorem DenL.replicate {cs : List V} {xs : List Value} (h : DenL Ω w cs xs) : ∀ (m : Nat), DenL Ω w (List.replicate m cs).flatten (List.replicate m xs).flatten
  | 0 => by simp [DenL]
  | m + 1 => by
    rw [List.replicate_succ, List.replicate_succ, List.flatten_cons, List.flatten_cons]
    exact h.append (DenL.replicate h m)
theorem flatten_set : ∀ {es : List (List V)} {sz i : Nat} {e : List V}, (∀ cs ∈ es, cs.length = sz) → i < es.length → e.length = sz → splice es.flatten (i * sz) e = some (es.set i e).flatten
  | [], sz, i, e, _, hi, _ => by simp at hi
  | cs :: es, sz, 0, e, hl, _, he => by
    have := hl cs (by simp)
    simp only [splice, List.flatten_cons, Nat.zero_mul, Nat.zero_add, List.length_append, List.take_zero, List.nil_append, List.set_cons_zero]
    rw [if_pos (by omega), show e.length = cs.length by omega, List.drop_left]
  | cs :: es, sz, i + 1, e, hl, hi, he => by
    have h0 := hl cs (by simp)
    have ih := flatten_set (i := i) (fun ds hd => hl ds (List.mem_cons_of_mem _ hd)) (by simpa using hi) he
    unfold splice at ih ⊢
    split at ih
    · rename_i hle
      injection ih with ih
      simp only [List.flatten_cons, List.length_append, List.set_cons_succ]
      rw [Nat.succ_mul, if_pos (by omega), ← ih, show i * sz + sz = cs.length + i * sz by omega, List.take_length_add_append, show cs.length + i * sz + e.length = cs.length + (i * sz + e.length) by omega, List.drop_length_add_append]
      simp
    · cases ih
end
end Go.Lo

/- Slices that are made. -/
namespace Go.Lo
section
variable {P : Program} {X : Sc} {w0 w : World} {Ω : Own} {a : Act} {σ : St} {o : Oper} {mk : Bool}

theorem elemC_spec {t e : TypeId} (h : elemC P t = some e) : P.underlying t = some (.slice e) := by
  unfold elemC at h
  split at h
  · injection h with h; subst h; assumption
  · cases h
theorem memN_append {s : Nat} : ∀ {xs ys : List Nat}, memN s (xs ++ ys) = (memN s xs || memN s ys)
  | [], ys => by simp [memN]
  | x :: xs, ys => by
    simp only [List.cons_append, memN]
    split
    · rfl
    · exact memN_append
theorem memN_self : ∀ {xs : List Nat} {s : Nat}, s ∈ xs → memN s xs = true
  | x :: xs, s, h => by
    simp only [memN]
    split
    · rfl
    · rename_i hne
      rcases List.mem_cons.1 h with rfl | h
      · exact absurd rfl hne
      · exact memN_self h
/-- Elements of a slice, one by one. -/
theorem fillE_sound {sz : Nat} {ps : List Nat} : ∀ {ix : List Nat} {vs : List V} {es es' : List (List V)} {ts : List Nat} {xs : List Value} {cells : Array Value}, fillE sz ix vs es = some (es', ts) → (∀ t ∈ ts, memN t ps = true) →
    (∀ cs ∈ es, cs.length = sz ∧ cs.all V.pm = true) → DenL Ω w vs xs → DenL (Ω.prot ps) w es.flatten cells.toList →
    ∃ cells', Instr.fill (fun i => some (i * sz, sz)) cells (ix.zip xs) = some cells' ∧ DenL (Ω.prot ps) w es'.flatten cells'.toList ∧ es'.length = es.length ∧ (∀ cs ∈ es', cs.length = sz ∧ cs.all V.pm = true) ∧ ix.length = xs.length := by
  intro ix
  induction ix with
  | nil =>
    intro vs es es' ts xs cells h ht hes hv hd
    cases vs with
    | nil =>
      simp only [fillE, Option.some.injEq, Prod.mk.injEq] at h
      obtain ⟨rfl, rfl⟩ := h
      simp only [DenL] at hv
      subst hv
      exact ⟨cells, rfl, hd, rfl, hes, rfl⟩
    | cons v vs => simp [fillE] at h
  | cons i ix ih =>
    intro vs es es' ts xs cells h ht hes hv hd
    cases vs with
    | nil => simp [fillE] at h
    | cons v vs =>
      simp only [DenL] at hv
      obtain ⟨x, xs, rfl, hv1, hv2⟩ := hv
      simp only [fillE] at h
      split at h
      · rename_i v' us hf
        split at h
        · rename_i hc
          split at h
          · rename_i es2 us2 h2
            simp only [Option.some.injEq, Prod.mk.injEq] at h
            obtain ⟨rfl, rfl⟩ := h
            have hx := (Den.frzE (ps := ps) v v' us x hf (fun t h => ht t (by simp [h])) hv1).1
            have hcc : v'.cells.all V.cellOk = true := List.all_eq_true.2 fun z hz => (V.pm_pure (List.all_eq_true.1 hc.2.1 z hz)).2
            have hxc := Den.cells hcc hx
            have hxl : x.cells.size = sz := by rw [← Array.length_toList, hxc.length, hc.1]
            have hsp := flatten_set (fun cs h => (hes cs h).1) hc.2.2 hc.1
            have hle : i * sz + sz ≤ cells.size := by
              have := hsp
              unfold splice at this
              split at this
              · rename_i hl
                rw [hc.1, ← hd.length, Array.length_toList] at hl; exact hl
              · cases this
            have hsd := DenL.splice hd hxc hsp
            rw [hc.1] at hsd
            obtain ⟨cells', g1, g2, g3, g4, g5⟩ := ih (cells := (cells.toList.take (i * sz) ++ x.cells.toList ++ cells.toList.drop (i * sz + sz)).toArray) h2 (fun t h => ht t (by simp [h])) (fun cs hcs => by
              rcases List.mem_or_eq_of_mem_set hcs with h | rfl
              · exact hes cs h
              · exact ⟨hc.1, hc.2.1⟩) hv2 hsd
            refine ⟨cells', ?_, g2, by rw [g3, List.length_set], g4, by simp [g5]⟩
            rw [List.zip_cons_cons, fill_step _ cells i x _ rfl hxl hle]
            exact g1
          · cases h
        · cases h
      · cases h
theorem zero_row {z : V} {zv : Value} {n m : Nat} (hc : z.cells.all V.cellOk = true) (hl : z.cells.length = n) (hval : valV zv = some z) :
    DenL Ω w (List.replicate m z.cells).flatten ((Array.range (m * n)).map (zv.cells[· % zv.cells.size]!)).toList := by
  have hzd := Den.cells (Ω := Ω) (w := w) hc (valV_den _ _ hval)
  have hzs : zv.cells.toList.length = n := by rw [hzd.length, hl]
  have e : ((Array.range (m * n)).map (zv.cells[· % zv.cells.size]!)).toList = (List.replicate m zv.cells.toList).flatten := by
    rw [← replicate_made, hzs, Array.toList_map, Array.toList_range]
    have : zv.cells.size = n := by rw [← Array.length_toList, hzs]
    simp [this]
  rw [e]
  exact hzd.replicate m
theorem zeroE_spec {t : TypeId} {z : V} (h : zeroE P t = some z) : zeroC P t = some z ∧ z.cells.all V.pm = true := by
  unfold zeroE at h
  split at h
  · split at h
    · injection h with h; subst h; exact ⟨by assumption, by assumption⟩
    · cases h
  · cases h
theorem size_info {t : TypeId} {n : Nat} {i : TypeInfo} (hs : sizeC P t = some n) (hi : P.info? t = some i) : i.size = n := by
  unfold sizeC at hs
  simpa [hi] using hs
theorem bytes_info {t : TypeId} {n : Nat} {i : TypeInfo} (hs : bytesC P t = some n) (hi : P.info? t = some i) : i.bytes = n := by
  unfold bytesC at hs
  simpa [hi] using hs
theorem yields_buildSlice (h : Inv X w0 Ω w a.tmps σ) {t e : TypeId} {len : Nat} {ps : Array (Nat × Operand)} (ho : o.op = .buildSlice t len ps) (he : elemC P t = some e) {sz : Nat} (hs : sizeC P e = some sz) {z : V} (hz : zeroE P e = some z)
    (hsz : sz ≠ 0 ∧ len * sz ≤ 16777216) {d : Nat} (hdst : o.dst = some d) (hd : d < a.tmps.size) (hf : Fresh Ω d) {vs : List V} (hv : DenL Ω w vs ((ps.toList.map (·.2)).map a.eval)) {es : List (List V)} {ts : List Nat}
    (hfl : fillE sz (ps.toList.map (·.1)) vs (List.replicate len z.cells) = some (es, ts)) :
    Yields P X w0 Ω w a o (apply σ o.dst (.mk (.sl (some (d * 100)) sz es) (d * 100) len ts)) true := by
  obtain ⟨hz, hzp⟩ := zeroE_spec hz
  obtain ⟨i, zv, hi, hzz, hval, hl, hc⟩ := zeroC_spec hz
  have hsi := size_info hs hi
  subst hsi
  have hrow := zero_row (Ω := Ω.prot ts) (w := w) (m := len) hc hl hval
  obtain ⟨cells, g1, g2, g3, g4, g5⟩ := fillE_sound (ps := ts) hfl (fun t h => memN_self h) (fun cs hcs => by
    rw [List.mem_replicate] at hcs
    rw [hcs.2]; exact ⟨hl, hzp⟩) hv hrow
  have hzip : (ps.map fun (p : Nat × Operand) => (p.1, a.eval p.2)).toList = (ps.toList.map (·.1)).zip ((ps.toList.map (·.2)).map a.eval) := by
    rw [Array.toList_map, List.map_map, List.zip_map']
    rfl
  have hlen : es.length = len := by rw [g3, List.length_replicate]
  have hcl : cells.size = len * i.size := by
    rw [← Array.length_toList, g2.length, flatten_length (fun cs hc => (g4 cs hc).1), hlen]
  refine Yields.arr (nd := 0) (ys := cells.toList) (c := cells) (T := e) (k := len) h hdst hd hf ?_ hcl (Nat.le_refl _) (Nat.pos_of_ne_zero hsz.1) hlen g2 g4 (fun j y hj => by simpa using hj)
  have hgo : ¬ (16777216 < len * i.size) := by omega
  have hlim : ¬ (len * i.size > 2 ^ 24) := by omega
  rw [← hzip] at g1
  by_cases hn : len * i.size = 0
  · rw [hn] at g1
    simp only [Array.range_zero', Array.map_empty, Array.toList_map] at g1
    simp [execOp, ho, Instr.buildSlice, run_underlying (elemC_spec he), run_sizeOf hs, hn, newRow, Array.range_zero', g1, World.drewN_zero]
  · simp only [Array.toList_map] at g1
    simp [execOp, ho, Instr.buildSlice, run_underlying (elemC_spec he), run_sizeOf hs, hn, hgo, zeroValue, typeInfo, hi, hzz, newRow, g1, World.drewN_zero]
theorem yields_makeSlice (h : Inv X w0 Ω w a.tmps σ) {t e : TypeId} {x y : Operand} (ho : o.op = .makeSlice t x y) (he : elemC P t = some e) {sz b : Nat} (hs : sizeC P e = some sz) (hb : bytesC P e = some b) {z : V} (hz : zeroE P e = some z)
    (hsz : sz ≠ 0 ∧ b ≠ 0) {d : Nat} (hdst : o.dst = some d) (hd : d < a.tmps.size) (hf : Fresh Ω d) {k k' : IntKind} {l c : Int} (hx : Den Ω w (.int k l) (a.eval x)) (hy : Den Ω w (.int k' c) (a.eval y))
    (hc : 0 ≤ l ∧ l ≤ c ∧ c * b ≤ 140737488355328) :
    Yields P X w0 Ω w a o (apply σ o.dst (.mk (.sl (some (d * 100)) sz (List.replicate l.toNat z.cells)) (d * 100) l.toNat [])) true := by
  obtain ⟨hz, hzp⟩ := zeroE_spec hz
  obtain ⟨i, zv, hi, hzz, hval, hl, hcc⟩ := zeroC_spec hz
  have hsi := size_info hs hi
  have hbi := bytes_info hb hi
  subst hsi; subst hbi
  simp only [Den] at hx hy
  have hcb : c ≤ c * i.bytes := by
    have : (1 : Int) ≤ i.bytes := by omega
    have h0 : 0 ≤ c := by omega
    calc c = c * 1 := by omega
      _ ≤ c * i.bytes := Int.mul_le_mul_of_nonneg_left this h0
  have hrow := zero_row (Ω := Ω.prot []) (w := w) (m := l.toNat) hcc hl hval
  have hlc : l.toNat ≤ c.toNat := Int.toNat_le_toNat hc.2.1
  refine Yields.arr (nd := 0) (ys := ((Array.range (l.toNat * i.size)).map (zv.cells[· % zv.cells.size]!)).toList) (c := madeCells zv.cells (c.toNat * i.size)) (T := e) (k := c.toNat) h hdst hd hf ?_ (size_madeCells _ _) hlc (Nat.pos_of_ne_zero hsz.1) (by simp) hrow
    (fun cs hcs => by rw [List.mem_replicate] at hcs; rw [hcs.2]; exact ⟨hl, hzp⟩) (fun j y hj => ?_)
  · have := run_make (P := P) w t e i zv (elemC_spec he) hi hzz k k' l c hc.1 hc.2.1 (by rw [Int.mul_comm]; omega) (by omega)
    simp only [execOp, ho, Sem.run_bind, hx, hy, this]
    rfl
  · have hlm : l.toNat * i.size ≤ c.toNat * i.size := Nat.mul_le_mul_right _ hlc
    have hj' := (List.getElem?_eq_some_iff.1 hj).1
    simp only [Array.length_toList, Array.size_map, Array.size_range] at hj'
    rw [← hj]
    simp only [madeCells, Array.getElem?_map, Array.getElem?_toList]
    rw [Array.getElem?_range, Array.getElem?_range, if_pos hj', if_pos (by omega)]

/-! ### Slice expressions -/
/-- An index, if there is one. -/
def popI (b : Bool) (dflt : Int) (vs : List V) : Option (Int × List V) :=
  if b = true then (match vs with | .int _ i :: r => some (i, r) | _ => none) else some (dflt, vs)
theorem popI_spec {x : Option Operand} {xs : List Operand} {vs r : List V} {dflt i : Int} (h : popI x.isSome dflt vs = some (i, r)) (hv : DenL Ω w vs ((x.toList ++ xs).map a.eval)) :
    DenL Ω w r (xs.map a.eval) ∧ ((x = none ∧ i = dflt) ∨ ∃ y k, x = some y ∧ a.eval y = .int k i) := by
  unfold popI at h
  cases x with
  | none =>
    simp only [Option.isSome_none, Bool.false_eq_true, if_false, Option.some.injEq, Prod.mk.injEq] at h
    obtain ⟨rfl, rfl⟩ := h
    exact ⟨by simpa using hv, .inl ⟨rfl, rfl⟩⟩
  | some y =>
    simp only [Option.isSome_some, if_true] at h
    split at h
    · rename_i k j r' 
      simp only [Option.some.injEq, Prod.mk.injEq] at h
      obtain ⟨rfl, rfl⟩ := h
      simp only [Option.toList_some, List.singleton_append, List.map_cons, DenL, Den] at hv
      obtain ⟨x', ys, e, h1, h2⟩ := hv
      injection e with e1 e2
      subst e2
      exact ⟨h2, .inr ⟨y, k, rfl, by rw [e1, h1]⟩⟩
    · cases h
theorem bounds_spec {len n l h : Nat} {lo hi mx : Option Operand} {vs : List V} (hv : DenL Ω w vs ((lo.toList ++ hi.toList ++ mx.toList).map a.eval)) (hb : bounds len n lo.isSome hi.isSome mx.isSome vs = some (l, h)) :
    ∃ il ih im : Int, ((lo = none ∧ il = 0) ∨ ∃ y k, lo = some y ∧ a.eval y = .int k il) ∧ ((hi = none ∧ ih = len) ∨ ∃ y k, hi = some y ∧ a.eval y = .int k ih) ∧ ((mx = none ∧ im = n) ∨ ∃ y k, mx = some y ∧ a.eval y = .int k im) ∧
      0 ≤ il ∧ il ≤ ih ∧ ih ≤ im ∧ im ≤ n ∧ l = il.toNat ∧ h = ih.toNat := by
  have hb' : (match popI lo.isSome 0 vs with
      | none => none
      | some (l, vs) => match popI hi.isSome len vs with
        | none => none
        | some (h, vs) => match popI mx.isSome n vs with
          | some (m, []) => if 0 ≤ l ∧ l ≤ h ∧ h ≤ m ∧ m ≤ n then some (l.toNat, h.toNat) else none
          | _ => none) = some (l, h) := hb
  rw [List.append_assoc] at hv
  split at hb'
  · cases hb'
  · rename_i il vs1 e1
    obtain ⟨hv1, s1⟩ := popI_spec e1 hv
    split at hb'
    · cases hb'
    · rename_i ih vs2 e2
      obtain ⟨hv2, s2⟩ := popI_spec e2 hv1
      split at hb'
      · rename_i im e3
        rw [← List.append_nil mx.toList] at hv2
        obtain ⟨_, s3⟩ := popI_spec e3 hv2
        split at hb'
        · rename_i hc
          simp only [Option.some.injEq, Prod.mk.injEq] at hb'
          exact ⟨il, ih, im, s1, s2, s3, hc.1, hc.2.1, hc.2.2.1, hc.2.2.2, hb'.1.symm, hb'.2.symm⟩
        · cases hb'
      · cases hb'
theorem run_bounds {len n cap l h : Nat} (hlc : n ≤ cap) {lo hi mx : Option Operand} (hm : mx.isSome = true → hi.isSome = true) {vs : List V} (hv : DenL Ω w vs ((lo.toList ++ hi.toList ++ mx.toList).map a.eval)) (hb : bounds len n lo.isSome hi.isSome mx.isSome vs = some (l, h)) :
    ∃ m, (Instr.sliceBounds true len cap (lo.map a.eval) (hi.map a.eval) (mx.map a.eval)).run P w = .ok (l, h, m) w ∧ l ≤ h ∧ h ≤ m ∧ m ≤ cap ∧ h ≤ n := by
  obtain ⟨il, ih, im, s1, s2, s3, c1, c2, c3, c4, rfl, rfl⟩ := bounds_spec hv hb
  have k1 : il ≤ (ih.toNat : Int) := by omega
  have k2 : ih ≤ (im.toNat : Int) := by omega
  have k3 : im ≤ (cap : Int) := by omega
  have k4 : ih ≤ (cap : Int) := by omega
  have k5 : 0 ≤ ih := by omega
  have k6 : 0 ≤ im := by omega
  have b1 : ∀ (q : IntKind) (code : BoundsCode), (Instr.sliceBound (.int q il) ih.toNat code).run P w = .ok il.toNat w := fun q code => run_sliceBound w q il _ code c1 k1
  have b2 : ∀ (q : IntKind) (code : BoundsCode), (Instr.sliceBound (.int q ih) im.toNat code).run P w = .ok ih.toNat w := fun q code => run_sliceBound w q ih _ code k5 k2
  have b3 : ∀ (q : IntKind) (code : BoundsCode), (Instr.sliceBound (.int q im) cap code).run P w = .ok im.toNat w := fun q code => run_sliceBound w q im _ code k6 k3
  have b4 : ∀ (q : IntKind) (code : BoundsCode), (Instr.sliceBound (.int q ih) cap code).run P w = .ok ih.toNat w := fun q code => run_sliceBound w q ih _ code k5 k4
  rcases s3 with ⟨rfl, rfl⟩ | ⟨y3, q3, rfl, e3⟩
  · refine ⟨cap, ?_, by omega, by omega, Nat.le_refl _, by omega⟩
    rcases s1 with ⟨rfl, rfl⟩ | ⟨y1, q1, rfl, e1⟩ <;> rcases s2 with ⟨rfl, rfl⟩ | ⟨y2, q2, rfl, e2⟩
    · simp [Instr.sliceBounds]
    · simp [Instr.sliceBounds, e2, run_sliceBound, k4, k5]
    · have k1' : il ≤ (len : Int) := by omega
      simp [Instr.sliceBounds, e1, run_sliceBound, c1, k1']
    · simp [Instr.sliceBounds, e1, e2, b4, b1]
  · refine ⟨im.toNat, ?_, by omega, by omega, by omega, by omega⟩
    rcases s2 with ⟨rfl, _⟩ | ⟨y2, q2, rfl, e2⟩
    · simp at hm
    · rcases s1 with ⟨rfl, rfl⟩ | ⟨y1, q1, rfl, e1⟩
      · simp [Instr.sliceBounds, e2, e3, b2, b3]
      · simp [Instr.sliceBounds, e1, e2, e3, b1, b2, b3]
theorem run_sliceOp {t e : TypeId} {x : Operand} {lo hi mx : Option Operand} (ho : o.op = .slice t x lo hi mx) (he : elemC P t = some e) {sz : Nat} (hs : sizeC P e = some sz) {p : Option Addr} {len cap l h m : Nat} (hx : a.eval x = .slice p len cap)
    (hb : (Instr.sliceBounds true len cap (lo.map a.eval) (hi.map a.eval) (mx.map a.eval)).run P w = .ok (l, h, m) w) :
    (execOp a.eval o).run P w = .ok (.value (.slice (if m = l then p else p.map (·.add (l * sz))) (h - l) (m - l))) w := by
  simp [execOp, ho, Instr.sliceAt, Instr.slice, run_underlying (elemC_spec he), hx, hb, run_sizeOf hs]
end
end Go.Lo

/- Slices that are read, cut and appended to; addresses. -/
namespace Go.Lo
section
variable {P : Program} {X : Sc} {w0 w : World} {Ω : Own} {a : Act} {σ : St} {o : Oper} {mk : Bool}

theorem slice_view {t e : TypeId} {x : Operand} {lo hi mx : Option Operand} (ho : o.op = .slice t x lo hi mx) (he : elemC P t = some e) {sz : Nat} (hs : sizeC P e = some sz) (hm : mx.isSome = true → hi.isSome = true)
    {es : List (List V)} {vs : List V} {Ω' : Own} (hx : Den Ω' w (.sl none sz es) (a.eval x)) (hv : DenL Ω w vs ((lo.toList ++ hi.toList ++ mx.toList).map a.eval)) {l h : Nat} (hb : bounds es.length es.length lo.isSome hi.isSome mx.isSome vs = some (l, h)) :
    ∃ y, (execOp a.eval o).run P w = .ok (.value y) w ∧ Den Ω' w (.sl none sz ((es.take h).drop l)) y := by
  simp only [Den] at hx
  rcases hx with ⟨rfl, q, hx⟩ | ⟨b, off, cap, hx, hf, hE⟩
  · obtain ⟨m, h1, h2, h3, h4, h5⟩ := run_bounds (P := P) (w := w) (cap := 0) (Nat.le_refl _) hm hv hb
    refine ⟨_, run_sliceOp ho he hs hx (by simpa using h1), ?_⟩
    simp only [Den]
    refine .inl ⟨by simp, q, ?_⟩
    have : l = 0 := by simp at h5; omega
    have : h = 0 := by simpa using h5
    subst_vars
    have : m = 0 := by omega
    subst this
    simp
  · obtain ⟨m, h1, h2, h3, h4, h5⟩ := run_bounds (P := P) (w := w) (cap := es.length + cap) (Nat.le_add_right _ _) hm hv hb
    refine ⟨_, run_sliceOp ho he hs hx h1, ?_⟩
    have hl : ((es.take h).drop l).length = h - l := by rw [List.length_drop, List.length_take]; omega
    simp only [Den]
    by_cases hml : m = l
    · have e : (es.take h).drop l = [] := List.eq_nil_of_length_eq_zero (by omega)
      rw [e]
      refine .inr ⟨b, off, m - l - (h - l), ?_, hf, trivial⟩
      rw [if_pos hml, List.length_nil]
      congr 1 <;> omega
    · refine .inr ⟨b, off + l * sz, m - l - (h - l), ?_, hf, (hE.take h).drop l⟩
      rw [if_neg hml, hl]
      simp only [Option.map_some, addr_add]
      congr 1
      omega
theorem yields_slice_none (h : Inv X w0 Ω w a.tmps σ) (hd : ∀ d, o.dst = some d → d < a.tmps.size) {t e : TypeId} {x : Operand} {lo hi mx : Option Operand} (ho : o.op = .slice t x lo hi mx) (he : elemC P t = some e) {sz : Nat} (hs : sizeC P e = some sz) (hm : mx.isSome = true → hi.isSome = true)
    {es : List (List V)} {vs : List V} (hx : Den Ω w (.sl none sz es) (a.eval x)) (hv : DenL Ω w vs ((lo.toList ++ hi.toList ++ mx.toList).map a.eval)) {l r : Nat} (hb : bounds es.length es.length lo.isSome hi.isSome mx.isSome vs = some (l, r)) :
    Yields P X w0 Ω w a o (apply σ o.dst (.val (.sl none sz ((es.take r).drop l)))) mk := by
  obtain ⟨y, h1, h2⟩ := slice_view ho he hs hm hx hv hb
  exact Yields.val h hd h1 h2
theorem yields_slice_some (h : Inv X w0 Ω w a.tmps σ) (hd : ∀ d, o.dst = some d → d < a.tmps.size) {t e : TypeId} {x : Operand} {lo hi mx : Option Operand} (ho : o.op = .slice t x lo hi mx) (he : elemC P t = some e) {sz : Nat} (hs : sizeC P e = some sz) (hm : mx.isSome = true → hi.isSome = true)
    {u : Nat} {es : List (List V)} {vs : List V} (hx : Den Ω w (.sl (some u) sz es) (a.eval x)) (hv : DenL Ω w vs ((lo.toList ++ hi.toList ++ mx.toList).map a.eval)) {l r : Nat} (hb : bounds es.length es.length lo.isSome hi.isSome mx.isSome vs = some (l, r)) :
    Yields P X w0 Ω w a o (apply σ o.dst (.prot (.sl none sz ((es.take r).drop l)) [u])) mk := by
  obtain ⟨y, h1, h2⟩ := slice_view ho he hs hm (Den.view (ps := [u]) (by simp [memN]) hx) hv hb
  exact Yields.prot h hd h1 h2
theorem yields_slice_nil (h : Inv X w0 Ω w a.tmps σ) (hd : ∀ d, o.dst = some d → d < a.tmps.size) {t e : TypeId} {x : Operand} {lo hi mx : Option Operand} (ho : o.op = .slice t x lo hi mx) (he : elemC P t = some e) {sz : Nat} (hs : sizeC P e = some sz) (hm : mx.isSome = true → hi.isSome = true)
    {vs : List V} (hx : Den Ω w .nil (a.eval x)) (hv : DenL Ω w vs ((lo.toList ++ hi.toList ++ mx.toList).map a.eval)) {b : Nat × Nat} (hb : bounds 0 0 lo.isSome hi.isSome mx.isSome vs = some b) :
    Yields P X w0 Ω w a o (apply σ o.dst (.val .nil)) mk := by
  obtain ⟨l, r⟩ := b
  simp only [Den] at hx
  obtain ⟨m, h1, h2, h3, h4, h5⟩ := run_bounds (P := P) (w := w) (cap := 0) (Nat.le_refl _) hm hv hb
  refine Yields.val h hd (run_sliceOp ho he hs hx h1) ?_
  have : l = 0 := by omega
  have : r = 0 := by omega
  have : m = 0 := by omega
  subst_vars
  simp [Den]

theorem yields_trunc (h : Inv X w0 Ω w a.tmps σ) (hd : ∀ d, o.dst = some d → d < a.tmps.size) {t e : TypeId} {x y : Operand} (ho : o.op = .slice t x none (some y) none) (he : elemC P t = some e) {sz : Nat} (hs : sizeC P e = some sz)
    {u : Nat} {es : List (List V)} {q : IntKind} {m : Int} (hx : Den Ω w (.sl (some u) sz es) (a.eval x)) (hy : Den Ω w (.int q m) (a.eval y)) (ht : get σ.tk u = some (es.length, true)) (h0 : 0 ≤ m) (h1 : m ≤ es.length) :
    Yields P X w0 Ω w a o (apply σ o.dst (.trunc (.sl (some u) sz (es.take m.toNat)) u m.toNat)) mk := by
  obtain ⟨c, k, T, xs, g1, ⟨p, g2⟩, g3, g4, g5, g6, g7, g8⟩ := h.tok u _ true ht
  simp only [Den] at hx hy
  obtain ⟨b, cap, p', hx1, hx2, hx3, hx4, hx5⟩ := hx
  obtain ⟨e1, e2⟩ := (hx4 c k _ g1).2 rfl
  subst e1
  rw [e2] at hx1
  have hb : (Instr.sliceBounds true es.length k none (some (a.eval y)) none).run P w = .ok (0, m.toNat, k) w := by
    have := run_sliceBound (P := P) w q m k .sliceAcap h0 (by omega)
    simp [Instr.sliceBounds, hy, this]
  have hr := run_sliceOp (P := P) (w := w) (a := a) ho he hs hx1 (by simpa using hb)
  have hv : (Value.slice (if k = 0 then (some ⟨b, 0, none⟩ : Option Addr) else (some ⟨b, 0, none⟩ : Option Addr).map (·.add (0 * sz))) (m.toNat - 0) (k - 0)) = .slice (some ⟨b, 0, none⟩) m.toNat k := by
    rw [Nat.zero_mul]
    simp [Addr.add]
  rw [hv] at hr
  refine ⟨_, w, Ω.trunc u b k m.toNat, .inl hr, ?_, fun d hf _ => ⟨fun b hb => hf.1 b hb, fun b t p e hb => hf.2 b t p e hb⟩⟩
  exact (h.trunc ht (by omega) g1).putO hd (Den.cut h ht (by omega) g1 hx3 rfl hx5) a rfl

/-! ### Lengths -/
theorem run_lenOp {c : Call} {x : Operand} {t e : TypeId} (ho : o.op = .call c) (hc : c.callee = .builtin .len) (hx : c.args.toList = [x]) (ht : c.argTypes.toList = [t]) (he : elemC P t = some e) {p : Option Addr} {n k : Nat} (hv : a.eval x = .slice p n k) :
    (execOp a.eval o).run P w = .ok (.value (.int .i64 n)) w := by
  have h1 : c.args = #[x] := Array.ext' (by simp [hx])
  have h2 : c.argTypes = #[t] := Array.ext' (by simp [ht])
  simp [execOp, ho, resolve, invoke, hc, builtin, h1, h2, Builtin.len_, run_underlying (elemC_spec he), hv, goInt]
theorem run_capOp {c : Call} {x : Operand} {t e : TypeId} (ho : o.op = .call c) (hc : c.callee = .builtin .cap) (hx : c.args.toList = [x]) (ht : c.argTypes.toList = [t]) (he : elemC P t = some e) {p : Option Addr} {n k : Nat} (hv : a.eval x = .slice p n k) :
    (execOp a.eval o).run P w = .ok (.value (.int .i64 k)) w := by
  have h1 : c.args = #[x] := Array.ext' (by simp [hx])
  have h2 : c.argTypes = #[t] := Array.ext' (by simp [ht])
  simp [execOp, ho, resolve, invoke, hc, builtin, h1, h2, Builtin.cap_, run_underlying (elemC_spec he), hv, goInt]
theorem sl_len {t : Option Nat} {sz : Nat} {es : List (List V)} {x : Value} (h : Den Ω w (.sl t sz es) x) : ∃ p k, x = .slice p es.length k := by
  cases t with
  | none =>
    simp only [Den] at h
    rcases h with ⟨rfl, q, rfl⟩ | ⟨b, off, cap, rfl, _⟩
    · exact ⟨q, 0, rfl⟩
    · exact ⟨_, _, rfl⟩
  | some t =>
    simp only [Den] at h
    obtain ⟨b, cap, p, rfl, _⟩ := h
    exact ⟨_, _, rfl⟩

/-! ### Least and greatest -/
theorem run_max2 (k k' : IntKind) (n m : Int) (w : World) : (Builtin.max2 (.int k n) (.int k' m)).run P w = .ok (.int k (if m > n then m else n)) w := by simp [Builtin.max2]
theorem run_min2 (k k' : IntKind) (n m : Int) (w : World) : (Builtin.min2 (.int k n) (.int k' m)).run P w = .ok (.int k (if m < n then m else n)) w := by simp [Builtin.min2]
theorem intsOf_den : ∀ {vs : List V} {k : IntKind} {ns : List Int} {xs : List Value}, intsOf vs = some (k, ns) → DenL Ω w vs xs → xs = ns.map (.int k)
  | [], k, ns, xs, h, _ => by simp [intsOf] at h
  | [v], k, ns, xs, h, hd => by
    cases v <;> simp [intsOf] at h
    obtain ⟨rfl, rfl⟩ := h
    simp only [DenL, Den] at hd
    obtain ⟨x, ys, rfl, rfl, rfl⟩ := hd
    rfl
  | v :: u :: vs, k, ns, xs, h, hd => by
    cases v <;> simp only [intsOf, reduceCtorEq] at h
    split at h
    · rename_i k' ns' h'
      split at h
      · rename_i hk
        subst hk
        simp only [Option.some.injEq, Prod.mk.injEq] at h
        obtain ⟨rfl, rfl⟩ := h
        rw [DenL] at hd
        obtain ⟨x, ys, rfl, h1, h2⟩ := hd
        simp only [Den] at h1
        rw [intsOf_den h' h2, h1]
        rfl
      · cases h
    · cases h
theorem run_maxL (k : IntKind) : ∀ (ns : List Int) (n : Int), ((ns.map (Value.int k)).foldlM Builtin.max2 (.int k n)).run P w = .ok (.int k (maxL n ns)) w
  | [], n => by simp [maxL]
  | m :: ns, n => by
    rw [List.map_cons, List.foldlM_cons, Sem.run_bind, run_max2]
    simp only [Result.andThen_ok]
    rw [run_maxL k ns]
    rfl
theorem run_minL (k : IntKind) : ∀ (ns : List Int) (n : Int), ((ns.map (Value.int k)).foldlM Builtin.min2 (.int k n)).run P w = .ok (.int k (minL n ns)) w
  | [], n => by simp [minL]
  | m :: ns, n => by
    rw [List.map_cons, List.foldlM_cons, Sem.run_bind, run_min2]
    simp only [Result.andThen_ok]
    rw [run_minL k ns]
    rfl
theorem run_maxOp {c : Call} (ho : o.op = .call c) (hc : c.callee = .builtin .max) {k : IntKind} {n : Int} {ns : List Int} (hx : c.args.toList.map a.eval = (n :: ns).map (.int k)) :
    (execOp a.eval o).run P w = .ok (.value (.int k (maxL n ns))) w := by
  have h1 : (c.args.map a.eval).toList = (n :: ns).map (.int k) := by rw [Array.toList_map, hx]
  simp only [execOp, ho, resolve, invoke, hc, builtin, Sem.run_bind, Sem.run_pure, Result.andThen_ok, Builtin.max_, h1, List.map_cons, run_maxL]
theorem run_minOp {c : Call} (ho : o.op = .call c) (hc : c.callee = .builtin .min) {k : IntKind} {n : Int} {ns : List Int} (hx : c.args.toList.map a.eval = (n :: ns).map (.int k)) :
    (execOp a.eval o).run P w = .ok (.value (.int k (minL n ns))) w := by
  have h1 : (c.args.map a.eval).toList = (n :: ns).map (.int k) := by rw [Array.toList_map, hx]
  simp only [execOp, ho, resolve, invoke, hc, builtin, Sem.run_bind, Sem.run_pure, Result.andThen_ok, Builtin.min_, h1, List.map_cons, run_minL]
end
end Go.Lo

/- Appends, and addresses of elements and fields. -/
namespace Go.Lo
section
variable {P : Program} {X : Sc} {w0 w : World} {Ω : Own} {a : Act} {σ : St} {o : Oper} {mk : Bool}

/-- The elements of a slice that has some. -/
theorem sl_cells {t : Option Nat} {sz : Nat} {es : List (List V)} {x : Value} (h : Den Ω w (.sl t sz es) x) (hne : es ≠ []) :
    ∃ b off cap xs, x = .slice (some ⟨b, off, none⟩) es.length cap ∧ DenL Ω w es.flatten xs ∧ xs.length = es.length * sz ∧ (∀ j v, xs[j]? = some v → w.cell? ((⟨b, off, none⟩ : Addr).add j) = some v) ∧ (∀ cs ∈ es, cs.length = sz ∧ cs.all V.pm = true) := by
  have key : ∀ {b off : Nat}, DenE Ω w es sz b off → ∃ xs, DenL Ω w es.flatten xs ∧ xs.length = es.length * sz ∧ (∀ j v, xs[j]? = some v → w.cell? ((⟨b, off, none⟩ : Addr).add j) = some v) ∧ (∀ cs ∈ es, cs.length = sz ∧ cs.all V.pm = true) := by
    intro b off hE
    obtain ⟨xs, h1, h2⟩ := hE.cells.vals
    refine ⟨xs, h1, by rw [h1.length, hE.length_flatten], fun j v hj => by rw [addr_add]; exact h2 j v hj, fun cs hcs => ?_⟩
    obtain ⟨i, hi⟩ := List.getElem?_of_mem hcs
    obtain ⟨g1, g2, _⟩ := hE.get hi
    exact ⟨g1, g2⟩
  cases t with
  | none =>
    simp only [Den] at h
    rcases h with ⟨rfl, _⟩ | ⟨b, off, cap, rfl, _, hE⟩
    · exact absurd rfl hne
    · obtain ⟨xs, g⟩ := key hE
      exact ⟨b, off, _, xs, rfl, g⟩
  | some t =>
    simp only [Den] at h
    obtain ⟨b, cap, p, rfl, _, _, _, hE⟩ := h
    obtain ⟨xs, g⟩ := key hE
    exact ⟨b, 0, _, xs, rfl, g⟩
theorem run_append_uu {t u e e' : TypeId} (ht : P.underlying t = some (.slice e)) (hu : P.underlying u = some (.slice e')) {n : Nat} (hs : sizeC P e = some n) (ty : TypeId) (args : Array Value) :
    (Builtin.append_ #[t, u] ty args).run P w = (Builtin.append_ #[t, t] ty args).run P w := by
  simp only [Builtin.append_, List.getElem?_toArray, List.getElem?_cons_zero, List.getElem?_cons_succ]
  cases args[0]? with
  | none => rfl
  | some v =>
    cases args[1]? with
    | none => rfl
    | some v' =>
      cases v <;> simp only [Sem.run_bind, run_underlying ht, run_underlying hu, Result.andThen_ok, run_sizeOf hs, Sem.run_pure]
theorem run_append_fit {t e : TypeId} {i : TypeInfo} (ht : P.underlying t = some (.slice e)) (hi : P.info? e = some i) (ty : TypeId)
    (g sLen sCap : Nat) (cur : Array Value) {T : TypeId} (hg : w.heap[g]? = some (.cells cur T (0, 0)))
    (ad : Addr) (m c : Nat) (news : List Value) (hl : news.length = m * i.size) (hnews : ∀ j u, news[j]? = some u → w.cell? (ad.add j) = some u) (h1 : ∀ u ∈ news, u.oneCell' = true)
    (hroom : sLen + m ≤ sCap) (hfit : sLen * i.size + news.length ≤ cur.size) :
    (Builtin.append_ #[t, t] ty #[.slice (some ⟨g, 0, none⟩) sLen sCap, .slice (some ad) m c]).run P w =
      .ok (.slice (some ⟨g, 0, none⟩) (sLen + m) sCap) (w.setRow g (cur.toList.take (sLen * i.size) ++ news ++ cur.toList.drop (sLen * i.size + news.length)).toArray) := by
  have hf := run_firstCells_some (P := P) w i.size m ad m c news hl hnews
  have hst := run_storeCells_at P g (sLen * i.size) T news 0 cur w hg (by simpa using hfit) h1
  simp only [Nat.add_zero] at hst
  simp [Builtin.append_, run_underlying ht, sizeOf, typeInfo, hi, Builtin.lenOf, hroom, hf, Addr.add_lit, hst]
theorem run_append_none {t e : TypeId} {i : TypeInfo} (ht : P.underlying t = some (.slice e)) (hi : P.info? e = some i) (ty : TypeId) {s : Value} {p q : Option Addr} {n k c : Nat} (hs : s = .slice p n k) (hk : n ≤ k) :
    (Builtin.append_ #[t, t] ty #[s, .slice q 0 c]).run P w = .ok s w := by
  subst hs
  have hf : (Builtin.firstCells i.size 0 (.slice q 0 c)).run P w = .ok #[] w := by
    cases q with
    | none => exact run_firstCells_none w i.size 0 0 c
    | some ad => exact run_firstCells_some (P := P) w i.size 0 ad 0 c [] (by simp) (fun j v h => by simp at h)
  cases p with
  | none => simp [Builtin.append_, run_underlying ht, sizeOf, typeInfo, hi, Builtin.lenOf, hf, hk]
  | some ad => simp [Builtin.append_, run_underlying ht, sizeOf, typeInfo, hi, Builtin.lenOf, hf, hk, storeCells]
/-- An append, as an operation. -/
structure AppOp (P : Program) (o : Oper) (x y : Operand) (t e : TypeId) (sz bytes : Nat) (z : V) : Prop where
  op : ∃ c u e', o.op = .call c ∧ c.callee = .builtin .append ∧ c.args.toList = [x, y] ∧ c.argTypes.toList = [t, u] ∧ elemC P u = some e'
  elem : elemC P t = some e
  size : sizeC P e = some sz
  byte : bytesC P e = some bytes
  zero : zeroC P e = some z
  pos : sz ≠ 0 ∧ bytes ≠ 0 ∧ bytes ≤ 1000000
theorem AppOp.run {x y : Operand} {t e : TypeId} {sz bytes : Nat} {z : V} (h : AppOp P o x y t e sz bytes z) : (execOp a.eval o).run P w = ((Builtin.append_ #[t, t] o.type #[a.eval x, a.eval y]).run P w).andThen fun v w => .ok (.value v) w := by
  obtain ⟨c, u, e', ho, hc, h1, h2, hu⟩ := h.op
  have h1 : c.args = #[x, y] := Array.ext' (by simp [h1])
  have h2 : c.argTypes = #[t, u] := Array.ext' (by simp [h2])
  rw [← run_append_uu (elemC_spec h.elem) (elemC_spec hu) h.size]
  simp only [execOp, ho, resolve, invoke, hc, builtin, h1, h2, Sem.run_bind, Sem.run_pure, Result.andThen_ok, List.map_toArray, List.map_cons, List.map_nil]
theorem zeroCells_size (z : Array Value) (n : Nat) : (Builtin.zeroCells z n).size = n * z.size := by simp [Builtin.zeroCells]
theorem yields_append_empty (h : Inv X w0 Ω w a.tmps σ) (hd : ∀ d, o.dst = some d → d < a.tmps.size) {x y : Operand} {t e : TypeId} {sz bytes : Nat} {z : V} (hop : AppOp P o x y t e sz bytes z) {v : V} (hx : Den Ω w v (a.eval x))
    (hxs : ∃ p n k, a.eval x = .slice p n k ∧ n ≤ k) (hy : ∃ q c, a.eval y = .slice q 0 c) : Yields P X w0 Ω w a o (apply σ o.dst (.val v)) mk := by
  obtain ⟨i, hi, _⟩ := info_size hop.size
  obtain ⟨p, n, k, h1, h2⟩ := hxs
  obtain ⟨q, c, h3⟩ := hy
  refine Yields.val h hd ?_ hx
  rw [hop.run, h3, run_append_none (elemC_spec hop.elem) hi o.type h1 h2]
  rfl
theorem yields_append_new (h : Inv X w0 Ω w a.tmps σ) {x y : Operand} {t e : TypeId} {sz bytes : Nat} {z : V} (hop : AppOp P o x y t e sz bytes z) {d : Nat} (hdst : o.dst = some d) (hd : d < a.tmps.size) (hf : Fresh Ω d)
    (hx : Den Ω w .nil (a.eval x)) {u : Option Nat} {ys : List (List V)} (hy : Den Ω w (.sl u sz ys) (a.eval y)) (hne : ys ≠ []) (hb : ys.length * bytes ≤ 140737488355328) :
    Yields P X w0 Ω w a o (apply σ o.dst (.mk (.sl (some (d * 100)) sz ys) (d * 100) ys.length [])) true := by
  obtain ⟨i, zv, hi, hzz, hval, hl, hc⟩ := zeroC_spec hop.zero
  have hsi := size_info hop.size hi
  have hbi := bytes_info hop.byte hi
  subst hsi; subst hbi
  have hzs : zv.cells.size = i.size := by rw [← Array.length_toList, (Den.cells (Ω := Ω) (w := w) hc (valV_den _ _ hval)).length, hl]
  obtain ⟨b, off, cap, xs, h1, h2, h3, h4, h5⟩ := sl_cells hy hne
  simp only [Den] at hx
  have hpos : 0 < ys.length := List.length_pos_iff.2 hne
  have hle : ys.length ≤ ys.length * i.bytes := Nat.le_mul_of_pos_right _ (Nat.pos_of_ne_zero hop.pos.2.1)
  have hr := run_append_nil (P := P) w t o.type e i zv (elemC_spec hop.elem) hi hzz ⟨b, off, none⟩ ys.length cap xs h3 h4 hpos (by omega) (by omega)
  have hge := grownCap_ge w ys.length 0 e
  refine Yields.arr (nd := 1) (ys := xs) (T := e) (c := xs.toArray ++ Builtin.zeroCells zv.cells (grownCap w ys.length 0 e - ys.length)) (k := grownCap w ys.length 0 e) h hdst hd hf ?_ ?_ hge (Nat.pos_of_ne_zero hop.pos.1) rfl (by rw [prot_nil]; exact h2) h5 (fun j y hj => ?_)
  · rw [hop.run, hx, h1, hr]; rfl
  · rw [Array.size_append, zeroCells_size, hzs, List.size_toArray, h3, ← Nat.add_mul]; congr 1; omega
  · rw [Array.getElem?_append_left (by simpa using (List.getElem?_eq_some_iff.1 hj).1)]; simpa using hj
theorem protT_nil : ∀ (l : List (Nat × Nat × Bool)), protT [] l = l
  | [] => rfl
  | (k, n, w) :: l => by simp [protT, memN, protT_nil l]
theorem yields_append_prep (h : Inv X w0 Ω w a.tmps σ) {x y : Operand} {t e : TypeId} {sz bytes : Nat} {z : V} (hop : AppOp P o x y t e sz bytes z) {d : Nat} (hdst : o.dst = some d) (hd : d < a.tmps.size)
    (hx : Den Ω w .nil (a.eval x)) {u : Option Nat} {ys : List (List V)} (hy : Den Ω w (.sl u sz ys) (a.eval y)) (hne : ys ≠ []) (hb : ys.length * bytes ≤ 140737488355328) :
    Yields P X w0 Ω w a o (apply σ o.dst (.mkp (.sl (some (d * 100)) sz ys) d ys.length)) true := by
  have hy' := Den.prepD (ds := [d]) _ _ hy
  have hyy : ∃ u', Den (Ω.prep [d]) w (.sl u' sz ys) (a.eval y) := by
    cases u with
    | none => exact ⟨none, hy'⟩
    | some u =>
      simp only [V.prep] at hy'
      split at hy'
      · exact ⟨none, hy'⟩
      · exact ⟨some u, hy'⟩
  obtain ⟨u', hyy⟩ := hyy
  have hx' : Den (Ω.prep [d]) w .nil (a.eval x) := by simpa [Den] using hx
  obtain ⟨x1, w1, Ω1, k1, k2, k3⟩ := yields_append_new (h.prep [d]) hop hdst hd (fresh_prep (by simp [memN])) hx' hyy hne hb
  refine ⟨x1, w1, Ω1, k1, ?_, fun d' hf hne' => k3 d' ⟨fun b hb => hf.1 b (prep_box hb).1, fun b t p e hb => hf.2 b t p e (prep_arr hb).1⟩ hne'⟩
  have e : protT [] (prepT [d] σ.tk) = prepT [d] σ.tk := protT_nil _
  simp only [apply] at k2
  rw [e] at k2
  simpa only [apply, Lo.prep] using k2
theorem run_append_zeros {t u e : TypeId} {i : TypeInfo} {zv : Value} {q : IntKind} (ht : P.underlying t = some (.slice e)) (hu : P.underlying u = some (.int q)) (hi : P.info? e = some i) (hz : i.zero = some zv) (hs : i.size ≠ 0) (ty : TypeId) {k : IntKind} {n : Nat}
    (h0 : 0 < n) (h63 : (n : Int) ≤ 9223372036854775807) (h48 : n * i.bytes ≤ 281474976710656) :
    (Builtin.append_ #[t, u] ty #[.slice none 0 0, .int k (n : Int)]).run P w =
      .ok (.slice (some ⟨w.heap.size, 0, none⟩) n (grownCap w n 0 e)) (w.drew.alloc (.cells (Builtin.zeroCells zv.cells n ++ Builtin.zeroCells zv.cells (grownCap w n 0 e - n)) e)) := by
  have hn : n ≠ 0 := by omega
  have hw : IntKind.i64.wrap (n : Int) = (n : Int) := by
    rw [IntKind.wrap_i64]; omega
  have h1 : ¬ ((n : Int) < 0) := by omega
  have h2 : ¬ (281474976710656 < (n : Int) * (i.bytes : Int)) := by
    have : ((n * i.bytes : Nat) : Int) ≤ ((281474976710656 : Nat) : Int) := Int.ofNat_le.2 h48
    rw [Int.natCast_mul] at this; omega
  have h63' : ¬ (9223372036854775807 < (n : Int)) := by omega
  have h48' : ¬ (281474976710656 < Builtin.nextslicecap n 0 * i.bytes) := by rw [nextslicecap_zero h0]; omega
  have hm : n * i.size ≠ 0 := Nat.mul_ne_zero hn hs
  simp [Builtin.append_, run_underlying ht, run_underlying hu, sizeOf, typeInfo, zeroValue, hi, hz, asInt, asIntOf, hw, h1, h2, hn, h63', h48', Question.forced, run_firstCells_none, newRow, grownCap]
  intro hx
  exact absurd hx hm
theorem fresh_tok (h : Inv X w0 Ω w a.tmps σ) {t n d : Nat} {wr : Bool} (ht : get σ.tk t = some (n, wr)) (hf : Fresh Ω d) : t / 100 ≠ d := by
  intro e
  obtain ⟨c, k, T, xs, _, ⟨p, g2⟩, _⟩ := h.tok t n wr ht
  exact hf.2 c t p e g2
theorem yields_append_more (h : Inv X w0 Ω w a.tmps σ) (hd : ∀ d, o.dst = some d → d < a.tmps.size) {x y : Operand} {t e : TypeId} {sz bytes : Nat} {z : V} (hop : AppOp P o x y t e sz bytes z)
    {u n : Nat} {wr : Bool} {xs : List (List V)} (hx : Den Ω w (.sl (some u) sz xs) (a.eval x)) (ht : get σ.tk u = some (n, wr)) (hn : n = xs.length)
    {q : Option Nat} {ys : List (List V)} (hy : Den Ω w (.sl q sz ys) (a.eval y)) (hne : ys ≠ []) (hb : (xs.length + ys.length) * bytes ≤ 140737488355328) :
    Yields P X w0 Ω w a o (apply σ o.dst (.app (.sl (some u) sz (xs ++ ys)) u (xs.length + ys.length))) mk := by
  obtain ⟨i, zv, hi, hzz, hval, hl, hc⟩ := zeroC_spec hop.zero
  have hsi := size_info hop.size hi
  have hbi := bytes_info hop.byte hi
  subst hsi; subst hbi
  have hzs : zv.cells.size = i.size := by rw [← Array.length_toList, (Den.cells (Ω := Ω) (w := w) hc (valV_den _ _ hval)).length, hl]
  obtain ⟨b, off, cap, vs, h1, h2, h3, h4, h5⟩ := sl_cells hy hne
  obtain ⟨c, k, T, old, g1, ⟨p, g2⟩, g3, g4, g5, g6, g7, g8⟩ := h.tok u n wr ht
  have hfu : ∀ d, Fresh Ω d → u / 100 ≠ d := fun d hf => fresh_tok h ht hf
  simp only [Den] at hx
  obtain ⟨b', cap', p', hx1, hx2, hx3, hx4, hx5⟩ := hx
  obtain ⟨e1, e2⟩ := (hx4 c k n g1).2 hn.symm
  subst e1
  rw [e2] at hx1
  have hpos : 0 < ys.length := List.length_pos_iff.2 hne
  have hcell : vs.all Value.oneCell' = true := List.all_eq_true.2 fun v hv => DenL.one (List.all_eq_true.2 fun c hc => by
    obtain ⟨cs, hcs, hcc⟩ := List.mem_flatten.1 hc
    exact (V.pm_pure (List.all_eq_true.1 (h5 cs hcs).2 c hcc)).2) h2 v hv
  by_cases hroom : xs.length + ys.length ≤ k
  · have hfit : xs.length * i.size + vs.length ≤ old.size := by rw [g4, h3, ← Nat.add_mul, ← hx3]; exact Nat.mul_le_mul_right _ hroom
    have hr := run_append_fit (P := P) (w := w) (elemC_spec hop.elem) hi o.type b' xs.length k old g3 ⟨b, off, none⟩ ys.length cap vs h3 h4 (List.all_eq_true.1 hcell) hroom hfit
    subst hn
    obtain ⟨k1, k2⟩ := h.app (m := ys.length) ht g1 g2 g3 hx3 (by rw [g4, ← hx3]) hroom rfl rfl hx5 h2 h5
    refine ⟨_, _, _, .inl ?_, k1.putO hd k2 a rfl, fun d hf _ => ⟨fun b hb => hf.1 b hb, fun b t p e hb => hf.2 b t p e hb⟩⟩
    rw [hop.run, hx1, h1, hr]; rfl
  · have hle : xs.length + ys.length ≤ (xs.length + ys.length) * i.bytes := Nat.le_mul_of_pos_right _ (Nat.pos_of_ne_zero hop.pos.2.1)
    obtain ⟨us, q1, q2⟩ := hx5.cells.vals
    have hul : us.length = xs.length * i.size := by rw [q1.length, hx5.length_flatten]
    have hr := run_append_grow (P := P) w t o.type e i zv (elemC_spec hop.elem) hi hzz ⟨b', 0, none⟩ xs.length k us hul (fun j v hj => by rw [addr_add]; exact q2 j v hj) ⟨b, off, none⟩ ys.length cap vs h3 h4 (by omega) (by omega)
      (growslice_fits (by omega) hb)
    have hge := grownCap_ge w (xs.length + ys.length) k e
    have hpx : ∀ cs ∈ xs, cs.length = i.size ∧ cs.all V.pm = true := fun cs hcs => by
      obtain ⟨j, hj⟩ := List.getElem?_of_mem hcs
      obtain ⟨r1, r2, _⟩ := hx5.get hj
      exact ⟨r1, r2⟩
    have hall : DenL Ω w (xs ++ ys).flatten (us ++ vs) := by rw [List.flatten_append]; exact q1.append h2
    have hd' := h.drew 1
    subst hn
    obtain ⟨k1, k2⟩ := hd'.grow (m := ys.length) ht hx3 hpos (us.toArray ++ vs.toArray ++ Builtin.zeroCells zv.cells (grownCap w (xs.length + ys.length) k e - (xs.length + ys.length))) e (k := grownCap w (xs.length + ys.length) k e)
      (by simp only [Array.size_append, zeroCells_size, hzs, List.size_toArray, hul, h3, ← Nat.add_mul]; congr 1; omega) hge rfl rfl (DenL.ext (goes_drew h 1).ext _ _ hall)
      (fun cs hcs => by
        rcases List.mem_append.1 hcs with h | h
        · exact hpx cs h
        · exact h5 cs h)
      (fun j y hj => by
        rw [Array.getElem?_append_left (by simpa using (List.getElem?_eq_some_iff.1 hj).1), List.append_toArray]
        simpa using hj)
    refine ⟨_, _, _, .inl ?_, k1.putO hd k2 a rfl, fun d hf _ => ⟨fun b hb => ?_, fun b t p e hb => ?_⟩⟩
    · rw [hop.run, hx1, h1, hr]; rfl
    · simp only [Own.grow] at hb
      split at hb
      · cases hb
      · exact hf.1 b hb
    · simp only [Own.grow] at hb
      split at hb
      · injection hb with hb _
        subst hb
        exact hfu d hf e
      · exact hf.2 b t p e hb
/-- Zeros into a slice that is nil. -/
structure AppZ (P : Program) (o : Oper) (x y : Operand) (t e : TypeId) (sz bytes : Nat) (z : V) : Prop where
  op : ∃ c u q, o.op = .call c ∧ c.callee = .builtin .append ∧ c.args.toList = [x, y] ∧ c.argTypes.toList = [t, u] ∧ P.underlying u = some (.int q)
  elem : elemC P t = some e
  size : sizeC P e = some sz
  byte : bytesC P e = some bytes
  zero : zeroE P e = some z
  pos : sz ≠ 0 ∧ bytes ≠ 0
theorem yields_appz (h : Inv X w0 Ω w a.tmps σ) {x y : Operand} {t e : TypeId} {sz bytes : Nat} {z : V} (hop : AppZ P o x y t e sz bytes z) {d : Nat} (hdst : o.dst = some d) (hd : d < a.tmps.size)
    (hx : Den Ω w .nil (a.eval x)) {k : IntKind} {n : Int} (hy : Den Ω w (.int k n) (a.eval y)) (h0 : 0 < n) (hb : n * bytes ≤ 140737488355328) :
    Yields P X w0 Ω w a o (apply σ o.dst (.mkp (.sl (some (d * 100)) sz (List.replicate n.toNat z.cells)) d n.toNat)) true := by
  obtain ⟨hz, hzp⟩ := zeroE_spec hop.zero
  obtain ⟨i, zv, hi, hzz, hval, hl, hcc⟩ := zeroC_spec hz
  have hsi := size_info hop.size hi
  have hbi := bytes_info hop.byte hi
  subst hsi; subst hbi
  obtain ⟨c, u, q, ho, hc, h1, h2, hu⟩ := hop.op
  have h1 : c.args = #[x, y] := Array.ext' (by simp [h1])
  have h2 : c.argTypes = #[t, u] := Array.ext' (by simp [h2])
  simp only [Den] at hx hy
  have hzs : zv.cells.size = i.size := by rw [← Array.length_toList, (Den.cells (Ω := Ω) (w := w) hcc (valV_den _ _ hval)).length, hl]
  have hnn : ((n.toNat : Nat) : Int) = n := Int.toNat_of_nonneg (by omega)
  have hpos : 0 < n.toNat := by omega
  have hbn : n.toNat * i.bytes ≤ 140737488355328 := by
    have : ((n.toNat * i.bytes : Nat) : Int) ≤ ((140737488355328 : Nat) : Int) := by rw [Int.natCast_mul, hnn]; exact hb
    exact Int.ofNat_le.1 this
  have hle : n.toNat ≤ n.toNat * i.bytes := Nat.le_mul_of_pos_right _ (Nat.pos_of_ne_zero hop.pos.2)
  have hr := run_append_zeros (w := w) (elemC_spec hop.elem) hu hi hzz hop.pos.1 o.type (k := k) hpos (by omega) (by omega)
  rw [hnn] at hr
  have hge := grownCap_ge w n.toNat 0 e
  have hz0 : ∀ m : Nat, (Builtin.zeroCells zv.cells m).toList = (List.replicate m zv.cells.toList).flatten := by
    intro m
    rw [← replicate_made, Array.length_toList]
    simp [Builtin.zeroCells]
  have hrow : DenL ((Ω.prep [d]).prot []) w (List.replicate n.toNat z.cells).flatten (Builtin.zeroCells zv.cells n.toNat).toList := by
    rw [hz0]
    exact (Den.cells hcc (valV_den _ _ hval)).replicate _
  obtain ⟨x1, w1, Ω1, k1, k2, k3⟩ := Yields.arr (P := P) (nd := 1) (ys := (Builtin.zeroCells zv.cells n.toNat).toList) (T := e) (k := grownCap w n.toNat 0 e) (n := n.toNat) (sz := i.size)
    (c := Builtin.zeroCells zv.cells n.toNat ++ Builtin.zeroCells zv.cells (grownCap w n.toNat 0 e - n.toNat)) (h.prep [d]) hdst hd (fresh_prep (by simp [memN]))
    (by simp only [execOp, ho, resolve, invoke, hc, builtin, h1, h2, Sem.run_bind, Sem.run_pure, Result.andThen_ok, List.map_toArray, List.map_cons, List.map_nil, hx, hy, hr]; rfl)
    (by rw [Array.size_append, zeroCells_size, zeroCells_size, hzs, ← Nat.add_mul]; congr 1; omega) hge (Nat.pos_of_ne_zero hop.pos.1) (by simp) hrow
    (fun cs hcs => by rw [List.mem_replicate] at hcs; rw [hcs.2]; exact ⟨hl, hzp⟩)
    (fun j y hj => by rw [Array.getElem?_append_left (by simpa using (List.getElem?_eq_some_iff.1 hj).1)]; simpa using hj)
  refine ⟨x1, w1, Ω1, k1, ?_, fun d' hf hne' => k3 d' ⟨fun b hb => hf.1 b (prep_box hb).1, fun b t p e hb => hf.2 b t p e (prep_arr hb).1⟩ hne'⟩
  have e : protT [] (prepT [d] σ.tk) = prepT [d] σ.tk := protT_nil _
  simp only [apply] at k2
  rw [e] at k2
  simpa only [apply, Lo.prep] using k2
end
end Go.Lo

/- Addresses and calls. -/
namespace Go.Lo
open Go.RowKit (Below)
section
variable {P : Program} {X : Sc} {w0 w : World} {Ω : Own} {a : Act} {σ : St} {o : Oper} {mk : Bool}

theorem run_faOp {t : TypeId} {x : Operand} {i : Nat} (ho : o.op = .fieldAddr t x i) {off n : Nat} {u : TypeId} (hf : fieldC P t i = some (off, u)) (hs : sizeC P u = some n) (hn : n ≠ 0) {b q : Nat} (hx : a.eval x = .pointer (some ⟨b, q, none⟩)) :
    (execOp a.eval o).run P w = .ok (.value (.pointer (some ⟨b, q + off, none⟩))) w := by
  simp only [execOp, ho, Sem.run_bind, hx, run_fieldAt hf hs hn, Result.andThen_ok, Sem.run_pure]
/-- A pointer moves on. -/
theorem den_move_ref {s q off : Nat} {x : Value} (h : Den Ω w (.ref s q) x) : ∃ b, x = .pointer (some ⟨b, q, none⟩) ∧ Den Ω w (.ref s (q + off)) (.pointer (some ⟨b, q + off, none⟩)) := by
  simp only [Den] at h ⊢
  obtain ⟨b, h1, h2⟩ := h
  exact ⟨b, h1, b, rfl, h2⟩
theorem den_move_cref {off : Nat} {cs : List V} {x : Value} (h : Den Ω w (.cref cs) x) : ∃ b q, x = .pointer (some ⟨b, q, none⟩) ∧ Den Ω w (.cref (cs.drop off)) (.pointer (some ⟨b, q + off, none⟩)) := by
  simp only [Den] at h ⊢
  obtain ⟨b, q, h1, h2, h3⟩ := h
  exact ⟨b, q, h1, b, q + off, rfl, h2, h3.drop off⟩
theorem den_move_eref {t n i q off : Nat} {cs : List V} {x : Value} (h : Den Ω w (.eref t n i q cs) x) : ∃ b r, x = .pointer (some ⟨b, r, none⟩) ∧ Den Ω w (.eref t n i (q + off) cs) (.pointer (some ⟨b, r + off, none⟩)) := by
  simp only [Den] at h ⊢
  obtain ⟨b, p, h1, h2⟩ := h
  exact ⟨b, _, h1, b, p, by rw [Nat.add_assoc], h2⟩
theorem run_ixaOp {t e : TypeId} {x y : Operand} (ho : o.op = .indexAddr t x y) {len n : Nat} (ht : P.underlying t = some (.array len e)) (hs : sizeC P e = some n) {k : IntKind} {i : Int} (hy : Den Ω w (.int k i) (a.eval y)) (h0 : 0 ≤ i ∧ i < len) {b q : Nat} (hx : a.eval x = .pointer (some ⟨b, q, none⟩)) :
    (execOp a.eval o).run P w = .ok (.value (.pointer (some ⟨b, q + i.toNat * n, none⟩))) w := by
  simp only [Den] at hy
  simp only [execOp, ho, Sem.run_bind, hx, hy, run_indexArr ht hs h0.1 h0.2, Result.andThen_ok, Sem.run_pure]
theorem run_ixsOp {t e : TypeId} {x y : Operand} (ho : o.op = .indexAddr t x y) {n : Nat} (ht : P.underlying t = some (.slice e)) (hs : sizeC P e = some n) {k : IntKind} {i : Int} (hy : Den Ω w (.int k i) (a.eval y)) {len c : Nat} (h0 : 0 ≤ i ∧ i < len) {b q : Nat} (hx : a.eval x = .slice (some ⟨b, q, none⟩) len c) :
    (execOp a.eval o).run P w = .ok (.value (.pointer (some ⟨b, q + i.toNat * n, none⟩))) w := by
  simp only [Den] at hy
  simp only [execOp, ho, Sem.run_bind, hx, hy, run_indexSl ht hs h0.1 h0.2, Result.andThen_ok, Sem.run_pure]
theorem ixs_none {t e : TypeId} {x y : Operand} (ho : o.op = .indexAddr t x y) {n : Nat} (ht : P.underlying t = some (.slice e)) (hs : sizeC P e = some n) {k : IntKind} {i : Int} (hy : Den Ω w (.int k i) (a.eval y)) {es : List (List V)} {cs : List V} (hx : Den Ω w (.sl none n es) (a.eval x))
    (h0 : 0 ≤ i) (hc : es[i.toNat]? = some cs) : ∃ z, (execOp a.eval o).run P w = .ok (.value z) w ∧ Den Ω w (.cref cs) z := by
  have hlt := (List.getElem?_eq_some_iff.1 hc).1
  simp only [Den] at hx
  rcases hx with ⟨rfl, _⟩ | ⟨b, off, cap, hx, hf, hE⟩
  · simp at hlt
  · refine ⟨_, run_ixsOp ho ht hs hy ⟨h0, by omega⟩ hx, ?_⟩
    simp only [Den]
    exact ⟨b, _, rfl, .inl hf, (hE.get hc).2.2⟩
theorem ixs_some {t e : TypeId} {x y : Operand} (ho : o.op = .indexAddr t x y) {n : Nat} (ht : P.underlying t = some (.slice e)) (hs : sizeC P e = some n) {k : IntKind} {i : Int} (hy : Den Ω w (.int k i) (a.eval y)) {u : Nat} {es : List (List V)} {cs : List V} (hx : Den Ω w (.sl (some u) n es) (a.eval x))
    (h0 : 0 ≤ i) (hc : es[i.toNat]? = some cs) : ∃ z, (execOp a.eval o).run P w = .ok (.value z) w ∧ Den Ω w (.eref u es.length i.toNat 0 cs) z := by
  have hlt := (List.getElem?_eq_some_iff.1 hc).1
  simp only [Den] at hx
  obtain ⟨b, cap, p, hx, h2, h3, h4, hE⟩ := hx
  refine ⟨_, run_ixsOp ho ht hs hy ⟨h0, by omega⟩ hx, ?_⟩
  obtain ⟨g1, g2, g3⟩ := hE.get hc
  simp only [Den]
  subst h3
  refine ⟨b, p, by rw [Nat.zero_add, Nat.add_zero], h2, hlt, fun c k m hc => ⟨(h4 c k m hc).1, fun e => ((h4 c k m hc).2 e).1⟩, g1, g2, by simpa using g3⟩
def V.isPtr : V → Bool
  | .ref _ _ => true
  | .cref _ => true
  | .eref _ _ _ _ _ => true
  | .fn _ _ => true
  | _ => false
theorem run_nilcOp {x : Operand} (ho : o.op = .nilCheck x) {v : V} (hv : v.isPtr = true) (hx : Den Ω w v (a.eval x)) :
    (execOp a.eval o).run P w = .ok (.value (a.eval x)) w := by
  cases v <;> simp only [V.isPtr, Bool.false_eq_true] at hv
  · rename_i f caps
    simp only [Den] at hx
    obtain ⟨xs, hg, _⟩ := hx
    cases f with
    | f n => simp only [Fk.Is] at hg; simp [execOp, ho, hg]
    | m n => simp only [Fk.Is] at hg; simp [execOp, ho, hg]
    | y b => simp only [Fk.Is] at hg; obtain ⟨l, _, hg⟩ := hg; simp [execOp, ho, hg]
  · simp only [Den] at hx; obtain ⟨b, h1, _⟩ := hx; simp [execOp, ho, h1]
  · simp only [Den] at hx; obtain ⟨b, q, h1, _⟩ := hx; simp [execOp, ho, h1]
  · simp only [Den] at hx; obtain ⟨b, p, h1, _⟩ := hx; simp [execOp, ho, h1]

/-! ### Calls -/
/-- Everything is allowed; 'ro': inside the body of a range over a function. -/
def wideR (ro : Option Nat) : Fence := { Fence.wide with round := ro }
theorem wideR_fn (ro : Option Nat) (f : FuncId) : (wideR ro).fn f := trivial
theorem wideR_depth (ro : Option Nat) : ((wideR ro).depth.isSome = true → 1 ≤ 0) := by intro h; simp [wideR, Fence.wide] at h
theorem callsIn_wideR {ro : Option Nat} {n : Nat} {f : FuncId} {args : Array Value} {R : Ending → World → Prop} (h : Calls P f args w R) : CallsIn (wideR ro) n P f args w R :=
  ⟨trivial, (callsIn_wide (n := n).2 h).2⟩
/-- A function that can be entered. -/
def Enters (P : Program) (f : Nat) : Prop := ∃ fn c, P.funcs[f]? = some fn ∧ fn.name ≠ "runtime.NumGoroutine" ∧ fn.body = some c
theorem run_callFunc {f : Nat} (h : Enters P f) (args : Array Value) (w : World) : (callFunc f args).run P w = .ok (.enter f args) w := by
  obtain ⟨fn, c, h1, h2, h3⟩ := h
  simp [callFunc, run_program, h1, h2, h3]
theorem frz_cellOk {rd : Nat → Option (List V)} : ∀ {v v' : V}, v.frz rd = some v' → v.cellOk = true ∨ v = .dead → v'.cellOk = true := by
  intro v v' h hc
  rcases hc with hc | rfl
  · cases v <;> simp only [V.cellOk, Bool.false_eq_true] at hc
    case bool => simp only [V.frz, Option.some.injEq] at h; subst h; rfl
    case int => simp only [V.frz, Option.some.injEq] at h; subst h; rfl
    case nil => simp only [V.frz, Option.some.injEq] at h; subst h; rfl
    case sl => simp only [V.frz, Option.some.injEq] at h; subst h; rfl
    case fn f cs =>
      cases f with
      | y b => simp [V.frz] at h
      | f n =>
        simp only [V.frz] at h
        split at h
        · simp only [Option.some.injEq] at h; subst h; rfl
        · cases h
      | m n =>
        simp only [V.frz] at h
        split at h
        · simp only [Option.some.injEq] at h; subst h; rfl
        · cases h
    case ref =>
      simp only [V.frz] at h
      split at h
      · simp only [Option.some.injEq] at h; subst h; rfl
      · cases h
    case cref => simp only [V.frz, Option.some.injEq] at h; subst h; rfl
    case eref => simp [V.frz] at h
  · simp [V.frz] at h
theorem frzL_cellOk {rd : Nat → Option (List V)} : ∀ {vs vs' : List V}, frzL rd vs = some vs' → (∀ v ∈ vs, v.cellOk = true ∨ v = .dead) → ∀ v ∈ vs', v.cellOk = true
  | [], vs', h, _, v, hv => by simp only [frzL, Option.some.injEq] at h; subst h; simp at hv
  | u :: us, vs', h, hc, v, hv => by
    simp only [frzL] at h
    split at h
    · rename_i u' us' h1 h2
      simp only [Option.some.injEq] at h; subst h
      rcases List.mem_cons.1 hv with rfl | hv
      · exact frz_cellOk h1 (hc u (by simp))
      · exact frzL_cellOk h2 (fun v hv => hc v (by simp [hv])) v hv
    · cases h
theorem pureL_mem : ∀ {vs : List V}, pureL vs = true → ∀ v ∈ vs, v.pure = true
  | u :: us, h, v, hv => by
    simp only [pureL] at h
    split at h
    · rename_i hu
      rcases List.mem_cons.1 hv with rfl | hv
      · exact hu
      · exact pureL_mem h v hv
    · cases h
theorem rdOk (h : Inv X w0 Ω w a.tmps σ) (ex : List Nat) : ∀ n, RdOk Ω w (bxF (bxOf σ.fr ex) n)
  | 0 => fun s cs b hs _ => by simp [bxF] at hs
  | n + 1 => fun s cs b hs hb => by
    simp only [bxF] at hs
    split at hs
    · rename_i cs0 h0
      obtain ⟨hg, _⟩ := bxOf_get h0
      obtain ⟨_, h2⟩ := h.slot s _ hg
      simp only [DenS] at h2
      obtain ⟨b', xs, T, e1, e2, e3, e4, e5⟩ := h2
      have := h.uniq b b' s hb e2
      subst this
      obtain ⟨k1, k2⟩ := DenL.frz (rdOk h ex n) cs0 cs xs hs e4
      have hlim : (cOwn Ω w).lim b = xs.length := by simp [cOwn, hb, blkSize, e3]
      refine rowC k1 (fun v hv => ⟨pureL_mem k2 v hv, frzL_cellOk hs e5 v hv⟩) (fun j y hj => ⟨?_, ?_⟩)
      · rw [hlim, Nat.zero_add]; exact (List.getElem?_eq_some_iff.1 hj).1
      · rw [Nat.zero_add, cell_of_row w b j _ T (0, 0) e3]; simpa using hj
    · cases hs
/-- What an operation that calls comes to. -/
theorem wp_value {ro : Option Nat} {n : Nat} {K : Act → World → Prop} {Q : Exit → Act → World → Prop} (hd : ∀ c, o.op ≠ .defer c) {x : Value} {w' : World} (hr : (execOp a.eval o).run P w = .ok (.value x) w' ∨ ((execOp a.eval o).run P w = .ok .skip w' ∧ x = undef))
    (hK : K (a.put o.dst x) w') : o.wpIn (wideR ro) n P a w K Q := by
  refine ⟨fun f _ => trivial, ?_⟩
  have hs : o.semAt (wideR ro).round a.eval = execOp a.eval o := by
    cases ro with
    | none => rfl
    | some l => exact Oper.semAt_some l _ o hd
  rw [hs]
  rcases hr with hr | ⟨hr, rfl⟩ <;> rw [hr] <;> exact hK
theorem Yields.wp {ro : Option Nat} {n : Nat} {K : Act → World → Prop} {Q : Exit → Act → World → Prop} {σ' : St} (hy : Yields P X w0 Ω w a o σ' mk) (hd : ∀ c, o.op ≠ .defer c)
    (hK : ∀ x w' Ω', Inv X w0 Ω' w' (a.put o.dst x).tmps σ' → (∀ d, Fresh Ω d → (mk = true → o.dst ≠ some d) → Fresh Ω' d) → K (a.put o.dst x) w') : o.wpIn (wideR ro) n P a w K Q := by
  obtain ⟨x, w', Ω', h1, h2, h3⟩ := hy
  exact wp_value hd h1 (hK x w' Ω' h2 h3)
theorem wp_enter {ro : Option Nat} {n : Nat} {K : Act → World → Prop} {Q : Exit → Act → World → Prop} (hd : ∀ c, o.op ≠ .defer c) {f : Nat} {args : Array Value} (hr : (execOp a.eval o).run P w = .ok (.enter f args) w) {R : Value → World → Prop}
    (hc : Calls P f args w fun e w1 => ∃ x, e = .returned x ∧ R x w1) (hK : ∀ x w1, R x w1 → K (a.put o.dst x) w1) : o.wpIn (wideR ro) n P a w K Q := by
  refine ⟨fun f _ => trivial, ?_⟩
  have hs : o.semAt (wideR ro).round a.eval = execOp a.eval o := by
    cases ro with
    | none => rfl
    | some l => exact Oper.semAt_some l _ o hd
  rw [hs, hr]
  refine ⟨fun h => by simp [wideR, Fence.wide] at h, CallsIn.mono (callsIn_wideR hc) fun e w1 he => ?_⟩
  obtain ⟨x, rfl, hx⟩ := he
  exact hK x w1 hx
theorem fresh_res {Ω1 : Own} {d : Nat} {al : Bool} {d' : Nat} (hf : Fresh Ω d') (hne : d' ≠ d) : Fresh (Ω.res Ω1 w.heap.size d al) d' := by
  refine ⟨fun b hb => hf.1 b (res_box hb).2, fun b t p e hb => ?_⟩
  rcases res_arr hb with ⟨_, q, hq, _⟩ | ⟨_, k, hk, rfl, _⟩
  · exact hf.2 b t q e hq
  · exact hne (by omega)
/-! ### The body of a range is called -/
theorem Inv.other {tm : Array Value} {w' : World} (h : Inv X w0 Ω w tm σ) {tr' : Option (List (List V))} (hk : Kept X.x w0 w') (hs : w.heap.size ≤ w'.heap.size) (hm : ∀ b, Ω.mine b → w'.heap[b]? = w.heap[b]?)
    (hc : ∀ b off, Ω.frozp b → off < Ω.lim b → w'.cell? ⟨b, off, none⟩ = w.cell? ⟨b, off, none⟩) (hj : X.j tr' Ω w') : Inv X w0 Ω w' tm { σ with tr := tr' } where
  kept := hk
  ownB := h.ownB
  ownA := h.ownA
  bnd b hb := Nat.lt_of_lt_of_le (h.bnd b hb) hs
  uniq := h.uniq
  limB := h.limB
  old := h.old
  out := hj
  slot s v hv := by
    obtain ⟨h1, h2⟩ := h.slot s v hv
    refine ⟨h1, h2.ext ⟨fun _ h => h, fun _ h => .inr h, fun _ _ p h => ⟨p, h⟩, fun _ _ h => h, fun _ _ => Nat.le_refl _, fun b off hne hl => ?_, fun _ _ _ _ => rfl, fun _ _ _ c k n _ h => ⟨c, k, n, h, .inl ⟨rfl, rfl, rfl⟩⟩, rfl⟩ (fun b s T xs hb hh => by rw [hm b (.inl ⟨s, hb⟩)]; exact hh)⟩
    cases hb : Ω.o b with
    | out => exact (hne hb).elim
    | frz => exact hc b off (.inl (.inl hb)) hl
    | frzb => exact hc b off (.inr hb) hl
    | box s => exact World.cell?_of_block (hm b (.inl ⟨s, hb⟩))
    | arr t p => exact World.cell?_of_block (hm b (.inr ⟨t, p, hb⟩))
  tok t n wr ht := by
    obtain ⟨c, k, T, xs, g1, ⟨p, g2⟩, g3, g⟩ := h.tok t n wr ht
    exact ⟨c, k, T, xs, g1, ⟨p, g2⟩, by rw [hm c (.inr ⟨t, p, g2⟩)]; exact g3, g⟩
/-- What was yielded is the beginning of T. -/
def UpTo (T : List (List V)) (σ : St) : Prop := ∀ l, σ.tr = some l → l <+: T
/-- What a call of the body of a range comes to. -/
structure YieldOk (P : Program) (X : Sc) (w0 : World) (T : List (List V)) : Prop where
  none : ∀ Ω w, X.j none Ω w → Ω.yl = none
  some : ∀ (ro : Option Nat) (n b l : Nat) (tr : List (List V)) (as : List V) (xs : List Value) (Ω : Own) (w : World), X.j (some tr) Ω w → Ω.yl = some (l, b) → DenL Ω w as xs →
    (as.all fun v => v.cells.all V.pm) = true → tr ++ [as] <+: T →
    ∃ fn tmps asg body, (Instr.yield l xs.toArray).run P w = .ok (.round l fn tmps asg body) w ∧ RoundIn (wideR ro) n P l fn tmps asg body w fun e w' => e = .returned (.bool (goesOn b (Option.some tr))) ∧
      X.j (Option.some (tr ++ [as])) Ω w' ∧ Kept X.x w0 w' ∧ w.heap.size ≤ w'.heap.size ∧ (∀ b, Ω.mine b → w'.heap[b]? = w.heap[b]?) ∧ ∀ b off, Ω.frozp b → off < Ω.lim b → w'.cell? ⟨b, off, Option.none⟩ = w.cell? ⟨b, off, Option.none⟩
theorem run_yieldCall {c : Call} {f : Operand} (ho : o.op = .call c) (hc : c.callee = .value f) {l : Nat} (hf : a.eval f = .func (.yield l) #[] #[]) :
    (execOp a.eval o).run P w = (Instr.yield l (c.args.map a.eval)).run P w := by
  simp only [execOp, ho, resolve, hc, hf, Deferred.ofValue, Sem.run_bind, Sem.run_pure, Result.andThen_ok, invoke, Array.empty_append]
theorem wp_round {ro : Option Nat} {n : Nat} {K : Act → World → Prop} {Q : Exit → Act → World → Prop} (hd : ∀ c, o.op ≠ .defer c) {l : Nat} {fn : FuncId} {tmps : Array Value} {asg body : Code} (hr : (execOp a.eval o).run P w = .ok (.round l fn tmps asg body) w) {R : Value → World → Prop}
    (hc : ∀ n, RoundIn (wideR ro) n P l fn tmps asg body w fun e w1 => ∃ x, e = .returned x ∧ R x w1) (hK : ∀ x w1, R x w1 → K (a.put o.dst x) w1) : o.wpIn (wideR ro) n P a w K Q := by
  refine ⟨fun f _ => trivial, ?_⟩
  have hs : o.semAt (wideR ro).round a.eval = execOp a.eval o := by
    cases ro with
    | none => rfl
    | some l => exact Oper.semAt_some l _ o hd
  rw [hs, hr]
  refine ⟨fun h => by simp [wideR, Fence.wide] at h, RoundIn.mono (hc _) fun e w1 he => ?_⟩
  obtain ⟨x, rfl, hx⟩ := he
  exact hK x w1 hx
/-- An iterator yields what is said, up to a stop. -/
def ItOk (P : Program) (f b : Nat) (pre post : List V) (R : V) : Prop := ∀ T, itemsOf (some R) = some T → ∀ (X : Sc) (Ω : Own) (w : World) (l : Nat) (xs ys : List Value), Base Ω w → Ω.yl = some (l, b) → pureL pre = true → pureL post = true → DenL Ω w pre xs → DenL Ω w post ys →
  X.o = Ω.o → X.lim = Ω.lim → X.j (some []) Ω w → (∀ Ω w, ¬ X.j none Ω w) → YieldOk P X w T →
  Calls P f (xs ++ Value.func (.yield l) #[] #[] :: ys).toArray w fun e w1 => ∃ x Ω1, e = .returned x ∧ X.j (some T) Ω1 w1
/-- A function does what is said, at these arguments. -/
def CallOk (P : Program) (f : Nat) (args : List V) (R : V) : Prop :=
  (pureL args = true → ∀ (Ω : Own) (w : World) (xs : List Value), Base Ω w → DenL Ω w args xs →
    Calls P f xs.toArray w fun e w1 => ∃ x Ω1, e = .returned x ∧ Below w.heap.size w w1 ∧ Den Ω1 w1 R x ∧ ResOk Ω Ω1 w w1 R) ∧
  ∀ b pre post, args = pre ++ .fn (.y b) [] :: post → ItOk P f b pre post R
/-- A function that may be called does what is said. -/
def CallsOk (P : Program) (call : Nat → List V → Option V) : Prop := ∀ f args r, call f args = some r → Enters P f ∧ CallOk P f args r
theorem run_valueCall {c : Call} {f : Operand} (ho : o.op = .call c) (hc : c.callee = .value f) {g : Nat} (hg : Enters P g) {first caps : Array Value} (hf : a.eval f = .func (.func g) first caps) :
    (execOp a.eval o).run P w = .ok (.enter g (first ++ c.args.map a.eval ++ caps)) w := by
  simp only [execOp, ho, resolve, hc, hf, Deferred.ofValue, Sem.run_bind, Sem.run_pure, Result.andThen_ok, invoke, run_callFunc hg]
end
end Go.Lo

/- Every operation does what the logical machine says. -/
namespace Go.Lo
open Go.RowKit (Below)
section
variable {P : Program} {X : Sc} {w0 w : World} {Ω : Own} {a : Act} {σ : St} {o : Oper} {mk : Bool}

theorem DenL.inv0 {vs : List V} (h : DenL Ω w vs []) : vs = [] := by
  cases vs with
  | nil => rfl
  | cons v vs => simp [DenL] at h
theorem DenL.invS {vs : List V} {x : Value} {xs : List Value} (h : DenL Ω w vs (x :: xs)) : ∃ v us, vs = v :: us ∧ Den Ω w v x ∧ DenL Ω w us xs := by
  cases vs with
  | nil => simp [DenL] at h
  | cons v vs =>
    simp only [DenL] at h
    obtain ⟨y, ys, e, h1, h2⟩ := h
    injection e with e1 e2
    subst e1; subst e2
    exact ⟨v, vs, rfl, h1, h2⟩
theorem DenL.inv1 {vs : List V} {x : Value} (h : DenL Ω w vs [x]) : ∃ v, vs = [v] ∧ Den Ω w v x := by
  obtain ⟨v, us, rfl, h1, h2⟩ := h.invS
  have := h2.inv0; subst this
  exact ⟨v, rfl, h1⟩
theorem DenL.inv2 {vs : List V} {x y : Value} (h : DenL Ω w vs [x, y]) : ∃ v u, vs = [v, u] ∧ Den Ω w v x ∧ Den Ω w u y := by
  obtain ⟨v, us, rfl, h1, h2⟩ := h.invS
  obtain ⟨u, rfl, h3⟩ := h2.inv1
  exact ⟨v, u, rfl, h1, h3⟩
theorem DenL.inv3 {vs : List V} {x y z : Value} (h : DenL Ω w vs [x, y, z]) : ∃ v u t, vs = [v, u, t] ∧ Den Ω w v x ∧ Den Ω w u y ∧ Den Ω w t z := by
  obtain ⟨v, us, rfl, h1, h2⟩ := h.invS
  obtain ⟨u, t, rfl, h3, h4⟩ := h2.inv2
  exact ⟨v, u, t, rfl, h1, h3, h4⟩
/-- What an operation of this form comes to, whatever follows. -/
def Sound (P : Program) (X : Sc) (w0 : World) (Ω : Own) (w : World) (a : Act) (σ : St) (o : Oper) (mk : Bool) (e : Eff) : Prop :=
  ∀ (ro : Option Nat) (n : Nat) (K : Act → World → Prop) (Q : Exit → Act → World → Prop),
    (∀ x w' Ω', Inv X w0 Ω' w' (a.put o.dst x).tmps (apply σ o.dst e) → (∀ d, Fresh Ω d → (mk = true → o.dst ≠ some d) → Fresh Ω' d) → K (a.put o.dst x) w') → o.wpIn (wideR ro) n P a w K Q
theorem Yields.sound {e : Eff} (hy : Yields P X w0 Ω w a o (apply σ o.dst e) mk) (hd : ∀ c, o.op ≠ .defer c) : Sound P X w0 Ω w a σ o mk e := fun _ _ _ _ hK => hy.wp hd hK
theorem sound_val (h : Inv X w0 Ω w a.tmps σ) (hdst : ∀ d, o.dst = some d → d < a.tmps.size) (hd : ∀ c, o.op ≠ .defer c) {v : V} (hr : ∃ x, (execOp a.eval o).run P w = .ok (.value x) w ∧ Den Ω w v x) : Sound P X w0 Ω w a σ o mk (.val v) := by
  obtain ⟨x, h1, h2⟩ := hr
  exact (Yields.val h hdst h1 h2).sound hd
theorem valO_some {x : Option V} {e : Eff} (h : valO x = some e) : ∃ v, x = some v ∧ e = .val v := by
  cases x with
  | none => simp [valO] at h
  | some v => simp only [valO, Option.some.injEq] at h; exact ⟨v, rfl, h.symm⟩
section ops
variable {call : Nat → List V → Option V} {dr al : Bool} {root : Option Nat} {k : K} {xs : List Operand} {vs : List V} {e : Eff} {ex : List Nat}
  (h : Inv X w0 Ω w a.tmps σ) (hdst : ∀ d, o.dst = some d → d < a.tmps.size) (hop : opC P o.op dr al mk root = some (k, xs)) (hv : DenL Ω w vs (xs.map a.eval))
  (hsem : sem call (bxOf σ.fr ex) (tkOf σ.tk ex) (o.dst.getD 0) k vs = some e) (hmd : mk = true → ∃ d, o.dst = some d ∧ Fresh Ω d)
include h hdst hop hv hsem

theorem sound_move {x : Operand} (ho : o.op = .move x) : Sound P X w0 Ω w a σ o mk e := by
  simp only [ho, opC, Option.some.injEq, Prod.mk.injEq] at hop
  obtain ⟨rfl, rfl⟩ := hop
  obtain ⟨v, rfl, h1⟩ := hv.inv1
  simp only [sem, Option.some.injEq] at hsem; subst hsem
  exact sound_val h hdst (by simp [ho]) ⟨_, run_move ho, h1⟩
theorem sound_assign {x : Operand} (ho : o.op = .assign x) : Sound P X w0 Ω w a σ o mk e := by
  simp only [ho, opC, Option.some.injEq, Prod.mk.injEq] at hop
  obtain ⟨rfl, rfl⟩ := hop
  obtain ⟨v, rfl, h1⟩ := hv.inv1
  simp only [sem, Option.some.injEq] at hsem; subst hsem
  exact sound_val h hdst (by simp [ho]) ⟨_, run_assign ho, h1⟩
theorem sound_pick {x y z : Operand} (ho : o.op = .pick x y z) : Sound P X w0 Ω w a σ o mk e := by
  simp only [ho, opC, Option.some.injEq, Prod.mk.injEq] at hop
  obtain ⟨rfl, rfl⟩ := hop
  obtain ⟨v, u, t, rfl, h1, h2, h3⟩ := hv.inv3
  cases v <;> simp only [sem, Option.some.injEq, reduceCtorEq] at hsem
  subst hsem
  simp only [Den] at h1
  refine sound_val h hdst (by simp [ho]) ⟨_, run_pick ho h1, ?_⟩
  split <;> assumption
theorem sound_load {t : TypeId} {x : Operand} (ho : o.op = .load t x) : Sound P X w0 Ω w a σ o mk e := by
  simp only [ho, opC] at hop
  split at hop
  · rename_i n hn
    simp only [Option.some.injEq, Prod.mk.injEq] at hop
    obtain ⟨rfl, rfl⟩ := hop
    obtain ⟨v, rfl, h1⟩ := hv.inv1
    simp only [sem] at hsem
    obtain ⟨r, h2, rfl⟩ := valO_some hsem
    exact (yields_load h hdst ho hn h1 h2).sound (by simp [ho])
  · cases hop
theorem sound_bin {op : BinOp} {t u : TypeId} {x y : Operand} (ho : o.op = .binOp op t x y u) : Sound P X w0 Ω w a σ o mk e := by
  have plain : ∀ ty, binTy P t ty → k = .bin ty op → xs = [x, y] → Sound P X w0 Ω w a σ o mk e := by
    rintro ty ht rfl rfl
    obtain ⟨v, v', rfl, h1, h2⟩ := hv.inv2
    simp only [sem] at hsem
    obtain ⟨r, h3, rfl⟩ := valO_some hsem
    exact sound_val h hdst (by simp [ho]) (run_bin ho ht h1 h2 h3)
  have aggr : (∃ d, P.underlying t = some d ∧ d.isRow = true) → eqsC P op t x y = some (k, xs) → Sound P X w0 Ω w a σ o mk e := by
    intro hrow he
    unfold eqsC at he
    split at he
    · rename_i ne sh hop' hsh
      split at he
      · rename_i hg
        simp only [Option.some.injEq, Prod.mk.injEq] at he
        obtain ⟨rfl, rfl⟩ := he
        obtain ⟨v, v', rfl, h1, h2⟩ := hv.inv2
        cases v <;> cases v' <;> simp only [sem, reduceCtorEq] at hsem
        split at hsem
        · rename_i r hr
          simp only [Option.some.injEq] at hsem; subst hsem
          exact sound_val h hdst (by simp [ho]) ⟨_, run_eqs ho hop' hsh hg hrow h1 h2 hr, by simp [Den]⟩
        · cases hsem
      · cases he
    · cases he
  simp only [ho, opC] at hop
  cases hu : P.underlying t with
  | none => simp [hu] at hop
  | some d =>
    cases d <;> simp only [hu, Option.some.injEq, Prod.mk.injEq, reduceCtorEq] at hop
    case int q => exact plain 0 ⟨by simp, by simp⟩ hop.1.symm hop.2.symm
    case bool => exact plain 1 ⟨fun _ => hu, by simp⟩ hop.1.symm hop.2.symm
    case slice el => exact plain 2 ⟨by simp, fun _ => ⟨el, hu⟩⟩ hop.1.symm hop.2.symm
    case struct fs => exact aggr ⟨_, hu, rfl⟩ hop
    case array q el => exact aggr ⟨_, hu, rfl⟩ hop
theorem sound_un {op : UnOp} {t : TypeId} {x : Operand} (ho : o.op = .unOp op t x) : Sound P X w0 Ω w a σ o mk e := by
  simp only [ho, opC, Option.some.injEq, Prod.mk.injEq] at hop
  obtain ⟨rfl, rfl⟩ := hop
  obtain ⟨v, rfl, h1⟩ := hv.inv1
  simp only [sem] at hsem
  obtain ⟨r, h3, rfl⟩ := valO_some hsem
  exact sound_val h hdst (by simp [ho]) (run_un ho h1 h3)
theorem sound_conv {s d : TypeId} {x : Operand} (ho : o.op = .convert s d x) : Sound P X w0 Ω w a σ o mk e := by
  simp only [ho, opC] at hop
  split at hop
  · rename_i q q' h1 h2
    simp only [Option.some.injEq, Prod.mk.injEq] at hop
    obtain ⟨rfl, rfl⟩ := hop
    obtain ⟨v, rfl, hv1⟩ := hv.inv1
    cases v <;> simp only [sem, Option.some.injEq, reduceCtorEq] at hsem
    subst hsem
    simp only [Den] at hv1
    exact sound_val h hdst (by simp [ho]) ⟨_, run_convI ho h1 h2 hv1, by simp [Den]⟩
  · cases hop
theorem sound_mkf {f : Fn} {first caps : Array Operand} (ho : o.op = .makeFunc f first caps) : Sound P X w0 Ω w a σ o mk e := by
  simp only [ho, opC] at hop
  cases f <;> simp only [reduceCtorEq] at hop
  split at hop
  · rename_i hf
    simp only [Option.some.injEq, Prod.mk.injEq] at hop
    obtain ⟨rfl, rfl⟩ := hop
    simp only [sem, Option.some.injEq] at hsem; subst hsem
    refine sound_val h hdst (by simp [ho]) ⟨_, run_mkf ho hf, ?_⟩
    simp only [Den]
    exact ⟨caps.toList.map a.eval, by rw [← Array.toList_map]; simp only [Fk.Is, Array.toArray_toList], hv⟩
  · split at hop
    · rename_i hf
      simp only [Option.some.injEq, Prod.mk.injEq] at hop
      obtain ⟨rfl, rfl⟩ := hop
      simp only [sem, Option.some.injEq] at hsem; subst hsem
      refine sound_val h hdst (by simp [ho]) ⟨_, run_mkm ho hf, ?_⟩
      simp only [Den]
      exact ⟨first.toList.map a.eval, by rw [← Array.toList_map]; simp only [Fk.Is, Array.toArray_toList], hv⟩
    · cases hop
theorem sound_ext {x : Operand} {i : Nat} (ho : o.op = .extract x i) : Sound P X w0 Ω w a σ o mk e := by
  simp only [ho, opC, Option.some.injEq, Prod.mk.injEq] at hop
  obtain ⟨rfl, rfl⟩ := hop
  obtain ⟨v, rfl, h1⟩ := hv.inv1
  cases v <;> simp only [sem, reduceCtorEq] at hsem
  obtain ⟨r, h3, rfl⟩ := valO_some hsem
  simp only [Den] at h1
  obtain ⟨ys, h4, h5⟩ := h1
  obtain ⟨y, h6, h7⟩ := h5.get h3
  exact sound_val h hdst (by simp [ho]) ⟨y, run_ext ho h4 (by simpa using h6), h7⟩
theorem sound_field {t : TypeId} {x : Operand} {i : Nat} (ho : o.op = .field t x i) : Sound P X w0 Ω w a σ o mk e := by
  simp only [ho, opC] at hop
  split at hop
  · rename_i off u hf
    split at hop
    · rename_i n hn
      simp only [Option.some.injEq, Prod.mk.injEq] at hop
      obtain ⟨rfl, rfl⟩ := hop
      obtain ⟨v, rfl, h1⟩ := hv.inv1
      cases v <;> simp only [sem, reduceCtorEq] at hsem
      obtain ⟨r, h3, rfl⟩ := valO_some hsem
      exact sound_val h hdst (by simp [ho]) (run_field ho hf hn h1 h3)
    · cases hop
  · cases hop
theorem sound_index {t : TypeId} {x y : Operand} (ho : o.op = .index t x y) : Sound P X w0 Ω w a σ o mk e := by
  simp only [ho, opC] at hop
  split at hop
  · rename_i len el ht
    split at hop
    · rename_i n m hs hn
      simp only [Option.some.injEq, Prod.mk.injEq] at hop
      obtain ⟨rfl, rfl⟩ := hop
      obtain ⟨v, u, rfl, h1, h2⟩ := hv.inv2
      cases v <;> cases u <;> simp only [sem, reduceCtorEq] at hsem
      split at hsem
      · rename_i hc
        obtain ⟨r, h3, rfl⟩ := valO_some hsem
        exact sound_val h hdst (by simp [ho]) (run_index ho ht hs hn h1 h2 hc h3)
      · cases hsem
    · cases hop
  · cases hop
theorem sound_build {t : TypeId} {ps : Array (Nat × Operand)} (ho : o.op = .build t ps) : Sound P X w0 Ω w a σ o mk e := by
  simp only [ho, opC] at hop
  have hop' := hop
  unfold buildC at hop
  split at hop
  · rename_i zs place hz hpl
    split at hop
    · rename_i pl hp
      simp only [Option.some.injEq, Prod.mk.injEq] at hop
      obtain ⟨hk, hxs⟩ := hop
      subst hk
      simp only [sem] at hsem
      split at hsem
      · rename_i cs hcs
        simp only [Option.some.injEq] at hsem; subst hsem
        exact sound_val h hdst (by simp [ho]) (run_build ho hop' hv rfl hcs)
      · cases hsem
    · cases hop
  · cases hop
theorem sound_slice {t : TypeId} {x : Operand} {lo hi mx : Option Operand} (ho : o.op = .slice t x lo hi mx) : Sound P X w0 Ω w a σ o mk e := by
  simp only [ho, opC] at hop
  split at hop
  · rename_i el he
    split at hop
    · rename_i n hs
      split at hop
      · rename_i hn
        split at hop
        · rename_i lo' hi' mx' r0 y
          simp only [Option.some.injEq, Prod.mk.injEq] at hop
          obtain ⟨rfl, rfl⟩ := hop
          obtain ⟨v, u, rfl, h1, h2⟩ := hv.inv2
          cases v <;> (try (simp only [sem, reduceCtorEq] at hsem; done))
          rename_i tok sz es
          cases tok <;> (try (simp only [sem, reduceCtorEq] at hsem; done))
          cases u <;> simp only [sem, reduceCtorEq] at hsem
          split at hsem
          · rename_i m htk
            split at hsem
            · rename_i hc
              obtain ⟨rfl, rfl, h3, h4⟩ := hc
              simp only [Option.some.injEq] at hsem; subst hsem
              exact (yields_trunc h hdst ho he hs h1 h2 (tkOf_get htk).1 h3 h4).sound (by simp [ho])
            · cases hsem
          · cases hsem
        simp only [Option.some.injEq, Prod.mk.injEq] at hop
        obtain ⟨rfl, rfl⟩ := hop
        rw [List.map_cons] at hv
        obtain ⟨v, us, rfl, h1, h2⟩ := hv.invS
        cases v <;> (try (simp only [sem, reduceCtorEq] at hsem; done))
        case nil =>
          simp only [sem] at hsem
          split at hsem
          · rename_i b hb
            simp only [Option.some.injEq] at hsem; subst hsem
            exact (yields_slice_nil h hdst ho he hs hn.2 h1 h2 hb).sound (by simp [ho])
          · cases hsem
        case sl tok sz es =>
          cases tok with
          | none =>
            simp only [sem] at hsem
            split at hsem
            · rename_i hsz
              subst hsz
              split at hsem
              · rename_i l r hb
                simp only [Option.some.injEq] at hsem; subst hsem
                exact (yields_slice_none h hdst ho he hs hn.2 h1 h2 hb).sound (by simp [ho])
              · cases hsem
            · cases hsem
          | some tk =>
            simp only [sem] at hsem
            split at hsem
            · rename_i hsz
              subst hsz
              split at hsem
              · rename_i l r hb
                split at hsem
                · simp only [Option.some.injEq] at hsem; subst hsem
                  exact (yields_slice_some h hdst ho he hs hn.2 h1 h2 hb).sound (by simp [ho])
                · cases hsem
              · cases hsem
            · cases hsem
      · cases hop
    · cases hop
  · cases hop
theorem sound_fa {t : TypeId} {x : Operand} {i : Nat} (ho : o.op = .fieldAddr t x i) : Sound P X w0 Ω w a σ o mk e := by
  simp only [ho, opC] at hop
  split at hop
  · rename_i off u hf
    split at hop
    · rename_i n hn
      split at hop
      · rename_i hn0
        simp only [Option.some.injEq, Prod.mk.injEq] at hop
        obtain ⟨rfl, rfl⟩ := hop
        obtain ⟨v, rfl, h1⟩ := hv.inv1
        cases v <;> simp only [sem, Option.some.injEq, reduceCtorEq] at hsem
        · subst hsem
          obtain ⟨b, h3, h4⟩ := den_move_ref (off := off) h1
          exact sound_val h hdst (by simp [ho]) ⟨_, run_faOp ho hf hn hn0 h3, h4⟩
        · subst hsem
          obtain ⟨b, q, h3, h4⟩ := den_move_cref (off := off) h1
          exact sound_val h hdst (by simp [ho]) ⟨_, run_faOp ho hf hn hn0 h3, h4⟩
        · subst hsem
          obtain ⟨b, q, h3, h4⟩ := den_move_eref (off := off) h1
          exact sound_val h hdst (by simp [ho]) ⟨_, run_faOp ho hf hn hn0 h3, h4⟩
      · cases hop
    · cases hop
  · cases hop
theorem sound_ia {t : TypeId} {x y : Operand} (ho : o.op = .indexAddr t x y) : Sound P X w0 Ω w a σ o mk e := by
  simp only [ho, opC] at hop
  split at hop
  · rename_i el ht
    split at hop
    · rename_i n hs
      split at hop
      · simp only [Option.some.injEq, Prod.mk.injEq] at hop
        obtain ⟨rfl, rfl⟩ := hop
        obtain ⟨v, u, rfl, h1, h2⟩ := hv.inv2
        cases v <;> (try (simp only [sem, reduceCtorEq] at hsem; done))
        rename_i tok sz es
        cases u <;> (try (cases tok <;> simp only [sem, reduceCtorEq] at hsem; done))
        rename_i q i
        cases tok with
        | none =>
          simp only [sem] at hsem
          split at hsem
          · rename_i hc
            obtain ⟨rfl, h0⟩ := hc
            split at hsem
            · rename_i cs hcs
              simp only [Option.some.injEq] at hsem; subst hsem
              exact sound_val h hdst (by simp [ho]) (ixs_none ho ht hs h2 h1 h0 hcs)
            · cases hsem
          · cases hsem
        | some tk =>
          simp only [sem] at hsem
          split at hsem
          · rename_i hc
            obtain ⟨rfl, h0⟩ := hc
            split at hsem
            · rename_i cs hcs
              simp only [Option.some.injEq] at hsem; subst hsem
              exact sound_val h hdst (by simp [ho]) (ixs_some ho ht hs h2 h1 h0 hcs)
            · cases hsem
          · cases hsem
      · cases hop
    · cases hop
  · rename_i len el ht
    split at hop
    · rename_i n hs
      split at hop
      · simp only [Option.some.injEq, Prod.mk.injEq] at hop
        obtain ⟨rfl, rfl⟩ := hop
        obtain ⟨v, u, rfl, h1, h2⟩ := hv.inv2
        cases v <;> (try (simp only [sem, reduceCtorEq] at hsem; done)) <;> cases u <;> (try (simp only [sem, reduceCtorEq] at hsem; done)) <;> simp only [sem] at hsem <;> split at hsem <;> (try (cases hsem; done))
        · rename_i hc
          simp only [Option.some.injEq] at hsem; subst hsem
          obtain ⟨b, h3, h4⟩ := den_move_ref h1
          exact sound_val h hdst (by simp [ho]) ⟨_, run_ixaOp ho ht hs h2 hc h3, h4⟩
        · rename_i hc
          simp only [Option.some.injEq] at hsem; subst hsem
          obtain ⟨b, q, h3, h4⟩ := den_move_cref h1
          exact sound_val h hdst (by simp [ho]) ⟨_, run_ixaOp ho ht hs h2 hc h3, h4⟩
        · rename_i hc
          simp only [Option.some.injEq] at hsem; subst hsem
          obtain ⟨b, q, h3, h4⟩ := den_move_eref h1
          exact sound_val h hdst (by simp [ho]) ⟨_, run_ixaOp ho ht hs h2 hc h3, h4⟩
      · cases hop
    · cases hop
  · cases hop
theorem sound_nilc {x : Operand} (ho : o.op = .nilCheck x) : Sound P X w0 Ω w a σ o mk e := by
  simp only [ho, opC, Option.some.injEq, Prod.mk.injEq] at hop
  obtain ⟨rfl, rfl⟩ := hop
  obtain ⟨v, rfl, h1⟩ := hv.inv1
  have : v.isPtr = true ∧ e = .val v := by
    cases v <;> simp only [sem, Option.some.injEq, reduceCtorEq] at hsem <;> exact ⟨rfl, hsem.symm⟩
  obtain ⟨h2, rfl⟩ := this
  exact sound_val h hdst (by simp [ho]) ⟨_, run_nilcOp ho h2 h1, h1⟩
end ops
end
end Go.Lo

/- Every operation, second part: what makes, writes and calls. -/
namespace Go.Lo
open Go.RowKit (Below)
section
variable {P : Program} {X : Sc} {w0 w : World} {Ω : Own} {a : Act} {σ : St} {o : Oper} {mk : Bool}
section ops
variable {call : Nat → List V → Option V} {dr al : Bool} {root : Option Nat} {k : K} {xs : List Operand} {vs : List V} {e : Eff} {ex : List Nat}
  (h : Inv X w0 Ω w a.tmps σ) (hdst : ∀ d, o.dst = some d → d < a.tmps.size) (hv : DenL Ω w vs (xs.map a.eval))
  (hsem : sem call (bxOf σ.fr ex) (tkOf σ.tk ex) (o.dst.getD 0) k vs = some e)
include h hdst hv hsem

theorem sound_alloc (hop : opC P o.op dr al mk root = some (k, xs)) (hmd : ∃ d, o.dst = some d ∧ Fresh Ω d) {t : TypeId} (ho : o.op = .alloc t) : Sound P X w0 Ω w a σ o true e := by
  obtain ⟨d, hd, hf⟩ := hmd
  simp only [ho, opC] at hop
  split at hop
  · rename_i zs hz
    simp only [Option.some.injEq, Prod.mk.injEq] at hop
    obtain ⟨rfl, rfl⟩ := hop
    have := hv.inv0; subst this
    simp only [sem, Option.some.injEq] at hsem; subst hsem
    unfold zeroD at hz
    split at hz
    · rename_i i hi
      split at hz
      · rename_i z hzz
        simp only [Option.some.injEq] at hz; subst hz
        refine (Yields.box h hd (hdst d hd) hf (xs := z.cells.toList) (T := t) (by rw [run_alloc ho hi hzz, Array.toArray_toList]) ?_ ?_).sound (by simp [ho])
        · generalize z.cells.toList = l
          induction l with
          | nil => exact DenL.nil
          | cons x l ih =>
            rw [List.map_cons]
            refine DenL.cons ?_ ih
            split
            · rename_i v hv
              split
              · exact valV_den x v hv
              · simp [Den]
            · simp [Den]
        · intro v hv
          obtain ⟨x, _, rfl⟩ := List.mem_map.1 hv
          split
          · split
            · rename_i hc; exact .inl hc
            · exact .inr rfl
          · exact .inr rfl
      · cases hz
    · cases hz
  · cases hop
theorem sound_box (hop : opC P o.op dr al mk root = some (k, xs)) (hmd : ∃ d, o.dst = some d ∧ Fresh Ω d) {t : TypeId} {x : Operand} (ho : o.op = .box t x) : Sound P X w0 Ω w a σ o true e := by
  obtain ⟨d, hd, hf⟩ := hmd
  simp only [ho, opC] at hop
  split at hop
  · simp only [Option.some.injEq, Prod.mk.injEq] at hop
    obtain ⟨rfl, rfl⟩ := hop
    obtain ⟨v, rfl, h1⟩ := hv.inv1
    simp only [sem] at hsem
    split at hsem
    · rename_i hc
      simp only [Option.some.injEq] at hsem; subst hsem
      exact (Yields.box h hd (hdst d hd) hf (xs := (a.eval x).cells.toList) (T := t) (by rw [run_box ho, Array.toArray_toList]) (Den.cells hc h1) (cells_cellOk hc)).sound (by simp [ho])
    · cases hsem
  · cases hop
theorem sound_store (hop : opC P o.op dr al mk root = some (k, xs)) {t : TypeId} {x y : Operand} (ho : o.op = .store t x y) : Sound P X w0 Ω w a σ o mk e := by
  simp only [ho, opC] at hop
  split at hop
  · rename_i n hn
    simp only [Option.some.injEq, Prod.mk.injEq] at hop
    obtain ⟨rfl, rfl⟩ := hop
    obtain ⟨v, u, rfl, h1, h2⟩ := hv.inv2
    cases v <;> (try (simp only [sem, reduceCtorEq] at hsem; done))
    case ref s off =>
      simp only [sem] at hsem
      split at hsem
      · rename_i hc
        split at hsem
        · rename_i cs hb
          split at hsem
          · rename_i cs' hs
            simp only [Option.some.injEq] at hsem; subst hsem
            exact (yields_store h hdst ho hn h1 h2 hc.1 hc.2.1 hb hs).sound (by simp [ho])
          · cases hsem
        · cases hsem
      · cases hsem
    case eref u' m i off cs =>
      cases root with
      | some r => simp only [sem, reduceCtorEq] at hsem
      | none =>
        simp only [sem] at hsem
        split at hsem
        · rename_i v' m' hfz htk
          split at hsem
          · rename_i hc
            obtain ⟨rfl, hc2, hc3⟩ := hc
            split at hsem
            · rename_i cs' hs
              simp only [Option.some.injEq] at hsem; subst hsem
              exact (yields_est h hdst ho hn h1 h2 hfz hc2 hc3 htk hs).sound (by simp [ho])
            · cases hsem
          · cases hsem
        · cases hsem
  · cases hop
theorem sound_buildSlice (hop : opC P o.op dr al mk root = some (k, xs)) (hmd : ∃ d, o.dst = some d ∧ Fresh Ω d) {t : TypeId} {len : Nat} {ps : Array (Nat × Operand)} (ho : o.op = .buildSlice t len ps) : Sound P X w0 Ω w a σ o true e := by
  obtain ⟨d, hd, hf⟩ := hmd
  simp only [ho, opC] at hop
  split at hop
  · rename_i el he
    split at hop
    · rename_i n z hs hz
      split at hop
      · rename_i hn
        simp only [Option.some.injEq, Prod.mk.injEq] at hop
        obtain ⟨rfl, rfl⟩ := hop
        simp only [sem] at hsem
        split at hsem
        · rename_i es ts hfl
          split at hsem
          · simp only [Option.some.injEq] at hsem; subst hsem
            rw [hd]
            simp only [Option.getD_some]
            have := yields_buildSlice (P := P) h ho he hs hz hn hd (hdst d hd) hf hv hfl
            exact this.sound (by simp [ho])
          · cases hsem
        · cases hsem
      · cases hop
    · cases hop
  · cases hop
theorem sound_makeSlice (hop : opC P o.op dr al mk root = some (k, xs)) (hmd : ∃ d, o.dst = some d ∧ Fresh Ω d) {t : TypeId} {x y : Operand} (ho : o.op = .makeSlice t x y) : Sound P X w0 Ω w a σ o true e := by
  obtain ⟨d, hd, hf⟩ := hmd
  simp only [ho, opC] at hop
  split at hop
  · rename_i el he
    split at hop
    · rename_i n b z hs hb hz
      split at hop
      · rename_i hn
        simp only [Option.some.injEq, Prod.mk.injEq] at hop
        obtain ⟨rfl, rfl⟩ := hop
        obtain ⟨v, u, rfl, h1, h2⟩ := hv.inv2
        cases v <;> (try (simp only [sem, reduceCtorEq] at hsem; done)) <;> cases u <;> simp only [sem, reduceCtorEq] at hsem
        split at hsem
        · rename_i hc
          simp only [Option.some.injEq] at hsem; subst hsem
          rw [hd]
          simp only [Option.getD_some]
          have := yields_makeSlice (P := P) h ho he hs hb hz hn hd (hdst d hd) hf h1 h2 hc
          exact this.sound (by simp [ho])
        · cases hsem
      · cases hop
    · cases hop
  · cases hop
theorem sound_append {x y : Operand} {t el : TypeId} {n b : Nat} {z : V} (hap : AppOp P o x y t el n b z) (hk : k = .append dr n b) (hxs : xs = [x, y]) (hmd : ∃ d, o.dst = some d ∧ (dr = true → Fresh Ω d)) : Sound P X w0 Ω w a σ o true e := by
  obtain ⟨d, hd, hf⟩ := hmd
  subst hk; subst hxs
  have hnd : ∀ c, o.op ≠ .defer c := by
    obtain ⟨c, _, _, ho, _⟩ := hap.op
    simp [ho]
  obtain ⟨v, u, rfl, h1, h2⟩ := hv.inv2
  have emptyY : ∀ {q : Option Nat} {sz : Nat}, Den Ω w (.sl q sz []) (a.eval y) → ∃ q c, a.eval y = .slice q 0 c := fun hy => by
    obtain ⟨p, k, hk⟩ := sl_len hy
    exact ⟨p, k, hk⟩
  have nilY : Den Ω w .nil (a.eval y) → ∃ q c, a.eval y = .slice q 0 c := fun hy => by
    simp only [Den] at hy
    exact ⟨_, _, hy⟩
  have nilX : Den Ω w .nil (a.eval x) → ∃ p n k, a.eval x = .slice p n k ∧ n ≤ k := fun hx => by
    simp only [Den] at hx
    exact ⟨_, _, _, hx, Nat.le_refl _⟩
  cases v <;> (try (simp only [sem, reduceCtorEq] at hsem; done))
  case nil =>
    cases u <;> (try (simp only [sem, reduceCtorEq] at hsem; done))
    case nil =>
      simp only [sem, Option.some.injEq] at hsem; subst hsem
      exact (yields_append_empty h hdst hap h1 (nilX h1) (nilY h2)).sound hnd
    case sl tok sz es =>
      simp only [sem] at hsem
      split at hsem
      · rename_i hsz
        subst hsz
        split at hsem
        · simp only [Option.some.injEq] at hsem; subst hsem
          exact (yields_append_empty h hdst hap h1 (nilX h1) (emptyY h2)).sound hnd
        · split at hsem
          · rename_i hb
            split at hsem
            · rename_i hdr
              simp only [Option.some.injEq] at hsem; subst hsem
              rw [hd]
              simp only [Option.getD_some]
              have := yields_append_new h hap hd (hdst d hd) (hf hdr) h1 h2 (by simp) hb
              exact this.sound hnd
            · simp only [Option.some.injEq] at hsem; subst hsem
              rw [hd]
              simp only [Option.getD_some]
              have := yields_append_prep h hap hd (hdst d hd) h1 h2 (by simp) hb
              exact this.sound hnd
          · cases hsem
      · cases hsem
  case sl tok sz es =>
    cases tok with
    | none => simp only [sem, reduceCtorEq] at hsem
    | some tk =>
      simp only [sem] at hsem
      split at hsem
      · rename_i m wr htk
        split at hsem
        · rename_i hc
          obtain ⟨hc1, rfl⟩ := hc
          obtain ⟨htk', _⟩ := tkOf_get htk
          have ownX : ∃ p n k, a.eval x = .slice p n k ∧ n ≤ k := by
            obtain ⟨c, k, T, xs, g1, ⟨p, g2⟩, g3, g4, g5, g6, g7, g8⟩ := h.tok tk m wr htk'
            simp only [Den] at h1
            obtain ⟨b', cap', p', hx1, hx2, hx3, hx4, hx5⟩ := h1
            exact ⟨_, _, _, hx1, Nat.le_add_right _ _⟩
          cases u <;> (try (simp only [reduceCtorEq] at hsem; done))
          case nil =>
            simp only [Option.some.injEq] at hsem; subst hsem
            exact (yields_append_empty h hdst hap h1 ownX (nilY h2)).sound hnd
          case sl tok2 sz2 ys =>
            simp only at hsem
            split at hsem
            · rename_i hc2
              obtain ⟨rfl, hb⟩ := hc2
              split at hsem
              · simp only [Option.some.injEq] at hsem; subst hsem
                exact (yields_append_empty h hdst hap h1 ownX (emptyY h2)).sound hnd
              · simp only [Option.some.injEq] at hsem; subst hsem
                exact (yields_append_more h hdst hap h1 htk' hc1 h2 (by simp) hb).sound hnd
            · cases hsem
        · cases hsem
      · cases hsem
theorem sound_appz {x y : Operand} {t el : TypeId} {n b : Nat} {z : V} (hap : AppZ P o x y t el n b z) (hk : k = .appz n b z.cells) (hxs : xs = [x, y]) (hmd : ∃ d, o.dst = some d) : Sound P X w0 Ω w a σ o true e := by
  obtain ⟨d, hd⟩ := hmd
  subst hk; subst hxs
  obtain ⟨c, u0, q, ho, hc, ha1, ha2, hu⟩ := hap.op
  have hnd : ∀ c, o.op ≠ .defer c := by simp [ho]
  obtain ⟨v, u, rfl, h1, h2⟩ := hv.inv2
  cases v <;> (try (simp only [sem, reduceCtorEq] at hsem; done)) <;> cases u <;> simp only [sem, reduceCtorEq] at hsem
  rename_i k m
  split at hsem
  · rename_i hc0
    split at hsem
    · rename_i hz0
      subst hz0
      simp only [Option.some.injEq] at hsem; subst hsem
      refine sound_val h hdst hnd ⟨.slice none 0 0, ?_, by simp [Den]⟩
      simp only [Den] at h1 h2
      obtain ⟨i, hi, _⟩ := info_size hap.size
      have ha1 : c.args = #[x, y] := Array.ext' (by simp [ha1])
      have ha2 : c.argTypes = #[t, u0] := Array.ext' (by simp [ha2])
      have hw : IntKind.i64.wrap 0 = 0 := by rw [IntKind.wrap_i64]; omega
      simp [execOp, ho, resolve, invoke, hc, builtin, ha1, ha2, h1, h2, Builtin.append_, run_underlying (elemC_spec hap.elem), run_underlying hu, sizeOf, typeInfo, hi, asInt, asIntOf, hw]
    · rename_i hz0
      simp only [Option.some.injEq] at hsem; subst hsem
      rw [hd]
      simp only [Option.getD_some]
      have := yields_appz h hap hd (hdst d hd) h1 h2 (by omega) hc0.2
      exact this.sound hnd
  · cases hsem
end ops
end
end Go.Lo

/- Calls; and all operations together. -/
namespace Go.Lo
open Go.RowKit (Below)
section
variable {P : Program} {X : Sc} {w0 w w1 : World} {Ω : Own} {a : Act} {σ : St} {o : Oper} {mk : Bool}

theorem goes_below {tm : Array Value} (h : Inv X w0 Ω w tm σ) (hb : Below w.heap.size w w1) : Goes X w0 Ω Ω w w1 where
  ext := ⟨fun _ h => h, fun _ h => .inr h, fun _ _ p h => ⟨p, h⟩, fun _ _ h => h, fun _ _ => Nat.le_refl _, fun b off hne _ => hb.cell (p := ⟨b, off, none⟩) (h.bnd b hne), fun _ _ _ _ => rfl, fun _ _ _ c k n _ h => ⟨c, k, n, h, .inl ⟨rfl, rfl, rfl⟩⟩, rfl⟩
  kept := h.kept.trans ⟨hb.os, hb.tape, hb.output, hb.size, fun b hlt _ => hb.block b hlt⟩
  ownB := h.ownB
  ownA := h.ownA
  bnd b hne := Nat.lt_of_lt_of_le (h.bnd b hne) hb.size
  uniq := h.uniq
  limB := h.limB
  old := h.old
  stp := ⟨hb.os, hb.tape, hb.output, hb.size, fun b hlt _ => hb.block b hlt, fun _ _ _ => ⟨rfl, rfl⟩⟩
  boxes b s T xs hs hh := by rw [hb.block b (h.bnd b (by simp [hs]))]; exact hh
theorem inv_below {tm : Array Value} (h : Inv X w0 Ω w tm σ) (hb : Below w.heap.size w w1) : Inv X w0 Ω w1 tm σ :=
  h.goes (goes_below h hb) (fun t n wr ht => by
    obtain ⟨c, k, T, xs, g1, ⟨p, g2⟩, g3, g⟩ := h.tok t n wr ht
    exact ⟨c, k, T, xs, g1, ⟨p, g2⟩, by rw [hb.block c (h.bnd c (by simp [g2]))]; exact g3, g⟩)
theorem sound_callE (hdst : ∀ d, o.dst = some d → d < a.tmps.size) (h : Inv X w0 Ω w a.tmps σ) {call : Nat → List V → Option V} {dr al : Bool} {e : Eff} {ex : List Nat} (hcall : CallsOk P call) (hmd : mk = true → ∃ d, o.dst = some d ∧ Fresh Ω d) (hnd : ∀ c, o.op ≠ .defer c) {g : Nat} {vs : List V} {ys : List Value}
    (hsem : callE call (bxOf σ.fr ex) (o.dst.getD 0) dr al mk g vs = some e) (hd : DenL Ω w vs ys) (hrun : Enters P g → (execOp a.eval o).run P w = .ok (.enter g ys.toArray) w) : Sound P X w0 Ω w a σ o mk e := by
  unfold callE at hsem
  split at hsem
  · rename_i as has
    split at hsem
    · rename_i r hr
      split at hsem
      · rename_i hpr
        obtain ⟨hent, hok⟩ := hcall g as r hr
        have hrun := hrun hent
        obtain ⟨k1, k2⟩ := DenL.frz (rdOk h ex 4) _ _ _ has hd
        have hC := hok.1 k2 (cOwn Ω w) w _ (base_cOwn h) k1
        intro ro n K Q hK
        have hC' : Calls P g ys.toArray w fun e w1 => ∃ x, e = .returned x ∧ ∃ Ω1, Below w.heap.size w w1 ∧ Den Ω1 w1 r x ∧ ResOk (cOwn Ω w) Ω1 w w1 r := fun cs' =>
          let ⟨e, w', fr, ⟨x, Ω1, q1, q2⟩, s, y⟩ := hC cs'
          ⟨e, w', fr, ⟨x, q1, Ω1, q2⟩, s, y⟩
        refine wp_enter hnd hrun hC' fun x w1 ⟨Ω1, hb, hden, hres⟩ => ?_
        split at hsem
        · rename_i hmk
          obtain ⟨d, hd, hfr⟩ := hmd hmk
          split at hsem
          · rename_i hdis
            have h100 : ∀ k n, (k, n) ∈ r.tks → k < 100 := fun k n hkn => by
              have := List.all_eq_true.1 hdis.2 (k, n) hkn
              simpa using this
            have fin : ∀ al' : Bool, (al' = true ∨ r.al = false) → e = .res (r.rn d) al' → K (a.put o.dst x) w1 := by
              rintro al' hal rfl
              obtain ⟨i1, i2⟩ := h.res hfr.2 (al := al') hb hres hden hpr hal h100
              refine hK x w1 _ (i1.putO hdst i2 a rfl) (fun d' hf' hne => fresh_res hf' (fun e => hne hmk (e ▸ hd)))
            rw [hd] at hsem
            simp only [Option.getD_some] at hsem
            split at hsem
            · split at hsem
              · cases hsem
              · simp only [Option.some.injEq] at hsem
                exact fin true (.inl rfl) hsem.symm
            · rename_i hal
              simp only [Option.some.injEq] at hsem
              refine fin false (.inr ?_) hsem.symm
              cases hra : r.al
              · rfl
              · exact absurd (.inr hra) hal
          · cases hsem
        · split at hsem
          · rename_i hbare
            simp only [Option.some.injEq] at hsem; subst hsem
            exact hK x w1 Ω ((inv_below h hb).putO hdst (Den.bare r x hpr (by simpa using hbare.1) hbare.2 hden) a rfl) (fun _ hf _ => hf)
          · cases hsem
      · cases hsem
    · cases hsem
  · cases hsem
section ops
variable {call : Nat → List V → Option V} {dr al : Bool} {root : Option Nat} {k : K} {xs : List Operand} {vs : List V} {e : Eff} {ex : List Nat}
  (h : Inv X w0 Ω w a.tmps σ) (hdst : ∀ d, o.dst = some d → d < a.tmps.size) (hv : DenL Ω w vs (xs.map a.eval))
  (hsem : sem call (bxOf σ.fr ex) (tkOf σ.tk ex) (o.dst.getD 0) k vs = some e)
include h hdst hv hsem

theorem sound_value {T : List (List V)} (hY : YieldOk P X w0 T) (hT : UpTo T (apply σ o.dst e)) (hcall : CallsOk P call) (hmd : mk = true → ∃ d, o.dst = some d ∧ Fresh Ω d) {c : Call} {f : Operand} (ho : o.op = .call c) (hc : c.callee = .value f) (hk : k = .call dr al mk) (hxs : xs = f :: c.args.toList) : Sound P X w0 Ω w a σ o mk e := by
  subst hk; subst hxs
  rw [List.map_cons] at hv
  obtain ⟨v, us, rfl, h1, h2⟩ := hv.invS
  have hnd : ∀ c, o.op ≠ .defer c := by simp [ho]
  cases v <;> (try (simp only [sem, reduceCtorEq] at hsem; done))
  rename_i g caps
  cases g with
  | y b =>
    cases caps with
    | cons _ _ => simp only [sem, reduceCtorEq] at hsem
    | nil =>
      simp only [sem] at hsem
      split at hsem
      · cases hsem
      · split at hsem
        · rename_i as ps hfr
          split at hsem
          · rename_i hc'
            simp only [Option.some.injEq] at hsem; subst hsem
            simp only [Den, Fk.Is, DenL] at h1
            obtain ⟨_, ⟨l, hyl, hf⟩, rfl⟩ := h1
            have h' := h.prot ps
            obtain ⟨g1, _⟩ := DenL.frzE (ps := ps) _ _ _ _ hfr (fun t ht => memN_self ht) h2
            have hout := h'.out
            simp only at hout
            cases htr : σ.tr with
            | none =>
              rw [htr] at hout
              have : Ω.yl = none := hY.none (Ω.prot ps) w hout
              rw [hyl] at this
              cases this
            | some tr =>
              rw [htr] at hout
              intro ro n K Q hK
              have hpre := hT (tr ++ [as]) (by simp [apply, htr])
              have hyl' : (Ω.prot ps).yl = some (l, b) := hyl
              obtain ⟨fn, tmps, asg, body, r1, _⟩ := hY.some ro n b l tr as _ _ w hout hyl' g1 hc'.2 hpre
              have hrun := run_yieldCall (P := P) (w := w) ho hc hf
              rw [show c.args.map a.eval = (c.args.toList.map a.eval).toArray by apply Array.ext'; simp, r1] at hrun
              refine wp_round hnd hrun (R := fun x w1 => x = .bool (goesOn b (some tr)) ∧ Inv X w0 (Ω.prot ps) w1 a.tmps { σ with tk := protT ps σ.tk, tr := some (tr ++ [as]) }) (fun n => ?_) fun x w1 hx => ?_
              · obtain ⟨fn', tmps', asg', body', r1', r2⟩ := hY.some ro n b l tr as _ _ w hout hyl' g1 hc'.2 hpre
                rw [r1] at r1'
                injection r1' with r1'
                injection r1' with _ e1 e2 e3 e4
                subst e1; subst e2; subst e3; subst e4
                refine RoundIn.mono r2 fun e w1 he => ?_
                obtain ⟨rfl, j1, j2, j3, j4, j5⟩ := he
                exact ⟨_, rfl, rfl, h'.other j2 j3 j4 j5 j1⟩
              · obtain ⟨rfl, hi⟩ := hx
                refine hK _ w1 (Ω.prot ps) ?_ fun d hfd _ => ⟨fun b hb => hfd.1 b (prot_box hb), fun b t p e hb => ?_⟩
                · have := hi.putO (dst := o.dst) (v := .bool (goesOn b (some tr))) (x := .bool (goesOn b (some tr))) hdst (by simp [Den]) a rfl
                  simpa only [apply, htr, Option.map_some] using this
                · obtain ⟨q, hq, _⟩ := prot_arr hb
                  exact hfd.2 b t q e hq
          · cases hsem
        · cases hsem
  | f g =>
    simp only [sem] at hsem
    simp only [Den, Fk.Is] at h1
    obtain ⟨cs, hf, hcs⟩ := h1
    refine sound_callE hdst h hcall hmd hnd hsem (h2.append hcs) fun hent => ?_
    rw [run_valueCall (w := w) ho hc hent hf]
    congr 2
    apply Array.ext'; simp
  | m g =>
    simp only [sem] at hsem
    simp only [Den, Fk.Is] at h1
    obtain ⟨cs, hf, hcs⟩ := h1
    refine sound_callE hdst h hcall hmd hnd hsem (hcs.append h2) fun hent => ?_
    rw [run_valueCall (w := w) ho hc hent hf]
    congr 2
    apply Array.ext'; simp
end ops

theorem callee_value {c : Call} {f : Operand} {dr al mk : Bool} (hc : c.callee = .value f) : callC P c dr al mk = some (.call dr al mk, f :: c.args.toList) := by
  unfold callC; rw [hc]
/-- Every operation. -/
theorem op_sound {call : Nat → List V → Option V} {T : List (List V)} (hY : YieldOk P X w0 T) (hcall : CallsOk P call) {dr al : Bool} {root : Option Nat} {k : K} {xs : List Operand} {ys : List Opd} {vs : List V} {e : Eff} {ex : List Nat}
    (h : Inv X w0 Ω w a.tmps σ) (hdst : ∀ d, o.dst = some d → d < a.tmps.size) (hop : opC P o.op dr al (makes P o) root = some (k, xs)) (hys : opdsC xs = some ys) (hvs : opds σ.fr ys = some vs)
    (hsem : sem call (bxOf σ.fr ex) (tkOf σ.tk ex) (o.dst.getD 0) k vs = some e) (hmk : makes P o = true → ∃ d, o.dst = some d) (hnd : needs P dr o = true → ∀ d, o.dst = some d → Fresh Ω d) (hT : UpTo T (apply σ o.dst e)) : Sound P X w0 Ω w a σ o (makes P o) e := by
  have hmd : isAppend o = false → makes P o = true → ∃ d, o.dst = some d ∧ Fresh Ω d := fun ha hm => by
    obtain ⟨d, hd⟩ := hmk hm
    exact ⟨d, hd, hnd (by simp [needs, hm, ha]) d hd⟩
  have hv := opds_sound h hys hvs
  cases ho : o.op <;> (try (simp only [ho, opC, reduceCtorEq] at hop; done))
  case move => exact sound_move h hdst hop hv hsem ho
  case assign => exact sound_assign h hdst hop hv hsem ho
  case pick => exact sound_pick h hdst hop hv hsem ho
  case alloc =>
    have hm : makes P o = true := by simp [makes, ho]
    rw [hm] at hop ⊢
    exact sound_alloc h hdst hv hsem hop (hmd (by simp [isAppend, ho]) hm) ho
  case box =>
    have hm : makes P o = true := by simp [makes, ho]
    rw [hm] at hop ⊢
    exact sound_box h hdst hv hsem hop (hmd (by simp [isAppend, ho]) hm) ho
  case build => exact sound_build h hdst hop hv hsem ho
  case buildSlice =>
    have hm : makes P o = true := by simp [makes, ho]
    rw [hm] at hop ⊢
    exact sound_buildSlice h hdst hv hsem hop (hmd (by simp [isAppend, ho]) hm) ho
  case load => exact sound_load h hdst hop hv hsem ho
  case store => exact sound_store h hdst hv hsem hop ho
  case nilCheck => exact sound_nilc h hdst hop hv hsem ho
  case binOp => exact sound_bin h hdst hop hv hsem ho
  case unOp => exact sound_un h hdst hop hv hsem ho
  case convert => exact sound_conv h hdst hop hv hsem ho
  case makeFunc => exact sound_mkf h hdst hop hv hsem ho
  case makeSlice =>
    have hm : makes P o = true := by simp [makes, ho]
    rw [hm] at hop ⊢
    exact sound_makeSlice h hdst hv hsem hop (hmd (by simp [isAppend, ho]) hm) ho
  case slice => exact sound_slice h hdst hop hv hsem ho
  case fieldAddr => exact sound_fa h hdst hop hv hsem ho
  case field => exact sound_field h hdst hop hv hsem ho
  case indexAddr => exact sound_ia h hdst hop hv hsem ho
  case index => exact sound_index h hdst hop hv hsem ho
  case extract => exact sound_ext h hdst hop hv hsem ho
  case call c =>
    simp only [ho, opC] at hop
    cases hc : c.callee with
    | value f =>
      rw [callee_value hc] at hop
      simp only [Option.some.injEq, Prod.mk.injEq] at hop
      exact sound_value h hdst hv hsem hY hT hcall (hmd (by
        obtain ⟨callee, args, argTypes⟩ := c
        simp only at hc
        subst hc
        simp [isAppend, ho])) ho hc hop.1.symm hop.2.symm
    | invoke r m => simp [callC, hc] at hop
    | builtin b =>
      simp only [callC, hc] at hop
      split at hop
      · rename_i x t hx ht
        cases hel : elemC P t with
        | none => simp [hel] at hop
        | some el =>
          simp only [hel, Option.map_some, Option.some.injEq, Prod.mk.injEq] at hop
          obtain ⟨rfl, rfl⟩ := hop
          obtain ⟨v, rfl, h1⟩ := hv.inv1
          cases v <;> simp only [sem, Option.some.injEq, reduceCtorEq] at hsem
          · subst hsem
            simp only [Den] at h1
            exact sound_val h hdst (by simp [ho]) ⟨_, run_lenOp ho hc hx ht hel h1, by simp [Den]⟩
          · subst hsem
            obtain ⟨p, q, h2⟩ := sl_len h1
            exact sound_val h hdst (by simp [ho]) ⟨_, run_lenOp ho hc hx ht hel h2, by simp [Den]⟩
      · rename_i x t hx ht
        cases hel : elemC P t with
        | none => simp [hel] at hop
        | some el =>
          simp only [hel, Option.map_some, Option.some.injEq, Prod.mk.injEq] at hop
          obtain ⟨rfl, rfl⟩ := hop
          obtain ⟨v, rfl, h1⟩ := hv.inv1
          cases v <;> simp only [sem, Option.some.injEq, reduceCtorEq] at hsem
          subst hsem
          simp only [Den] at h1
          exact sound_val h hdst (by simp [ho]) ⟨_, run_capOp ho hc hx ht hel h1, by simp [Den]⟩
      · rename_i x y t u hx ht
        split at hop
        · rename_i el el' he he'
          split at hop
          · rename_i n b z hs hb hz
            split at hop
            · rename_i hn
              simp only [Option.some.injEq, Prod.mk.injEq] at hop
              have hm : makes P o = true := by
                obtain ⟨callee, args, argTypes⟩ := c
                simp only at hc
                subst hc
                simp [makes, ho]
              rw [hm]
              exact sound_append h hdst hv hsem ⟨⟨c, u, el', ho, hc, hx, ht, he'⟩, he, hs, hb, hz, hn⟩ hop.1.symm hop.2.symm (by
                obtain ⟨d, hd⟩ := hmk hm
                exact ⟨d, hd, fun hdr => hnd (by simp [needs, hm, hdr]) d hd⟩)
            · cases hop
          · cases hop
        · rename_i el he he'
          split at hop
          · rename_i q n b z hu hs hb hz
            split at hop
            · rename_i hn
              simp only [Option.some.injEq, Prod.mk.injEq] at hop
              have hm : makes P o = true := by
                obtain ⟨callee, args, argTypes⟩ := c
                simp only at hc
                subst hc
                simp [makes, ho]
              rw [hm]
              exact sound_appz h hdst hv hsem ⟨⟨c, u, q, ho, hc, hx, ht, hu⟩, he, hs, hb, hz, hn.1, hn.2.1⟩ hop.1.symm hop.2.symm (hmk hm)
            · cases hop
          · cases hop
        · cases hop
      · simp only [Option.some.injEq, Prod.mk.injEq] at hop
        obtain ⟨rfl, rfl⟩ := hop
        simp only [sem] at hsem
        split at hsem
        · rename_i q m ms hi
          simp only [Option.some.injEq] at hsem; subst hsem
          exact sound_val h hdst (by simp [ho]) ⟨_, run_maxOp ho hc (intsOf_den hi hv), by simp [Den]⟩
        · cases hsem
      · simp only [Option.some.injEq, Prod.mk.injEq] at hop
        obtain ⟨rfl, rfl⟩ := hop
        simp only [sem] at hsem
        split at hsem
        · rename_i q m ms hi
          simp only [Option.some.injEq] at hsem; subst hsem
          exact sound_val h hdst (by simp [ho]) ⟨_, run_minOp ho hc (intsOf_den hi hv), by simp [Den]⟩
        · cases hsem
      · cases hop
end
end Go.Lo

/- Instructions that stand apart may change places. -/
namespace Go.Lo

/-! ### Puts -/
theorem put_comm {α : Type} : ∀ (l : List (Nat × α)) {s t : Nat} {u v : α}, s ≠ t → put (put l s u) t v = put (put l t v) s u
  | [], s, t, u, v, h => by
    simp only [put]
    by_cases h1 : s < t
    · have : ¬ t < s := by omega
      simp [h, h.symm, h1, this]
    · have : t < s := by omega
      simp [h, h.symm, h1, this]
  | (k, w) :: l, s, t, u, v, h => by
    simp only [put]
    by_cases e1 : k = s <;> by_cases e2 : k = t
    · omega
    · subst e1
      by_cases h2 : t < k
      · simp only [put, if_true, if_neg e2, if_pos h2, if_neg h.symm, if_neg (by omega : ¬ k < t)]
      · simp only [put, if_true, if_neg e2, if_neg h2]
    · subst e2
      by_cases h1 : s < k
      · simp only [put, if_true, if_neg e1, if_pos h1, if_neg h, if_neg (by omega : ¬ k < s)]
      · simp only [put, if_true, if_neg e1, if_neg h1]
    · by_cases h1 : s < k <;> by_cases h2 : t < k
      · simp only [put, if_neg e1, if_neg e2, if_pos h1, if_pos h2]
        by_cases h3 : s < t
        · simp only [if_neg h, if_neg h.symm, if_neg (by omega : ¬ t < s), if_pos h3]
        · simp only [if_neg h, if_neg h.symm, if_pos (by omega : t < s), if_neg h3]
      · simp only [put, if_neg e1, if_neg e2, if_pos h1, if_neg h2, if_neg h, if_neg (by omega : ¬ t < s)]
      · simp only [put, if_neg e1, if_neg e2, if_neg h1, if_pos h2, if_neg h.symm, if_neg (by omega : ¬ s < t)]
      · simp only [put, if_neg e1, if_neg e2, if_neg h1, if_neg h2]
        rw [put_comm l h]
theorem put_protT (ps : List Nat) : ∀ (l : List (Nat × Nat × Bool)) {t : Nat} {v : Nat × Bool}, memN t ps = false → protT ps (put l t v) = put (protT ps l) t v
  | [], t, v, h => by obtain ⟨n, w⟩ := v; simp [put, protT, h]
  | (k, n, w) :: l, t, (n', w'), h => by
    simp only [put]
    by_cases e : k = t
    · subst e
      simp [protT, put, h]
    · by_cases h1 : t < k
      · simp only [if_neg e, if_pos h1, protT, h, Bool.false_eq_true, if_false]
        split <;> simp [put, e, h1]
      · simp only [if_neg e, if_neg h1, protT, put_protT ps l h]
        split <;> simp [put, e, h1]
theorem put_lenT {u m : Nat} : ∀ (l : List (Nat × Nat × Bool)) {t : Nat} {v : Nat × Bool}, t ≠ u → lenT u m (put l t v) = put (lenT u m l) t v
  | [], t, v, h => by obtain ⟨n, w⟩ := v; simp [put, lenT, h]
  | (k, n, w) :: l, t, (n', w'), h => by
    simp only [put]
    by_cases e : k = t
    · subst e
      simp [lenT, put, h]
    · by_cases h1 : t < k
      · simp only [if_neg e, if_pos h1, lenT, if_neg h]
        split <;> simp [put, e, h1]
      · simp only [if_neg e, if_neg h1, lenT, put_lenT l h]
        split <;> simp [put, e, h1]
theorem protT_comm (ps qs : List Nat) : ∀ (l : List (Nat × Nat × Bool)), protT ps (protT qs l) = protT qs (protT ps l)
  | [] => rfl
  | (k, n, w) :: l => by
    simp only [protT]
    by_cases h1 : memN k ps = true <;> by_cases h2 : memN k qs = true <;> simp [h1, h2, protT_comm ps qs l]
theorem protT_lenT (ps : List Nat) {u m : Nat} : ∀ (l : List (Nat × Nat × Bool)), protT ps (lenT u m l) = lenT u m (protT ps l)
  | [] => rfl
  | (k, n, w) :: l => by
    simp only [protT, lenT]
    by_cases h2 : k = u
    · subst h2
      by_cases h1 : memN k ps = true <;> simp [protT, h1]
    · by_cases h1 : memN k ps = true <;> simp [protT, h1, h2, protT_lenT ps l]
theorem lenT_comm {t n u m : Nat} (h : t ≠ u) : ∀ (l : List (Nat × Nat × Bool)), lenT t n (lenT u m l) = lenT u m (lenT t n l)
  | [] => rfl
  | (k, q, w) :: l => by
    simp only [lenT]
    by_cases h1 : k = t <;> by_cases h2 : k = u
    · omega
    · subst h1; simp [lenT, h2]
    · subst h2; simp [lenT, h1]
    · simp [lenT, h1, h2, lenT_comm h l]

/-! ### What an instruction looks at and turns -/
structure Quiet (x y : LIns) : Prop where
  dst : ∀ d, x.dst = some d → memN d (looksL y) = false ∧ y.dst ≠ some d ∧ rootK y.k ≠ some d ∧ memN d y.ex = true
  root : ∀ r, rootK x.k = some r → memN r y.ex = true ∧ rootK y.k ≠ some r ∧ y.dst ≠ some r
  draw : drawK x.k = true
  made : mkK x.k = true → x.dst.isSome = true
theorem quietL_spec {x y : LIns} (h : quietL x y = true) : Quiet x y := by
  unfold quietL at h
  simp only [Bool.and_eq_true, Bool.or_eq_true, Bool.not_eq_true'] at h
  obtain ⟨⟨⟨h1, h2⟩, h3⟩, h4⟩ := h
  refine ⟨fun d hd => ?_, fun r hr => ?_, h3, fun hm => ?_⟩
  · rw [hd] at h1
    simp only [Bool.and_eq_true, Bool.not_eq_true', bne_iff_ne, ne_eq] at h1
    exact ⟨h1.1.1.1, h1.1.1.2, h1.1.2, h1.2⟩
  · rw [hr] at h2
    simp only [Bool.and_eq_true, bne_iff_ne, ne_eq] at h2
    exact ⟨h2.1.1, h2.1.2, h2.2⟩
  · rcases h4 with h4 | h4
    · rw [hm] at h4; cases h4
    · exact h4
/-- The effects of such an instruction. -/
def DrawEff (i : LIns) : Eff → Prop
  | .val _ => True
  | .mk _ t _ ps => (∃ d, i.dst = some d ∧ t / 100 = d) ∧ ∀ p ∈ ps, memN (p / 100) i.ex = false
  | .mkp _ _ _ => False
  | .trunc _ _ _ => False
  | .app _ t _ => memN (t / 100) i.ex = false ∧ isAppK i.k = true
  | .prot _ ps => ∀ p ∈ ps, memN (p / 100) i.ex = false
  | .yld _ _ _ => False
  | .sto s _ => rootK i.k = some s
  | .est _ _ _ _ => False
  | .res v al => (al = true → alK i.k = true) ∧ ∃ d, i.dst = some d ∧ ∀ p ∈ v.tks, p.1 / 100 = d
theorem tkOf_some {tk : List (Nat × Nat × Bool)} {ex : List Nat} {t : Nat} (h : (tkOf tk ex t).isSome = true) : memN (t / 100) ex = false := by
  unfold tkOf at h
  split at h
  · cases h
  · rename_i hm; simpa using hm
theorem callE_draw {call : Nat → List V → Option V} {bx : Nat → Option (List V)} {d f : Nat} {al mk : Bool} {vs : List V} {e : Eff} (h : callE call bx d true al mk f vs = some e) : (∃ v, e = .val v) ∨ (mk = true ∧ ∃ v al', (al' = true → al = true) ∧ e = .res v al' ∧ ∀ p ∈ v.tks, p.1 / 100 = d) := by
  unfold callE at h
  split at h
  case h_2 => cases h
  split at h
  case h_2 => cases h
  rename_i r _
  split at h
  case isFalse => cases h
  split at h
  · rename_i hmk
    split at h
    case isFalse => cases h
    rename_i hdis
    have tks : ∀ p ∈ (r.rn d).tks, p.1 / 100 = d := by
      intro p hp
      obtain ⟨t, n⟩ := p
      obtain ⟨q, h3, h4⟩ := rn_tks _ hp
      have := List.all_eq_true.1 hdis.2 (q, n) h4
      simp only [decide_eq_true_eq] at this
      show t / 100 = d
      omega
    split at h
    · split at h
      · cases h
      · rename_i hal
        simp only [Option.some.injEq] at h; subst h
        refine .inr ⟨hmk, _, true, fun _ => ?_, rfl, tks⟩
        cases al
        · exact absurd ⟨rfl, rfl⟩ hal
        · rfl
    · simp only [Option.some.injEq] at h; subst h
      exact .inr ⟨hmk, _, false, (fun x => by cases x), rfl, tks⟩
  · split at h
    · simp only [Option.some.injEq] at h; subst h; exact .inl ⟨_, rfl⟩
    · cases h
theorem drawEff {call : Nat → List V → Option V} {bx : Nat → Option (List V)} {tk : List (Nat × Nat × Bool)} {i : LIns} {vs : List V} {e : Eff} (hd : drawK i.k = true) (hm : mkK i.k = true → i.dst.isSome = true)
    (h : sem call bx (tkOf tk i.ex) (i.dst.getD 0) i.k vs = some e) : DrawEff i e := by
  have hval : ∀ {x : Option V}, valO x = some e → DrawEff i e := fun hx => by
    obtain ⟨v, _, rfl⟩ := valO_some hx
    trivial
  have mkd : mkK i.k = true → ∃ d, i.dst = some d ∧ i.dst.getD 0 = d := fun hx => by
    obtain ⟨d, hd⟩ := Option.isSome_iff_exists.1 (hm hx)
    exact ⟨d, hd, by rw [hd]; rfl⟩
  have key : ∀ t x, tkOf tk i.ex t = some x → memN (t / 100) i.ex = false := fun t x h => tkOf_some (by rw [h]; rfl)
  generalize hdd : i.dst.getD 0 = dd at h
  cases hk : i.k <;> rw [hk] at h <;> simp only [sem] at h
  case bsl sz z len ix =>
    obtain ⟨d, h1, h2⟩ := mkd (by rw [hk]; rfl)
    split at h
    · split at h
      · rename_i es ps hf hp
        simp only [Option.some.injEq] at h; subst h
        refine ⟨⟨d, h1, by omega⟩, fun p hps => tkOf_some (List.all_eq_true.1 hp p hps)⟩
      · cases h
    · cases h
  case mks sz b z =>
    obtain ⟨d, h1, h2⟩ := mkd (by rw [hk]; rfl)
    repeat' split at h
    all_goals first
      | (cases h; done)
      | (simp only [Option.some.injEq] at h; subst h; exact ⟨⟨d, h1, by omega⟩, by simp⟩)
  case append dr sz b =>
    obtain ⟨d, h1, h2⟩ := mkd (by rw [hk]; rfl)
    have hdr : dr = true := by rw [hk] at hd; exact hd
    subst hdr
    repeat' split at h
    all_goals first
      | (cases h; done)
      | (simp only [Option.some.injEq] at h; subst h; exact trivial)
      | (simp only [Option.some.injEq] at h; subst h; exact ⟨⟨d, h1, by omega⟩, by simp⟩)
      | (simp only [Option.some.injEq] at h; subst h; exact ⟨key _ _ (by assumption), by rw [hk]; rfl⟩)
      | exact absurd rfl ‹¬ true = true›
  case appz sz b z => rw [hk] at hd; simp [drawK] at hd
  case trunc sz => rw [hk] at hd; simp [drawK] at hd
  case sls sz lo hi mx =>
    repeat' split at h
    all_goals first
      | (cases h; done)
      | (simp only [Option.some.injEq] at h; subst h; exact trivial)
      | (simp only [Option.some.injEq] at h; subst h; intro p hp; rw [List.mem_singleton] at hp; subst hp; exact tkOf_some (by assumption))
  case store n root =>
    cases root with
    | none => rw [hk] at hd; simp [drawK] at hd
    | some r =>
      split at h
      · split at h
        · rename_i hc
          split at h
          · split at h
            · simp only [Option.some.injEq] at h; subst h
              rcases hc.2.2 with hc | hc
              · cases hc
              · injection hc with hc
                subst hc
                rw [DrawEff, hk]; rfl
            · cases h
          · cases h
        · cases h
      · cases h
      · cases h
  case call dr al mk =>
    have hdr : dr = true := by rw [hk] at hd; exact hd
    subst hdr
    have fin : ∀ {f : Nat} {us : List V}, callE call bx dd true al mk f us = some e → DrawEff i e := fun hc => by
      rcases callE_draw hc with ⟨v, rfl⟩ | ⟨hmk, v, al', hal', rfl, hp⟩
      · trivial
      · subst hmk
        obtain ⟨d, h1, h2⟩ := mkd (by rw [hk]; rfl)
        exact ⟨fun hx => by rw [hk, hal' hx]; rfl, d, h1, fun p hpm => by rw [hp p hpm, ← hdd]; exact h2⟩
    split at h
    · exact fin h
    · exact fin h
    · simp only [if_true, reduceCtorEq] at h
    · cases h
  all_goals
    repeat' split at h
    all_goals first
      | (cases h; done)
      | exact hval h
      | (simp only [Option.some.injEq] at h; subst h; exact trivial)
def tokE : Eff → Bool
  | .mk _ _ _ _ => true
  | .app _ _ _ => true
  | .prot _ _ => true
  | .res _ _ => true
  | _ => false
theorem drawTok {call : Nat → List V → Option V} {bx : Nat → Option (List V)} {tk : Nat → Option (Nat × Bool)} {d : Nat} {k : K} {vs : List V} {e : Eff} (hd : drawK k = true) (h : sem call bx tk d k vs = some e) (ht : tokE e = true) : tokK k = true := by
  have hval : ∀ {x : Option V}, valO x = some e → tokK k = true := fun hx => by
    obtain ⟨v, _, rfl⟩ := valO_some hx
    cases ht
  cases k <;> simp only [sem] at h <;> (try rfl)
  case appz => simp [drawK] at hd
  case trunc => simp [drawK] at hd
  case call dr al mk =>
    have hdr : dr = true := hd
    subst hdr
    have fin : ∀ {f : Nat} {us : List V}, callE call bx d true al mk f us = some e → tokK (.call true al mk) = true := fun hc => by
      rcases callE_draw hc with ⟨v, rfl⟩ | ⟨hmk, v, al', hal', rfl, hp⟩
      · cases ht
      · exact hmk
    split at h
    · exact fin h
    · exact fin h
    · simp only [if_true, reduceCtorEq] at h
    · cases h
  all_goals
    repeat' split at h
    all_goals first
      | (cases h; done)
      | exact hval h
      | (simp only [Option.some.injEq] at h; subst h; cases ht)
/-- Of the arrays it asks at most which there are; an append asks for their lengths. -/
theorem sem_tk {call : Nat → List V → Option V} {bx : Nat → Option (List V)} {tk tk' : Nat → Option (Nat × Bool)} {d : Nat} {k : K} {vs : List V} (hd : drawK k = true)
    (h1 : ∀ t, (tk t).isSome = (tk' t).isSome) (h2 : isAppK k = true → ∀ t, (tk t).map (·.1) = (tk' t).map (·.1)) : sem call bx tk d k vs = sem call bx tk' d k vs := by
  cases k <;> simp only [sem]
  case bsl => simp only [h1]
  case trunc => simp [drawK] at hd
  case sls => simp only [h1]
  case call dr al mk => simp only [h1]
  case store n root =>
    cases root with
    | none => simp [drawK] at hd
    | some r => rfl
  case append dr sz b =>
    have h2 := h2 rfl
    split
    · rfl
    · rename_i t sz1 xs y
      have := h2 t
      cases h3 : tk t with
      | none =>
        cases h4 : tk' t with
        | none => rfl
        | some q => rw [h3, h4] at this; cases this
      | some p =>
        cases h4 : tk' t with
        | none => rw [h3, h4] at this; cases this
        | some q =>
          obtain ⟨n1, w1⟩ := p
          obtain ⟨n2, w2⟩ := q
          rw [h3, h4] at this
          simp only [Option.map_some, Option.some.injEq] at this
          subst this
          rfl
    · rfl
end Go.Lo

/- Instructions that stand apart may change places: the proof. -/
namespace Go.Lo

def effI (call : Nat → List V → Option V) (i : LIns) (σ : St) : Option (Option Eff) :=
  match wanted σ.fr i.guard with
  | some true => match opds σ.fr i.xs with
    | some vs => (match sem call (bxOf σ.fr i.ex) (tkOf σ.tk i.ex) (i.dst.getD 0) i.k vs with
      | some e => some (some e)
      | none => none)
    | none => none
  | some false => some none
  | none => none
def applyO (σ : St) (dst : Option Nat) : Option Eff → St
  | some e => apply σ dst e
  | none => { σ with fr := putO σ.fr dst .und }
theorem stepI_eff (call : Nat → List V → Option V) (i : LIns) (σ : St) : stepI call i σ = (effI call i σ).map (applyO σ i.dst) := by
  unfold stepI effI
  cases wanted σ.fr i.guard with
  | none => rfl
  | some b =>
    cases b with
    | false => rfl
    | true =>
      simp only
      cases opds σ.fr i.xs with
      | none => rfl
      | some vs =>
        simp only
        cases sem call (bxOf σ.fr i.ex) (tkOf σ.tk i.ex) (i.dst.getD 0) i.k vs <;> rfl
def DrawEffO (i : LIns) : Option Eff → Prop
  | some e => DrawEff i e
  | none => True

/-! ### The writes of an effect -/
def rootE : Option Eff → Option Nat
  | some (.sto s _) => some s
  | _ => none
def boxE : Option Eff → V
  | some (.sto _ cs) => .box cs
  | _ => .und
def vE : Option Eff → V
  | some (.val v) => v
  | some (.mk v _ _ _) => v
  | some (.app v _ _) => v
  | some (.prot v _) => v
  | some (.res v _) => v
  | _ => .und
def tkE : Option Eff → List (Nat × Nat × Bool) → List (Nat × Nat × Bool)
  | some (.mk _ t n ps), tk => put (protT ps tk) t (n, true)
  | some (.app _ t n), tk => lenT t n tk
  | some (.prot _ ps), tk => protT ps tk
  | some (.res v al), tk => addT v.tks (if al = true then protAll tk else tk)
  | _, tk => tk
theorem applyO_eq {i : LIns} {e : Option Eff} (h : DrawEffO i e) (σ : St) : applyO σ i.dst e = { σ with fr := putO (putO σ.fr (rootE e) (boxE e)) i.dst (vE e), tk := tkE e σ.tk } := by
  cases e with
  | none => rfl
  | some e =>
    cases e <;> simp only [DrawEffO, DrawEff] at h
    all_goals rfl
theorem putO_comm {l : List (Nat × V)} {x y : Option Nat} {u v : V} (h : ∀ d, x = some d → y ≠ some d) : putO (putO l x u) y v = putO (putO l y v) x u := by
  cases x with
  | none => rfl
  | some s =>
    cases y with
    | none => rfl
    | some t => exact put_comm l (fun e => h s rfl (by rw [e]))
theorem addT_put : ∀ (ts : List (Nat × Nat)) (l : List (Nat × Nat × Bool)) {t : Nat} {v : Nat × Bool}, (∀ p ∈ ts, p.1 ≠ t) → addT ts (put l t v) = put (addT ts l) t v
  | [], l, t, v, _ => rfl
  | (k, n) :: ts, l, t, v, h => by
    simp only [addT]
    rw [put_comm l (fun e => h (k, n) (by simp) e.symm), addT_put ts _ (fun p hp => h p (by simp [hp]))]
theorem addT_protT (ps : List Nat) : ∀ (ts : List (Nat × Nat)) (l : List (Nat × Nat × Bool)), (∀ p ∈ ts, memN p.1 ps = false) → addT ts (protT ps l) = protT ps (addT ts l)
  | [], l, _ => rfl
  | (k, n) :: ts, l, h => by
    simp only [addT]
    rw [← put_protT ps l (h (k, n) (by simp)), addT_protT ps ts _ (fun p hp => h p (by simp [hp]))]
theorem addT_lenT {u m : Nat} : ∀ (ts : List (Nat × Nat)) (l : List (Nat × Nat × Bool)), (∀ p ∈ ts, p.1 ≠ u) → addT ts (lenT u m l) = lenT u m (addT ts l)
  | [], l, _ => rfl
  | (k, n) :: ts, l, h => by
    simp only [addT]
    rw [← put_lenT l (h (k, n) (by simp)), addT_lenT ts _ (fun p hp => h p (by simp [hp]))]
theorem addT_addT : ∀ (ts us : List (Nat × Nat)) (l : List (Nat × Nat × Bool)), (∀ p ∈ ts, ∀ q ∈ us, p.1 ≠ q.1) → addT ts (addT us l) = addT us (addT ts l)
  | [], us, l, _ => rfl
  | (k, n) :: ts, us, l, h => by
    simp only [addT]
    rw [← addT_put us l (fun q hq e => h (k, n) (by simp) q hq e.symm), addT_addT ts us _ (fun p hp q hq => h p (by simp [hp]) q hq)]
theorem mem_of_memN : ∀ {xs : List Nat} {s : Nat}, memN s xs = true → s ∈ xs
  | x :: xs, s, h => by
    simp only [memN] at h
    split at h
    · rename_i e; subst e; simp
    · exact List.mem_cons_of_mem _ (mem_of_memN h)
theorem not_memN {ex : List Nat} {ps : List Nat} {d t : Nat} (hd : memN d ex = true) (ht : t / 100 = d) (hp : ∀ p ∈ ps, memN (p / 100) ex = false) : memN t ps = false := by
  cases h : memN t ps
  · rfl
  · have := hp t (mem_of_memN h)
    rw [ht, hd] at this
    cases this
theorem ne_tok {ex : List Nat} {d t u : Nat} (hd : memN d ex = true) (ht : t / 100 = d) (hu : memN (u / 100) ex = false) : t ≠ u := by
  intro e
  rw [← e, ht, hd] at hu
  cases hu
theorem tkE_comm {x y : LIns} {e f : Option Eff} (he : DrawEffO x e) (hf : DrawEffO y f) (hxy : Quiet x y) (hyx : Quiet y x) (hap : isAppK x.k = true → isAppK y.k = true → False) (hal : alK x.k = true → tokK y.k = true → False) (hal2 : alK y.k = true → tokK x.k = true → False) (ht : ∀ e', e = some e' → tokE e' = true → tokK x.k = true) (ht2 : ∀ f', f = some f' → tokE f' = true → tokK y.k = true) (l : List (Nat × Nat × Bool)) :
    tkE f (tkE e l) = tkE e (tkE f l) := by
  cases e with
  | none => rfl
  | some e =>
    cases f with
    | none => rfl
    | some f =>
      simp only [DrawEffO] at he hf
      cases e <;> (try (cases f <;> rfl)) <;> cases f <;> (try rfl) <;> simp only [tkE]
      case mk.mk v t n ps v' t' n' ps' =>
        obtain ⟨⟨d, h1, h2⟩, h3⟩ := he
        obtain ⟨⟨d', h1', h2'⟩, h3'⟩ := hf
        have hd := hxy.dst d h1
        have hd' := hyx.dst d' h1'
        rw [put_protT _ _ (not_memN hd.2.2.2 h2 h3'), put_protT _ _ (not_memN hd'.2.2.2 h2' h3), protT_comm, put_comm]
        intro e
        exact hd.2.1 (by rw [h1', ← h2', ← e, h2])
      case mk.app v t n ps v' t' n' =>
        obtain ⟨⟨d, h1, h2⟩, h3⟩ := he
        have hd := hxy.dst d h1
        rw [put_lenT _ (ne_tok hd.2.2.2 h2 hf.1), protT_lenT]
      case mk.prot v t n ps v' ps' =>
        obtain ⟨⟨d, h1, h2⟩, h3⟩ := he
        have hd := hxy.dst d h1
        rw [put_protT _ _ (not_memN hd.2.2.2 h2 hf), protT_comm]
      case mk.res v t n ps v' al' =>
        obtain ⟨⟨d, h1, h2⟩, h3⟩ := he
        obtain ⟨q, d', h1', h2'⟩ := hf
        cases al' with
        | true => exact (hal2 (q rfl) (ht _ rfl rfl)).elim
        | false =>
        simp only [Bool.false_eq_true, if_false]
        have hd := hxy.dst d h1
        have hd' := hyx.dst d' h1'
        rw [addT_put, addT_protT]
        · exact fun p hp => not_memN hd'.2.2.2 (h2' p hp) h3
        · intro p hp e
          have := h2' p hp
          exact hd.2.1 (by rw [h1', ← this, e, h2])
      case app.mk v t n v' t' n' ps' =>
        obtain ⟨⟨d, h1, h2⟩, h3⟩ := hf
        have hd := hyx.dst d h1
        rw [put_lenT _ (ne_tok hd.2.2.2 h2 he.1), protT_lenT]
      case app.app v t n v' t' n' => exact (hap he.2 hf.2).elim
      case app.prot => rw [protT_lenT]
      case app.res v t n v' al' =>
        obtain ⟨q, d', h1', h2'⟩ := hf
        cases al' with
        | true => exact (hal2 (q rfl) (ht _ rfl rfl)).elim
        | false =>
        simp only [Bool.false_eq_true, if_false]
        have hd' := hyx.dst d' h1'
        rw [addT_lenT]
        exact fun p hp => ne_tok hd'.2.2.2 (h2' p hp) he.1
      case prot.mk v ps v' t' n' ps' =>
        obtain ⟨⟨d, h1, h2⟩, h3⟩ := hf
        have hd := hyx.dst d h1
        rw [put_protT _ _ (not_memN hd.2.2.2 h2 he), protT_comm]
      case prot.app => rw [protT_lenT]
      case prot.prot => rw [protT_comm]
      case prot.res v ps v' al' =>
        obtain ⟨q, d', h1', h2'⟩ := hf
        cases al' with
        | true => exact (hal2 (q rfl) (ht _ rfl rfl)).elim
        | false =>
        simp only [Bool.false_eq_true, if_false]
        have hd' := hyx.dst d' h1'
        rw [addT_protT]
        exact fun p hp => not_memN hd'.2.2.2 (h2' p hp) he
      case res.mk v al v' t' n' ps' =>
        obtain ⟨⟨d, h1, h2⟩, h3⟩ := hf
        obtain ⟨q, d', h1', h2'⟩ := he
        cases al with
        | true => exact (hal (q rfl) (ht2 _ rfl rfl)).elim
        | false =>
        simp only [Bool.false_eq_true, if_false]
        have hd := hyx.dst d h1
        have hd' := hxy.dst d' h1'
        rw [addT_put, addT_protT]
        · exact fun p hp => not_memN hd'.2.2.2 (h2' p hp) h3
        · intro p hp e
          have := h2' p hp
          exact hd.2.1 (by rw [h1', ← this, e, h2])
      case res.app v al v' t' n' =>
        obtain ⟨q, d', h1', h2'⟩ := he
        cases al with
        | true => exact (hal (q rfl) (ht2 _ rfl rfl)).elim
        | false =>
        simp only [Bool.false_eq_true, if_false]
        have hd' := hxy.dst d' h1'
        rw [addT_lenT]
        exact fun p hp => ne_tok hd'.2.2.2 (h2' p hp) hf.1
      case res.prot v al v' ps' =>
        obtain ⟨q, d', h1', h2'⟩ := he
        cases al with
        | true => exact (hal (q rfl) (ht2 _ rfl rfl)).elim
        | false =>
        simp only [Bool.false_eq_true, if_false]
        have hd' := hxy.dst d' h1'
        rw [addT_protT]
        exact fun p hp => not_memN hd'.2.2.2 (h2' p hp) hf
      case res.res v al v' al' =>
        obtain ⟨q, d, h1, h2⟩ := he
        obtain ⟨q', d', h1', h2'⟩ := hf
        cases al with
        | true => exact (hal (q rfl) (ht2 _ rfl rfl)).elim
        | false =>
        cases al' with
        | true => exact (hal2 (q' rfl) (ht _ rfl rfl)).elim
        | false =>
        simp only [Bool.false_eq_true, if_false]
        have hd := hxy.dst d h1
        rw [addT_addT]
        intro p hp q hq e
        exact hd.2.1 (by rw [h1', ← h2' p hp, e, h2 q hq])
theorem rootE_root {i : LIns} {e : Option Eff} (h : DrawEffO i e) : ∀ r, rootE e = some r → rootK i.k = some r := by
  intro r hr
  cases e with
  | none => simp [rootE] at hr
  | some e =>
    cases e <;> simp only [rootE, reduceCtorEq, Option.some.injEq] at hr
    subst hr
    exact h
/-- Their writes do not meet. -/
theorem applyO_comm {x y : LIns} {e f : Option Eff} (he : DrawEffO x e) (hf : DrawEffO y f) (hxy : Quiet x y) (hyx : Quiet y x) (hap : isAppK x.k = true → isAppK y.k = true → False) (hal : alK x.k = true → tokK y.k = true → False) (hal2 : alK y.k = true → tokK x.k = true → False) (ht : ∀ e', e = some e' → tokE e' = true → tokK x.k = true) (ht2 : ∀ f', f = some f' → tokE f' = true → tokK y.k = true) (σ : St) :
    applyO (applyO σ x.dst e) y.dst f = applyO (applyO σ y.dst f) x.dst e := by
  rw [applyO_eq hf, applyO_eq he, applyO_eq he, applyO_eq hf, tkE_comm he hf hxy hyx hap hal hal2 ht ht2]
  congr 1
  have hr1 := rootE_root he
  have hr2 := rootE_root hf
  -- the four writes
  rw [putO_comm (x := x.dst) (y := rootE f) (fun d hd hr => (hxy.dst d hd).2.2.1 (hr2 d hr)),
    putO_comm (x := x.dst) (y := y.dst) (fun d hd => (hxy.dst d hd).2.1),
    putO_comm (x := rootE e) (y := rootE f) (fun d hd hr => (hxy.root d (hr1 d hd)).2.1 (hr2 d hr)),
    putO_comm (x := rootE e) (y := y.dst) (fun d hd => (hxy.root d (hr1 d hd)).2.2)]
end Go.Lo

/- Instructions that stand apart do not see each other; any order comes to the same. -/
namespace Go.Lo

def SameAt (fr fr' : List (Nat × V)) (g : Nat) : Prop := get fr' g = get fr g ∨ ∃ cs cs0, get fr' g = some (.box cs) ∧ get fr g = some (.box cs0)
theorem opd_same {fr fr' : List (Nat × V)} {g : Nat} (h : SameAt fr fr' g) : opd fr' (.t g) = opd fr (.t g) := by
  rcases h with h | ⟨cs, cs0, h1, h2⟩
  · simp only [opd, h]
  · simp only [opd, h1, h2]
theorem opds_same {fr fr' : List (Nat × V)} : ∀ {xs : List Opd}, (∀ g, memN g (slotsL xs) = true → SameAt fr fr' g) → opds fr' xs = opds fr xs
  | [], _ => rfl
  | x :: xs, h => by
    cases x with
    | t n =>
      simp only [slotsL, memN] at h
      simp only [opds]
      rw [opd_same (h n (by simp)), opds_same (fun g hg => h g (by split <;> simp_all))]
    | c v =>
      simp only [slotsL] at h
      simp only [opds]
      rw [opds_same h]; rfl
    | f n =>
      simp only [slotsL] at h
      simp only [opds]
      rw [opds_same h]; rfl
theorem wanted_same {fr fr' : List (Nat × V)} {g : Option (Nat × Bool)} (h : ∀ s b, g = some (s, b) → SameAt fr fr' s) : wanted fr' g = wanted fr g := by
  cases g with
  | none => rfl
  | some p =>
    obtain ⟨s, b⟩ := p
    rcases h s b rfl with h | ⟨cs, cs0, h1, h2⟩
    · simp only [wanted, h]
    · simp only [wanted, h1, h2]
theorem get_putO {l : List (Nat × V)} {x : Option Nat} {v : V} {g : Nat} (h : x ≠ some g) : get (putO l x v) g = get l g := by
  cases x with
  | none => rfl
  | some d => exact get_put_other l d v g (fun e => h (by rw [e]))
theorem get_addT_other : ∀ {ts : List (Nat × Nat)} {l : List (Nat × Nat × Bool)} {t : Nat}, (∀ p ∈ ts, p.1 ≠ t) → get (addT ts l) t = get l t
  | [], l, t, _ => rfl
  | (k, n) :: ts, l, t, h => by
    simp only [addT]
    rw [get_addT_other (fun p hp => h p (by simp [hp])), get_put_other _ _ _ _ (h (k, n) (by simp))]
theorem effI_indep {call : Nat → List V → Option V} {x y : LIns} {e : Option Eff} {σ : St} (hxy : Quiet x y) (hy : drawK y.k = true) (hap : isAppK x.k = true → isAppK y.k = true → False) (he : DrawEffO x e)
    (hb : ∀ s, rootE e = some s → ∃ cs cs0, boxE e = .box cs ∧ get σ.fr s = some (.box cs0)) : effI call y (applyO σ x.dst e) = effI call y σ := by
  rw [applyO_eq he]
  have hsame : ∀ g, memN g (looksL y) = true → SameAt σ.fr (putO (putO σ.fr (rootE e) (boxE e)) x.dst (vE e)) g := by
    intro g hg
    have hd : x.dst ≠ some g := fun h => by
      have := (hxy.dst g h).1
      rw [hg] at this
      cases this
    unfold SameAt
    rw [get_putO hd]
    by_cases hr : rootE e = some g
    · obtain ⟨cs, cs0, h1, h2⟩ := hb g hr
      rw [hr, h1]
      exact .inr ⟨cs, cs0, get_put_same _ _ _, h2⟩
    · exact .inl (get_putO hr)
  have hbx : bxOf (putO (putO σ.fr (rootE e) (boxE e)) x.dst (vE e)) y.ex = bxOf σ.fr y.ex := by
    funext s
    unfold bxOf
    split
    · rfl
    · rename_i hm
      have hd : x.dst ≠ some s := fun h => hm (hxy.dst s h).2.2.2
      have hr : rootE e ≠ some s := fun h => hm (hxy.root s (rootE_root he s h)).1
      rw [get_putO hd, get_putO hr]
  have htk : ∀ t, memN (t / 100) y.ex = false → ((get (tkE e σ.tk) t).isSome = (get σ.tk t).isSome ∧ (isAppK y.k = true → (get (tkE e σ.tk) t).map (·.1) = (get σ.tk t).map (·.1))) := by
    intro t ht
    cases e with
    | none => exact ⟨rfl, fun _ => rfl⟩
    | some e =>
      simp only [DrawEffO] at he
      cases e <;> (try (exact ⟨rfl, fun _ => rfl⟩)) <;> simp only [tkE]
      case mk v u n ps =>
        obtain ⟨⟨d, h1, h2⟩, _⟩ := he
        have hne := ne_tok (hxy.dst d h1).2.2.2 h2 ht
        rw [get_put_other _ _ _ _ hne, get_protT]
        refine ⟨by simp, fun _ => ?_⟩
        cases get σ.tk t with
        | none => rfl
        | some p => simp only [Option.map_some]; split <;> rfl
      case app v u n =>
        obtain ⟨_, h2⟩ := he
        rw [get_lenT]
        refine ⟨by split <;> simp, fun h => (hap h2 h).elim⟩
      case prot v ps =>
        rw [get_protT]
        refine ⟨by simp, fun _ => ?_⟩
        cases get σ.tk t with
        | none => rfl
        | some p => simp only [Option.map_some]; split <;> rfl
      case res v al =>
        obtain ⟨_, d, h1, h2⟩ := he
        rw [get_addT_other (fun p hp => ne_tok (hxy.dst d h1).2.2.2 (h2 p hp) ht)]
        cases al with
        | false => exact ⟨rfl, fun _ => rfl⟩
        | true =>
          simp only [if_true]
          rw [get_protAll]
          refine ⟨by simp, fun _ => ?_⟩
          cases get σ.tk t <;> rfl
  unfold effI
  simp only
  rw [wanted_same (fun s b hs => hsame s (by unfold looksL; rw [hs]; simp [memN])), opds_same (fun g hg => hsame g (by
    unfold looksL
    split
    · simp only [memN]; split
      · rfl
      · exact hg
    · exact hg)), hbx]
  cases wanted σ.fr y.guard with
  | none => rfl
  | some b =>
    cases b with
    | false => rfl
    | true =>
      simp only
      cases opds σ.fr y.xs with
      | none => rfl
      | some vs =>
        simp only
        rw [sem_tk (tk := tkOf (tkE e σ.tk) y.ex) (tk' := tkOf σ.tk y.ex) hy (fun t => ?_) (fun h t => ?_)]
        · unfold tkOf
          split
          · rfl
          · rename_i hm; exact (htk t (by simpa using hm)).1
        · unfold tkOf
          split
          · rfl
          · rename_i hm; exact (htk t (by simpa using hm)).2 h
theorem sem_sto {call : Nat → List V → Option V} {bx : Nat → Option (List V)} {tk : Nat → Option (Nat × Bool)} {d s : Nat} {k : K} {vs cs : List V} (h : sem call bx tk d k vs = some (.sto s cs)) : ∃ cs0, bx s = some cs0 := by
  have hval : ∀ {x : Option V}, valO x = some (.sto s cs) → False := fun hx => by
    obtain ⟨v, _, hv⟩ := valO_some hx
    cases hv
  cases k <;> simp only [sem, callE] at h
  case store n root =>
    split at h
    · split at h
      · split at h
        · rename_i cs0 hb
          split at h
          · simp only [Option.some.injEq, Eff.sto.injEq] at h
            obtain ⟨rfl, _⟩ := h
            exact ⟨cs0, hb⟩
          · cases h
        · cases h
      · cases h
    · repeat' split at h
      all_goals cases h
    · cases h
  all_goals
    repeat' split at h
    all_goals first
      | (cases h; done)
      | exact (hval h).elim
theorem effI_ok {call : Nat → List V → Option V} {x : LIns} {e : Option Eff} {σ : St} (hd : drawK x.k = true) (hm : mkK x.k = true → x.dst.isSome = true) (h : effI call x σ = some e) :
    DrawEffO x e ∧ (∀ s, rootE e = some s → ∃ cs cs0, boxE e = .box cs ∧ get σ.fr s = some (.box cs0)) ∧ ∀ e', e = some e' → tokE e' = true → tokK x.k = true := by
  unfold effI at h
  split at h
  · split at h
    · split at h
      · rename_i e' he
        simp only [Option.some.injEq] at h; subst h
        refine ⟨drawEff hd hm he, fun s hs => ?_, fun e'' h1 h2 => by injection h1 with h1; subst h1; exact drawTok hd he h2⟩
        cases e' <;> simp only [rootE, reduceCtorEq, Option.some.injEq] at hs
        subst hs
        obtain ⟨cs0, hb⟩ := sem_sto he
        exact ⟨_, cs0, rfl, (bxOf_get hb).1⟩
      · cases h
    · cases h
  · simp only [Option.some.injEq] at h; subst h
    exact ⟨trivial, (fun s hs => by simp [rootE] at hs), fun e' h1 _ => by cases h1⟩
  · cases h
theorem apartL_spec {x y : LIns} (h : apartL x y = true) : Quiet x y ∧ Quiet y x ∧ (isAppK x.k = true → isAppK y.k = true → False) ∧ (alK x.k = true → tokK y.k = true → False) ∧ (alK y.k = true → tokK x.k = true → False) := by
  unfold apartL at h
  simp only [Bool.and_eq_true, Bool.not_eq_true'] at h
  refine ⟨quietL_spec h.1.1.1.1, quietL_spec h.1.1.1.2, fun h1 h2 => ?_, fun h1 h2 => ?_, fun h1 h2 => ?_⟩
  · have := h.1.1.2
    rw [h1, h2] at this
    cases this
  · have := h.1.2
    rw [h1, h2] at this
    cases this
  · have := h.2
    rw [h1, h2] at this
    cases this
/-- Two that stand apart may change places. -/
theorem step_comm {call : Nat → List V → Option V} {x y : LIns} (h : apartL x y = true) (σ : St) : (stepI call x σ).bind (stepI call y) = (stepI call y σ).bind (stepI call x) := by
  obtain ⟨hxy, hyx, hap, hal, hal2⟩ := apartL_spec h
  rw [stepI_eff, stepI_eff]
  cases hx : effI call x σ with
  | none =>
    cases hy : effI call y σ with
    | none => rfl
    | some f =>
      obtain ⟨k1, k2, k3⟩ := effI_ok hyx.draw hyx.made hy
      simp only [Option.map_none, Option.bind_none, Option.map_some, Option.bind_some]
      rw [stepI_eff, effI_indep hyx hxy.draw (fun a b => hap b a) k1 k2, hx]
      rfl
  | some e =>
    obtain ⟨j1, j2, j3⟩ := effI_ok hxy.draw hxy.made hx
    simp only [Option.map_some, Option.bind_some]
    rw [stepI_eff, effI_indep hxy hyx.draw hap j1 j2]
    cases hy : effI call y σ with
    | none => rfl
    | some f =>
      obtain ⟨k1, k2, k3⟩ := effI_ok hyx.draw hyx.made hy
      simp only [Option.map_some, Option.bind_some]
      rw [stepI_eff, effI_indep hyx hxy.draw (fun a b => hap b a) k1 k2, hx, Option.map_some, applyO_comm j1 k1 hxy hyx hap hal hal2 j3 k3]

/-! ### By number -/
def stepIx (call : Nat → List V → Option V) (is : List LIns) : List Nat → St → Option St
  | [], σ => some σ
  | i :: r, σ => match is[i]? with
    | some l => (match stepI call l σ with
      | some σ' => stepIx call is r σ'
      | none => none)
    | none => none
theorem stepIx_append (call : Nat → List V → Option V) (is : List LIns) : ∀ (r s : List Nat) (σ : St), stepIx call is (r ++ s) σ = (stepIx call is r σ).bind (stepIx call is s)
  | [], s, σ => rfl
  | i :: r, s, σ => by
    simp only [List.cons_append, stepIx]
    split
    · split
      · exact stepIx_append call is r s _
      · rfl
    · rfl
theorem stepIx_first {call : Nat → List V → Option V} {is : List LIns} {i : Nat} {y : LIns} (hi : is[i]? = some y) : ∀ (r s : List Nat) (σ : St), (∀ k ∈ r, ∀ x, is[k]? = some x → apartL x y = true) →
    (∀ k ∈ r, k < is.length) → stepIx call is (r ++ i :: s) σ = stepIx call is (i :: (r ++ s)) σ
  | [], s, σ, _, _ => rfl
  | k :: r, s, σ, h, hl => by
    have hk : k < is.length := hl k (by simp)
    have hkk : is[k]? = some is[k] := List.getElem?_eq_getElem hk
    have hc := step_comm (call := call) (h k (by simp) _ hkk) σ
    simp only [List.cons_append]
    rw [stepIx, hkk]
    simp only
    have ih := fun σ => stepIx_first (call := call) hi r s σ (fun k hk => h k (by simp [hk])) (fun k hk => hl k (by simp [hk]))
    rw [stepIx, hi]
    simp only
    cases h1 : stepI call is[k] σ with
    | none =>
      rw [h1] at hc
      cases h2 : stepI call y σ with
      | none => rfl
      | some σ2 =>
        rw [h2] at hc
        simp only [Option.bind_none, Option.bind_some] at hc
        simp only [stepIx, hkk, ← hc]
    | some σ1 =>
      rw [h1] at hc
      simp only
      rw [ih]
      simp only [stepIx, hi]
      cases h2 : stepI call y σ with
      | none =>
        rw [h2] at hc
        simp only [Option.bind_none, Option.bind_some] at hc
        rw [hc]
      | some σ2 =>
        rw [h2] at hc
        simp only [Option.bind_some] at hc
        simp only [hkk, hc]
theorem stepL_ix (call : Nat → List V → Option V) (is : List LIns) : ∀ (l : List LIns) (k : Nat) (σ : St), (∀ j, l[j]? = is[k + j]?) → stepL call l σ = stepIx call is (List.range' k l.length) σ
  | [], k, σ, _ => rfl
  | x :: l, k, σ, h => by
    have h0 : is[k]? = some x := by simpa using (h 0).symm
    simp only [stepL, List.length_cons, List.range'_succ, stepIx, h0]
    cases stepI call x σ with
    | none => rfl
    | some σ' => exact stepL_ix call is l (k + 1) σ' (fun j => by have := h (j + 1); simpa [Nat.add_assoc, Nat.add_comm 1 j] using this)
end Go.Lo

/- Every order that a region may draw comes to the same as the written one. -/
namespace Go.Lo
section
variable {ops : Array Oper} {b : Array Nat} {is : List LIns}

def restOf (n : Nat) (listed : Array Bool) : List Nat := (List.range n).filter fun i => !listed.getD i true
/-- What is listed: whatever must come before is listed too. -/
def DownTo (ops : Array Oper) (listed : Array Bool) : Prop :=
  ∀ i o, ops[i]? = some o → listed.getD i true = true → ∀ e ∈ o.after, Region.binds .any e = true → listed.getD e.on false = true
theorem zipIdx_mem {α : Type} {l : List α} {i : Nat} {x : α} (h : l[i]? = some x) : (x, i) ∈ l.zipIdx := by
  rw [List.mem_iff_getElem?]
  exact ⟨i, by rw [List.getElem?_zipIdx, h]; simp⟩
theorem closedB_spec (h : closedB ops b = true) {i : Nat} {o : Oper} (ho : ops[i]? = some o) : (∀ e ∈ o.after, Region.binds .any e = true → e.on < i) ∧
    ∀ k, k < i → (b.getD i 0).testBit k = true → ∃ e ∈ o.after, Region.binds .any e = true ∧ (e.on = k ∨ (k < e.on ∧ (b.getD e.on 0).testBit k = true)) := by
  have h1 := List.all_eq_true.1 h (o, i) (zipIdx_mem (by simpa using ho))
  simp only [Bool.and_eq_true] at h1
  obtain ⟨h2, h3⟩ := h1
  refine ⟨fun e he hb => ?_, fun k hk ht => ?_⟩
  · have := Array.all_eq_true'.1 h2 e he
    rw [hb] at this
    simpa using this
  · have := List.all_eq_true.1 h3 k (List.mem_range.2 hk)
    rw [ht] at this
    simp only [Bool.not_true, Bool.false_or] at this
    obtain ⟨e, he, h4⟩ := Array.any_eq_true'.1 this
    simp only [Bool.and_eq_true, Bool.or_eq_true, beq_iff_eq, decide_eq_true_eq] at h4
    exact ⟨e, he, h4.1, h4.2⟩
theorem getD_size {listed : Array Bool} {i : Nat} (h : listed.getD i false = true) : i < listed.size ∧ listed.getD i true = true := by
  rcases Nat.lt_or_ge i listed.size with hi | hi
  · simp only [Array.getD, hi, dif_pos] at h ⊢
    exact ⟨trivial, h⟩
  · simp [Array.getD, Nat.not_lt.2 hi] at h
/-- Whatever comes before one that is ready is listed. -/
theorem before_listed (hc : closedB ops b = true) {listed : Array Bool} (hs : listed.size = ops.size) (hd : DownTo ops listed) : ∀ (i : Nat) {o : Oper}, ops[i]? = some o →
    (∀ e ∈ o.after, Region.binds .any e = true → listed.getD e.on false = true) → ∀ k, k < i → (b.getD i 0).testBit k = true → listed.getD k true = true := by
  intro i
  induction i using Nat.strongRecOn with
  | _ i ih =>
    intro o ho hall k hk ht
    obtain ⟨h1, h2⟩ := closedB_spec hc ho
    obtain ⟨e, he, hb, h3⟩ := h2 k hk ht
    obtain ⟨h4, h5⟩ := getD_size (hall e he hb)
    rcases h3 with rfl | ⟨h3, h6⟩
    · exact h5
    · have hlt : e.on < ops.size := by omega
      exact ih e.on (h1 e he hb) (Array.getElem?_eq_getElem hlt) (hd e.on _ (Array.getElem?_eq_getElem hlt) h5) k h3 h6
theorem drawOkL_spec (h : drawOkL b is = true) {i k : Nat} {x y : LIns} (hy : is[i]? = some y) (hx : is[k]? = some x) (hk : k < i) (ht : (b.getD i 0).testBit k = false) : apartL x y = true := by
  have h1 := List.all_eq_true.1 h (y, i) (zipIdx_mem hy)
  have h2 := List.all_eq_true.1 h1 (x, k) (zipIdx_mem hx)
  simp only [hk, ht, decide_true, Bool.not_false, Bool.and_self, if_true] at h2
  exact h2
theorem rest_split {n : Nat} {listed : Array Bool} {i : Nat} (hs : listed.size = n) (hi : i < n) (hu : listed.getD i true = false) :
    ∃ r s, restOf n listed = r ++ i :: s ∧ restOf n (listed.setIfInBounds i true) = r ++ s ∧ (∀ k ∈ r, k < i ∧ listed.getD k true = false) := by
  have hr : List.range n = List.range i ++ i :: List.range' (i + 1) (n - i - 1) := by
    rw [List.range_eq_range', List.range_eq_range', ← List.range'_succ]
    rw [show n - i - 1 + 1 = n - i by omega]
    have := List.range'_append (s := 0) (m := i) (n := n - i) (step := 1)
    simp only [Nat.one_mul, Nat.zero_add] at this
    rw [this]
    congr 1
    omega
  refine ⟨(List.range i).filter fun i => !listed.getD i true, (List.range' (i + 1) (n - i - 1)).filter fun i => !listed.getD i true, ?_, ?_, ?_⟩
  · unfold restOf
    rw [hr, List.filter_append, List.filter_cons_of_pos (by simp [hu])]
  · unfold restOf
    rw [hr, List.filter_append, List.filter_cons_of_neg (by simp [Array.getD, hs, hi])]
    congr 1
    · apply List.filter_congr
      intro j hj
      have := List.mem_range.1 hj
      rw [getD_set_ne true (by omega)]
    · apply List.filter_congr
      intro j hj
      have := List.mem_range'.1 hj
      rw [getD_set_ne true (by omega)]
  · intro k hk
    rw [List.mem_filter, List.mem_range] at hk
    exact ⟨hk.1, by simpa using hk.2⟩
theorem down_set {listed : Array Bool} {i : Nat} {o : Oper} (hd : DownTo ops listed) (_hs : listed.size = ops.size) (ho : ops[i]? = some o) (hall : ∀ e ∈ o.after, Region.binds .any e = true → listed.getD e.on false = true) :
    DownTo ops (listed.setIfInBounds i true) := by
  have key : ∀ j, listed.getD j false = true → (listed.setIfInBounds i true).getD j false = true := by
    intro j hj
    by_cases e : i = j
    · subst e
      obtain ⟨h1, _⟩ := getD_size hj
      simp [Array.getD, h1]
    · rw [getD_set_ne false e]; exact hj
  intro j p hp hl e he hb
  by_cases hij : i = j
  · subst hij
    rw [ho] at hp
    injection hp with hp; subst hp
    exact key _ (hall e he hb)
  · rw [getD_set_ne true hij] at hl
    exact key _ (hd j p hp hl e he hb)
theorem rest_length_set {n : Nat} {listed : Array Bool} {i : Nat} (hs : listed.size = n) (hi : i < n) (hu : listed.getD i true = false) : (restOf n (listed.setIfInBounds i true)).length + 1 = (restOf n listed).length := by
  obtain ⟨r, s, h1, h2, _⟩ := rest_split hs hi hu
  rw [h1, h2]; simp; omega
/-- The first that is not listed is ready. -/
theorem ready_some (hc : closedB ops b = true) {listed : Array Bool} (hs : listed.size = ops.size) (hne : restOf ops.size listed ≠ []) : Region.ready .any ops listed ≠ [] := by
  intro hr
  have hex : ∃ i, i < ops.size ∧ listed.getD i true = false := by
    obtain ⟨i, hi⟩ := List.exists_mem_of_ne_nil _ hne
    unfold restOf at hi
    rw [List.mem_filter, List.mem_range] at hi
    exact ⟨i, hi.1, by simpa using hi.2⟩
  have hmin : ∀ i, i < ops.size → listed.getD i true = false → False := by
    intro i
    induction i using Nat.strongRecOn with
    | _ i ih =>
      intro hi hu
      have : i ∈ Region.ready .any ops listed := mem_ready.2 ⟨hu, _, Array.getElem?_eq_getElem hi, fun e he hb => by
        have hlt := (closedB_spec hc (Array.getElem?_eq_getElem hi)).1 e he hb
        have hlt2 : e.on < listed.size := by omega
        cases hl : listed.getD e.on true with
        | false => exact (ih e.on hlt (by omega) hl).elim
        | true => simp only [Array.getD, hlt2, dif_pos] at hl ⊢; exact hl⟩
      rw [hr] at this
      cases this
  obtain ⟨i, h1, h2⟩ := hex
  exact hmin i h1 h2
theorem go_same {call : Nat → List V → Option V} (hc : closedB ops b = true) (hd : drawOkL b is = true) (hlen : is.length = ops.size) : ∀ (fuel t : Nat) (listed : Array Bool), listed.size = ops.size → DownTo ops listed → (restOf ops.size listed).length ≤ fuel →
    ∃ l, Region.linearise.go .any ops fuel t listed [] = l ∧ (∀ σ, stepIx call is l σ = stepIx call is (restOf ops.size listed) σ) ∧ l.Nodup ∧ ∀ i ∈ l, i < ops.size ∧ listed.getD i true = false := by
  intro fuel
  induction fuel with
  | zero =>
    intro t listed hs hdn hl
    have : restOf ops.size listed = [] := List.eq_nil_of_length_eq_zero (by omega)
    refine ⟨[], by simp [Region.linearise.go], fun σ => by rw [this], List.nodup_nil, by simp⟩
  | succ fuel ih =>
    intro t listed hs hdn hl
    simp only [Region.linearise.go]
    change ∃ l, (match (Region.ready .any ops listed)[t % (Region.ready .any ops listed).length]? with
      | some i => Region.linearise.go .any ops fuel (t / (Region.ready .any ops listed).length) (listed.setIfInBounds i true) [i]
      | none => [].reverse) = l ∧ _
    cases hi : (Region.ready .any ops listed)[t % (Region.ready .any ops listed).length]? with
    | none =>
      have hnil : Region.ready .any ops listed = [] := by
        cases hr : Region.ready .any ops listed with
        | nil => rfl
        | cons x xs =>
          rw [hr] at hi
          have hlt : t % (x :: xs).length < (x :: xs).length := Nat.mod_lt _ (by simp)
          simp at hi
          simp at hlt
          omega
      have : restOf ops.size listed = [] := by
        apply Decidable.byContradiction
        intro hne
        exact ready_some hc hs hne hnil
      exact ⟨[], rfl, fun σ => by rw [this], List.nodup_nil, by simp⟩
    | some i =>
      simp only
      obtain ⟨hu, o, ho, hall⟩ := mem_ready.1 (List.mem_of_getElem? hi)
      have hilt : i < ops.size := (Array.getElem?_eq_some_iff.1 ho).1
      obtain ⟨r, s, h1, h2, h3⟩ := rest_split hs hilt hu
      obtain ⟨l, e1, e2, e3, e4⟩ := ih (t / (Region.ready .any ops listed).length) (listed.setIfInBounds i true) (by simpa using hs) (down_set hdn hs ho hall) (by
        have := rest_length_set hs hilt hu
        omega)
      have hy : is[i]? = some is[i] := List.getElem?_eq_getElem (by omega)
      refine ⟨i :: l, by rw [linearise_go_acc, e1]; rfl, fun σ => ?_, ?_, ?_⟩
      · rw [h1, stepIx_first hy r s σ (fun k hk x hx => ?_) (fun k hk => by have := (h3 k hk).1; omega)]
        · simp only [stepIx, hy]
          cases stepI call is[i] σ with
          | none => rfl
          | some σ' => simp only; rw [e2, h2]
        · refine drawOkL_spec hd hy hx (h3 k hk).1 ?_
          cases ht : (b.getD i 0).testBit k with
          | false => rfl
          | true =>
            have := before_listed hc hs hdn i ho hall k (h3 k hk).1 ht
            rw [(h3 k hk).2] at this
            cases this
      · rw [List.nodup_cons]
        refine ⟨fun hm => ?_, e3⟩
        have := (e4 i hm).2
        simp [Array.getD, hs, hilt] at this
      · intro j hj
        rcases List.mem_cons.1 hj with rfl | hj
        · exact ⟨hilt, hu⟩
        · obtain ⟨h5, h6⟩ := e4 j hj
          refine ⟨h5, ?_⟩
          by_cases e : i = j
          · subst e; simp [Array.getD, hs, hilt] at h6
          · rw [getD_set_ne true e] at h6; exact h6
/-- A drawn order: every operation once, and it comes to the same. -/
theorem linearise_same {call : Nat → List V → Option V} (hc : closedB ops b = true) (hd : drawOkL b is = true) (hlen : is.length = ops.size) (t : Nat) :
    (∀ σ, stepIx call is (Region.linearise .any ops t) σ = stepL call is σ) ∧ (Region.linearise .any ops t).Nodup ∧ ∀ i ∈ Region.linearise .any ops t, i < ops.size := by
  have hun : ∀ i, i < ops.size → (Array.replicate ops.size false).getD i true = false := fun i hi => by simp [Array.getD, hi]
  have hrest : restOf ops.size (Array.replicate ops.size false) = List.range ops.size := by
    unfold restOf
    rw [List.filter_eq_self]
    intro i hi
    rw [hun i (List.mem_range.1 hi)]; rfl
  obtain ⟨l, e1, e2, e3, e4⟩ := go_same (call := call) hc hd hlen ops.size t (Array.replicate ops.size false) (by simp) (fun i o ho hl => by
    have hi : i < ops.size := (Array.getElem?_eq_some_iff.1 ho).1
    rw [hun i hi] at hl
    cases hl) (by rw [hrest]; simp)
  unfold Region.linearise
  rw [e1]
  refine ⟨fun σ => ?_, e3, fun i hi => (e4 i hi).1⟩
  rw [e2, hrest, stepL_ix call is is 0 σ (by simp), hlen, List.range_eq_range']
end
end Go.Lo

/- Regions. -/
namespace Go.Lo
section
variable {P : Program} {X : Sc} {w0 w : World} {Ω : Own} {a : Act} {σ σ' : St} {o : Oper} {call : Nat → List V → Option V} {ops : Array Oper} {b : Array Nat} {draw da : Bool}

/-! ### What was yielded grows -/
def TrLe (σ σ' : St) : Prop := ∃ m, σ'.tr = σ.tr.map (· ++ m)
theorem TrLe.refl (σ : St) : TrLe σ σ := ⟨[], by cases h : σ.tr <;> simp⟩
theorem TrLe.of {σ σ' : St} (h : σ'.tr = σ.tr) : TrLe σ σ' := ⟨[], by rw [h]; cases h : σ.tr <;> simp⟩
theorem TrLe.trans {σ σ1 σ2 : St} (h : TrLe σ σ1) (k : TrLe σ1 σ2) : TrLe σ σ2 := by
  obtain ⟨m, h⟩ := h
  obtain ⟨m', k⟩ := k
  refine ⟨m ++ m', ?_⟩
  rw [k, h]
  cases σ.tr <;> simp
theorem TrLe.none {σ σ' : St} (h : TrLe σ σ') (hn : σ.tr = none) : σ'.tr = none := by
  obtain ⟨m, h⟩ := h
  rw [h, hn]; rfl
theorem TrLe.upTo {σ σ' : St} (h : TrLe σ σ') {T : List (List V)} (hT : UpTo T σ') : UpTo T σ := fun l hl => by
  obtain ⟨m, h⟩ := h
  rw [hl] at h
  exact (List.prefix_append l m).trans (hT _ h)
theorem prep_tr (lp : Bool) (ds : List Nat) (σ : St) : (prep lp ds σ).tr = σ.tr := by
  cases lp <;> cases ds <;> rfl
theorem apply_tr (σ : St) (d : Option Nat) (e : Eff) : TrLe σ (apply σ d e) := by
  cases e with
  | yld a as ps => exact ⟨[as], rfl⟩
  | mkp v d n => exact .of (by simp only [apply]; exact prep_tr _ _ _)
  | _ => exact .of rfl
theorem stepI_tr {i : LIns} (h : stepI call i σ = some σ') : TrLe σ σ' := by
  unfold stepI at h
  split at h
  · split at h
    · split at h
      · simp only [Option.some.injEq] at h; subst h; exact apply_tr _ _ _
      · cases h
    · cases h
  · simp only [Option.some.injEq] at h; subst h; exact .of rfl
  · cases h
theorem stepIx_tr {is : List LIns} : ∀ {l : List Nat} {σ σ' : St}, stepIx call is l σ = some σ' → TrLe σ σ'
  | [], σ, σ', h => by simp only [stepIx, Option.some.injEq] at h; subst h; exact .refl _
  | i :: l, σ, σ', h => by
    simp only [stepIx] at h
    split at h
    · split at h
      · rename_i σ1 h1
        exact (stepI_tr h1).trans (stepIx_tr h)
      · cases h
    · cases h
theorem stepL_tr : ∀ {is : List LIns} {σ σ' : St}, stepL call is σ = some σ' → TrLe σ σ'
  | [], σ, σ', h => by simp only [stepL, Option.some.injEq] at h; subst h; exact .refl _
  | i :: is, σ, σ', h => by
    simp only [stepL] at h
    split at h
    · rename_i σ1 h1
      exact (stepI_tr h1).trans (stepL_tr h)
    · cases h

theorem insC_k (i : Nat) : insC P ops b draw da o i = badI ∨ ∃ k xs ys g, opC P o.op (if isAppend o = true then da else draw) (aliasC P 12 o.type) (makes P o) (if draw then storeRoot ops o else truncRoot ops o) = some (k, xs) ∧ opdsC xs = some ys ∧ guardC ops o = some g ∧
    insC P ops b draw da o i = { dst := o.dst, k := k, xs := ys, guard := g, ex := if draw then exOf ops b i else [] } ∧ (makes P o = true → ∃ d, o.dst = some d) := by
  unfold insC
  split
  · exact .inl rfl
  · rename_i hm
    split
    · rename_i k' xs hop
      split
      · exact .inl rfl
      · rename_i ys hys
        split
        · rename_i g hg
          refine .inr ⟨k', xs, ys, g, hop, hys, hg, rfl, fun hmk => ?_⟩
          cases hd : o.dst with
          | none => exact (hm ⟨hmk, hd⟩).elim
          | some d => exact ⟨d, rfl⟩
        · exact .inl rfl
    · exact .inl rfl
theorem guard_sound (h : Inv X w0 Ω w a.tmps σ) {g : Option (Nat × Bool)} (hg : guardC ops o = some g) {c : Bool} (hw : wanted σ.fr g = some c) : Region.wanted o (yielded ops a.tmps) = c := by
  unfold guardC at hg
  unfold Region.wanted
  split at hg
  · rename_i hgu
    rw [hgu]
    simp only [Option.some.injEq] at hg; subst hg
    simp only [wanted, Option.some.injEq] at hw
    exact hw
  · rename_i i wt hgu
    rw [hgu]
    split at hg
    · rename_i p hp
      split at hg
      · rename_i d hd
        simp only [Option.some.injEq] at hg; subst hg
        simp only [wanted] at hw
        have hy : ∀ v, get σ.fr d = some v → ∃ x, a.tmps[d]? = some x ∧ DenS Ω w d v x := fun v hv => by
          obtain ⟨h1, h2⟩ := h.slot d v hv
          refine ⟨a.tmps[d], Array.getElem?_eq_getElem h1, ?_⟩
          simpa [Array.getD, h1] using h2
        split at hw
        · rename_i c' hc
          obtain ⟨x, h1, h2⟩ := hy _ hc
          simp only [DenS, Den] at h2
          subst h2
          simp only [Option.some.injEq] at hw; subst hw
          simp only [yielded, hp, hd, Option.bind_some, h1]
          cases c' <;> cases wt <;> rfl
        · rename_i hc
          obtain ⟨x, h1, h2⟩ := hy _ hc
          simp only [DenS, Den] at h2
          subst h2
          simp only [Option.some.injEq] at hw; subst hw
          simp only [yielded, hp, hd, Option.bind_some, h1]
          rfl
        · cases hw
      · cases hg
    · cases hg
/-- What follows an operation. -/
def Next1 (P : Program) (X : Sc) (w0 : World) (Ω : Own) (a : Act) (o : Oper) (σ' : St) (K : Act → World → Prop) : Prop :=
  ∀ a' w' Ω', a'.tmps.size = a.tmps.size → a'.defers = a.defers → (∀ k, o.dst ≠ some k → a'.tmps.getD k undef = a.tmps.getD k undef) → Inv X w0 Ω' w' a'.tmps σ' → (∀ d, Fresh Ω d → (makes P o = true → o.dst ≠ some d) → Fresh Ω' d) → K a' w'
theorem put_size (a : Act) (dst : Option Nat) (x : Value) : (a.put dst x).tmps.size = a.tmps.size := by cases dst <;> simp [Act.put]
theorem put_keeps (a : Act) (dst : Option Nat) (x : Value) (k : Nat) (h : dst ≠ some k) : (a.put dst x).tmps.getD k undef = a.tmps.getD k undef := by
  cases dst with
  | none => rfl
  | some d => simp only [Act.put]; exact getD_set_other (fun e => h (by rw [e]))
theorem put_defers (a : Act) (dst : Option Nat) (x : Value) : (a.put dst x).defers = a.defers := by cases dst <;> rfl
theorem needs_da : needs P (if isAppend o = true then da else draw) o = needs P da o := by
  unfold needs
  cases isAppend o <;> simp
theorem wpOp_step {ro : Option Nat} {n i : Nat} {K : Act → World → Prop} {Q : Exit → Act → World → Prop} {T : List (List V)} (hY : YieldOk P X w0 T) (hT : UpTo T σ') (hcall : CallsOk P call) (h : Inv X w0 Ω w a.tmps σ) (ho : ops[i]? = some o) (hst : stepI call (insC P ops b draw da o i) σ = some σ')
    (hdst : ∀ d, (insC P ops b draw da o i).dst = some d → d < a.tmps.size) (hfr : needs P da o = true → ∀ d, o.dst = some d → Fresh Ω d) (hK : Next1 P X w0 Ω a o σ' K) : wpOpIn (wideR ro) n P ops Q i K a w := by
  rcases insC_k (P := P) (ops := ops) (b := b) (draw := draw) (da := da) (o := o) i with hbad | ⟨k, xs, ys, g, h1, h2, h3, h4, h5⟩
  · rw [hbad] at hst
    simp only [stepI, badI, wanted, opds, sem] at hst
    cases hst
  · rw [h4] at hst hdst
    simp only at hdst
    unfold stepI at hst
    simp only at hst
    unfold wpOpIn
    simp only [ho]
    split at hst
    · rename_i hw
      rw [guard_sound h h3 hw]
      simp only [if_true]
      split at hst
      · rename_i vs hvs
        split at hst
        · rename_i e he
          simp only [Option.some.injEq] at hst; subst hst
          have hs := op_sound hY hcall h hdst h1 h2 hvs he h5 (fun hn => hfr (by rw [← needs_da (draw := draw)]; exact hn)) hT
          exact hs ro n K Q fun x w' Ω' hi hf => hK _ w' Ω' (put_size _ _ _) (put_defers _ _ _) (put_keeps _ _ _) hi hf
        · cases hst
      · cases hst
    · rename_i hw
      rw [guard_sound h h3 hw]
      simp only [Bool.false_eq_true, if_false]
      simp only [Option.some.injEq] at hst; subst hst
      exact ⟨fun _ _ => trivial, hK _ w Ω (put_size _ _ _) (put_defers _ _ _) (put_keeps _ _ _) (h.putO hdst (by simp [Den]) a rfl) (fun _ hf _ => hf)⟩
    · cases hst

/-! ### Regions -/
theorem insCL_get (draw da : Bool) : ∀ (l : List Oper) (j i : Nat) (o : Oper), l[i]? = some o → (insCL P ops b draw da l j)[i]? = some (insC P ops b draw da o (j + i))
  | [], j, i, o, h => by simp at h
  | x :: l, j, 0, o, h => by
    simp only [List.getElem?_cons_zero, Option.some.injEq] at h; subst h
    simp [insCL]
  | x :: l, j, i + 1, o, h => by
    simp only [List.getElem?_cons_succ] at h
    simp only [insCL, List.getElem?_cons_succ]
    rw [insCL_get draw da l (j + 1) i o h]
    congr 2
    omega
theorem insCL_length (draw da : Bool) : ∀ (l : List Oper) (j : Nat), (insCL P ops b draw da l j).length = l.length
  | [], _ => rfl
  | x :: l, j => by simp [insCL, insCL_length draw da l (j + 1)]
/-- What is made by the operations that are still to come is not there yet. -/
def FreshIx (P : Program) (da : Bool) (ops : Array Oper) (Ω : Own) (l : List Nat) : Prop := ∀ i ∈ l, ∀ o d, ops[i]? = some o → needs P da o = true → o.dst = some d → Fresh Ω d
/-- What follows a region. -/
def NextR (X : Sc) (w0 : World) (Ω : Own) (a : Act) (σ' : St) (ks ds : List Nat) (K : Act → World → Prop) : Prop :=
  ∀ a' w' Ω', a'.tmps.size = a.tmps.size → a'.defers = a.defers → (∀ k, k ∉ ks → a'.tmps.getD k undef = a.tmps.getD k undef) → Inv X w0 Ω' w' a'.tmps σ' → (∀ d, Fresh Ω d → d ∉ ds → Fresh Ω' d) → K a' w'
theorem needs_makes {o : Oper} (h : needs P da o = true) : makes P o = true := by
  unfold needs at h
  simp only [Bool.and_eq_true] at h
  exact h.1
theorem ppOf_mem {l : List Oper} {d : Nat} : d ∈ ppOf P da l ↔ ∃ o ∈ l, needs P da o = true ∧ o.dst = some d := by
  unfold ppOf
  rw [List.mem_filterMap]
  constructor
  · rintro ⟨o, ho, h⟩
    split at h
    · exact ⟨o, ho, by assumption, h⟩
    · cases h
  · rintro ⟨o, ho, h1, h2⟩
    exact ⟨o, ho, by rw [if_pos h1, h2]⟩
theorem distinct_nodup : ∀ {l : List Nat}, distinctN l = true → l.Nodup
  | [], _ => List.nodup_nil
  | d :: l, h => by
    simp only [distinctN] at h
    split at h
    · cases h
    · rename_i hm
      rw [List.nodup_cons]
      exact ⟨fun hd => hm (memN_self hd), distinct_nodup h⟩
theorem dsOf_mem {l : List Oper} {d : Nat} : d ∈ dsOf P l ↔ ∃ o ∈ l, makes P o = true ∧ o.dst = some d := by
  unfold dsOf
  rw [List.mem_filterMap]
  constructor
  · rintro ⟨o, ho, h⟩
    split at h
    · exact ⟨o, ho, by assumption, h⟩
    · cases h
  · rintro ⟨o, ho, h1, h2⟩
    exact ⟨o, ho, by rw [if_pos h1, h2]⟩
/-- The slots of what is made are all different. -/
theorem ds_inj : ∀ {l : List Oper}, (dsOf P l).Nodup → ∀ {i j : Nat} {o p : Oper} {d : Nat}, l[i]? = some o → l[j]? = some p → makes P o = true → makes P p = true → o.dst = some d → p.dst = some d → i = j
  | [], _, i, j, o, p, d, hi, _, _, _, _, _ => by simp at hi
  | x :: l, hn, i, j, o, p, d, hi, hj, h1, h2, h3, h4 => by
    have hcons : makes P x = true → ∀ d, x.dst = some d → d ∉ dsOf P l ∧ (dsOf P l).Nodup := fun hx d hd => by
      simp only [dsOf, List.filterMap_cons, hx, if_true, hd, List.nodup_cons] at hn
      exact hn
    have htail : (dsOf P l).Nodup := by
      unfold dsOf at hn ⊢
      rw [List.filterMap_cons] at hn
      split at hn
      · exact hn
      · exact (List.nodup_cons.1 hn).2
    cases i with
    | zero =>
      simp only [List.getElem?_cons_zero, Option.some.injEq] at hi; subst hi
      cases j with
      | zero => rfl
      | succ j =>
        simp only [List.getElem?_cons_succ] at hj
        exact ((hcons h1 d h3).1 (dsOf_mem.2 ⟨p, List.mem_of_getElem? hj, h2, h4⟩)).elim
    | succ i =>
      simp only [List.getElem?_cons_succ] at hi
      cases j with
      | zero =>
        simp only [List.getElem?_cons_zero, Option.some.injEq] at hj; subst hj
        exact ((hcons h2 d h4).1 (dsOf_mem.2 ⟨o, List.mem_of_getElem? hi, h1, h3⟩)).elim
      | succ j =>
        simp only [List.getElem?_cons_succ] at hj
        rw [ds_inj htail hi hj h1 h2 h3 h4]
theorem wpOps_sound {ro : Option Nat} {n : Nat} {Q : Exit → Act → World → Prop} {T : List (List V)} (hY : YieldOk P X w0 T) (hcall : CallsOk P call) (hds : (dsOf P ops.toList).Nodup) {ks : List Nat} (hks : ∀ li ∈ insCL P ops b draw da ops.toList 0, ∀ d, li.dst = some d → d ∈ ks) : ∀ (l : List Nat) (a : Act) (w : World) (Ω : Own) (σ σ' : St), l.Nodup → UpTo T σ' → Inv X w0 Ω w a.tmps σ →
    stepIx call (insCL P ops b draw da ops.toList 0) l σ = some σ' → (∀ li ∈ insCL P ops b draw da ops.toList 0, ∀ d, li.dst = some d → d < a.tmps.size) → FreshIx P da ops Ω l → NextR X w0 Ω a σ' ks (dsOf P ops.toList) (Q .normal) → wpOpsIn (wideR ro) n P ops Q l a w
  | [], a, w, Ω, σ, σ', _, _, h, hst, _, _, hK => by
    simp only [stepIx, Option.some.injEq] at hst; subst hst
    exact hK a w Ω rfl rfl (fun _ _ => rfl) h (fun _ hf _ => hf)
  | i :: l, a, w, Ω, σ, σ', hn, hT, h, hst, hdst, hfr, hK => by
    rw [wpOpsIn_cons]
    simp only [stepIx] at hst
    split at hst
    · rename_i li hli
      have hilt : i < ops.size := by
        have := (List.getElem?_eq_some_iff.1 hli).1
        rw [insCL_length] at this
        simpa using this
      have ho : ops[i]? = some ops[i] := Array.getElem?_eq_getElem hilt
      have hli' := insCL_get (P := P) (ops := ops) (b := b) draw da ops.toList 0 i ops[i] (by simp)
      rw [Nat.zero_add] at hli'
      rw [hli'] at hli
      injection hli with hli; subst hli
      split at hst
      · rename_i σ1 h1
        have hmem : ops[i] ∈ ops.toList := by simp
        refine wpOp_step hY ((stepIx_tr hst).upTo hT) hcall h ho h1 (hdst _ (List.mem_of_getElem? hli')) (fun hm d hd => hfr i (by simp) _ d ho hm hd) ?_
        intro a' w' Ω' hsz hdf htm hinv hfresh
        have hn' := List.nodup_cons.1 hn
        refine wpOps_sound hY hcall hds hks l a' w' Ω' σ1 σ' hn'.2 hT hinv hst (fun o ho d hd => by rw [hsz]; exact hdst o ho d hd) (fun j hj p d hp hm hd => ?_) ?_
        · refine hfresh d (hfr j (by simp [hj]) p d hp hm hd) (fun hm' hd' => ?_)
          have := ds_inj hds (i := i) (j := j) (by simp) (by simpa using hp) hm' (needs_makes hm) hd' hd
          exact hn'.1 (this ▸ hj)
        · intro a'' w'' Ω'' hsz' hdf' htm' hinv' hf'
          refine hK a'' w'' Ω'' (hsz'.trans hsz) (hdf'.trans hdf) (fun k hk => (htm' k hk).trans (htm k fun e => hk (hks _ (List.mem_of_getElem? hli') k (by
            rcases insC_k (P := P) (ops := ops) (b := b) (draw := draw) (da := da) (o := ops[i]) i with hbad | ⟨_, _, _, _, _, _, _, h4, _⟩
            · rw [hbad] at h1
              simp only [stepI, badI, wanted, opds, sem] at h1
              cases h1
            · rw [h4]; exact e)))) hinv' (fun d hf hnd => hf' d (hfresh d hf (fun hm hd => hnd (dsOf_mem.2 ⟨_, hmem, hm, hd⟩))) hnd)
      · cases hst
    · cases hst
theorem inv_keep {tm : Array Value} (h : Inv X w0 Ω w tm σ) (kn : Nat) (kp : List Nat) : Inv X w0 Ω w tm { σ with fr := keepL kn kp σ.fr } where
  kept := h.kept
  ownB := h.ownB
  ownA := h.ownA
  bnd := h.bnd
  uniq := h.uniq
  limB := h.limB
  slot s v hs := h.slot s v (get_keepL hs)
  tok := h.tok
  old := h.old
  out := h.out
/-- A region. -/
theorem region_sound {ro : Option Nat} {n id : Nat} {Q : Exit → Act → World → Prop} {T : List (List V)} (hY : YieldOk P X w0 T) (hT : UpTo T σ') (hcall : CallsOk P call) (hmix : P.follows .mixedOrders = true) {lp : Bool} {kn : Nat} {kp : List Nat} {lc : LCode} (hc : regC P lp kn kp ops draw = some lc) (h : Inv X w0 Ω w a.tmps σ) {N : Nat} {ex : Ex}
    (hev : evC call N lc σ = some (ex, σ')) (hdst : ∀ d ∈ dstsC lc, d < a.tmps.size) (hfr : ∀ d ∈ onceC lc, Fresh Ω d)
    (hK : ex = .normal → NextR X w0 Ω a σ' (dstsC lc) (onceC lc ++ loopC lc) (Q .normal)) : (Code.region id ops draw).wpIn (wideR ro) n P Q a w := by
  unfold regC at hc
  generalize hb : (if draw = true then Region.before ops else #[]) = b at hc
  simp only at hc
  generalize drawsApp ops b draw = da at hc
  split at hc
  · rename_i hchk
    obtain ⟨hdraw, hdis⟩ := hchk
    simp only [Option.some.injEq] at hc; subst hc
    have hnd := distinct_nodup hdis
    simp only [evC] at hev
    split at hev
    · rename_i σ1 h1
      simp only [Option.some.injEq, Prod.mk.injEq] at hev
      obtain ⟨rfl, rfl⟩ := hev
      have hK := hK rfl
      have hdst' : ∀ li ∈ insCL P ops b draw da ops.toList 0, ∀ d, li.dst = some d → d < a.tmps.size := fun li hli d hd =>
        hdst d (by simp only [dstsC]; exact List.mem_filterMap.2 ⟨li, hli, hd⟩)
      -- the state behind the start
      obtain ⟨Ω1, hinv, hfresh, hkeep⟩ : ∃ Ω1, Inv X w0 Ω1 w a.tmps (prep lp (ppOf P da ops.toList) σ) ∧ (∀ d ∈ ppOf P da ops.toList, Fresh Ω1 d) ∧ ∀ d, Fresh Ω d → Fresh Ω1 d := by
        cases lp with
        | false =>
          refine ⟨Ω, h, fun d hd => hfr d (by
            obtain ⟨o, ho, hm, hdd⟩ := ppOf_mem.1 hd
            simpa [onceC] using dsOf_mem.2 ⟨o, ho, needs_makes hm, hdd⟩), fun _ hf => hf⟩
        | true =>
          generalize ppOf P da ops.toList = pp
          cases pp with
          | nil => exact ⟨Ω, h, (fun d hd => by cases hd), fun _ hf => hf⟩
          | cons p0 pp =>
          refine ⟨Ω.prep (p0 :: pp), h.prep _, fun d hd => fresh_prep (memN_self hd), fun d hf => ⟨fun b hb => hf.1 b (prep_box hb).1, fun b t p e hb => hf.2 b t p e (prep_arr hb).1⟩⟩
      have hmem : ∀ d, d ∉ onceC (.reg lp (dsOf P ops.toList) (ppOf P da ops.toList) (insCL P ops b draw da ops.toList 0) kn kp) ++ loopC (.reg lp (dsOf P ops.toList) (ppOf P da ops.toList) (insCL P ops b draw da ops.toList 0) kn kp) → d ∉ dsOf P ops.toList := by
        intro d hd hm
        apply hd
        cases lp <;> simp [onceC, loopC, hm]
      have go : ∀ (l : List Nat) (w' : World), l.Nodup → (∀ i ∈ l, i < ops.size) → stepIx call (insCL P ops b draw da ops.toList 0) l (prep lp (ppOf P da ops.toList) σ) = some σ1 → Inv X w0 Ω1 w' a.tmps (prep lp (ppOf P da ops.toList) σ) → wpOpsIn (wideR ro) n P ops Q l a w' := by
        intro l w' hl hlt hst hi
        refine wpOps_sound hY hcall hnd (ks := (insCL P ops b draw da ops.toList 0).filterMap (·.dst)) (fun li hli d hd => List.mem_filterMap.2 ⟨li, hli, hd⟩) l a w' Ω1 _ σ1 hl hT hi hst hdst' (fun i _ o d ho hm hd => hfresh d (ppOf_mem.2 ⟨o, List.mem_of_getElem? (i := i) (by rw [Array.getElem?_toList]; exact ho), hm, hd⟩)) ?_
        intro a' w' Ω' hsz hdf htm hinv' hf'
        exact hK a' w' Ω' hsz hdf htm (inv_keep hinv' kn kp) (fun d hf hd => hf' d (hkeep d hf) (hmem d hd))
      cases draw with
      | false =>
        refine wpIn_region (go _ w List.nodup_range (fun i hi => List.mem_range.1 hi) ?_ hinv)
        rw [stepL_ix call (insCL P ops b false da ops.toList 0) _ 0 _ (by simp), insCL_length, ← List.range_eq_range', Array.length_toList] at h1
        exact h1
      | true =>
        obtain ⟨hd1, hd2⟩ := hdraw rfl
        refine wpIn_region_draw fun t => ?_
        simp only [Region.schedule, hmix, Bool.true_or, if_true]
        obtain ⟨g1, g2, g3⟩ := linearise_same (call := call) hd2 hd1 (by rw [insCL_length, Array.length_toList]) t
        refine go _ _ g2 g3 ?_ ?_
        · rw [g1]; exact h1
        · exact hinv.drew 1
    · cases hev
  · cases hc
end
end Go.Lo

/- Ranges over functions: steps, scopes, rounds. -/
namespace Go.Lo
section
variable {P : Program} {X : Sc} {w0 w w' w'' : World} {Ω Ω' Ω'' : Own} {tm : Array Value} {σ : St}

/-! ### Steps -/
theorem Stp0.mine (h : Stp0 Ω Ω' w w') {b : Nat} (hb : Ω'.mine b) (hlt : b < w.heap.size) : Ω.mine b := by
  apply Classical.byContradiction
  intro hn
  obtain ⟨h1, _⟩ := h.same b hlt hn
  unfold Own.mine at hb hn
  rw [h1] at hb
  exact hn hb
theorem Stp.refl (hb : ∀ b, Ω.o b ≠ .out → b < w.heap.size) : Stp Ω Ω w w :=
  ⟨⟨rfl, rfl, rfl, Nat.le_refl _, fun _ _ _ => rfl, fun _ _ _ => ⟨rfl, rfl⟩⟩, ⟨fun _ h => h, fun _ _ => Nat.le_refl _, fun _ _ _ _ => rfl⟩, hb, rfl, hb⟩
theorem ExtM.trans (h : ExtM Ω Ω' w w') (k : ExtM Ω' Ω'' w' w'') : ExtM Ω Ω'' w w'' :=
  ⟨fun b hb => k.froz b (h.froz b hb), fun b hb => Nat.le_trans (h.lim b hb) (k.lim b (h.froz b hb)), fun b off hb hl =>
    (k.cell b off (h.froz b hb) (Nat.lt_of_lt_of_le hl (h.lim b hb))).trans (h.cell b off hb hl)⟩
theorem Stp.trans (h : Stp Ω Ω' w w') (k : Stp Ω' Ω'' w' w'') : Stp Ω Ω'' w w'' where
  s := by
    refine ⟨k.s.os.trans h.s.os, k.s.tape.trans h.s.tape, k.s.output.trans h.s.output, Nat.le_trans h.s.size k.s.size, fun b hlt hm => ?_, fun b hlt hm => ?_⟩
    · rw [k.s.block b (Nat.lt_of_lt_of_le hlt h.s.size) (fun hn => hm (h.s.mine hn hlt)), h.s.block b hlt hm]
    · obtain ⟨a1, a2⟩ := h.s.same b hlt hm
      obtain ⟨b1, b2⟩ := k.s.same b (Nat.lt_of_lt_of_le hlt h.s.size) (fun hn => hm (h.s.mine hn hlt))
      exact ⟨b1.trans a1, b2.trans a2⟩
  m := h.m.trans k.m
  bnd := k.bnd
  yl := k.yl.trans h.yl
  bnd0 := h.bnd0
/-- The same, but for the record l. -/
structure StpX (l : Nat) (Ω Ω' : Own) (w w' : World) : Prop where
  os : w'.os = w.os
  tape : w'.tape = w.tape
  output : w'.output = w.output
  size : w.heap.size ≤ w'.heap.size
  block : ∀ b, b < w.heap.size → ¬ Ω.mine b → b ≠ l → w'.heap[b]? = w.heap[b]?
  same : ∀ b, b < w.heap.size → ¬ Ω.mine b → Ω'.o b = Ω.o b ∧ Ω'.lim b = Ω.lim b
  m : ExtM Ω Ω' w w'
theorem Stp.toX (h : Stp Ω Ω' w w') (l : Nat) : StpX l Ω Ω' w w' :=
  ⟨h.s.os, h.s.tape, h.s.output, h.s.size, fun b hlt hm _ => h.s.block b hlt hm, h.s.same, h.m⟩
theorem StpX.mine {l : Nat} (h : StpX l Ω Ω' w w') {b : Nat} (hb : Ω'.mine b) (hlt : b < w.heap.size) : Ω.mine b := by
  apply Classical.byContradiction
  intro hn
  obtain ⟨h1, _⟩ := h.same b hlt hn
  unfold Own.mine at hb hn
  rw [h1] at hb
  exact hn hb
theorem StpX.trans {l : Nat} (h : StpX l Ω Ω' w w') (k : StpX l Ω' Ω'' w' w'') : StpX l Ω Ω'' w w'' where
  os := k.os.trans h.os
  tape := k.tape.trans h.tape
  output := k.output.trans h.output
  size := Nat.le_trans h.size k.size
  block b hlt hm hl := by rw [k.block b (Nat.lt_of_lt_of_le hlt h.size) (fun hn => hm (h.mine hn hlt)) hl, h.block b hlt hm hl]
  same b hlt hm := by
    obtain ⟨a1, a2⟩ := h.same b hlt hm
    obtain ⟨b1, b2⟩ := k.same b (Nat.lt_of_lt_of_le hlt h.size) (fun hn => hm (h.mine hn hlt))
    exact ⟨b1.trans a1, b2.trans a2⟩
  m := h.m.trans k.m
theorem putObj_cell {l b off : Nat} {o : Obj} (h : b ≠ l) : (w.putObj l o).cell? ⟨b, off, none⟩ = w.cell? ⟨b, off, none⟩ :=
  World.cell?_of_block (World.putObj_heap_other h)
theorem StpX.put {l : Nat} {o : Obj} (hl : Ω.o l = .out) : StpX l Ω Ω w (w.putObj l o) :=
  ⟨rfl, rfl, rfl, by simp, fun b _ _ hb => World.putObj_heap_other hb, fun _ _ _ => ⟨rfl, rfl⟩, ⟨fun _ h => h, fun _ _ => Nat.le_refl _, fun b off hb _ => putObj_cell (fun e => by
    subst e; exact Own.froz_ne hb hl)⟩⟩

/-! ### Scopes -/
/-- From here on. -/
def Sc.rb (X : Sc) (Ω : Own) (w : World) : Sc where
  x := Ω.mine
  o := Ω.o
  lim := Ω.lim
  j tr Ω' w' := X.j tr Ω' w' ∧ Stp Ω Ω' w w'
  st h s := ⟨X.st h.1 s, h.2.trans s⟩
theorem Inv.rb (h : Inv X w0 Ω w tm σ) : Inv (X.rb Ω w) w Ω w tm σ where
  kept := Kept.refl _ _
  ownB _ s hb := .inr (.inl ⟨s, hb⟩)
  ownA _ t p hb := .inr (.inr ⟨t, p, hb⟩)
  bnd := h.bnd
  uniq := h.uniq
  limB := h.limB
  slot := h.slot
  tok := h.tok
  old _ _ _ := ⟨rfl, rfl⟩
  out := ⟨h.out, Stp.refl h.bnd⟩
theorem Inv.unrb {tm' : Array Value} {σ' : St} (h : Inv X w0 Ω w tm σ) (k : Inv (X.rb Ω w) w Ω' w' tm' σ') : Inv X w0 Ω' w' tm' σ' := by
  have hx : ∀ b, b < w0.heap.size → ¬ X.x b → ¬ Ω.mine b := fun b hb hX hm => by
    rcases hm with ⟨s, hs⟩ | ⟨t, p, hp⟩
    · exact h.oldBox hb hX s hs
    · exact h.oldArr hb hX t p hp
  have own : ∀ b, (w.heap.size ≤ b ∨ Ω.mine b) → w0.heap.size ≤ b ∨ X.x b := fun b hb => by
    rcases hb with hb | hb
    · exact .inl (Nat.le_trans h.kept.size hb)
    · rcases hb with ⟨s, hs⟩ | ⟨t, p, hp⟩
      · exact h.ownB b s hs
      · exact h.ownA b t p hp
  exact {
    kept := ⟨k.kept.os.trans h.kept.os, k.kept.tape.trans h.kept.tape, k.kept.output.trans h.kept.output, Nat.le_trans h.kept.size k.kept.size, fun b hb hX => by
      rw [k.kept.block b (Nat.lt_of_lt_of_le hb h.kept.size) (hx b hb hX), h.kept.block b hb hX]⟩
    ownB := fun b s hb => own b (k.ownB b s hb)
    ownA := fun b t p hb => own b (k.ownA b t p hb)
    bnd := k.bnd
    uniq := k.uniq
    limB := k.limB
    slot := k.slot
    tok := k.tok
    old := fun b hb hX => by
      obtain ⟨a1, a2⟩ := k.old b (Nat.lt_of_lt_of_le hb h.kept.size) (hx b hb hX)
      obtain ⟨b1, b2⟩ := h.old b hb hX
      exact ⟨a1.trans b1, a2.trans b2⟩
    out := k.out.1 }
def mark (r : Nat) : Deferred := { target := .collected r, args := #[] }
def marks (M : List Nat) : List Deferred := M.map mark
/-- With marks among the deferred calls. -/
def Sc.df (X : Sc) (M : List Nat) : Sc where
  x := X.x
  o := X.o
  lim := X.lim
  j tr Ω w := X.j tr Ω w ∧ ∀ r ∈ M, ¬ Ω.mine r ∧ w.heap[r]? = some (.deferred (some []))
  st h s := ⟨X.st h.1 s, fun r hr => by
    obtain ⟨a1, a2⟩ := h.2 r hr
    have hlt := (Array.getElem?_eq_some_iff.1 a2).1
    exact ⟨fun hm => a1 (s.s.mine hm hlt), by rw [s.s.block r hlt a1]; exact a2⟩⟩
/-- The same scope, told otherwise. -/
theorem Inv.sc {X' : Sc} (h : Inv X w0 Ω w tm σ) (hx : X'.x = X.x) (ho : X'.o = X.o) (hl : X'.lim = X.lim) (hj : X.j σ.tr Ω w → X'.j σ.tr Ω w) : Inv X' w0 Ω w tm σ where
  kept := by rw [hx]; exact h.kept
  ownB := by rw [hx]; exact h.ownB
  ownA := by rw [hx]; exact h.ownA
  bnd := h.bnd
  uniq := h.uniq
  limB := h.limB
  slot := h.slot
  tok := h.tok
  old := by rw [hx, ho, hl]; exact h.old
  out := hj h.out
/-- What goes on elsewhere. -/
structure Grow (n : Nat) (Ω Ω' : Own) (w w' : World) : Prop where
  os : w'.os = w.os
  tape : w'.tape = w.tape
  output : w'.output = w.output
  size : w.heap.size ≤ w'.heap.size
  block : ∀ b, b < n → w'.heap[b]? = w.heap[b]?
  same : ∀ b, b < n → Ω'.o b = Ω.o b ∧ Ω'.lim b = Ω.lim b
  mine : ∀ b, Ω'.mine b → Ω.mine b
  bnd : ∀ b, Ω'.o b ≠ .out → b < w'.heap.size
  yl : Ω'.yl = Ω.yl
/-- It does not mind what is none of its business. -/
def Lax (X : Sc) : Prop := ∀ (tr : Option (List (List V))) (Ωs : Own) (ws : World) (Ω Ω' : Own) (w w' : World), X.j tr Ωs ws → X.j tr Ω w → Grow ws.heap.size Ω Ω' w w' → X.j tr Ω' w'
def Plain (X : Sc) : Prop := (∀ tr Ω w, X.j tr Ω w → tr = none) ∧ Lax X
theorem Lax.df (h : Lax X) (M : List Nat) : Lax (X.df M) := fun tr Ωs ws Ω Ω' w w' hs hj g => by
  refine ⟨h tr Ωs ws Ω Ω' w w' hs.1 hj.1 g, fun r hr => ?_⟩
  obtain ⟨_, a2⟩ := hs.2 r hr
  obtain ⟨b1, b2⟩ := hj.2 r hr
  have hlt := (Array.getElem?_eq_some_iff.1 a2).1
  exact ⟨fun hm => b1 (g.mine r hm), by rw [g.block r hlt]; exact b2⟩
theorem Plain.df (h : Plain X) (M : List Nat) : Plain (X.df M) := ⟨fun tr Ω w hj => h.1 tr Ω w hj.1, h.2.df M⟩
theorem froz_same {b : Nat} (h : Ω'.o b = Ω.o b) : Ω'.froz b ↔ Ω.froz b := by unfold Own.froz; rw [h]
theorem Plain.rb (h : Plain X) (Ωb : Own) (wb : World) : Plain (X.rb Ωb wb) := by
  refine ⟨fun tr Ω w hj => h.1 tr Ω w hj.1, fun tr Ωs ws Ω Ω' w w' hs hj g => ⟨h.2 tr Ωs ws Ω Ω' w w' hs.1 hj.1 g, ?_⟩⟩
  have hn := hs.2.s.size
  have k := hj.2
  refine ⟨⟨g.os.trans k.s.os, g.tape.trans k.s.tape, g.output.trans k.s.output, Nat.le_trans k.s.size g.size, fun b hlt hm => ?_, fun b hlt hm => ?_⟩, ⟨fun b hb => ?_, fun b hb => ?_, fun b off hb hl => ?_⟩, g.bnd, g.yl.trans k.yl, k.bnd0⟩
  · rw [g.block b (Nat.lt_of_lt_of_le hlt hn), k.s.block b hlt hm]
  · obtain ⟨a1, a2⟩ := g.same b (Nat.lt_of_lt_of_le hlt hn)
    obtain ⟨b1, b2⟩ := k.s.same b hlt hm
    exact ⟨a1.trans b1, a2.trans b2⟩
  · have hlt := k.bnd0 b (Own.froz_ne hb)
    exact (froz_same (g.same b (Nat.lt_of_lt_of_le hlt hn)).1).2 (k.m.froz b hb)
  · have hlt := k.bnd0 b (Own.froz_ne hb)
    rw [(g.same b (Nat.lt_of_lt_of_le hlt hn)).2]
    exact k.m.lim b hb
  · have hlt := k.bnd0 b (Own.froz_ne hb)
    rw [World.cell?_of_block (g.block b (Nat.lt_of_lt_of_le hlt hn))]
    exact k.m.cell b off hb hl
/-- What is asked of a scope. -/
structure ScOk (P : Program) (X : Sc) (w0 : World) (T : List (List V)) (ro : Option Nat) : Prop where
  y : YieldOk P X w0 T
  k : Plain X ∨ ∀ Ω w, ¬ X.j none Ω w
  r : ∀ l, ro = some l → l < w0.heap.size ∧ ¬ X.x l ∧ ∃ r, w0.heap[l]? = some (.loop r)
theorem YieldOk.df {T : List (List V)} (h : YieldOk P X w0 T) {M : List Nat} (hM : Plain X ∨ M = []) : YieldOk P (X.df M) w0 T where
  none Ω w hj := h.none Ω w hj.1
  some ro n b l tr as xs Ω w hj hyl hd hp hT := by
    rcases hM with hM | rfl
    · have := hM.1 _ _ _ hj.1
      cases this
    · obtain ⟨fn, tmps, asg, body, r1, r2⟩ := h.some ro n b l tr as xs Ω w hj.1 hyl hd hp hT
      refine ⟨fn, tmps, asg, body, r1, RoundIn.mono r2 fun e w' he => ?_⟩
      obtain ⟨e1, e2, e3⟩ := he
      exact ⟨e1, ⟨e2, fun r hr => by cases hr⟩, e3⟩
/-- A scope from here on, in a round of l. -/
theorem ScOk.round {T : List (List V)} {ro : Option Nat} (h : ScOk P X w0 T ro) (hp : Plain X) {l : Nat} {r : Loop} (hl : Ω.o l = .out) (hr : w.heap[l]? = some (.loop r)) : ScOk P (X.rb Ω w) w [] (some l) where
  y := ⟨fun Ω w hj => h.y.none Ω w hj.1, fun ro n b l tr as xs Ω w hj _ _ _ _ => by have := hp.1 _ _ _ hj.1; cases this⟩
  k := .inl (hp.rb _ _)
  r l' e := by
    injection e with e; subst e
    refine ⟨(Array.getElem?_eq_some_iff.1 hr).1, fun hm => ?_, r, hr⟩
    rcases hm with ⟨s, hs⟩ | ⟨t, p, hs⟩ <;> rw [hl] at hs <;> cases hs
end

/-! ### Rounds, logically -/
section
variable {F : St → List V → Option (Ex × St)}
def jumpOf : Option (Nat × Ex) → Option Code
  | none => none
  | some (_, .normal) => none
  | some (_, .exit id) => some (.exit id)
  | some (_, .ret) => some .ret
theorem foldR_snoc : ∀ (t : List (List V)) (k : Nat) (σ σo : St) (x : List V), foldR F k σ t = some (none, σo) → foldR F k σ (t ++ [x]) = match F σo x with
    | some (.normal, σ') => some (none, σ')
    | some (ex, σ') => some (some (k + t.length, ex), σ')
    | none => none
  | [], k, σ, σo, x, h => by
    simp only [foldR, Option.some.injEq, Prod.mk.injEq, true_and] at h
    subst h
    simp only [List.nil_append, foldR, List.length_nil, Nat.add_zero]
    cases F σ x with
    | none => rfl
    | some p => obtain ⟨e, σ'⟩ := p; cases e <;> rfl
  | y :: t, k, σ, σo, x, h => by
    simp only [foldR, List.cons_append] at h ⊢
    split at h
    · rename_i σ1 h1
      rw [foldR_snoc t (k + 1) σ1 σo x h, show k + 1 + t.length = k + (y :: t).length by simp; omega]
    · simp only [Option.some.injEq, Prod.mk.injEq, reduceCtorEq, false_and] at h
    · cases h
/-- Behind a beginning that goes on. -/
theorem foldR_pre : ∀ (t r : List (List V)) (k : Nat) (σ : St) (st : Option (Nat × Ex)) (σ' : St), foldR F k σ (t ++ r) = some (st, σ') →
    (∃ σo, foldR F k σ t = some (none, σo) ∧ foldR F (k + t.length) σo r = some (st, σ')) ∨ (∃ i e, st = some (i, e) ∧ i < k + t.length ∧ foldR F k σ t = some (st, σ'))
  | [], r, k, σ, st, σ', h => .inl ⟨σ, rfl, by simpa using h⟩
  | y :: t, r, k, σ, st, σ', h => by
    simp only [List.cons_append, foldR] at h ⊢
    split at h
    · rename_i σ1 h1
      rcases foldR_pre t r (k + 1) σ1 st σ' h with ⟨σo, a1, a2⟩ | ⟨i, e, a1, a2, a3⟩
      · exact .inl ⟨σo, a1, by rw [show k + (y :: t).length = k + 1 + t.length by simp; omega]; exact a2⟩
      · exact .inr ⟨i, e, a1, by simp; omega, a3⟩
    · rename_i ex σ1 hne h1
      simp only [Option.some.injEq, Prod.mk.injEq] at h
      obtain ⟨rfl, rfl⟩ := h
      exact .inr ⟨k, ex, rfl, by simp, rfl⟩
    · cases h
theorem foldR_stop : ∀ (t : List (List V)) (k : Nat) (σ : St) (i : Nat) (e : Ex) (σ' : St), foldR F k σ t = some (some (i, e), σ') → e ≠ .normal ∧ k ≤ i ∧ i < k + t.length
  | [], k, σ, i, e, σ', h => by simp [foldR] at h
  | y :: t, k, σ, i, e, σ', h => by
    simp only [foldR] at h
    split at h
    · obtain ⟨a1, a2, a3⟩ := foldR_stop t (k + 1) _ i e σ' h
      exact ⟨a1, by omega, by simp; omega⟩
    · rename_i ex σ1 hne h1
      simp only [Option.some.injEq, Prod.mk.injEq] at h
      obtain ⟨⟨rfl, rfl⟩, rfl⟩ := h
      exact ⟨fun e => hne e, Nat.le_refl _, by simp⟩
    · cases h
/-- The rounds are those that are asked for. -/
inductive FoldOk (F : St → List V → Option (Ex × St)) (σ1 : St) (T : List (List V)) : Nat → Ex → St → Prop where
  | all {σ' : St} (h : foldR F 0 σ1 T = some (none, σ')) : FoldOk F σ1 T 0 .normal σ'
  | stop {k : Nat} {ex : Ex} {σ' : St} (hl : T.length = k + 1) (h : foldR F 0 σ1 T = some (some (k, ex), σ')) : FoldOk F σ1 T (k + 1) ex σ'
theorem FoldOk.fold {σ1 σ' : St} {T : List (List V)} {b : Nat} {ex : Ex} (h : FoldOk F σ1 T b ex σ') : ∃ st, foldR F 0 σ1 T = some (st, σ') ∧ jumpOf st = jumpOf (some (0, ex)) := by
  cases h with
  | all h => exact ⟨none, h, rfl⟩
  | stop hl h => exact ⟨_, h, by cases ex <;> rfl⟩
theorem FoldOk.at {σ1 σ' : St} {T : List (List V)} {b : Nat} {ex : Ex} (h : FoldOk F σ1 T b ex σ') {t : List (List V)} {x : List V} (ht : t ++ [x] <+: T) :
    ∃ σo e2 σ2, foldR F 0 σ1 t = some (none, σo) ∧ F σo x = some (e2, σ2) ∧ goesOn b (some t) = (jumpOf (some (0, e2))).isNone := by
  obtain ⟨r, rfl⟩ := ht
  obtain ⟨st, hf, _⟩ := h.fold
  have hf' := hf
  rw [List.append_assoc] at hf
  rcases foldR_pre t ([x] ++ r) 0 σ1 st σ' hf with ⟨σo, a1, a2⟩ | ⟨i, e, a1, a2, a3⟩
  · simp only [List.singleton_append, foldR, Nat.zero_add] at a2
    split at a2
    · rename_i σ2 h2
      refine ⟨σo, .normal, σ2, a1, h2, ?_⟩
      cases h with
      | all h => simp [goesOn, jumpOf]
      | stop hl h =>
        rename_i k
        rw [hf'] at h
        injection h with h
        injection h with h _
        subst h
        obtain ⟨_, b2, _⟩ := foldR_stop r _ _ _ _ _ a2
        simp only [goesOn, jumpOf, Option.isNone_none, bne_iff_ne, ne_eq]
        omega
    · rename_i e2 σ2 hne h2
      simp only [Option.some.injEq, Prod.mk.injEq] at a2
      obtain ⟨rfl, rfl⟩ := a2
      refine ⟨σo, e2, σ2, a1, h2, ?_⟩
      have he : e2 ≠ .normal := fun e => hne e
      have hj : (jumpOf (some (0, e2))).isNone = false := by cases e2 <;> first | exact (he rfl).elim | rfl
      rw [hj]
      cases h with
      | all h => rw [hf'] at h; cases h
      | stop hl h =>
        rw [hf'] at h
        injection h with h
        injection h with h _
        injection h with h
        injection h with h _
        subst h
        simp [goesOn]
    · cases a2
  · exfalso
    subst a1
    cases h with
    | all h => rw [hf'] at h; cases h
    | stop hl h =>
      rw [hf'] at h
      injection h with h
      injection h with h _
      injection h with h
      injection h with h _
      subst h
      simp at hl
      omega
end
end Go.Lo

/- Ranges over functions: what a piece of code comes to; what an iterator and the body promise each other. -/
namespace Go.Lo
section
variable {P : Program} {X : Sc} {w0 : World} {call : Nat → List V → Option V}

/-! ### Code -/
def Ex.out : Ex → Exit
  | .normal => .normal
  | .exit id => .exit id
  | .ret => .ret
/-- Behind a piece of code. -/
structure Arr (X : Sc) (w0 : World) (ro : Option Nat) (Ω : Own) (a : Act) (M : List Nat) (df : List Deferred) (σ' : St) (ks ds : List Nat) (a' : Act) (w' : World) (Ω' : Own) (M' : List Nat) : Prop where
  size : a'.tmps.size = a.tmps.size
  defers : a'.defers = marks M' ++ df
  nodup : M'.Nodup
  low : ∀ r ∈ M', w0.heap.size ≤ r
  same : M' = M ∨ (Plain X ∧ ro = none)
  keep : ∀ k, k ∉ ks → a'.tmps.getD k undef = a.tmps.getD k undef
  inv : Inv (X.df M') w0 Ω' w' a'.tmps σ'
  fresh : ∀ d, Fresh Ω d → d ∉ ds → Fresh Ω' d
/-- What follows a piece of code. -/
def NextC (X : Sc) (w0 : World) (ro : Option Nat) (Ω : Own) (a : Act) (M : List Nat) (df : List Deferred) (σ' : St) (ks ds : List Nat) (K : Act → World → Prop) : Prop :=
  ∀ a' w' Ω' M', Arr X w0 ro Ω a M df σ' ks ds a' w' Ω' M' → K a' w'
/-- What is made once is made in one place. -/
def Once (lc : LCode) : Prop := (onceC lc).Nodup ∧ ∀ d ∈ onceC lc, d ∉ loopC lc
/-- A piece of code does what its compiled form does. -/
def CodeOk (P : Program) (call : Nat → List V → Option V) (N : Nat) (c : Code) (lc : LCode) : Prop :=
  ∀ {X : Sc} {w0 : World} {T : List (List V)} {ro : Option Nat} {n : Nat} {Ω : Own} {w : World} {a : Act} {σ σ' : St} {ex : Ex} {Q : Exit → Act → World → Prop} {M : List Nat} {df : List Deferred},
    ScOk P X w0 T ro → (Plain X ∨ M = []) → M.Nodup → (∀ r ∈ M, w0.heap.size ≤ r) → a.defers = marks M ++ df → evC call N lc σ = some (ex, σ') → UpTo T σ' → Inv (X.df M) w0 Ω w a.tmps σ → (∀ d ∈ dstsC lc, d < a.tmps.size) →
    (∀ d ∈ onceC lc, Fresh Ω d) → Once lc → NextC X w0 ro Ω a M df σ' (dstsC lc) (onceC lc ++ loopC lc) (Q ex.out) → c.wpIn (wideR ro) n P Q a w
end

/-! ### What was yielded grows -/
section
variable {call : Nat → List V → Option V}
theorem iter_tr {f : St → Option (Ex × St)} (h : ∀ σ ex σ', f σ = some (ex, σ') → TrLe σ σ') : ∀ {n : Nat} {σ : St} {ex : Ex} {σ' : St}, iter f n σ = some (ex, σ') → TrLe σ σ'
  | 0, _, _, _, hs => by simp [iter] at hs
  | n + 1, σ, ex, σ', hs => by
    simp only [iter] at hs
    split at hs
    · rename_i σ1 h1
      exact (h _ _ _ h1).trans (iter_tr h hs)
    · exact h _ _ _ hs
theorem roundE_tr {evA evB : St → Option (Ex × St)} (hA : ∀ σ ex σ', evA σ = some (ex, σ') → TrLe σ σ') (hB : ∀ σ ex σ', evB σ = some (ex, σ') → TrLe σ σ') {ps wr : List Nat} {σ : St} {as : List V} {ex : Ex} {σ' : St}
    (h : roundE evA evB ps wr σ as = some (ex, σ')) : TrLe σ σ' := by
  unfold roundE at h
  split at h
  · split at h
    · rename_i σ1 h1
      split at h
      · rename_i e2 σ2 h2
        simp only [Option.some.injEq, Prod.mk.injEq] at h
        obtain ⟨rfl, rfl⟩ := h
        have k1 := hA _ _ _ h1
        have k1 : TrLe σ σ1 := k1
        have k2 := k1.trans (hB _ _ _ h2)
        exact k2
      · cases h
    · cases h
  · cases h
theorem foldR_tr {f : St → List V → Option (Ex × St)} (h : ∀ σ as ex σ', f σ as = some (ex, σ') → TrLe σ σ') : ∀ {t : List (List V)} {k : Nat} {σ : St} {st : Option (Nat × Ex)} {σ' : St}, foldR f k σ t = some (st, σ') → TrLe σ σ'
  | [], _, _, _, _, hs => by
    simp only [foldR, Option.some.injEq, Prod.mk.injEq] at hs
    obtain ⟨_, rfl⟩ := hs
    exact .refl _
  | x :: t, k, σ, st, σ', hs => by
    simp only [foldR] at hs
    split at hs
    · rename_i σ1 h1
      exact (h _ _ _ _ h1).trans (foldR_tr h hs)
    · rename_i e σ1 _ h1
      simp only [Option.some.injEq, Prod.mk.injEq] at hs
      obtain ⟨_, rfl⟩ := hs
      exact h _ _ _ _ h1
    · cases hs
theorem rngE_spec {f : St → List V → Option (Ex × St)} {it : Nat → Option V} {σ : St} {ex : Ex} {σ' : St} (h : rngE f it σ = some (ex, σ')) : ∃ b T, itemsOf (it b) = some T ∧ FoldOk f σ T b ex σ' := by
  unfold rngE at h
  split at h
  · cases h
  · rename_i items hi
    split at h
    · rename_i σ1 h1
      simp only [Option.some.injEq, Prod.mk.injEq] at h
      obtain ⟨rfl, rfl⟩ := h
      exact ⟨0, items, hi, .all h1⟩
    · rename_i k _ _ h1
      split at h
      · cases h
      · rename_i items' hi'
        split at h
        · rename_i k' ex' σ1 h2
          split at h
          · rename_i hc
            obtain ⟨rfl, hl⟩ := hc
            simp only [Option.some.injEq, Prod.mk.injEq] at h
            obtain ⟨rfl, rfl⟩ := h
            exact ⟨k' + 1, items', hi', .stop hl h2⟩
          · cases h
        · cases h
    · cases h
theorem evC_tr {N : Nat} : ∀ (lc : LCode) {σ : St} {ex : Ex} {σ' : St}, evC call N lc σ = some (ex, σ') → TrLe σ σ' := by
  intro lc
  induction lc with
  | skip => intro σ ex σ' h; simp only [evC, Option.some.injEq, Prod.mk.injEq] at h; obtain ⟨_, rfl⟩ := h; exact .refl _
  | exit id => intro σ ex σ' h; simp only [evC, Option.some.injEq, Prod.mk.injEq] at h; obtain ⟨_, rfl⟩ := h; exact .refl _
  | ret => intro σ ex σ' h; simp only [evC, Option.some.injEq, Prod.mk.injEq] at h; obtain ⟨_, rfl⟩ := h; exact .refl _
  | bad => intro σ ex σ' h; simp only [evC] at h; cases h
  | reg lp ds pp ops kn kp =>
    intro σ ex σ' h
    simp only [evC] at h
    split at h
    · rename_i σ1 h1
      simp only [Option.some.injEq, Prod.mk.injEq] at h
      obtain ⟨_, rfl⟩ := h
      have k0 : TrLe σ (prep lp pp σ) := .of (prep_tr _ _ _)
      have k2 : TrLe σ σ1 := k0.trans (stepL_tr h1)
      exact k2
    · cases h
  | seq a b iha ihb =>
    intro σ ex σ' h
    simp only [evC] at h
    split at h
    · rename_i σ1 h1; exact (iha h1).trans (ihb h)
    · exact iha h
  | cond c a b iha ihb =>
    intro σ ex σ' h
    simp only [evC] at h
    split at h
    · split at h
      · exact iha h
      · exact ihb h
    · cases h
  | block id a ih =>
    intro σ ex σ' h
    simp only [evC] at h
    split at h
    · rename_i j σ1 h1
      split at h <;> simp only [Option.some.injEq, Prod.mk.injEq] at h <;> obtain ⟨_, rfl⟩ := h <;> exact ih h1
    · exact ih h
  | loop a ih => intro σ ex σ' h; simp only [evC] at h; exact iter_tr (fun _ _ _ h => ih h) h
  | rng g ps wr a b iha ihb =>
    intro σ ex σ' h
    have key : ∀ {it : Nat → Option V} {τ : St}, τ.tr = σ.tr → rngE (roundE (evC call N a) (evC call N b) ps wr) it τ = some (ex, σ') → TrLe σ σ' := fun e h => by
      obtain ⟨k, T, _, hf⟩ := rngE_spec h
      obtain ⟨st, hf, _⟩ := hf.fold
      have := foldR_tr (fun _ _ _ _ h => roundE_tr (fun _ _ _ h => iha h) (fun _ _ _ h => ihb h) h) hf
      exact TrLe.trans (.of e) this
    simp only [evC] at h
    split at h
    · split at h
      · split at h
        · exact key (by rfl) h
        · cases h
      · cases h
    · split at h
      · split at h
        · exact key (by rfl) h
        · cases h
      · cases h
    · cases h
end

/-! ### What the iterator may know, and what the body learns -/
def frzB : OwnK → Bool
  | .frz => true
  | .arr _ true => true
  | _ => false
theorem froz_iff {Ω : Own} {b : Nat} : Ω.froz b ↔ frzB (Ω.o b) = true := by
  unfold Own.froz
  cases h : Ω.o b with
  | arr t p => cases p <;> simp [frzB]
  | _ => simp [frzB]
def itOwn (Ω : Own) (l b : Nat) : Own where
  o k := if frzB (Ω.o k) = true then .frz else .out
  lim := Ω.lim
  cur _ := none
  tsz _ := 0
  yl := some (l, b)
theorem itOwn_or (Ω : Own) (l b k : Nat) : (itOwn Ω l b).o k = .out ∨ ((itOwn Ω l b).o k = .frz ∧ Ω.froz k) := by
  simp only [itOwn]
  split
  · rename_i h; exact .inr ⟨rfl, froz_iff.2 h⟩
  · exact .inl rfl
theorem base_itOwn {Ω : Own} {w : World} {l b : Nat} (hb : ∀ k, Ω.o k ≠ .out → k < w.heap.size) : Base (itOwn Ω l b) w := by
  refine ⟨fun k => ?_, fun k hk => ?_⟩
  · rcases itOwn_or Ω l b k with h | ⟨h, _⟩ <;> simp [h]
  · rcases itOwn_or Ω l b k with h | ⟨_, h⟩
    · exact absurd h hk
    · exact hb k (Own.froz_ne h)
/-- What the iterator has frozen is frozen for the body. -/
def Own.mg (Ωo Ωi : Own) (n : Nat) : Own :=
  { Ωo with o := fun k => if n ≤ k ∧ frzB (Ωi.o k) = true then .frz else Ωo.o k, lim := fun k => if n ≤ k ∧ frzB (Ωi.o k) = true then Ωi.lim k else Ωo.lim k }

/-- While an iterator is at work: what was so at the start. -/
structure JS (Xc : Sc) (w0 : World) (Ω1 : Own) (we ws : World) (l : Nat) : Prop where
  plain : Plain Xc
  hl : we.heap.size = l
  hws : ws.heap.size = l + 1
  hj : Xc.j none Ω1 we
  lo : Ω1.o l = .out
  sz : w0.heap.size ≤ l
  bnd : ∀ k, Ω1.o k ≠ .out → k < l
/-- And what is so now. -/
structure JAt (Xc : Sc) (w0 : World) (Ω1 : Own) (ws : World) (tm : Array Value) (F : St → List V → Option (Ex × St)) (σ1 : St) (l b : Nat) (r0 : Loop) (ks : List Nat) (t : List (List V)) (Ωi : Own) (w : World) (Ωo : Own) (σo : St) (st : Option (Nat × Ex)) : Prop where
  fold : foldR F 0 σ1 t = some (st, σo)
  inv : Inv Xc w0 Ωo w tm σo
  rcd : w.heap[l]? = some (.loop { r0 with state := if (jumpOf st).isNone then .ready else .done, pending := jumpOf st })
  a1 : ∀ k, k < ws.heap.size → Ωi.o k = (itOwn Ω1 l b).o k ∧ Ωi.lim k = Ω1.lim k
  a2 : ∀ k, Ω1.froz k → Ωo.froz k ∧ Ω1.lim k ≤ Ωo.lim k
  b1 : ∀ k, ws.heap.size ≤ k → Ωi.o k ≠ .out → Ωo.o k = .out ∨ (Ωo.o k = .frz ∧ Ωi.froz k ∧ Ωo.lim k ≤ Ωi.lim k)
  c1 : ∀ k, Ωi.o k ≠ .out → k < w.heap.size
  d1 : Ωo.o l = .out
  e1 : ∀ k, k < ws.heap.size → Ωo.mine k → Ω1.mine k
  yl : Ωi.yl = some (l, b)
  kept : Kept (fun k => Ω1.mine k ∨ k = l) ws w
  fresh : ∀ d, Fresh Ω1 d → d ∉ ks → Fresh Ωo d
section
variable {Xc : Sc} {w0 we ws w w' : World} {Ω1 Ωi Ωi' Ωo : Own} {tm : Array Value} {F : St → List V → Option (Ex × St)} {σ1 σo : St} {l b : Nat} {r0 : Loop} {ks : List Nat} {t : List (List V)} {st : Option (Nat × Ex)}

theorem mine_ne {Ω : Own} {k : Nat} (h : Ω.mine k) : Ω.o k ≠ .out ∧ Ω.o k ≠ .frz := by
  rcases h with ⟨s, hs⟩ | ⟨t, p, hp⟩
  · rw [hs]; exact ⟨by simp, by simp⟩
  · rw [hp]; exact ⟨by simp, by simp⟩
theorem JAt.nm (h : JAt Xc w0 Ω1 ws tm F σ1 l b r0 ks t Ωi w Ωo σo st) {k : Nat} (hk : k < ws.heap.size) : ¬ Ωi.mine k := fun hm => by
  obtain ⟨g1, g2⟩ := mine_ne hm
  rw [(h.a1 k hk).1] at g1 g2
  rcases itOwn_or Ω1 l b k with e | ⟨e, _⟩
  · exact g1 e
  · exact g2 e
theorem JAt.trn (S : JS Xc w0 Ω1 we ws l) (h : JAt Xc w0 Ω1 ws tm F σ1 l b r0 ks t Ωi w Ωo σo st) : σo.tr = none := S.plain.1 _ _ _ h.inv.out
/-- The iterator goes on. -/
theorem JAt.step (S : JS Xc w0 Ω1 we ws l) (h : JAt Xc w0 Ω1 ws tm F σ1 l b r0 ks t Ωi w Ωo σo st) (s : Stp Ωi Ωi' w w') : JAt Xc w0 Ω1 ws tm F σ1 l b r0 ks t Ωi' w' Ωo σo st := by
  have hsz := h.kept.size
  have hlw : l < ws.heap.size := by rw [S.hws]; exact Nat.lt_succ_self l
  have blk : ∀ k, k < ws.heap.size → w'.heap[k]? = w.heap[k]? := fun k hk => s.s.block k (Nat.lt_of_lt_of_le hk hsz) (h.nm hk)
  have frzo : ∀ k, Ωi.mine k → Ωo.o k = .out ∨ (Ωo.o k = .frz ∧ Ωi.froz k ∧ Ωo.lim k ≤ Ωi.lim k) := fun k hm => h.b1 k (Nat.le_of_not_lt fun hlt => h.nm hlt hm) (mine_ne hm).1
  have hblk : ∀ k, Ωo.mine k → w'.heap[k]? = w.heap[k]? := fun k hm => by
    refine s.s.block k (h.inv.bnd k (mine_ne hm).1) fun hi => ?_
    rcases frzo k hi with e | ⟨e, _⟩
    · exact (mine_ne hm).1 e
    · exact (mine_ne hm).2 e
  have hcell : ∀ k off, Ωo.o k ≠ .out → off < Ωo.lim k → w'.cell? ⟨k, off, none⟩ = w.cell? ⟨k, off, none⟩ := fun k off hne hl => by
    by_cases hm : Ωi.mine k
    · rcases frzo k hm with e | ⟨_, f, g⟩
      · exact absurd e hne
      · exact s.m.cell k off f (Nat.lt_of_lt_of_le hl g)
    · exact World.cell?_of_block (s.s.block k (h.inv.bnd k hne) hm)
  have htr := h.trn S
  have hlt0 : ∀ k, k < w0.heap.size → k < ws.heap.size := fun k hk => by have := S.sz; have := S.hws; omega
  refine ⟨h.fold, ?_, by rw [blk l hlw]; exact h.rcd, fun k hk => ?_, h.a2, fun k hk hne => ?_, s.bnd, h.d1, h.e1, s.yl.trans h.yl, ?_, h.fresh⟩
  · refine h.inv.other (tr' := σo.tr) ⟨s.s.os.trans h.inv.kept.os, s.s.tape.trans h.inv.kept.tape, s.s.output.trans h.inv.kept.output, Nat.le_trans h.inv.kept.size s.s.size, fun k hk hX => by
      rw [blk k (hlt0 k hk)]; exact h.inv.kept.block k hk hX⟩ s.s.size hblk (fun k off hf hl => hcell k off (Own.frozp_ne hf) hl) ?_
    have hj := h.inv.out
    rw [htr] at hj ⊢
    exact S.plain.2 none Ω1 we Ωo Ωo w w' S.hj hj ⟨s.s.os, s.s.tape, s.s.output, s.s.size, fun k hk => blk k (by rw [S.hl] at hk; have := S.hws; omega), fun _ _ => ⟨rfl, rfl⟩, fun _ h => h, fun k hk => Nat.lt_of_lt_of_le (h.inv.bnd k hk) s.s.size, rfl⟩
  · obtain ⟨a1, a2⟩ := s.s.same k (Nat.lt_of_lt_of_le hk hsz) (h.nm hk)
    obtain ⟨b1, b2⟩ := h.a1 k hk
    exact ⟨a1.trans b1, a2.trans b2⟩
  · by_cases hlt : k < w.heap.size
    · by_cases hm : Ωi.mine k
      · rcases frzo k hm with e | ⟨e, f, g⟩
        · exact .inl e
        · exact .inr ⟨e, s.m.froz k f, Nat.le_trans g (s.m.lim k f)⟩
      · rw [(s.s.same k hlt hm).1] at hne
        rcases h.b1 k hk hne with e | ⟨e, f, g⟩
        · exact .inl e
        · exact .inr ⟨e, s.m.froz k f, Nat.le_trans g (s.m.lim k f)⟩
    · refine .inl (Classical.byContradiction fun e => hlt (h.inv.bnd k e))
  · exact ⟨s.s.os.trans h.kept.os, s.s.tape.trans h.kept.tape, s.s.output.trans h.kept.output, Nat.le_trans hsz s.s.size, fun k hk hx => by rw [blk k hk]; exact h.kept.block k hk hx⟩
/-- The scope of the iterator. -/
def itSc (Xc : Sc) (w0 : World) (Ω1 : Own) (ws : World) (tm : Array Value) (F : St → List V → Option (Ex × St)) (σ1 : St) (l b : Nat) (r0 : Loop) (ks : List Nat) : Sc where
  x k := Ω1.mine k ∨ k = l
  o := (itOwn Ω1 l b).o
  lim := Ω1.lim
  j tr Ω w := ∃ t Ωa wa Ωo σo st, tr = some t ∧ JAt Xc w0 Ω1 ws tm F σ1 l b r0 ks t Ωa wa Ωo σo st ∧ Stp Ωa Ω wa w
  st h s := by
    obtain ⟨t, Ωa, wa, Ωo, σo, st, h1, h2, h3⟩ := h
    exact ⟨t, Ωa, wa, Ωo, σo, st, h1, h2, h3.trans s⟩
theorem itSc_at (S : JS Xc w0 Ω1 we ws l) (h : (itSc Xc w0 Ω1 ws tm F σ1 l b r0 ks).j (some t) Ωi w) : ∃ Ωo σo st, JAt Xc w0 Ω1 ws tm F σ1 l b r0 ks t Ωi w Ωo σo st := by
  obtain ⟨t', Ωa, wa, Ωo, σo, st, h1, h2, h3⟩ := h
  injection h1 with h1; subst h1
  exact ⟨Ωo, σo, st, h2.step S h3⟩
theorem itSc_of (h : JAt Xc w0 Ω1 ws tm F σ1 l b r0 ks t Ωi w Ωo σo st) : (itSc Xc w0 Ω1 ws tm F σ1 l b r0 ks).j (some t) Ωi w :=
  ⟨t, Ωi, w, Ωo, σo, st, rfl, h, Stp.refl h.c1⟩
theorem mg_lt {n k : Nat} (h : k < n) : (Ωo.mg Ωi n).o k = Ωo.o k ∧ (Ωo.mg Ωi n).lim k = Ωo.lim k := by
  simp only [Own.mg, if_neg (fun (x : n ≤ k ∧ frzB (Ωi.o k) = true) => absurd x.1 (Nat.not_le_of_lt h)), and_self]
theorem mg_frz {n k : Nat} (h : n ≤ k) (hf : Ωi.froz k) : (Ωo.mg Ωi n).o k = .frz ∧ (Ωo.mg Ωi n).lim k = Ωi.lim k := by
  simp only [Own.mg, if_pos (And.intro h (froz_iff.1 hf)), and_self]
theorem mg_not {n k : Nat} (hf : ¬ Ωi.froz k) : (Ωo.mg Ωi n).o k = Ωo.o k ∧ (Ωo.mg Ωi n).lim k = Ωo.lim k := by
  simp only [Own.mg, if_neg (fun (x : n ≤ k ∧ frzB (Ωi.o k) = true) => hf (froz_iff.2 x.2)), and_self]
/-- Either way. -/
theorem JAt.mg (h : JAt Xc w0 Ω1 ws tm F σ1 l b r0 ks t Ωi w Ωo σo st) (k : Nat) : ((Ωo.mg Ωi ws.heap.size).o k = Ωo.o k ∧ (Ωo.mg Ωi ws.heap.size).lim k = Ωo.lim k) ∨
    (ws.heap.size ≤ k ∧ Ωi.froz k ∧ (Ωo.mg Ωi ws.heap.size).o k = .frz ∧ (Ωo.mg Ωi ws.heap.size).lim k = Ωi.lim k ∧ (Ωo.o k = .out ∨ (Ωo.o k = .frz ∧ Ωo.lim k ≤ Ωi.lim k))) := by
  by_cases hk : ws.heap.size ≤ k
  · by_cases hf : Ωi.froz k
    · obtain ⟨g1, g2⟩ := mg_frz (Ωo := Ωo) hk hf
      refine .inr ⟨hk, hf, g1, g2, ?_⟩
      rcases h.b1 k hk (Own.froz_ne hf) with e | ⟨e, _, g⟩
      · exact .inl e
      · exact .inr ⟨e, g⟩
    · exact .inl (mg_not hf)
  · exact .inl (mg_lt (Nat.lt_of_not_le hk))
theorem JAt.mgBack (h : JAt Xc w0 Ω1 ws tm F σ1 l b r0 ks t Ωi w Ωo σo st) {k : Nat} {o : OwnK} (ho : (Ωo.mg Ωi ws.heap.size).o k = o) (hne : o ≠ .frz) : Ωo.o k = o ∧ (Ωo.mg Ωi ws.heap.size).lim k = Ωo.lim k := by
  rcases h.mg k with ⟨g1, g2⟩ | ⟨_, _, g, _⟩
  · exact ⟨by rw [← g1]; exact ho, g2⟩
  · rw [g] at ho; exact absurd ho.symm hne
theorem JAt.mgOut (h : JAt Xc w0 Ω1 ws tm F σ1 l b r0 ks t Ωi w Ωo σo st) {k : Nat} {o : OwnK} (ho : Ωo.o k = o) (h1 : o ≠ .out) (h2 : o ≠ .frz) : (Ωo.mg Ωi ws.heap.size).o k = o ∧ (Ωo.mg Ωi ws.heap.size).lim k = Ωo.lim k := by
  rcases h.mg k with ⟨g1, g2⟩ | ⟨_, _, _, _, g | ⟨g, _⟩⟩
  · exact ⟨by rw [g1]; exact ho, g2⟩
  · rw [ho] at g; exact absurd g h1
  · rw [ho] at g; exact absurd g h2
theorem JAt.mgMine (h : JAt Xc w0 Ω1 ws tm F σ1 l b r0 ks t Ωi w Ωo σo st) {k : Nat} (hm : (Ωo.mg Ωi ws.heap.size).mine k) : Ωo.mine k := by
  rcases hm with ⟨s, hs⟩ | ⟨t, p, hp⟩
  · exact .inl ⟨s, (h.mgBack hs (by simp)).1⟩
  · exact .inr ⟨t, p, (h.mgBack hp (by simp)).1⟩
theorem JAt.mgFroz (h : JAt Xc w0 Ω1 ws tm F σ1 l b r0 ks t Ωi w Ωo σo st) {k : Nat} (hf : Ωo.froz k) : (Ωo.mg Ωi ws.heap.size).froz k ∧ Ωo.lim k ≤ (Ωo.mg Ωi ws.heap.size).lim k := by
  rcases h.mg k with ⟨g1, g2⟩ | ⟨_, _, g, g', g3⟩
  · exact ⟨(froz_same g1).2 hf, Nat.le_of_eq g2.symm⟩
  · refine ⟨.inl g, ?_⟩
    rw [g']
    rcases g3 with e | ⟨_, e⟩
    · exact absurd e (Own.froz_ne hf)
    · exact e
/-- The body learns what the iterator has frozen. -/
theorem JAt.merge (S : JS Xc w0 Ω1 we ws l) (h : JAt Xc w0 Ω1 ws tm F σ1 l b r0 ks t Ωi w Ωo σo st) : Inv Xc w0 (Ωo.mg Ωi ws.heap.size) w tm σo := by
  have hlt0 : ∀ k, k < w0.heap.size → k < ws.heap.size := fun k hk => by have := S.sz; have := S.hws; omega
  have hbnd : ∀ k, (Ωo.mg Ωi ws.heap.size).o k ≠ .out → k < w.heap.size := fun k hk => by
    rcases h.mg k with ⟨g1, _⟩ | ⟨_, hf, _⟩
    · exact h.inv.bnd k (by rw [← g1]; exact hk)
    · exact h.c1 k (Own.froz_ne hf)
  have hx : Ext Ωo (Ωo.mg Ωi ws.heap.size) w w := by
    refine ⟨fun k hk => (h.mgFroz hk).1, fun k hk => .inr (h.mgOut hk (by simp) (by simp)).1, fun k u p hk => ⟨p, (h.mgOut hk (by simp) (by simp)).1⟩, fun k s hk => (h.mgOut hk (by simp) (by simp)).1, fun k hk => ?_, fun _ _ _ _ => rfl, fun _ _ _ _ => rfl, fun _ _ _ c k n _ hc => ⟨c, k, n, hc, .inl ⟨rfl, rfl, rfl⟩⟩, rfl⟩
    rcases h.mg k with ⟨_, g2⟩ | ⟨_, _, _, g', g3⟩
    · exact Nat.le_of_eq g2.symm
    · rw [g']
      rcases g3 with e | ⟨_, e⟩
      · exact absurd e hk
      · exact e
  have htr := h.trn S
  refine ⟨h.inv.kept, fun k s hk => h.inv.ownB k s (h.mgBack hk (by simp)).1, fun k u p hk => h.inv.ownA k u p (h.mgBack hk (by simp)).1, hbnd, fun k k' s hk hk' => h.inv.uniq k k' s (h.mgBack hk (by simp)).1 (h.mgBack hk' (by simp)).1, fun k s hk => ?_,
    fun s v hs => ?_, fun u n wr hu => ?_, fun k hk hX => ?_, ?_⟩
  · obtain ⟨g1, g2⟩ := h.mgBack hk (by simp)
    rw [g2]; exact h.inv.limB k s g1
  · obtain ⟨g1, g2⟩ := h.inv.slot s v hs
    exact ⟨g1, g2.ext hx fun _ _ _ _ _ hh => hh⟩
  · obtain ⟨c, k, T, xs, g1, ⟨p, g2⟩, g3, g4, g5, g6, g7, g8⟩ := h.inv.tok u n wr hu
    obtain ⟨q1, q2⟩ := h.mgOut g2 (by simp) (by simp)
    exact ⟨c, k, T, xs, g1, ⟨p, q1⟩, g3, g4, g5, by rw [q2]; exact g6, g7, fun hw b q hb => g8 hw b q (h.mgBack hb (by simp)).1⟩
  · rw [(mg_lt (hlt0 k hk)).1, (mg_lt (hlt0 k hk)).2]; exact h.inv.old k hk hX
  · have hj := h.inv.out
    rw [htr] at hj ⊢
    refine S.plain.2 none Ω1 we Ωo _ w w S.hj hj ⟨rfl, rfl, rfl, Nat.le_refl _, fun _ _ => rfl, fun k hk => mg_lt ?_, fun k hm => h.mgMine hm, hbnd, rfl⟩
    rw [S.hl] at hk; have := S.hws; omega
end
end Go.Lo
