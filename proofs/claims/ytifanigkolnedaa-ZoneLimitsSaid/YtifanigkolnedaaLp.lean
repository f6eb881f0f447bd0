/- Composite values. -/
import Derived.Test.YtifanigkolnedaaLo
import Derived.Laws.MakeOwn
import Derived.Laws.Slices
namespace Go.Lo
section
variable {P : Program} {X : Sc} {w0 w : World} {Ω : Own} {a : Act} {σ : St} {o : Oper} {mk : Bool}

theorem run_isAgg_yes {t : TypeId} {d : TypeDesc} (hd : P.underlying t = some d) (h : d.isRow = true) (w : World) : (isAgg t).run P w = .ok true w := by
  unfold isAgg
  rw [Sem.run_bind, run_underlying hd w]
  cases d <;> simp_all
/-- A part of cells that are known. -/
theorem run_partV {t : TypeId} {n : Option Nat} (h : nC P t = some n) {cs : List V} {xs : List Value} {off : Nat} {v : V} (hl : DenL Ω w cs xs) (hp : partV cs off n = some v) (w' : World) :
    ∃ x, (part t xs.toArray off).run P w' = .ok x w' ∧ Den Ω w v x := by
  cases n with
  | none =>
    obtain ⟨d, hd, hr⟩ := nC_one h
    simp only [partV] at hp
    obtain ⟨x, hx, hv⟩ := hl.get hp
    exact ⟨x, by simp [part, run_isAgg_no hd hr, hx], hv⟩
  | some n =>
    obtain ⟨⟨d, hd, hr⟩, hs⟩ := nC_many h
    simp only [partV] at hp
    split at hp
    · rename_i hle
      injection hp with hp; subst hp
      refine ⟨.agg (xs.toArray.extract off (off + n)), by simp [part, run_isAgg_yes hd hr, run_sizeOf hs], ?_⟩
      have e : xs.toArray.extract off (off + n) = ((xs.drop off).take n).toArray := by
        apply Array.ext'
        rw [Array.toList_extract]
        simp [List.extract]
      simp only [Den]
      exact ⟨_, by rw [e], (hl.drop off).take n⟩
    · cases hp
theorem run_field {t : TypeId} {x : Operand} {i : Nat} (ho : o.op = .field t x i) {off : Nat} {u : TypeId} {n : Option Nat} (hf : fieldC P t i = some (off, u)) (hn : nC P u = some n) {cs : List V} {v : V} (hx : Den Ω w (.agg cs) (a.eval x)) (hp : partV cs off n = some v) :
    ∃ y, (execOp a.eval o).run P w = .ok (.value y) w ∧ Den Ω w v y := by
  simp only [Den] at hx
  obtain ⟨xs, hx1, hx2⟩ := hx
  obtain ⟨fs, f, h1, h2, rfl, rfl⟩ := fieldC_spec hf
  obtain ⟨y, hy, hd⟩ := run_partV hn hx2 hp w
  exact ⟨y, by simp [execOp, ho, Instr.field, run_underlying h1, h2, hx1, asAgg, hy], hd⟩
theorem run_index {t e : TypeId} {x i : Operand} (ho : o.op = .index t x i) {len sz : Nat} {n : Option Nat} (ht : P.underlying t = some (.array len e)) (hs : sizeC P e = some sz) (hn : nC P e = some n) {cs : List V} {k : IntKind} {j : Int} {v : V}
    (hx : Den Ω w (.agg cs) (a.eval x)) (hi : Den Ω w (.int k j) (a.eval i)) (h0 : 0 ≤ j ∧ j < len) (hp : partV cs (j.toNat * sz) n = some v) :
    ∃ y, (execOp a.eval o).run P w = .ok (.value y) w ∧ Den Ω w v y := by
  simp only [Den] at hx hi
  obtain ⟨xs, hx1, hx2⟩ := hx
  obtain ⟨y, hy, hd⟩ := run_partV hn hx2 hp w
  exact ⟨y, by simp [execOp, ho, Instr.index, run_underlying ht, hx1, hi, asIntOf, h0, run_sizeOf hs, hy], hd⟩

/-! ### Filling -/
theorem foldl_set (off : Nat) : ∀ (vs : List Value) (k : Nat) (cells : Array Value), off + k + vs.length ≤ cells.size →
    (List.foldl (fun cs (p : Value × Nat) => cs.setIfInBounds (off + p.2) p.1) cells (vs.zipIdx k)).toList = cells.toList.take (off + k) ++ vs ++ cells.toList.drop (off + k + vs.length)
  | [], k, cells, _ => by simp
  | v :: vs, k, cells, h => by
    simp only [List.length_cons] at h
    rw [List.zipIdx_cons, List.foldl_cons, foldl_set off vs (k + 1) _ (by simp only [Array.size_setIfInBounds]; omega)]
    simp only [Array.toList_setIfInBounds, List.length_cons]
    have hlt : off + k < cells.toList.length := by simpa using (by omega : off + k < cells.size)
    rw [show off + (k + 1) = (off + k) + 1 by omega, List.take_succ_eq_append_getElem (by simpa using hlt), List.take_set_of_le (Nat.le_refl _), List.getElem_set_self, List.drop_set_of_lt (by omega)]
    rw [show off + k + 1 + vs.length = off + k + (vs.length + 1) by omega]
    simp
theorem fill_step (place : Nat → Option (Nat × Nat)) (cells : Array Value) (i : Nat) (v : Value) (rest : List (Nat × Value)) {off n : Nat} (hp : place i = some (off, n)) (hn : v.cells.size = n) (hle : off + n ≤ cells.size) :
    Instr.fill place cells ((i, v) :: rest) = Instr.fill place (cells.toList.take off ++ v.cells.toList ++ cells.toList.drop (off + n)).toArray rest := by
  have hc : ¬ ((decide (v.cells.size ≠ n) || decide (off + v.cells.size > cells.size)) = true) := by simp [hn]; omega
  simp only [Instr.fill, hp]
  rw [if_neg hc]
  congr 1
  apply Array.ext'
  rw [← Array.foldl_toList, Array.toList_zipIdx]
  have := foldl_set off v.cells.toList 0 cells (by simpa [hn] using hle)
  simp only [Nat.add_zero, Array.length_toList, hn] at this
  exact this
theorem fill_sound {place : Nat → Option (Nat × Nat)} : ∀ {pl : List (Nat × Nat)} {vs : List V} {zs cs : List V} {ps : List (Nat × Value)} {cells : Array Value}, fill pl vs zs = some cs →
    ps.map (fun p => place p.1) = pl.map some → DenL Ω w vs (ps.map (·.2)) → DenL Ω w zs cells.toList → ∃ cells', Instr.fill place cells ps = some cells' ∧ DenL Ω w cs cells'.toList := by
  intro pl
  induction pl with
  | nil =>
    intro vs zs cs ps cells h hp hv hz
    have hps : ps = [] := by simpa using hp
    subst hps
    cases vs with
    | nil => simp only [fill, Option.some.injEq] at h; subst h; exact ⟨cells, rfl, hz⟩
    | cons v vs => simp [fill] at h
  | cons q pl ih =>
    intro vs zs cs ps cells h hp hv hz
    obtain ⟨off, n⟩ := q
    cases vs with
    | nil => simp [fill] at h
    | cons v vs =>
      cases ps with
      | nil => simp at hp
      | cons p ps =>
        obtain ⟨i, x⟩ := p
        simp only [List.map_cons, List.cons.injEq] at hp hv
        simp only [DenL] at hv
        obtain ⟨x', xs', e, hv1, hv2⟩ := hv
        injection e with e1 e2
        subst e1; subst e2
        simp only [fill] at h
        split at h
        · rename_i hc
          split at h
          · rename_i zs' hs
            have hx := Den.cells hc.2 hv1
            have hxl : x.cells.size = n := by rw [← Array.length_toList, hx.length, hc.1]
            have hle : off + n ≤ cells.size := by
              have := hs
              unfold splice at this
              split at this
              · rename_i hl
                rw [hc.1, ← hz.length, Array.length_toList] at hl; exact hl
              · cases this
            obtain ⟨cells', g1, g2⟩ := ih (cells := (cells.toList.take off ++ x.cells.toList ++ cells.toList.drop (off + n)).toArray) h hp.2 hv2 (by
              have := DenL.splice hz hx hs
              rw [hc.1] at this
              exact this)
            exact ⟨cells', by rw [fill_step place cells i x ps hp.1 hxl hle]; exact g1, g2⟩
          · cases h
        · cases h
/-- The zero value of a type. -/
theorem zeroC_spec {t : TypeId} {z : V} (h : zeroC P t = some z) : ∃ i zv, P.info? t = some i ∧ i.zero = some zv ∧ valV zv = some z ∧ z.cells.length = i.size ∧ z.cells.all V.cellOk = true := by
  unfold zeroC at h
  cases hi : P.info? t with
  | none => simp [hi] at h
  | some i =>
    cases hz : i.zero with
    | none => simp [hi, hz] at h
    | some zv =>
      simp only [hi, hz] at h
      split at h
      · rename_i v hv
        split at h
        · rename_i hc
          injection h with h; subst h
          exact ⟨i, zv, rfl, hz, hv, hc.1, hc.2⟩
        · cases h
      · cases h
theorem partsC_spec {place : Nat → Option (Nat × Nat)} : ∀ {ps : List (Nat × Operand)} {pl : List (Nat × Nat)}, partsC place ps = some pl → ps.map (fun p => place p.1) = pl.map some
  | [], pl, h => by simp only [partsC, Option.some.injEq] at h; subst h; rfl
  | (i, x) :: ps, pl, h => by
    simp only [partsC] at h
    split at h
    · rename_i q qs h1 h2
      injection h with h; subst h
      simp [h1, partsC_spec h2]
    · cases h
theorem run_build {t : TypeId} {ps : Array (Nat × Operand)} (ho : o.op = .build t ps) {k : K} {xs : List Operand} (hb : buildC P t ps.toList = some (k, xs)) {vs : List V} (hv : DenL Ω w vs (xs.map a.eval)) {cs : List V}
    {zs : List V} {pl : List (Nat × Nat)} (hk : k = .build zs pl) (hf : fill pl vs zs = some cs) :
    ∃ y, (execOp a.eval o).run P w = .ok (.value y) w ∧ Den Ω w (.agg cs) y := by
  unfold buildC at hb
  split at hb
  · rename_i zs' place hz hpl
    split at hb
    · rename_i pl' hp
      simp only [Option.some.injEq, Prod.mk.injEq] at hb
      obtain ⟨rfl, rfl⟩ := hb
      injection hk with hk1 hk2
      subst hk1; subst hk2
      obtain ⟨it, zv, hi, hzz, hval, hl, hc⟩ := zeroC_spec hz
      have hzd := Den.cells (Ω := Ω) (w := w) hc (valV_den _ _ hval)
      have hp' := partsC_spec hp
      obtain ⟨cells, g1, g2⟩ := fill_sound (place := place) (ps := ps.toList.map fun p => (p.1, a.eval p.2)) hf (by rw [List.map_map]; exact hp') (by rw [List.map_map]; rw [List.map_map] at hv; exact hv) hzd
      have hbuilt : P.built t (ps.toList.map fun p => (p.1, a.eval p.2)) = some cells := by
        unfold placesC at hpl
        unfold Program.built
        rw [hi]
        cases hu : P.underlying t with
        | none => simp [hu] at hpl
        | some d =>
          cases d <;> simp only [hu, reduceCtorEq] at hpl
          case struct fs =>
            split at hpl
            · rename_i l hl
              injection hpl with hpl; subst hpl
              simp only [hzz, hl]
              exact g1
            · cases hpl
          case array n e =>
            split at hpl
            · rename_i ie hie
              injection hpl with hpl; subst hpl
              simp only [hzz, hie]
              exact g1
            · cases hpl
      refine ⟨.agg cells, ?_, ?_⟩
      · have := Go.run_build (P := P) w t (ps.map fun p => (p.1, a.eval p.2)) cells (by rw [Array.toList_map]; exact hbuilt)
        simp only [execOp, ho, Sem.run_bind]
        rw [this]
        rfl
      · simp only [Den]
        exact ⟨cells.toList, by simp, g2⟩
    · cases hb
  · cases hb

/-! ### Slices -/
theorem replicate_made (z : List Value) : ∀ (m : Nat), ((List.range (m * z.length)).map fun i => z.toArray[i % z.length]!) = (List.replicate m z).flatten
  | 0 => by simp
  | m + 1 => by
    rw [Nat.succ_mul, Nat.add_comm, List.range_add, List.map_append, List.map_map, List.replicate_succ, List.flatten_cons, ← replicate_made z m]
    congr 1
    · apply List.ext_getElem
      · simp
      · intro i h1 h2
        simp only [List.length_map, List.length_range] at h1
        simp [Nat.mod_eq_of_lt h1, h1]
    · apply List.map_congr_left
      intro i _
      simp
theorem DenL.replicate {cs : List V} {xs : List Value} (h : DenL Ω w cs xs) : ∀ (m : Nat), DenL Ω w (List.replicate m cs).flatten (List.replicate m xs).flatten
  | 0 => by simp [DenL]
  | m + 1 => by
    rw [List.replicate_succ, List.replicate_succ, List.flatten_cons, List.flatten_cons]
    exact h.append (DenL.replicate h m)
theorem flatten_set : ∀ {es : List (List V)} {sz i : Nat} {e : List V}, (∀ cs ∈ es, cs.length = sz) → i < es.length → e.length = sz → splice es.flatten (i * sz) e = some (es.set i e).flatten
  | [], sz, i, e, _, hi, _ => by simp at hi
  | cs :: es, sz, 0, e, hl, _, he => by
    have := hl cs (by simp)
    simp only [splice, List.flatten_cons, Nat.zero_mul, Nat.zero_add, List.length_append, List.take_zero, List.nil_append, List.set_cons_zero]
    rw [if_pos (by omega), show e.length = cs.length by omega, List.drop_left]
  | cs :: es, sz, i + 1, e, hl, hi, he => by
    have h0 := hl cs (by simp)
    have ih := flatten_set (i := i) (fun ds hd => hl ds (List.mem_cons_of_mem _ hd)) (by simpa using hi) he
    unfold splice at ih ⊢
    split at ih
    · rename_i hle
      injection ih with ih
      simp only [List.flatten_cons, List.length_append, List.set_cons_succ]
      rw [Nat.succ_mul, if_pos (by omega), ← ih, show i * sz + sz = cs.length + i * sz by omega, List.take_length_add_append, show cs.length + i * sz + e.length = cs.length + (i * sz + e.length) by omega, List.drop_length_add_append]
      simp
    · cases ih
end
end Go.Lo
