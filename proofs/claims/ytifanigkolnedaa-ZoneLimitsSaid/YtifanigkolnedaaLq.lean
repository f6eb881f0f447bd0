/- Slices that are made. -/
import Derived.Test.YtifanigkolnedaaLp
namespace Go.Lo
section
variable {P : Program} {X : Sc} {w0 w : World} {Ω : Own} {a : Act} {σ : St} {o : Oper} {mk : Bool}

theorem elemC_spec {t e : TypeId} (h : elemC P t = some e) : P.underlying t = some (.slice e) := by
  unfold elemC at h
  split at h
  · injection h with h; subst h; assumption
  · cases h
theorem memN_append {s : Nat} : ∀ {xs ys : List Nat}, memN s (xs ++ ys) = (memN s xs || memN s ys)
  | [], ys => by simp [memN]
  | x :: xs, ys => by
    simp only [List.cons_append, memN]
    split
    · rfl
    · exact memN_append
theorem memN_self : ∀ {xs : List Nat} {s : Nat}, s ∈ xs → memN s xs = true
  | x :: xs, s, h => by
    simp only [memN]
    split
    · rfl
    · rename_i hne
      rcases List.mem_cons.1 h with rfl | h
      · exact absurd rfl hne
      · exact memN_self h
/-- Elements of a slice, one by one. -/
theorem fillE_sound {sz : Nat} {ps : List Nat} : ∀ {ix : List Nat} {vs : List V} {es es' : List (List V)} {ts : List Nat} {xs : List Value} {cells : Array Value}, fillE sz ix vs es = some (es', ts) → (∀ t ∈ ts, memN t ps = true) →
    (∀ cs ∈ es, cs.length = sz ∧ cs.all V.pm = true) → DenL Ω w vs xs → DenL (Ω.prot ps) w es.flatten cells.toList →
    ∃ cells', Instr.fill (fun i => some (i * sz, sz)) cells (ix.zip xs) = some cells' ∧ DenL (Ω.prot ps) w es'.flatten cells'.toList ∧ es'.length = es.length ∧ (∀ cs ∈ es', cs.length = sz ∧ cs.all V.pm = true) ∧ ix.length = xs.length := by
  intro ix
  induction ix with
  | nil =>
    intro vs es es' ts xs cells h ht hes hv hd
    cases vs with
    | nil =>
      simp only [fillE, Option.some.injEq, Prod.mk.injEq] at h
      obtain ⟨rfl, rfl⟩ := h
      simp only [DenL] at hv
      subst hv
      exact ⟨cells, rfl, hd, rfl, hes, rfl⟩
    | cons v vs => simp [fillE] at h
  | cons i ix ih =>
    intro vs es es' ts xs cells h ht hes hv hd
    cases vs with
    | nil => simp [fillE] at h
    | cons v vs =>
      simp only [DenL] at hv
      obtain ⟨x, xs, rfl, hv1, hv2⟩ := hv
      simp only [fillE] at h
      split at h
      · rename_i v' us hf
        split at h
        · rename_i hc
          split at h
          · rename_i es2 us2 h2
            simp only [Option.some.injEq, Prod.mk.injEq] at h
            obtain ⟨rfl, rfl⟩ := h
            have hx := (Den.frzE (ps := ps) v v' us x hf (fun t h => ht t (by simp [h])) hv1).1
            have hcc : v'.cells.all V.cellOk = true := List.all_eq_true.2 fun z hz => (V.pm_pure (List.all_eq_true.1 hc.2.1 z hz)).2
            have hxc := Den.cells hcc hx
            have hxl : x.cells.size = sz := by rw [← Array.length_toList, hxc.length, hc.1]
            have hsp := flatten_set (fun cs h => (hes cs h).1) hc.2.2 hc.1
            have hle : i * sz + sz ≤ cells.size := by
              have := hsp
              unfold splice at this
              split at this
              · rename_i hl
                rw [hc.1, ← hd.length, Array.length_toList] at hl; exact hl
              · cases this
            have hsd := DenL.splice hd hxc hsp
            rw [hc.1] at hsd
            obtain ⟨cells', g1, g2, g3, g4, g5⟩ := ih (cells := (cells.toList.take (i * sz) ++ x.cells.toList ++ cells.toList.drop (i * sz + sz)).toArray) h2 (fun t h => ht t (by simp [h])) (fun cs hcs => by
              rcases List.mem_or_eq_of_mem_set hcs with h | rfl
              · exact hes cs h
              · exact ⟨hc.1, hc.2.1⟩) hv2 hsd
            refine ⟨cells', ?_, g2, by rw [g3, List.length_set], g4, by simp [g5]⟩
            rw [List.zip_cons_cons, fill_step _ cells i x _ rfl hxl hle]
            exact g1
          · cases h
        · cases h
      · cases h
theorem zero_row {z : V} {zv : Value} {n m : Nat} (hc : z.cells.all V.cellOk = true) (hl : z.cells.length = n) (hval : valV zv = some z) :
    DenL Ω w (List.replicate m z.cells).flatten ((Array.range (m * n)).map (zv.cells[· % zv.cells.size]!)).toList := by
  have hzd := Den.cells (Ω := Ω) (w := w) hc (valV_den _ _ hval)
  have hzs : zv.cells.toList.length = n := by rw [hzd.length, hl]
  have e : ((Array.range (m * n)).map (zv.cells[· % zv.cells.size]!)).toList = (List.replicate m zv.cells.toList).flatten := by
    rw [← replicate_made, hzs, Array.toList_map, Array.toList_range]
    have : zv.cells.size = n := by rw [← Array.length_toList, hzs]
    simp [this]
  rw [e]
  exact hzd.replicate m
theorem zeroE_spec {t : TypeId} {z : V} (h : zeroE P t = some z) : zeroC P t = some z ∧ z.cells.all V.pm = true := by
  unfold zeroE at h
  split at h
  · split at h
    · injection h with h; subst h; exact ⟨by assumption, by assumption⟩
    · cases h
  · cases h
theorem size_info {t : TypeId} {n : Nat} {i : TypeInfo} (hs : sizeC P t = some n) (hi : P.info? t = some i) : i.size = n := by
  unfold sizeC at hs
  simpa [hi] using hs
theorem bytes_info {t : TypeId} {n : Nat} {i : TypeInfo} (hs : bytesC P t = some n) (hi : P.info? t = some i) : i.bytes = n := by
  unfold bytesC at hs
  simpa [hi] using hs
theorem yields_buildSlice (h : Inv X w0 Ω w a.tmps σ) {t e : TypeId} {len : Nat} {ps : Array (Nat × Operand)} (ho : o.op = .buildSlice t len ps) (he : elemC P t = some e) {sz : Nat} (hs : sizeC P e = some sz) {z : V} (hz : zeroE P e = some z)
    (hsz : sz ≠ 0 ∧ len * sz ≤ 16777216) {d : Nat} (hdst : o.dst = some d) (hd : d < a.tmps.size) (hf : Fresh Ω d) {vs : List V} (hv : DenL Ω w vs ((ps.toList.map (·.2)).map a.eval)) {es : List (List V)} {ts : List Nat}
    (hfl : fillE sz (ps.toList.map (·.1)) vs (List.replicate len z.cells) = some (es, ts)) :
    Yields P X w0 Ω w a o (apply σ o.dst (.mk (.sl (some (d * 100)) sz es) (d * 100) len ts)) true := by
  obtain ⟨hz, hzp⟩ := zeroE_spec hz
  obtain ⟨i, zv, hi, hzz, hval, hl, hc⟩ := zeroC_spec hz
  have hsi := size_info hs hi
  subst hsi
  have hrow := zero_row (Ω := Ω.prot ts) (w := w) (m := len) hc hl hval
  obtain ⟨cells, g1, g2, g3, g4, g5⟩ := fillE_sound (ps := ts) hfl (fun t h => memN_self h) (fun cs hcs => by
    rw [List.mem_replicate] at hcs
    rw [hcs.2]; exact ⟨hl, hzp⟩) hv hrow
  have hzip : (ps.map fun (p : Nat × Operand) => (p.1, a.eval p.2)).toList = (ps.toList.map (·.1)).zip ((ps.toList.map (·.2)).map a.eval) := by
    rw [Array.toList_map, List.map_map, List.zip_map']
    rfl
  have hlen : es.length = len := by rw [g3, List.length_replicate]
  have hcl : cells.size = len * i.size := by
    rw [← Array.length_toList, g2.length, flatten_length (fun cs hc => (g4 cs hc).1), hlen]
  refine Yields.arr (nd := 0) (ys := cells.toList) (c := cells) (T := e) (k := len) h hdst hd hf ?_ hcl (Nat.le_refl _) (Nat.pos_of_ne_zero hsz.1) hlen g2 g4 (fun j y hj => by simpa using hj)
  have hgo : ¬ (16777216 < len * i.size) := by omega
  have hlim : ¬ (len * i.size > 2 ^ 24) := by omega
  rw [← hzip] at g1
  by_cases hn : len * i.size = 0
  · rw [hn] at g1
    simp only [Array.range_zero', Array.map_empty, Array.toList_map] at g1
    simp [execOp, ho, Instr.buildSlice, run_underlying (elemC_spec he), run_sizeOf hs, hn, newRow, Array.range_zero', g1, World.drewN_zero]
  · simp only [Array.toList_map] at g1
    simp [execOp, ho, Instr.buildSlice, run_underlying (elemC_spec he), run_sizeOf hs, hn, hgo, zeroValue, typeInfo, hi, hzz, newRow, g1, World.drewN_zero]
theorem yields_makeSlice (h : Inv X w0 Ω w a.tmps σ) {t e : TypeId} {x y : Operand} (ho : o.op = .makeSlice t x y) (he : elemC P t = some e) {sz b : Nat} (hs : sizeC P e = some sz) (hb : bytesC P e = some b) {z : V} (hz : zeroE P e = some z)
    (hsz : sz ≠ 0 ∧ b ≠ 0) {d : Nat} (hdst : o.dst = some d) (hd : d < a.tmps.size) (hf : Fresh Ω d) {k k' : IntKind} {l c : Int} (hx : Den Ω w (.int k l) (a.eval x)) (hy : Den Ω w (.int k' c) (a.eval y))
    (hc : 0 ≤ l ∧ l ≤ c ∧ c * b ≤ 140737488355328) :
    Yields P X w0 Ω w a o (apply σ o.dst (.mk (.sl (some (d * 100)) sz (List.replicate l.toNat z.cells)) (d * 100) l.toNat [])) true := by
  obtain ⟨hz, hzp⟩ := zeroE_spec hz
  obtain ⟨i, zv, hi, hzz, hval, hl, hcc⟩ := zeroC_spec hz
  have hsi := size_info hs hi
  have hbi := bytes_info hb hi
  subst hsi; subst hbi
  simp only [Den] at hx hy
  have hcb : c ≤ c * i.bytes := by
    have : (1 : Int) ≤ i.bytes := by omega
    have h0 : 0 ≤ c := by omega
    calc c = c * 1 := by omega
      _ ≤ c * i.bytes := Int.mul_le_mul_of_nonneg_left this h0
  have hrow := zero_row (Ω := Ω.prot []) (w := w) (m := l.toNat) hcc hl hval
  have hlc : l.toNat ≤ c.toNat := Int.toNat_le_toNat hc.2.1
  refine Yields.arr (nd := 0) (ys := ((Array.range (l.toNat * i.size)).map (zv.cells[· % zv.cells.size]!)).toList) (c := madeCells zv.cells (c.toNat * i.size)) (T := e) (k := c.toNat) h hdst hd hf ?_ (size_madeCells _ _) hlc (Nat.pos_of_ne_zero hsz.1) (by simp) hrow
    (fun cs hcs => by rw [List.mem_replicate] at hcs; rw [hcs.2]; exact ⟨hl, hzp⟩) (fun j y hj => ?_)
  · have := run_make (P := P) w t e i zv (elemC_spec he) hi hzz k k' l c hc.1 hc.2.1 (by rw [Int.mul_comm]; omega) (by omega)
    simp only [execOp, ho, Sem.run_bind, hx, hy, this]
    rfl
  · have hlm : l.toNat * i.size ≤ c.toNat * i.size := Nat.mul_le_mul_right _ hlc
    have hj' := (List.getElem?_eq_some_iff.1 hj).1
    simp only [Array.length_toList, Array.size_map, Array.size_range] at hj'
    rw [← hj]
    simp only [madeCells, Array.getElem?_map, Array.getElem?_toList]
    rw [Array.getElem?_range, Array.getElem?_range, if_pos hj', if_pos (by omega)]

/-! ### Slice expressions -/
/-- An index, if there is one. -/
def popI (b : Bool) (dflt : Int) (vs : List V) : Option (Int × List V) :=
  if b = true then (match vs with | .int _ i :: r => some (i, r) | _ => none) else some (dflt, vs)
theorem popI_spec {x : Option Operand} {xs : List Operand} {vs r : List V} {dflt i : Int} (h : popI x.isSome dflt vs = some (i, r)) (hv : DenL Ω w vs ((x.toList ++ xs).map a.eval)) :
    DenL Ω w r (xs.map a.eval) ∧ ((x = none ∧ i = dflt) ∨ ∃ y k, x = some y ∧ a.eval y = .int k i) := by
  unfold popI at h
  cases x with
  | none =>
    simp only [Option.isSome_none, Bool.false_eq_true, if_false, Option.some.injEq, Prod.mk.injEq] at h
    obtain ⟨rfl, rfl⟩ := h
    exact ⟨by simpa using hv, .inl ⟨rfl, rfl⟩⟩
  | some y =>
    simp only [Option.isSome_some, if_true] at h
    split at h
    · rename_i k j r' 
      simp only [Option.some.injEq, Prod.mk.injEq] at h
      obtain ⟨rfl, rfl⟩ := h
      simp only [Option.toList_some, List.singleton_append, List.map_cons, DenL, Den] at hv
      obtain ⟨x', ys, e, h1, h2⟩ := hv
      injection e with e1 e2
      subst e2
      exact ⟨h2, .inr ⟨y, k, rfl, by rw [e1, h1]⟩⟩
    · cases h
theorem bounds_spec {len n l h : Nat} {lo hi mx : Option Operand} {vs : List V} (hv : DenL Ω w vs ((lo.toList ++ hi.toList ++ mx.toList).map a.eval)) (hb : bounds len n lo.isSome hi.isSome mx.isSome vs = some (l, h)) :
    ∃ il ih im : Int, ((lo = none ∧ il = 0) ∨ ∃ y k, lo = some y ∧ a.eval y = .int k il) ∧ ((hi = none ∧ ih = len) ∨ ∃ y k, hi = some y ∧ a.eval y = .int k ih) ∧ ((mx = none ∧ im = n) ∨ ∃ y k, mx = some y ∧ a.eval y = .int k im) ∧
      0 ≤ il ∧ il ≤ ih ∧ ih ≤ im ∧ im ≤ n ∧ l = il.toNat ∧ h = ih.toNat := by
  have hb' : (match popI lo.isSome 0 vs with
      | none => none
      | some (l, vs) => match popI hi.isSome len vs with
        | none => none
        | some (h, vs) => match popI mx.isSome n vs with
          | some (m, []) => if 0 ≤ l ∧ l ≤ h ∧ h ≤ m ∧ m ≤ n then some (l.toNat, h.toNat) else none
          | _ => none) = some (l, h) := hb
  rw [List.append_assoc] at hv
  split at hb'
  · cases hb'
  · rename_i il vs1 e1
    obtain ⟨hv1, s1⟩ := popI_spec e1 hv
    split at hb'
    · cases hb'
    · rename_i ih vs2 e2
      obtain ⟨hv2, s2⟩ := popI_spec e2 hv1
      split at hb'
      · rename_i im e3
        rw [← List.append_nil mx.toList] at hv2
        obtain ⟨_, s3⟩ := popI_spec e3 hv2
        split at hb'
        · rename_i hc
          simp only [Option.some.injEq, Prod.mk.injEq] at hb'
          exact ⟨il, ih, im, s1, s2, s3, hc.1, hc.2.1, hc.2.2.1, hc.2.2.2, hb'.1.symm, hb'.2.symm⟩
        · cases hb'
      · cases hb'
theorem run_bounds {len n cap l h : Nat} (hlc : n ≤ cap) {lo hi mx : Option Operand} (hm : mx.isSome = true → hi.isSome = true) {vs : List V} (hv : DenL Ω w vs ((lo.toList ++ hi.toList ++ mx.toList).map a.eval)) (hb : bounds len n lo.isSome hi.isSome mx.isSome vs = some (l, h)) :
    ∃ m, (Instr.sliceBounds true len cap (lo.map a.eval) (hi.map a.eval) (mx.map a.eval)).run P w = .ok (l, h, m) w ∧ l ≤ h ∧ h ≤ m ∧ m ≤ cap ∧ h ≤ n := by
  obtain ⟨il, ih, im, s1, s2, s3, c1, c2, c3, c4, rfl, rfl⟩ := bounds_spec hv hb
  have k1 : il ≤ (ih.toNat : Int) := by omega
  have k2 : ih ≤ (im.toNat : Int) := by omega
  have k3 : im ≤ (cap : Int) := by omega
  have k4 : ih ≤ (cap : Int) := by omega
  have k5 : 0 ≤ ih := by omega
  have k6 : 0 ≤ im := by omega
  have b1 : ∀ (q : IntKind) (code : BoundsCode), (Instr.sliceBound (.int q il) ih.toNat code).run P w = .ok il.toNat w := fun q code => run_sliceBound w q il _ code c1 k1
  have b2 : ∀ (q : IntKind) (code : BoundsCode), (Instr.sliceBound (.int q ih) im.toNat code).run P w = .ok ih.toNat w := fun q code => run_sliceBound w q ih _ code k5 k2
  have b3 : ∀ (q : IntKind) (code : BoundsCode), (Instr.sliceBound (.int q im) cap code).run P w = .ok im.toNat w := fun q code => run_sliceBound w q im _ code k6 k3
  have b4 : ∀ (q : IntKind) (code : BoundsCode), (Instr.sliceBound (.int q ih) cap code).run P w = .ok ih.toNat w := fun q code => run_sliceBound w q ih _ code k5 k4
  rcases s3 with ⟨rfl, rfl⟩ | ⟨y3, q3, rfl, e3⟩
  · refine ⟨cap, ?_, by omega, by omega, Nat.le_refl _, by omega⟩
    rcases s1 with ⟨rfl, rfl⟩ | ⟨y1, q1, rfl, e1⟩ <;> rcases s2 with ⟨rfl, rfl⟩ | ⟨y2, q2, rfl, e2⟩
    · simp [Instr.sliceBounds]
    · simp [Instr.sliceBounds, e2, run_sliceBound, k4, k5]
    · have k1' : il ≤ (len : Int) := by omega
      simp [Instr.sliceBounds, e1, run_sliceBound, c1, k1']
    · simp [Instr.sliceBounds, e1, e2, b4, b1]
  · refine ⟨im.toNat, ?_, by omega, by omega, by omega, by omega⟩
    rcases s2 with ⟨rfl, _⟩ | ⟨y2, q2, rfl, e2⟩
    · simp at hm
    · rcases s1 with ⟨rfl, rfl⟩ | ⟨y1, q1, rfl, e1⟩
      · simp [Instr.sliceBounds, e2, e3, b2, b3]
      · simp [Instr.sliceBounds, e1, e2, e3, b1, b2, b3]
theorem run_sliceOp {t e : TypeId} {x : Operand} {lo hi mx : Option Operand} (ho : o.op = .slice t x lo hi mx) (he : elemC P t = some e) {sz : Nat} (hs : sizeC P e = some sz) {p : Option Addr} {len cap l h m : Nat} (hx : a.eval x = .slice p len cap)
    (hb : (Instr.sliceBounds true len cap (lo.map a.eval) (hi.map a.eval) (mx.map a.eval)).run P w = .ok (l, h, m) w) :
    (execOp a.eval o).run P w = .ok (.value (.slice (if m = l then p else p.map (·.add (l * sz))) (h - l) (m - l))) w := by
  simp [execOp, ho, Instr.sliceAt, Instr.slice, run_underlying (elemC_spec he), hx, hb, run_sizeOf hs]
end
end Go.Lo
