/- Appends, and addresses of elements and fields. -/
import Derived.Test.YtifanigkolnedaaLr
namespace Go.Lo
section
variable {P : Program} {X : Sc} {w0 w : World} {Ω : Own} {a : Act} {σ : St} {o : Oper} {mk : Bool}

/-- The elements of a slice that has some. -/
theorem sl_cells {t : Option Nat} {sz : Nat} {es : List (List V)} {x : Value} (h : Den Ω w (.sl t sz es) x) (hne : es ≠ []) :
    ∃ b off cap xs, x = .slice (some ⟨b, off, none⟩) es.length cap ∧ DenL Ω w es.flatten xs ∧ xs.length = es.length * sz ∧ (∀ j v, xs[j]? = some v → w.cell? ((⟨b, off, none⟩ : Addr).add j) = some v) ∧ (∀ cs ∈ es, cs.length = sz ∧ cs.all V.pm = true) := by
  have key : ∀ {b off : Nat}, DenE Ω w es sz b off → ∃ xs, DenL Ω w es.flatten xs ∧ xs.length = es.length * sz ∧ (∀ j v, xs[j]? = some v → w.cell? ((⟨b, off, none⟩ : Addr).add j) = some v) ∧ (∀ cs ∈ es, cs.length = sz ∧ cs.all V.pm = true) := by
    intro b off hE
    obtain ⟨xs, h1, h2⟩ := hE.cells.vals
    refine ⟨xs, h1, by rw [h1.length, hE.length_flatten], fun j v hj => by rw [addr_add]; exact h2 j v hj, fun cs hcs => ?_⟩
    obtain ⟨i, hi⟩ := List.getElem?_of_mem hcs
    obtain ⟨g1, g2, _⟩ := hE.get hi
    exact ⟨g1, g2⟩
  cases t with
  | none =>
    simp only [Den] at h
    rcases h with ⟨rfl, _⟩ | ⟨b, off, cap, rfl, _, hE⟩
    · exact absurd rfl hne
    · obtain ⟨xs, g⟩ := key hE
      exact ⟨b, off, _, xs, rfl, g⟩
  | some t =>
    simp only [Den] at h
    obtain ⟨b, cap, p, rfl, _, _, _, hE⟩ := h
    obtain ⟨xs, g⟩ := key hE
    exact ⟨b, 0, _, xs, rfl, g⟩
theorem run_append_uu {t u e e' : TypeId} (ht : P.underlying t = some (.slice e)) (hu : P.underlying u = some (.slice e')) {n : Nat} (hs : sizeC P e = some n) (ty : TypeId) (args : Array Value) :
    (Builtin.append_ #[t, u] ty args).run P w = (Builtin.append_ #[t, t] ty args).run P w := by
  simp only [Builtin.append_, List.getElem?_toArray, List.getElem?_cons_zero, List.getElem?_cons_succ]
  cases args[0]? with
  | none => rfl
  | some v =>
    cases args[1]? with
    | none => rfl
    | some v' =>
      cases v <;> simp only [Sem.run_bind, run_underlying ht, run_underlying hu, Result.andThen_ok, run_sizeOf hs, Sem.run_pure]
theorem run_append_fit {t e : TypeId} {i : TypeInfo} (ht : P.underlying t = some (.slice e)) (hi : P.info? e = some i) (ty : TypeId)
    (g sLen sCap : Nat) (cur : Array Value) {T : TypeId} (hg : w.heap[g]? = some (.cells cur T (0, 0)))
    (ad : Addr) (m c : Nat) (news : List Value) (hl : news.length = m * i.size) (hnews : ∀ j u, news[j]? = some u → w.cell? (ad.add j) = some u) (h1 : ∀ u ∈ news, u.oneCell' = true)
    (hroom : sLen + m ≤ sCap) (hfit : sLen * i.size + news.length ≤ cur.size) :
    (Builtin.append_ #[t, t] ty #[.slice (some ⟨g, 0, none⟩) sLen sCap, .slice (some ad) m c]).run P w =
      .ok (.slice (some ⟨g, 0, none⟩) (sLen + m) sCap) (w.setRow g (cur.toList.take (sLen * i.size) ++ news ++ cur.toList.drop (sLen * i.size + news.length)).toArray) := by
  have hf := run_firstCells_some (P := P) w i.size m ad m c news hl hnews
  have hst := run_storeCells_at P g (sLen * i.size) T news 0 cur w hg (by simpa using hfit) h1
  simp only [Nat.add_zero] at hst
  simp [Builtin.append_, run_underlying ht, sizeOf, typeInfo, hi, Builtin.lenOf, hroom, hf, Addr.add_lit, hst]
theorem run_append_none {t e : TypeId} {i : TypeInfo} (ht : P.underlying t = some (.slice e)) (hi : P.info? e = some i) (ty : TypeId) {s : Value} {p q : Option Addr} {n k c : Nat} (hs : s = .slice p n k) (hk : n ≤ k) :
    (Builtin.append_ #[t, t] ty #[s, .slice q 0 c]).run P w = .ok s w := by
  subst hs
  have hf : (Builtin.firstCells i.size 0 (.slice q 0 c)).run P w = .ok #[] w := by
    cases q with
    | none => exact run_firstCells_none w i.size 0 0 c
    | some ad => exact run_firstCells_some (P := P) w i.size 0 ad 0 c [] (by simp) (fun j v h => by simp at h)
  cases p with
  | none => simp [Builtin.append_, run_underlying ht, sizeOf, typeInfo, hi, Builtin.lenOf, hf, hk]
  | some ad => simp [Builtin.append_, run_underlying ht, sizeOf, typeInfo, hi, Builtin.lenOf, hf, hk, storeCells]
/-- An append, as an operation. -/
structure AppOp (P : Program) (o : Oper) (x y : Operand) (t e : TypeId) (sz bytes : Nat) (z : V) : Prop where
  op : ∃ c u e', o.op = .call c ∧ c.callee = .builtin .append ∧ c.args.toList = [x, y] ∧ c.argTypes.toList = [t, u] ∧ elemC P u = some e'
  elem : elemC P t = some e
  size : sizeC P e = some sz
  byte : bytesC P e = some bytes
  zero : zeroC P e = some z
  pos : sz ≠ 0 ∧ bytes ≠ 0 ∧ bytes ≤ 1000000
theorem AppOp.run {x y : Operand} {t e : TypeId} {sz bytes : Nat} {z : V} (h : AppOp P o x y t e sz bytes z) : (execOp a.eval o).run P w = ((Builtin.append_ #[t, t] o.type #[a.eval x, a.eval y]).run P w).andThen fun v w => .ok (.value v) w := by
  obtain ⟨c, u, e', ho, hc, h1, h2, hu⟩ := h.op
  have h1 : c.args = #[x, y] := Array.ext' (by simp [h1])
  have h2 : c.argTypes = #[t, u] := Array.ext' (by simp [h2])
  rw [← run_append_uu (elemC_spec h.elem) (elemC_spec hu) h.size]
  simp only [execOp, ho, resolve, invoke, hc, builtin, h1, h2, Sem.run_bind, Sem.run_pure, Result.andThen_ok, List.map_toArray, List.map_cons, List.map_nil]
theorem zeroCells_size (z : Array Value) (n : Nat) : (Builtin.zeroCells z n).size = n * z.size := by simp [Builtin.zeroCells]
theorem yields_append_empty (h : Inv X w0 Ω w a.tmps σ) (hd : ∀ d, o.dst = some d → d < a.tmps.size) {x y : Operand} {t e : TypeId} {sz bytes : Nat} {z : V} (hop : AppOp P o x y t e sz bytes z) {v : V} (hx : Den Ω w v (a.eval x))
    (hxs : ∃ p n k, a.eval x = .slice p n k ∧ n ≤ k) (hy : ∃ q c, a.eval y = .slice q 0 c) : Yields P X w0 Ω w a o (apply σ o.dst (.val v)) mk := by
  obtain ⟨i, hi, _⟩ := info_size hop.size
  obtain ⟨p, n, k, h1, h2⟩ := hxs
  obtain ⟨q, c, h3⟩ := hy
  refine Yields.val h hd ?_ hx
  rw [hop.run, h3, run_append_none (elemC_spec hop.elem) hi o.type h1 h2]
  rfl
theorem yields_append_new (h : Inv X w0 Ω w a.tmps σ) {x y : Operand} {t e : TypeId} {sz bytes : Nat} {z : V} (hop : AppOp P o x y t e sz bytes z) {d : Nat} (hdst : o.dst = some d) (hd : d < a.tmps.size) (hf : Fresh Ω d)
    (hx : Den Ω w .nil (a.eval x)) {u : Option Nat} {ys : List (List V)} (hy : Den Ω w (.sl u sz ys) (a.eval y)) (hne : ys ≠ []) (hb : ys.length * bytes ≤ 140737488355328) :
    Yields P X w0 Ω w a o (apply σ o.dst (.mk (.sl (some (d * 100)) sz ys) (d * 100) ys.length [])) true := by
  obtain ⟨i, zv, hi, hzz, hval, hl, hc⟩ := zeroC_spec hop.zero
  have hsi := size_info hop.size hi
  have hbi := bytes_info hop.byte hi
  subst hsi; subst hbi
  have hzs : zv.cells.size = i.size := by rw [← Array.length_toList, (Den.cells (Ω := Ω) (w := w) hc (valV_den _ _ hval)).length, hl]
  obtain ⟨b, off, cap, xs, h1, h2, h3, h4, h5⟩ := sl_cells hy hne
  simp only [Den] at hx
  have hpos : 0 < ys.length := List.length_pos_iff.2 hne
  have hle : ys.length ≤ ys.length * i.bytes := Nat.le_mul_of_pos_right _ (Nat.pos_of_ne_zero hop.pos.2.1)
  have hr := run_append_nil (P := P) w t o.type e i zv (elemC_spec hop.elem) hi hzz ⟨b, off, none⟩ ys.length cap xs h3 h4 hpos (by omega) (by omega)
  have hge := grownCap_ge w ys.length 0 e
  refine Yields.arr (nd := 1) (ys := xs) (T := e) (c := xs.toArray ++ Builtin.zeroCells zv.cells (grownCap w ys.length 0 e - ys.length)) (k := grownCap w ys.length 0 e) h hdst hd hf ?_ ?_ hge (Nat.pos_of_ne_zero hop.pos.1) rfl (by rw [prot_nil]; exact h2) h5 (fun j y hj => ?_)
  · rw [hop.run, hx, h1, hr]; rfl
  · rw [Array.size_append, zeroCells_size, hzs, List.size_toArray, h3, ← Nat.add_mul]; congr 1; omega
  · rw [Array.getElem?_append_left (by simpa using (List.getElem?_eq_some_iff.1 hj).1)]; simpa using hj
theorem protT_nil : ∀ (l : List (Nat × Nat × Bool)), protT [] l = l
  | [] => rfl
  | (k, n, w) :: l => by simp [protT, memN, protT_nil l]
theorem yields_append_prep (h : Inv X w0 Ω w a.tmps σ) {x y : Operand} {t e : TypeId} {sz bytes : Nat} {z : V} (hop : AppOp P o x y t e sz bytes z) {d : Nat} (hdst : o.dst = some d) (hd : d < a.tmps.size)
    (hx : Den Ω w .nil (a.eval x)) {u : Option Nat} {ys : List (List V)} (hy : Den Ω w (.sl u sz ys) (a.eval y)) (hne : ys ≠ []) (hb : ys.length * bytes ≤ 140737488355328) :
    Yields P X w0 Ω w a o (apply σ o.dst (.mkp (.sl (some (d * 100)) sz ys) d ys.length)) true := by
  have hy' := Den.prepD (ds := [d]) _ _ hy
  have hyy : ∃ u', Den (Ω.prep [d]) w (.sl u' sz ys) (a.eval y) := by
    cases u with
    | none => exact ⟨none, hy'⟩
    | some u =>
      simp only [V.prep] at hy'
      split at hy'
      · exact ⟨none, hy'⟩
      · exact ⟨some u, hy'⟩
  obtain ⟨u', hyy⟩ := hyy
  have hx' : Den (Ω.prep [d]) w .nil (a.eval x) := by simpa [Den] using hx
  obtain ⟨x1, w1, Ω1, k1, k2, k3⟩ := yields_append_new (h.prep [d]) hop hdst hd (fresh_prep (by simp [memN])) hx' hyy hne hb
  refine ⟨x1, w1, Ω1, k1, ?_, fun d' hf hne' => k3 d' ⟨fun b hb => hf.1 b (prep_box hb).1, fun b t p e hb => hf.2 b t p e (prep_arr hb).1⟩ hne'⟩
  have e : protT [] (prepT [d] σ.tk) = prepT [d] σ.tk := protT_nil _
  simp only [apply] at k2
  rw [e] at k2
  simpa only [apply, Lo.prep] using k2
theorem run_append_zeros {t u e : TypeId} {i : TypeInfo} {zv : Value} {q : IntKind} (ht : P.underlying t = some (.slice e)) (hu : P.underlying u = some (.int q)) (hi : P.info? e = some i) (hz : i.zero = some zv) (hs : i.size ≠ 0) (ty : TypeId) {k : IntKind} {n : Nat}
    (h0 : 0 < n) (h63 : (n : Int) ≤ 9223372036854775807) (h48 : n * i.bytes ≤ 281474976710656) :
    (Builtin.append_ #[t, u] ty #[.slice none 0 0, .int k (n : Int)]).run P w =
      .ok (.slice (some ⟨w.heap.size, 0, none⟩) n (grownCap w n 0 e)) (w.drew.alloc (.cells (Builtin.zeroCells zv.cells n ++ Builtin.zeroCells zv.cells (grownCap w n 0 e - n)) e)) := by
  have hn : n ≠ 0 := by omega
  have hw : IntKind.i64.wrap (n : Int) = (n : Int) := by
    rw [IntKind.wrap_i64]; omega
  have h1 : ¬ ((n : Int) < 0) := by omega
  have h2 : ¬ (281474976710656 < (n : Int) * (i.bytes : Int)) := by
    have : ((n * i.bytes : Nat) : Int) ≤ ((281474976710656 : Nat) : Int) := Int.ofNat_le.2 h48
    rw [Int.natCast_mul] at this; omega
  have h63' : ¬ (9223372036854775807 < (n : Int)) := by omega
  have h48' : ¬ (281474976710656 < Builtin.nextslicecap n 0 * i.bytes) := by rw [nextslicecap_zero h0]; omega
  have hm : n * i.size ≠ 0 := Nat.mul_ne_zero hn hs
  simp [Builtin.append_, run_underlying ht, run_underlying hu, sizeOf, typeInfo, zeroValue, hi, hz, asInt, asIntOf, hw, h1, h2, hn, h63', h48', Question.forced, run_firstCells_none, newRow, grownCap]
  intro hx
  exact absurd hx hm
theorem fresh_tok (h : Inv X w0 Ω w a.tmps σ) {t n d : Nat} {wr : Bool} (ht : get σ.tk t = some (n, wr)) (hf : Fresh Ω d) : t / 100 ≠ d := by
  intro e
  obtain ⟨c, k, T, xs, _, ⟨p, g2⟩, _⟩ := h.tok t n wr ht
  exact hf.2 c t p e g2
theorem yields_append_more (h : Inv X w0 Ω w a.tmps σ) (hd : ∀ d, o.dst = some d → d < a.tmps.size) {x y : Operand} {t e : TypeId} {sz bytes : Nat} {z : V} (hop : AppOp P o x y t e sz bytes z)
    {u n : Nat} {wr : Bool} {xs : List (List V)} (hx : Den Ω w (.sl (some u) sz xs) (a.eval x)) (ht : get σ.tk u = some (n, wr)) (hn : n = xs.length)
    {q : Option Nat} {ys : List (List V)} (hy : Den Ω w (.sl q sz ys) (a.eval y)) (hne : ys ≠ []) (hb : (xs.length + ys.length) * bytes ≤ 140737488355328) :
    Yields P X w0 Ω w a o (apply σ o.dst (.app (.sl (some u) sz (xs ++ ys)) u (xs.length + ys.length))) mk := by
  obtain ⟨i, zv, hi, hzz, hval, hl, hc⟩ := zeroC_spec hop.zero
  have hsi := size_info hop.size hi
  have hbi := bytes_info hop.byte hi
  subst hsi; subst hbi
  have hzs : zv.cells.size = i.size := by rw [← Array.length_toList, (Den.cells (Ω := Ω) (w := w) hc (valV_den _ _ hval)).length, hl]
  obtain ⟨b, off, cap, vs, h1, h2, h3, h4, h5⟩ := sl_cells hy hne
  obtain ⟨c, k, T, old, g1, ⟨p, g2⟩, g3, g4, g5, g6, g7, g8⟩ := h.tok u n wr ht
  have hfu : ∀ d, Fresh Ω d → u / 100 ≠ d := fun d hf => fresh_tok h ht hf
  simp only [Den] at hx
  obtain ⟨b', cap', p', hx1, hx2, hx3, hx4, hx5⟩ := hx
  obtain ⟨e1, e2⟩ := (hx4 c k n g1).2 hn.symm
  subst e1
  rw [e2] at hx1
  have hpos : 0 < ys.length := List.length_pos_iff.2 hne
  have hcell : vs.all Value.oneCell' = true := List.all_eq_true.2 fun v hv => DenL.one (List.all_eq_true.2 fun c hc => by
    obtain ⟨cs, hcs, hcc⟩ := List.mem_flatten.1 hc
    exact (V.pm_pure (List.all_eq_true.1 (h5 cs hcs).2 c hcc)).2) h2 v hv
  by_cases hroom : xs.length + ys.length ≤ k
  · have hfit : xs.length * i.size + vs.length ≤ old.size := by rw [g4, h3, ← Nat.add_mul, ← hx3]; exact Nat.mul_le_mul_right _ hroom
    have hr := run_append_fit (P := P) (w := w) (elemC_spec hop.elem) hi o.type b' xs.length k old g3 ⟨b, off, none⟩ ys.length cap vs h3 h4 (List.all_eq_true.1 hcell) hroom hfit
    subst hn
    obtain ⟨k1, k2⟩ := h.app (m := ys.length) ht g1 g2 g3 hx3 (by rw [g4, ← hx3]) hroom rfl rfl hx5 h2 h5
    refine ⟨_, _, _, .inl ?_, k1.putO hd k2 a rfl, fun d hf _ => ⟨fun b hb => hf.1 b hb, fun b t p e hb => hf.2 b t p e hb⟩⟩
    rw [hop.run, hx1, h1, hr]; rfl
  · have hle : xs.length + ys.length ≤ (xs.length + ys.length) * i.bytes := Nat.le_mul_of_pos_right _ (Nat.pos_of_ne_zero hop.pos.2.1)
    obtain ⟨us, q1, q2⟩ := hx5.cells.vals
    have hul : us.length = xs.length * i.size := by rw [q1.length, hx5.length_flatten]
    have hr := run_append_grow (P := P) w t o.type e i zv (elemC_spec hop.elem) hi hzz ⟨b', 0, none⟩ xs.length k us hul (fun j v hj => by rw [addr_add]; exact q2 j v hj) ⟨b, off, none⟩ ys.length cap vs h3 h4 (by omega) (by omega)
      (growslice_fits (by omega) hb)
    have hge := grownCap_ge w (xs.length + ys.length) k e
    have hpx : ∀ cs ∈ xs, cs.length = i.size ∧ cs.all V.pm = true := fun cs hcs => by
      obtain ⟨j, hj⟩ := List.getElem?_of_mem hcs
      obtain ⟨r1, r2, _⟩ := hx5.get hj
      exact ⟨r1, r2⟩
    have hall : DenL Ω w (xs ++ ys).flatten (us ++ vs) := by rw [List.flatten_append]; exact q1.append h2
    have hd' := h.drew 1
    subst hn
    obtain ⟨k1, k2⟩ := hd'.grow (m := ys.length) ht hx3 hpos (us.toArray ++ vs.toArray ++ Builtin.zeroCells zv.cells (grownCap w (xs.length + ys.length) k e - (xs.length + ys.length))) e (k := grownCap w (xs.length + ys.length) k e)
      (by simp only [Array.size_append, zeroCells_size, hzs, List.size_toArray, hul, h3, ← Nat.add_mul]; congr 1; omega) hge rfl rfl (DenL.ext (goes_drew h 1).ext _ _ hall)
      (fun cs hcs => by
        rcases List.mem_append.1 hcs with h | h
        · exact hpx cs h
        · exact h5 cs h)
      (fun j y hj => by
        rw [Array.getElem?_append_left (by simpa using (List.getElem?_eq_some_iff.1 hj).1), List.append_toArray]
        simpa using hj)
    refine ⟨_, _, _, .inl ?_, k1.putO hd k2 a rfl, fun d hf _ => ⟨fun b hb => ?_, fun b t p e hb => ?_⟩⟩
    · rw [hop.run, hx1, h1, hr]; rfl
    · simp only [Own.grow] at hb
      split at hb
      · cases hb
      · exact hf.1 b hb
    · simp only [Own.grow] at hb
      split at hb
      · injection hb with hb _
        subst hb
        exact hfu d hf e
      · exact hf.2 b t p e hb
/-- Zeros into a slice that is nil. -/
structure AppZ (P : Program) (o : Oper) (x y : Operand) (t e : TypeId) (sz bytes : Nat) (z : V) : Prop where
  op : ∃ c u q, o.op = .call c ∧ c.callee = .builtin .append ∧ c.args.toList = [x, y] ∧ c.argTypes.toList = [t, u] ∧ P.underlying u = some (.int q)
  elem : elemC P t = some e
  size : sizeC P e = some sz
  byte : bytesC P e = some bytes
  zero : zeroE P e = some z
  pos : sz ≠ 0 ∧ bytes ≠ 0
theorem yields_appz (h : Inv X w0 Ω w a.tmps σ) {x y : Operand} {t e : TypeId} {sz bytes : Nat} {z : V} (hop : AppZ P o x y t e sz bytes z) {d : Nat} (hdst : o.dst = some d) (hd : d < a.tmps.size)
    (hx : Den Ω w .nil (a.eval x)) {k : IntKind} {n : Int} (hy : Den Ω w (.int k n) (a.eval y)) (h0 : 0 < n) (hb : n * bytes ≤ 140737488355328) :
    Yields P X w0 Ω w a o (apply σ o.dst (.mkp (.sl (some (d * 100)) sz (List.replicate n.toNat z.cells)) d n.toNat)) true := by
  obtain ⟨hz, hzp⟩ := zeroE_spec hop.zero
  obtain ⟨i, zv, hi, hzz, hval, hl, hcc⟩ := zeroC_spec hz
  have hsi := size_info hop.size hi
  have hbi := bytes_info hop.byte hi
  subst hsi; subst hbi
  obtain ⟨c, u, q, ho, hc, h1, h2, hu⟩ := hop.op
  have h1 : c.args = #[x, y] := Array.ext' (by simp [h1])
  have h2 : c.argTypes = #[t, u] := Array.ext' (by simp [h2])
  simp only [Den] at hx hy
  have hzs : zv.cells.size = i.size := by rw [← Array.length_toList, (Den.cells (Ω := Ω) (w := w) hcc (valV_den _ _ hval)).length, hl]
  have hnn : ((n.toNat : Nat) : Int) = n := Int.toNat_of_nonneg (by omega)
  have hpos : 0 < n.toNat := by omega
  have hbn : n.toNat * i.bytes ≤ 140737488355328 := by
    have : ((n.toNat * i.bytes : Nat) : Int) ≤ ((140737488355328 : Nat) : Int) := by rw [Int.natCast_mul, hnn]; exact hb
    exact Int.ofNat_le.1 this
  have hle : n.toNat ≤ n.toNat * i.bytes := Nat.le_mul_of_pos_right _ (Nat.pos_of_ne_zero hop.pos.2)
  have hr := run_append_zeros (w := w) (elemC_spec hop.elem) hu hi hzz hop.pos.1 o.type (k := k) hpos (by omega) (by omega)
  rw [hnn] at hr
  have hge := grownCap_ge w n.toNat 0 e
  have hz0 : ∀ m : Nat, (Builtin.zeroCells zv.cells m).toList = (List.replicate m zv.cells.toList).flatten := by
    intro m
    rw [← replicate_made, Array.length_toList]
    simp [Builtin.zeroCells]
  have hrow : DenL ((Ω.prep [d]).prot []) w (List.replicate n.toNat z.cells).flatten (Builtin.zeroCells zv.cells n.toNat).toList := by
    rw [hz0]
    exact (Den.cells hcc (valV_den _ _ hval)).replicate _
  obtain ⟨x1, w1, Ω1, k1, k2, k3⟩ := Yields.arr (P := P) (nd := 1) (ys := (Builtin.zeroCells zv.cells n.toNat).toList) (T := e) (k := grownCap w n.toNat 0 e) (n := n.toNat) (sz := i.size)
    (c := Builtin.zeroCells zv.cells n.toNat ++ Builtin.zeroCells zv.cells (grownCap w n.toNat 0 e - n.toNat)) (h.prep [d]) hdst hd (fresh_prep (by simp [memN]))
    (by simp only [execOp, ho, resolve, invoke, hc, builtin, h1, h2, Sem.run_bind, Sem.run_pure, Result.andThen_ok, List.map_toArray, List.map_cons, List.map_nil, hx, hy, hr]; rfl)
    (by rw [Array.size_append, zeroCells_size, zeroCells_size, hzs, ← Nat.add_mul]; congr 1; omega) hge (Nat.pos_of_ne_zero hop.pos.1) (by simp) hrow
    (fun cs hcs => by rw [List.mem_replicate] at hcs; rw [hcs.2]; exact ⟨hl, hzp⟩)
    (fun j y hj => by rw [Array.getElem?_append_left (by simpa using (List.getElem?_eq_some_iff.1 hj).1)]; simpa using hj)
  refine ⟨x1, w1, Ω1, k1, ?_, fun d' hf hne' => k3 d' ⟨fun b hb => hf.1 b (prep_box hb).1, fun b t p e hb => hf.2 b t p e (prep_arr hb).1⟩ hne'⟩
  have e : protT [] (prepT [d] σ.tk) = prepT [d] σ.tk := protT_nil _
  simp only [apply] at k2
  rw [e] at k2
  simpa only [apply, Lo.prep] using k2
end
end Go.Lo
