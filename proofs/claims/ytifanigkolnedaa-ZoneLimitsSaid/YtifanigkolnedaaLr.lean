/- Slices that are read, cut and appended to; addresses. -/
import Derived.Test.YtifanigkolnedaaLq
namespace Go.Lo
section
variable {P : Program} {X : Sc} {w0 w : World} {Ω : Own} {a : Act} {σ : St} {o : Oper} {mk : Bool}

theorem slice_view {t e : TypeId} {x : Operand} {lo hi mx : Option Operand} (ho : o.op = .slice t x lo hi mx) (he : elemC P t = some e) {sz : Nat} (hs : sizeC P e = some sz) (hm : mx.isSome = true → hi.isSome = true)
    {es : List (List V)} {vs : List V} {Ω' : Own} (hx : Den Ω' w (.sl none sz es) (a.eval x)) (hv : DenL Ω w vs ((lo.toList ++ hi.toList ++ mx.toList).map a.eval)) {l h : Nat} (hb : bounds es.length es.length lo.isSome hi.isSome mx.isSome vs = some (l, h)) :
    ∃ y, (execOp a.eval o).run P w = .ok (.value y) w ∧ Den Ω' w (.sl none sz ((es.take h).drop l)) y := by
  simp only [Den] at hx
  rcases hx with ⟨rfl, q, hx⟩ | ⟨b, off, cap, hx, hf, hE⟩
  · obtain ⟨m, h1, h2, h3, h4, h5⟩ := run_bounds (P := P) (w := w) (cap := 0) (Nat.le_refl _) hm hv hb
    refine ⟨_, run_sliceOp ho he hs hx (by simpa using h1), ?_⟩
    simp only [Den]
    refine .inl ⟨by simp, q, ?_⟩
    have : l = 0 := by simp at h5; omega
    have : h = 0 := by simpa using h5
    subst_vars
    have : m = 0 := by omega
    subst this
    simp
  · obtain ⟨m, h1, h2, h3, h4, h5⟩ := run_bounds (P := P) (w := w) (cap := es.length + cap) (Nat.le_add_right _ _) hm hv hb
    refine ⟨_, run_sliceOp ho he hs hx h1, ?_⟩
    have hl : ((es.take h).drop l).length = h - l := by rw [List.length_drop, List.length_take]; omega
    simp only [Den]
    by_cases hml : m = l
    · have e : (es.take h).drop l = [] := List.eq_nil_of_length_eq_zero (by omega)
      rw [e]
      refine .inr ⟨b, off, m - l - (h - l), ?_, hf, trivial⟩
      rw [if_pos hml, List.length_nil]
      congr 1 <;> omega
    · refine .inr ⟨b, off + l * sz, m - l - (h - l), ?_, hf, (hE.take h).drop l⟩
      rw [if_neg hml, hl]
      simp only [Option.map_some, addr_add]
      congr 1
      omega
theorem yields_slice_none (h : Inv X w0 Ω w a.tmps σ) (hd : ∀ d, o.dst = some d → d < a.tmps.size) {t e : TypeId} {x : Operand} {lo hi mx : Option Operand} (ho : o.op = .slice t x lo hi mx) (he : elemC P t = some e) {sz : Nat} (hs : sizeC P e = some sz) (hm : mx.isSome = true → hi.isSome = true)
    {es : List (List V)} {vs : List V} (hx : Den Ω w (.sl none sz es) (a.eval x)) (hv : DenL Ω w vs ((lo.toList ++ hi.toList ++ mx.toList).map a.eval)) {l r : Nat} (hb : bounds es.length es.length lo.isSome hi.isSome mx.isSome vs = some (l, r)) :
    Yields P X w0 Ω w a o (apply σ o.dst (.val (.sl none sz ((es.take r).drop l)))) mk := by
  obtain ⟨y, h1, h2⟩ := slice_view ho he hs hm hx hv hb
  exact Yields.val h hd h1 h2
theorem yields_slice_some (h : Inv X w0 Ω w a.tmps σ) (hd : ∀ d, o.dst = some d → d < a.tmps.size) {t e : TypeId} {x : Operand} {lo hi mx : Option Operand} (ho : o.op = .slice t x lo hi mx) (he : elemC P t = some e) {sz : Nat} (hs : sizeC P e = some sz) (hm : mx.isSome = true → hi.isSome = true)
    {u : Nat} {es : List (List V)} {vs : List V} (hx : Den Ω w (.sl (some u) sz es) (a.eval x)) (hv : DenL Ω w vs ((lo.toList ++ hi.toList ++ mx.toList).map a.eval)) {l r : Nat} (hb : bounds es.length es.length lo.isSome hi.isSome mx.isSome vs = some (l, r)) :
    Yields P X w0 Ω w a o (apply σ o.dst (.prot (.sl none sz ((es.take r).drop l)) [u])) mk := by
  obtain ⟨y, h1, h2⟩ := slice_view ho he hs hm (Den.view (ps := [u]) (by simp [memN]) hx) hv hb
  exact Yields.prot h hd h1 h2
theorem yields_slice_nil (h : Inv X w0 Ω w a.tmps σ) (hd : ∀ d, o.dst = some d → d < a.tmps.size) {t e : TypeId} {x : Operand} {lo hi mx : Option Operand} (ho : o.op = .slice t x lo hi mx) (he : elemC P t = some e) {sz : Nat} (hs : sizeC P e = some sz) (hm : mx.isSome = true → hi.isSome = true)
    {vs : List V} (hx : Den Ω w .nil (a.eval x)) (hv : DenL Ω w vs ((lo.toList ++ hi.toList ++ mx.toList).map a.eval)) {b : Nat × Nat} (hb : bounds 0 0 lo.isSome hi.isSome mx.isSome vs = some b) :
    Yields P X w0 Ω w a o (apply σ o.dst (.val .nil)) mk := by
  obtain ⟨l, r⟩ := b
  simp only [Den] at hx
  obtain ⟨m, h1, h2, h3, h4, h5⟩ := run_bounds (P := P) (w := w) (cap := 0) (Nat.le_refl _) hm hv hb
  refine Yields.val h hd (run_sliceOp ho he hs hx h1) ?_
  have : l = 0 := by omega
  have : r = 0 := by omega
  have : m = 0 := by omega
  subst_vars
  simp [Den]

theorem yields_trunc (h : Inv X w0 Ω w a.tmps σ) (hd : ∀ d, o.dst = some d → d < a.tmps.size) {t e : TypeId} {x y : Operand} (ho : o.op = .slice t x none (some y) none) (he : elemC P t = some e) {sz : Nat} (hs : sizeC P e = some sz)
    {u : Nat} {es : List (List V)} {q : IntKind} {m : Int} (hx : Den Ω w (.sl (some u) sz es) (a.eval x)) (hy : Den Ω w (.int q m) (a.eval y)) (ht : get σ.tk u = some (es.length, true)) (h0 : 0 ≤ m) (h1 : m ≤ es.length) :
    Yields P X w0 Ω w a o (apply σ o.dst (.trunc (.sl (some u) sz (es.take m.toNat)) u m.toNat)) mk := by
  obtain ⟨c, k, T, xs, g1, ⟨p, g2⟩, g3, g4, g5, g6, g7, g8⟩ := h.tok u _ true ht
  simp only [Den] at hx hy
  obtain ⟨b, cap, p', hx1, hx2, hx3, hx4, hx5⟩ := hx
  obtain ⟨e1, e2⟩ := (hx4 c k _ g1).2 rfl
  subst e1
  rw [e2] at hx1
  have hb : (Instr.sliceBounds true es.length k none (some (a.eval y)) none).run P w = .ok (0, m.toNat, k) w := by
    have := run_sliceBound (P := P) w q m k .sliceAcap h0 (by omega)
    simp [Instr.sliceBounds, hy, this]
  have hr := run_sliceOp (P := P) (w := w) (a := a) ho he hs hx1 (by simpa using hb)
  have hv : (Value.slice (if k = 0 then (some ⟨b, 0, none⟩ : Option Addr) else (some ⟨b, 0, none⟩ : Option Addr).map (·.add (0 * sz))) (m.toNat - 0) (k - 0)) = .slice (some ⟨b, 0, none⟩) m.toNat k := by
    rw [Nat.zero_mul]
    simp [Addr.add]
  rw [hv] at hr
  refine ⟨_, w, Ω.trunc u b k m.toNat, .inl hr, ?_, fun d hf _ => ⟨fun b hb => hf.1 b hb, fun b t p e hb => hf.2 b t p e hb⟩⟩
  exact (h.trunc ht (by omega) g1).putO hd (Den.cut h ht (by omega) g1 hx3 rfl hx5) a rfl

/-! ### Lengths -/
theorem run_lenOp {c : Call} {x : Operand} {t e : TypeId} (ho : o.op = .call c) (hc : c.callee = .builtin .len) (hx : c.args.toList = [x]) (ht : c.argTypes.toList = [t]) (he : elemC P t = some e) {p : Option Addr} {n k : Nat} (hv : a.eval x = .slice p n k) :
    (execOp a.eval o).run P w = .ok (.value (.int .i64 n)) w := by
  have h1 : c.args = #[x] := Array.ext' (by simp [hx])
  have h2 : c.argTypes = #[t] := Array.ext' (by simp [ht])
  simp [execOp, ho, resolve, invoke, hc, builtin, h1, h2, Builtin.len_, run_underlying (elemC_spec he), hv, goInt]
theorem run_capOp {c : Call} {x : Operand} {t e : TypeId} (ho : o.op = .call c) (hc : c.callee = .builtin .cap) (hx : c.args.toList = [x]) (ht : c.argTypes.toList = [t]) (he : elemC P t = some e) {p : Option Addr} {n k : Nat} (hv : a.eval x = .slice p n k) :
    (execOp a.eval o).run P w = .ok (.value (.int .i64 k)) w := by
  have h1 : c.args = #[x] := Array.ext' (by simp [hx])
  have h2 : c.argTypes = #[t] := Array.ext' (by simp [ht])
  simp [execOp, ho, resolve, invoke, hc, builtin, h1, h2, Builtin.cap_, run_underlying (elemC_spec he), hv, goInt]
theorem sl_len {t : Option Nat} {sz : Nat} {es : List (List V)} {x : Value} (h : Den Ω w (.sl t sz es) x) : ∃ p k, x = .slice p es.length k := by
  cases t with
  | none =>
    simp only [Den] at h
    rcases h with ⟨rfl, q, rfl⟩ | ⟨b, off, cap, rfl, _⟩
    · exact ⟨q, 0, rfl⟩
    · exact ⟨_, _, rfl⟩
  | some t =>
    simp only [Den] at h
    obtain ⟨b, cap, p, rfl, _⟩ := h
    exact ⟨_, _, rfl⟩

/-! ### Least and greatest -/
theorem run_max2 (k k' : IntKind) (n m : Int) (w : World) : (Builtin.max2 (.int k n) (.int k' m)).run P w = .ok (.int k (if m > n then m else n)) w := by simp [Builtin.max2]
theorem run_min2 (k k' : IntKind) (n m : Int) (w : World) : (Builtin.min2 (.int k n) (.int k' m)).run P w = .ok (.int k (if m < n then m else n)) w := by simp [Builtin.min2]
theorem intsOf_den : ∀ {vs : List V} {k : IntKind} {ns : List Int} {xs : List Value}, intsOf vs = some (k, ns) → DenL Ω w vs xs → xs = ns.map (.int k)
  | [], k, ns, xs, h, _ => by simp [intsOf] at h
  | [v], k, ns, xs, h, hd => by
    cases v <;> simp [intsOf] at h
    obtain ⟨rfl, rfl⟩ := h
    simp only [DenL, Den] at hd
    obtain ⟨x, ys, rfl, rfl, rfl⟩ := hd
    rfl
  | v :: u :: vs, k, ns, xs, h, hd => by
    cases v <;> simp only [intsOf, reduceCtorEq] at h
    split at h
    · rename_i k' ns' h'
      split at h
      · rename_i hk
        subst hk
        simp only [Option.some.injEq, Prod.mk.injEq] at h
        obtain ⟨rfl, rfl⟩ := h
        rw [DenL] at hd
        obtain ⟨x, ys, rfl, h1, h2⟩ := hd
        simp only [Den] at h1
        rw [intsOf_den h' h2, h1]
        rfl
      · cases h
    · cases h
theorem run_maxL (k : IntKind) : ∀ (ns : List Int) (n : Int), ((ns.map (Value.int k)).foldlM Builtin.max2 (.int k n)).run P w = .ok (.int k (maxL n ns)) w
  | [], n => by simp [maxL]
  | m :: ns, n => by
    rw [List.map_cons, List.foldlM_cons, Sem.run_bind, run_max2]
    simp only [Result.andThen_ok]
    rw [run_maxL k ns]
    rfl
theorem run_minL (k : IntKind) : ∀ (ns : List Int) (n : Int), ((ns.map (Value.int k)).foldlM Builtin.min2 (.int k n)).run P w = .ok (.int k (minL n ns)) w
  | [], n => by simp [minL]
  | m :: ns, n => by
    rw [List.map_cons, List.foldlM_cons, Sem.run_bind, run_min2]
    simp only [Result.andThen_ok]
    rw [run_minL k ns]
    rfl
theorem run_maxOp {c : Call} (ho : o.op = .call c) (hc : c.callee = .builtin .max) {k : IntKind} {n : Int} {ns : List Int} (hx : c.args.toList.map a.eval = (n :: ns).map (.int k)) :
    (execOp a.eval o).run P w = .ok (.value (.int k (maxL n ns))) w := by
  have h1 : (c.args.map a.eval).toList = (n :: ns).map (.int k) := by rw [Array.toList_map, hx]
  simp only [execOp, ho, resolve, invoke, hc, builtin, Sem.run_bind, Sem.run_pure, Result.andThen_ok, Builtin.max_, h1, List.map_cons, run_maxL]
theorem run_minOp {c : Call} (ho : o.op = .call c) (hc : c.callee = .builtin .min) {k : IntKind} {n : Int} {ns : List Int} (hx : c.args.toList.map a.eval = (n :: ns).map (.int k)) :
    (execOp a.eval o).run P w = .ok (.value (.int k (minL n ns))) w := by
  have h1 : (c.args.map a.eval).toList = (n :: ns).map (.int k) := by rw [Array.toList_map, hx]
  simp only [execOp, ho, resolve, invoke, hc, builtin, Sem.run_bind, Sem.run_pure, Result.andThen_ok, Builtin.min_, h1, List.map_cons, run_minL]
end
end Go.Lo
