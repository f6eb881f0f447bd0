/- Operations: operands, and what each one yields. -/
import Derived.Test.YtifanigkolnedaaLj
import Derived.Laws.StructEq
namespace Go.Lo
open Go.RowKit (Below)
section
variable {P : Program} {X : Sc} {w0 w : World} {Ω : Own} {a : Act} {σ : St}

mutual
theorem valV_den : ∀ (x : Value) (v : V), valV x = some v → Den Ω w v x
  | .bool b, v, h => by simp only [valV] at h; injection h with h; subst h; simp [Den]
  | .int k n, v, h => by simp only [valV] at h; injection h with h; subst h; simp [Den]
  | .slice none 0 0, v, h => by simp only [valV] at h; injection h with h; subst h; simp [Den]
  | .agg ⟨l⟩, v, h => by
    simp only [valV] at h
    split at h
    · rename_i l' hl
      injection h with h; subst h
      simp only [Den]
      exact ⟨l, rfl, valVL_den l l' hl⟩
    · cases h
  | .slice none (n + 1) c, v, h => by simp [valV] at h
  | .slice none 0 (c + 1), v, h => by simp [valV] at h
  | .slice (some _) _ _, v, h => by simp [valV] at h
  | .float _ _, v, h => by simp [valV] at h
  | .complex _ _ _, v, h => by simp [valV] at h
  | .string _, v, h => by simp [valV] at h
  | .pointer none, v, h => by simp only [valV] at h; injection h with h; subst h; simp [Den]
  | .pointer (some _), v, h => by simp [valV] at h
  | .map none, v, h => by simp only [valV] at h; injection h with h; subst h; simp [Den]
  | .map (some _), v, h => by simp [valV] at h
  | .chan _, v, h => by simp [valV] at h
  | .func _ _ _, v, h => by simp [valV] at h
  | .nilFunc, v, h => by simp only [valV] at h; injection h with h; subst h; simp [Den]
  | .iface _ _, v, h => by simp [valV] at h
  | .nilIface, v, h => by simp only [valV] at h; injection h with h; subst h; simp [Den]
  | .tuple _, v, h => by simp [valV] at h
theorem valVL_den : ∀ (xs : List Value) (vs : List V), valVL xs = some vs → DenL Ω w vs xs
  | [], vs, h => by simp only [valVL] at h; injection h with h; subst h; exact DenL.nil
  | x :: xs, vs, h => by
    simp only [valVL] at h
    split at h
    · rename_i v' vs' hv hvs
      injection h with h; subst h
      exact DenL.cons (valV_den x v' hv) (valVL_den xs vs' hvs)
    · cases h
end

theorem opd_sound (h : Inv X w0 Ω w a.tmps σ) {x : Operand} {y : Opd} {v : V} (hc : opdC x = some y) (hv : opd σ.fr y = some v) : Den Ω w v (a.eval x) := by
  cases x with
  | tmp s =>
    simp only [opdC, Option.some.injEq] at hc
    subst hc
    simp only [opd] at hv
    cases hg : get σ.fr s with
    | none => rw [hg] at hv; cases hv
    | some u =>
      rw [hg] at hv
      obtain ⟨h1, h2⟩ := h.slot s u hg
      simp only [Act.eval]
      cases u <;> simp only [Option.some.injEq, reduceCtorEq] at hv <;> subst hv <;> first
        | exact h2
        | (simp only [DenS] at h2
           obtain ⟨b, xs, T, e1, e2, _⟩ := h2
           simp only [Den]
           exact ⟨b, e1, e2⟩)
  | const c =>
    simp only [opdC] at hc
    cases hvc : valV c with
    | none => rw [hvc] at hc; cases hc
    | some v' =>
      rw [hvc] at hc
      simp only [Option.some.injEq] at hc
      subst hc
      simp only [opd, Option.some.injEq] at hv
      subst hv
      exact valV_den c v' hvc
  | func f =>
    simp only [opdC, Option.some.injEq] at hc
    subst hc
    simp only [opd, Option.some.injEq] at hv
    subst hv
    simp only [Den, DenL, Act.eval]
    exact ⟨[], rfl, rfl⟩
  | global g => simp [opdC] at hc
theorem opds_sound (h : Inv X w0 Ω w a.tmps σ) : ∀ {xs : List Operand} {ys : List Opd} {vs : List V}, opdsC xs = some ys → opds σ.fr ys = some vs → DenL Ω w vs (xs.map a.eval)
  | [], ys, vs, hc, hv => by
    simp only [opdsC, Option.some.injEq] at hc; subst hc
    simp only [opds, Option.some.injEq] at hv; subst hv
    exact DenL.nil
  | x :: xs, ys, vs, hc, hv => by
    simp only [opdsC] at hc
    split at hc
    · rename_i y ys' hy hys
      injection hc with hc; subst hc
      simp only [opds] at hv
      split at hv
      · rename_i v vs' h1 h2
        injection hv with hv; subst hv
        exact DenL.cons (opd_sound h hy h1) (opds_sound h hys h2)
      · cases hv
    · cases hc

/-! ### Cells of values -/
theorem Den.one : ∀ {v : V} {x : Value}, v.cellOk = true → Den Ω w v x → x.oneCell' = true
  | .bool _, x, _, h => by simp only [Den] at h; subst h; rfl
  | .int _ _, x, _, h => by simp only [Den] at h; subst h; rfl
  | .nil, x, _, h => by simp only [Den] at h; subst h; rfl
  | .sl none _ _, x, _, h => by
    simp only [Den] at h
    rcases h with ⟨_, _, rfl⟩ | ⟨_, _, _, rfl, _⟩ <;> rfl
  | .sl (some _) _ _, x, _, h => by simp only [Den] at h; obtain ⟨_, _, _, rfl, _⟩ := h; rfl
  | .fn (.f _) _, x, _, h => by simp only [Den, Fk.Is] at h; obtain ⟨_, rfl, _⟩ := h; rfl
  | .fn (.m _) _, x, _, h => by simp only [Den, Fk.Is] at h; obtain ⟨_, rfl, _⟩ := h; rfl
  | .fn (.y _) _, x, _, h => by simp only [Den, Fk.Is] at h; obtain ⟨_, ⟨_, _, rfl⟩, _⟩ := h; rfl
  | .ref _ _, x, _, h => by simp only [Den] at h; obtain ⟨_, rfl, _⟩ := h; rfl
  | .cref _, x, _, h => by simp only [Den] at h; obtain ⟨_, _, rfl, _⟩ := h; rfl
  | .eref _ _ _ _ _, x, _, h => by simp only [Den] at h; obtain ⟨_, _, rfl, _⟩ := h; rfl
  | .und, _, hc, _ => by simp [V.cellOk] at hc
  | .dead, _, hc, _ => by simp [V.cellOk] at hc
  | .agg _, _, hc, _ => by simp [V.cellOk] at hc
  | .tup _, _, hc, _ => by simp [V.cellOk] at hc
  | .box _, _, hc, _ => by simp [V.cellOk] at hc
theorem one_cells {x : Value} (h : x.oneCell' = true) : x.cells = #[x] := by
  cases x <;> simp [Value.oneCell'] at h <;> rfl
theorem DenL.one : ∀ {vs : List V} {xs : List Value}, vs.all V.cellOk = true → DenL Ω w vs xs → ∀ x ∈ xs, x.oneCell' = true
  | [], xs, _, h, x, hx => by simp only [DenL] at h; subst h; simp at hx
  | v :: vs, xs, hc, h, x, hx => by
    simp only [DenL] at h
    obtain ⟨y, ys, rfl, h2, h3⟩ := h
    simp only [List.all_cons, Bool.and_eq_true] at hc
    simp only [List.mem_cons] at hx
    rcases hx with rfl | hx
    · exact Den.one hc.1 h2
    · exact DenL.one hc.2 h3 x hx
theorem Den.cells {v : V} {x : Value} (hc : v.cells.all V.cellOk = true) (h : Den Ω w v x) : DenL Ω w v.cells x.cells.toList := by
  have key : v.cellOk = true → v.cells = [v] → DenL Ω w v.cells x.cells.toList := fun h1 h2 => by
    rw [h2, one_cells (Den.one h1 h)]
    exact DenL.cons h DenL.nil
  cases v <;> first
    | exact key (by simpa [V.cells] using hc) rfl
    | (simp only [Den] at h
       obtain ⟨xs, rfl, h2⟩ := h
       simpa [V.cells, Value.cells] using h2)
    | (simp [V.cells, V.cellOk] at hc)
theorem cells_cellOk {v : V} (hc : v.cells.all V.cellOk = true) : ∀ u ∈ v.cells, u.cellOk = true ∨ u = .dead :=
  fun u hu => .inl (List.all_eq_true.1 hc u hu)

/-- What an operation without a call comes to. -/
def Yields (P : Program) (X : Sc) (w0 : World) (Ω : Own) (w : World) (a : Act) (o : Oper) (σ' : St) (mk : Bool) : Prop :=
  ∃ x w' Ω', ((execOp a.eval o).run P w = .ok (.value x) w' ∨ ((execOp a.eval o).run P w = .ok .skip w' ∧ x = undef)) ∧
    Inv X w0 Ω' w' (a.put o.dst x).tmps σ' ∧ ∀ d, Fresh Ω d → (mk = true → o.dst ≠ some d) → Fresh Ω' d

/-- A value that is reckoned, in the very world. -/
theorem Yields.val (h : Inv X w0 Ω w a.tmps σ) {o : Oper} {v : V} {x : Value} {mk : Bool} (hd : ∀ d, o.dst = some d → d < a.tmps.size) (hr : (execOp a.eval o).run P w = .ok (.value x) w) (hv : Den Ω w v x) :
    Yields P X w0 Ω w a o (apply σ o.dst (.val v)) mk :=
  ⟨x, w, Ω, .inl hr, h.putO hd hv a rfl, fun _ h _ => h⟩
/-- The same, but for what is protected. -/
theorem Yields.prot (h : Inv X w0 Ω w a.tmps σ) {o : Oper} {v : V} {x : Value} {ps : List Nat} {mk : Bool} (hd : ∀ d, o.dst = some d → d < a.tmps.size) (hr : (execOp a.eval o).run P w = .ok (.value x) w) (hv : Den (Ω.prot ps) w v x) :
    Yields P X w0 Ω w a o (apply σ o.dst (.prot v ps)) mk := by
  refine ⟨x, w, Ω.prot ps, .inl hr, (h.prot ps).putO hd hv a rfl, fun d hf _ => ⟨fun b hb => hf.1 b (prot_box hb), fun b t p e hb => ?_⟩⟩
  obtain ⟨q, hq, _⟩ := prot_arr hb
  exact hf.2 b t q e hq
/-- A new box. -/
theorem Yields.box (h : Inv X w0 Ω w a.tmps σ) {o : Oper} {xs : List Value} {T : TypeId} {cs : List V} {d : Nat} (hdst : o.dst = some d) (hd : d < a.tmps.size) (hf : Fresh Ω d)
    (hr : (execOp a.eval o).run P w = .ok (.value (.pointer (some ⟨w.heap.size, 0, none⟩))) (w.alloc (.cells xs.toArray T))) (hc : DenL Ω w cs xs) (hk : ∀ v ∈ cs, v.cellOk = true ∨ v = .dead) :
    Yields P X w0 Ω w a o (apply σ o.dst (.val (.box cs))) true := by
  refine ⟨_, _, Ω.mkBox w.heap.size d, .inl hr, ?_, fun d' hf' hne => ?_⟩
  · simp only [apply, hdst, Lo.putO, Act.put]
    exact h.mkBox hd hf.1 xs T hc hk
  · have hne : d' ≠ d := fun e => hne rfl (e ▸ hdst)
    refine ⟨fun b hb => ?_, fun b t p e hb => ?_⟩
    · simp only [Own.mkBox] at hb
      split at hb
      · injection hb with hb; exact hne hb.symm
      · exact hf'.1 b hb
    · simp only [Own.mkBox] at hb
      split at hb
      · cases hb
      · exact hf'.2 b t p e hb
/-- A new array. -/
theorem Yields.arr (h : Inv X w0 Ω w a.tmps σ) {o : Oper} {c : Array Value} {T : TypeId} {d nd k n sz : Nat} {es : List (List V)} {ps : List Nat} (hdst : o.dst = some d) (hd : d < a.tmps.size) (hf : Fresh Ω d)
    (hr : (execOp a.eval o).run P w = .ok (.value (.slice (some ⟨w.heap.size, 0, none⟩) n k)) ((w.drewN nd).alloc (.cells c T))) (hc : c.size = k * sz) (hn : n ≤ k) (hsz : 0 < sz) (hes : es.length = n)
    {ys : List Value} (hden : DenL (Ω.prot ps) w es.flatten ys) (hp : ∀ cs ∈ es, cs.length = sz ∧ cs.all V.pm = true) (hy : ∀ (j : Nat) (y : Value), ys[j]? = some y → c[j]? = some y) :
    Yields P X w0 Ω w a o (apply σ o.dst (.mk (.sl (some (d * 100)) sz es) (d * 100) n ps)) true := by
  have h1 := (h.prot ps).drew nd
  have hfr : ∀ b p, (Ω.prot ps).o b ≠ .arr (d * 100) p := fun b p hb => by
    obtain ⟨q, hq, _⟩ := prot_arr hb
    exact hf.2 b (d * 100) q (by omega) hq
  have hden' : DenL (Ω.prot ps) (w.drewN nd) es.flatten ys := DenL.ext (goes_drew (h.prot ps) nd).ext _ _ hden
  obtain ⟨g1, g2⟩ := h1.mkArr (t := d * 100) (k := k) (n := n) (sz := sz) hfr c T hc hn hsz hes hden' hp hy
  refine ⟨_, _, (Ω.prot ps).mkArr w.heap.size (d * 100) k n sz, .inl hr, ?_, fun d' hf' hne => ?_⟩
  · simp only [apply]
    exact g1.putO (fun d' hd' => by rw [hdst] at hd'; injection hd' with hd'; subst hd'; exact hd) g2 a rfl
  · have hne : d' ≠ d := fun e => hne rfl (e ▸ hdst)
    refine ⟨fun b hb => ?_, fun b t p e hb => ?_⟩
    · simp only [Own.mkArr] at hb
      split at hb
      · cases hb
      · exact hf'.1 b (prot_box hb)
    · simp only [Own.mkArr] at hb
      split at hb
      · injection hb with hb _; subst hb; exact hne (by omega)
      · obtain ⟨q, hq, _⟩ := prot_arr hb
        exact hf'.2 b t q e hq
end
end Go.Lo
