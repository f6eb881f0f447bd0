/- Addresses and calls. -/
import Derived.Test.YtifanigkolnedaaLs
namespace Go.Lo
open Go.RowKit (Below)
section
variable {P : Program} {X : Sc} {w0 w : World} {Ω : Own} {a : Act} {σ : St} {o : Oper} {mk : Bool}

theorem run_faOp {t : TypeId} {x : Operand} {i : Nat} (ho : o.op = .fieldAddr t x i) {off n : Nat} {u : TypeId} (hf : fieldC P t i = some (off, u)) (hs : sizeC P u = some n) (hn : n ≠ 0) {b q : Nat} (hx : a.eval x = .pointer (some ⟨b, q, none⟩)) :
    (execOp a.eval o).run P w = .ok (.value (.pointer (some ⟨b, q + off, none⟩))) w := by
  simp only [execOp, ho, Sem.run_bind, hx, run_fieldAt hf hs hn, Result.andThen_ok, Sem.run_pure]
/-- A pointer moves on. -/
theorem den_move_ref {s q off : Nat} {x : Value} (h : Den Ω w (.ref s q) x) : ∃ b, x = .pointer (some ⟨b, q, none⟩) ∧ Den Ω w (.ref s (q + off)) (.pointer (some ⟨b, q + off, none⟩)) := by
  simp only [Den] at h ⊢
  obtain ⟨b, h1, h2⟩ := h
  exact ⟨b, h1, b, rfl, h2⟩
theorem den_move_cref {off : Nat} {cs : List V} {x : Value} (h : Den Ω w (.cref cs) x) : ∃ b q, x = .pointer (some ⟨b, q, none⟩) ∧ Den Ω w (.cref (cs.drop off)) (.pointer (some ⟨b, q + off, none⟩)) := by
  simp only [Den] at h ⊢
  obtain ⟨b, q, h1, h2, h3⟩ := h
  exact ⟨b, q, h1, b, q + off, rfl, h2, h3.drop off⟩
theorem den_move_eref {t n i q off : Nat} {cs : List V} {x : Value} (h : Den Ω w (.eref t n i q cs) x) : ∃ b r, x = .pointer (some ⟨b, r, none⟩) ∧ Den Ω w (.eref t n i (q + off) cs) (.pointer (some ⟨b, r + off, none⟩)) := by
  simp only [Den] at h ⊢
  obtain ⟨b, p, h1, h2⟩ := h
  exact ⟨b, _, h1, b, p, by rw [Nat.add_assoc], h2⟩
theorem run_ixaOp {t e : TypeId} {x y : Operand} (ho : o.op = .indexAddr t x y) {len n : Nat} (ht : P.underlying t = some (.array len e)) (hs : sizeC P e = some n) {k : IntKind} {i : Int} (hy : Den Ω w (.int k i) (a.eval y)) (h0 : 0 ≤ i ∧ i < len) {b q : Nat} (hx : a.eval x = .pointer (some ⟨b, q, none⟩)) :
    (execOp a.eval o).run P w = .ok (.value (.pointer (some ⟨b, q + i.toNat * n, none⟩))) w := by
  simp only [Den] at hy
  simp only [execOp, ho, Sem.run_bind, hx, hy, run_indexArr ht hs h0.1 h0.2, Result.andThen_ok, Sem.run_pure]
theorem run_ixsOp {t e : TypeId} {x y : Operand} (ho : o.op = .indexAddr t x y) {n : Nat} (ht : P.underlying t = some (.slice e)) (hs : sizeC P e = some n) {k : IntKind} {i : Int} (hy : Den Ω w (.int k i) (a.eval y)) {len c : Nat} (h0 : 0 ≤ i ∧ i < len) {b q : Nat} (hx : a.eval x = .slice (some ⟨b, q, none⟩) len c) :
    (execOp a.eval o).run P w = .ok (.value (.pointer (some ⟨b, q + i.toNat * n, none⟩))) w := by
  simp only [Den] at hy
  simp only [execOp, ho, Sem.run_bind, hx, hy, run_indexSl ht hs h0.1 h0.2, Result.andThen_ok, Sem.run_pure]
theorem ixs_none {t e : TypeId} {x y : Operand} (ho : o.op = .indexAddr t x y) {n : Nat} (ht : P.underlying t = some (.slice e)) (hs : sizeC P e = some n) {k : IntKind} {i : Int} (hy : Den Ω w (.int k i) (a.eval y)) {es : List (List V)} {cs : List V} (hx : Den Ω w (.sl none n es) (a.eval x))
    (h0 : 0 ≤ i) (hc : es[i.toNat]? = some cs) : ∃ z, (execOp a.eval o).run P w = .ok (.value z) w ∧ Den Ω w (.cref cs) z := by
  have hlt := (List.getElem?_eq_some_iff.1 hc).1
  simp only [Den] at hx
  rcases hx with ⟨rfl, _⟩ | ⟨b, off, cap, hx, hf, hE⟩
  · simp at hlt
  · refine ⟨_, run_ixsOp ho ht hs hy ⟨h0, by omega⟩ hx, ?_⟩
    simp only [Den]
    exact ⟨b, _, rfl, .inl hf, (hE.get hc).2.2⟩
theorem ixs_some {t e : TypeId} {x y : Operand} (ho : o.op = .indexAddr t x y) {n : Nat} (ht : P.underlying t = some (.slice e)) (hs : sizeC P e = some n) {k : IntKind} {i : Int} (hy : Den Ω w (.int k i) (a.eval y)) {u : Nat} {es : List (List V)} {cs : List V} (hx : Den Ω w (.sl (some u) n es) (a.eval x))
    (h0 : 0 ≤ i) (hc : es[i.toNat]? = some cs) : ∃ z, (execOp a.eval o).run P w = .ok (.value z) w ∧ Den Ω w (.eref u es.length i.toNat 0 cs) z := by
  have hlt := (List.getElem?_eq_some_iff.1 hc).1
  simp only [Den] at hx
  obtain ⟨b, cap, p, hx, h2, h3, h4, hE⟩ := hx
  refine ⟨_, run_ixsOp ho ht hs hy ⟨h0, by omega⟩ hx, ?_⟩
  obtain ⟨g1, g2, g3⟩ := hE.get hc
  simp only [Den]
  subst h3
  refine ⟨b, p, by rw [Nat.zero_add, Nat.add_zero], h2, hlt, fun c k m hc => ⟨(h4 c k m hc).1, fun e => ((h4 c k m hc).2 e).1⟩, g1, g2, by simpa using g3⟩
def V.isPtr : V → Bool
  | .ref _ _ => true
  | .cref _ => true
  | .eref _ _ _ _ _ => true
  | .fn _ _ => true
  | _ => false
theorem run_nilcOp {x : Operand} (ho : o.op = .nilCheck x) {v : V} (hv : v.isPtr = true) (hx : Den Ω w v (a.eval x)) :
    (execOp a.eval o).run P w = .ok (.value (a.eval x)) w := by
  cases v <;> simp only [V.isPtr, Bool.false_eq_true] at hv
  · rename_i f caps
    simp only [Den] at hx
    obtain ⟨xs, hg, _⟩ := hx
    cases f with
    | f n => simp only [Fk.Is] at hg; simp [execOp, ho, hg]
    | m n => simp only [Fk.Is] at hg; simp [execOp, ho, hg]
    | y b => simp only [Fk.Is] at hg; obtain ⟨l, _, hg⟩ := hg; simp [execOp, ho, hg]
  · simp only [Den] at hx; obtain ⟨b, h1, _⟩ := hx; simp [execOp, ho, h1]
  · simp only [Den] at hx; obtain ⟨b, q, h1, _⟩ := hx; simp [execOp, ho, h1]
  · simp only [Den] at hx; obtain ⟨b, p, h1, _⟩ := hx; simp [execOp, ho, h1]

/-! ### Calls -/
/-- Everything is allowed; 'ro': inside the body of a range over a function. -/
def wideR (ro : Option Nat) : Fence := { Fence.wide with round := ro }
theorem wideR_fn (ro : Option Nat) (f : FuncId) : (wideR ro).fn f := trivial
theorem wideR_depth (ro : Option Nat) : ((wideR ro).depth.isSome = true → 1 ≤ 0) := by intro h; simp [wideR, Fence.wide] at h
theorem callsIn_wideR {ro : Option Nat} {n : Nat} {f : FuncId} {args : Array Value} {R : Ending → World → Prop} (h : Calls P f args w R) : CallsIn (wideR ro) n P f args w R :=
  ⟨trivial, (callsIn_wide (n := n).2 h).2⟩
/-- A function that can be entered. -/
def Enters (P : Program) (f : Nat) : Prop := ∃ fn c, P.funcs[f]? = some fn ∧ fn.name ≠ "runtime.NumGoroutine" ∧ fn.body = some c
theorem run_callFunc {f : Nat} (h : Enters P f) (args : Array Value) (w : World) : (callFunc f args).run P w = .ok (.enter f args) w := by
  obtain ⟨fn, c, h1, h2, h3⟩ := h
  simp [callFunc, run_program, h1, h2, h3]
theorem frz_cellOk {rd : Nat → Option (List V)} : ∀ {v v' : V}, v.frz rd = some v' → v.cellOk = true ∨ v = .dead → v'.cellOk = true := by
  intro v v' h hc
  rcases hc with hc | rfl
  · cases v <;> simp only [V.cellOk, Bool.false_eq_true] at hc
    case bool => simp only [V.frz, Option.some.injEq] at h; subst h; rfl
    case int => simp only [V.frz, Option.some.injEq] at h; subst h; rfl
    case nil => simp only [V.frz, Option.some.injEq] at h; subst h; rfl
    case sl => simp only [V.frz, Option.some.injEq] at h; subst h; rfl
    case fn f cs =>
      cases f with
      | y b => simp [V.frz] at h
      | f n =>
        simp only [V.frz] at h
        split at h
        · simp only [Option.some.injEq] at h; subst h; rfl
        · cases h
      | m n =>
        simp only [V.frz] at h
        split at h
        · simp only [Option.some.injEq] at h; subst h; rfl
        · cases h
    case ref =>
      simp only [V.frz] at h
      split at h
      · simp only [Option.some.injEq] at h; subst h; rfl
      · cases h
    case cref => simp only [V.frz, Option.some.injEq] at h; subst h; rfl
    case eref => simp [V.frz] at h
  · simp [V.frz] at h
theorem frzL_cellOk {rd : Nat → Option (List V)} : ∀ {vs vs' : List V}, frzL rd vs = some vs' → (∀ v ∈ vs, v.cellOk = true ∨ v = .dead) → ∀ v ∈ vs', v.cellOk = true
  | [], vs', h, _, v, hv => by simp only [frzL, Option.some.injEq] at h; subst h; simp at hv
  | u :: us, vs', h, hc, v, hv => by
    simp only [frzL] at h
    split at h
    · rename_i u' us' h1 h2
      simp only [Option.some.injEq] at h; subst h
      rcases List.mem_cons.1 hv with rfl | hv
      · exact frz_cellOk h1 (hc u (by simp))
      · exact frzL_cellOk h2 (fun v hv => hc v (by simp [hv])) v hv
    · cases h
theorem pureL_mem : ∀ {vs : List V}, pureL vs = true → ∀ v ∈ vs, v.pure = true
  | u :: us, h, v, hv => by
    simp only [pureL] at h
    split at h
    · rename_i hu
      rcases List.mem_cons.1 hv with rfl | hv
      · exact hu
      · exact pureL_mem h v hv
    · cases h
theorem rdOk (h : Inv X w0 Ω w a.tmps σ) (ex : List Nat) : ∀ n, RdOk Ω w (bxF (bxOf σ.fr ex) n)
  | 0 => fun s cs b hs _ => by simp [bxF] at hs
  | n + 1 => fun s cs b hs hb => by
    simp only [bxF] at hs
    split at hs
    · rename_i cs0 h0
      obtain ⟨hg, _⟩ := bxOf_get h0
      obtain ⟨_, h2⟩ := h.slot s _ hg
      simp only [DenS] at h2
      obtain ⟨b', xs, T, e1, e2, e3, e4, e5⟩ := h2
      have := h.uniq b b' s hb e2
      subst this
      obtain ⟨k1, k2⟩ := DenL.frz (rdOk h ex n) cs0 cs xs hs e4
      have hlim : (cOwn Ω w).lim b = xs.length := by simp [cOwn, hb, blkSize, e3]
      refine rowC k1 (fun v hv => ⟨pureL_mem k2 v hv, frzL_cellOk hs e5 v hv⟩) (fun j y hj => ⟨?_, ?_⟩)
      · rw [hlim, Nat.zero_add]; exact (List.getElem?_eq_some_iff.1 hj).1
      · rw [Nat.zero_add, cell_of_row w b j _ T (0, 0) e3]; simpa using hj
    · cases hs
/-- What an operation that calls comes to. -/
theorem wp_value {ro : Option Nat} {n : Nat} {K : Act → World → Prop} {Q : Exit → Act → World → Prop} (hd : ∀ c, o.op ≠ .defer c) {x : Value} {w' : World} (hr : (execOp a.eval o).run P w = .ok (.value x) w' ∨ ((execOp a.eval o).run P w = .ok .skip w' ∧ x = undef))
    (hK : K (a.put o.dst x) w') : o.wpIn (wideR ro) n P a w K Q := by
  refine ⟨fun f _ => trivial, ?_⟩
  have hs : o.semAt (wideR ro).round a.eval = execOp a.eval o := by
    cases ro with
    | none => rfl
    | some l => exact Oper.semAt_some l _ o hd
  rw [hs]
  rcases hr with hr | ⟨hr, rfl⟩ <;> rw [hr] <;> exact hK
theorem Yields.wp {ro : Option Nat} {n : Nat} {K : Act → World → Prop} {Q : Exit → Act → World → Prop} {σ' : St} (hy : Yields P X w0 Ω w a o σ' mk) (hd : ∀ c, o.op ≠ .defer c)
    (hK : ∀ x w' Ω', Inv X w0 Ω' w' (a.put o.dst x).tmps σ' → (∀ d, Fresh Ω d → (mk = true → o.dst ≠ some d) → Fresh Ω' d) → K (a.put o.dst x) w') : o.wpIn (wideR ro) n P a w K Q := by
  obtain ⟨x, w', Ω', h1, h2, h3⟩ := hy
  exact wp_value hd h1 (hK x w' Ω' h2 h3)
theorem wp_enter {ro : Option Nat} {n : Nat} {K : Act → World → Prop} {Q : Exit → Act → World → Prop} (hd : ∀ c, o.op ≠ .defer c) {f : Nat} {args : Array Value} (hr : (execOp a.eval o).run P w = .ok (.enter f args) w) {R : Value → World → Prop}
    (hc : Calls P f args w fun e w1 => ∃ x, e = .returned x ∧ R x w1) (hK : ∀ x w1, R x w1 → K (a.put o.dst x) w1) : o.wpIn (wideR ro) n P a w K Q := by
  refine ⟨fun f _ => trivial, ?_⟩
  have hs : o.semAt (wideR ro).round a.eval = execOp a.eval o := by
    cases ro with
    | none => rfl
    | some l => exact Oper.semAt_some l _ o hd
  rw [hs, hr]
  refine ⟨fun h => by simp [wideR, Fence.wide] at h, CallsIn.mono (callsIn_wideR hc) fun e w1 he => ?_⟩
  obtain ⟨x, rfl, hx⟩ := he
  exact hK x w1 hx
theorem fresh_res {Ω1 : Own} {d : Nat} {al : Bool} {d' : Nat} (hf : Fresh Ω d') (hne : d' ≠ d) : Fresh (Ω.res Ω1 w.heap.size d al) d' := by
  refine ⟨fun b hb => hf.1 b (res_box hb).2, fun b t p e hb => ?_⟩
  rcases res_arr hb with ⟨_, q, hq, _⟩ | ⟨_, k, hk, rfl, _⟩
  · exact hf.2 b t q e hq
  · exact hne (by omega)
/-! ### The body of a range is called -/
theorem Inv.other {tm : Array Value} {w' : World} (h : Inv X w0 Ω w tm σ) {tr' : Option (List (List V))} (hk : Kept X.x w0 w') (hs : w.heap.size ≤ w'.heap.size) (hm : ∀ b, Ω.mine b → w'.heap[b]? = w.heap[b]?)
    (hc : ∀ b off, Ω.frozp b → off < Ω.lim b → w'.cell? ⟨b, off, none⟩ = w.cell? ⟨b, off, none⟩) (hj : X.j tr' Ω w') : Inv X w0 Ω w' tm { σ with tr := tr' } where
  kept := hk
  ownB := h.ownB
  ownA := h.ownA
  bnd b hb := Nat.lt_of_lt_of_le (h.bnd b hb) hs
  uniq := h.uniq
  limB := h.limB
  old := h.old
  out := hj
  slot s v hv := by
    obtain ⟨h1, h2⟩ := h.slot s v hv
    refine ⟨h1, h2.ext ⟨fun _ h => h, fun _ h => .inr h, fun _ _ p h => ⟨p, h⟩, fun _ _ h => h, fun _ _ => Nat.le_refl _, fun b off hne hl => ?_, fun _ _ _ _ => rfl, fun _ _ _ c k n _ h => ⟨c, k, n, h, .inl ⟨rfl, rfl, rfl⟩⟩, rfl⟩ (fun b s T xs hb hh => by rw [hm b (.inl ⟨s, hb⟩)]; exact hh)⟩
    cases hb : Ω.o b with
    | out => exact (hne hb).elim
    | frz => exact hc b off (.inl (.inl hb)) hl
    | frzb => exact hc b off (.inr hb) hl
    | box s => exact World.cell?_of_block (hm b (.inl ⟨s, hb⟩))
    | arr t p => exact World.cell?_of_block (hm b (.inr ⟨t, p, hb⟩))
  tok t n wr ht := by
    obtain ⟨c, k, T, xs, g1, ⟨p, g2⟩, g3, g⟩ := h.tok t n wr ht
    exact ⟨c, k, T, xs, g1, ⟨p, g2⟩, by rw [hm c (.inr ⟨t, p, g2⟩)]; exact g3, g⟩
/-- What was yielded is the beginning of T. -/
def UpTo (T : List (List V)) (σ : St) : Prop := ∀ l, σ.tr = some l → l <+: T
/-- What a call of the body of a range comes to. -/
structure YieldOk (P : Program) (X : Sc) (w0 : World) (T : List (List V)) : Prop where
  none : ∀ Ω w, X.j none Ω w → Ω.yl = none
  some : ∀ (ro : Option Nat) (n b l : Nat) (tr : List (List V)) (as : List V) (xs : List Value) (Ω : Own) (w : World), X.j (some tr) Ω w → Ω.yl = some (l, b) → DenL Ω w as xs →
    (as.all fun v => v.cells.all V.pm) = true → tr ++ [as] <+: T →
    ∃ fn tmps asg body, (Instr.yield l xs.toArray).run P w = .ok (.round l fn tmps asg body) w ∧ RoundIn (wideR ro) n P l fn tmps asg body w fun e w' => e = .returned (.bool (goesOn b (Option.some tr))) ∧
      X.j (Option.some (tr ++ [as])) Ω w' ∧ Kept X.x w0 w' ∧ w.heap.size ≤ w'.heap.size ∧ (∀ b, Ω.mine b → w'.heap[b]? = w.heap[b]?) ∧ ∀ b off, Ω.frozp b → off < Ω.lim b → w'.cell? ⟨b, off, Option.none⟩ = w.cell? ⟨b, off, Option.none⟩
theorem run_yieldCall {c : Call} {f : Operand} (ho : o.op = .call c) (hc : c.callee = .value f) {l : Nat} (hf : a.eval f = .func (.yield l) #[] #[]) :
    (execOp a.eval o).run P w = (Instr.yield l (c.args.map a.eval)).run P w := by
  simp only [execOp, ho, resolve, hc, hf, Deferred.ofValue, Sem.run_bind, Sem.run_pure, Result.andThen_ok, invoke, Array.empty_append]
theorem wp_round {ro : Option Nat} {n : Nat} {K : Act → World → Prop} {Q : Exit → Act → World → Prop} (hd : ∀ c, o.op ≠ .defer c) {l : Nat} {fn : FuncId} {tmps : Array Value} {asg body : Code} (hr : (execOp a.eval o).run P w = .ok (.round l fn tmps asg body) w) {R : Value → World → Prop}
    (hc : ∀ n, RoundIn (wideR ro) n P l fn tmps asg body w fun e w1 => ∃ x, e = .returned x ∧ R x w1) (hK : ∀ x w1, R x w1 → K (a.put o.dst x) w1) : o.wpIn (wideR ro) n P a w K Q := by
  refine ⟨fun f _ => trivial, ?_⟩
  have hs : o.semAt (wideR ro).round a.eval = execOp a.eval o := by
    cases ro with
    | none => rfl
    | some l => exact Oper.semAt_some l _ o hd
  rw [hs, hr]
  refine ⟨fun h => by simp [wideR, Fence.wide] at h, RoundIn.mono (hc _) fun e w1 he => ?_⟩
  obtain ⟨x, rfl, hx⟩ := he
  exact hK x w1 hx
/-- An iterator yields what is said, up to a stop. -/
def ItOk (P : Program) (f b : Nat) (pre post : List V) (R : V) : Prop := ∀ T, itemsOf (some R) = some T → ∀ (X : Sc) (Ω : Own) (w : World) (l : Nat) (xs ys : List Value), Base Ω w → Ω.yl = some (l, b) → pureL pre = true → pureL post = true → DenL Ω w pre xs → DenL Ω w post ys →
  X.o = Ω.o → X.lim = Ω.lim → X.j (some []) Ω w → (∀ Ω w, ¬ X.j none Ω w) → YieldOk P X w T →
  Calls P f (xs ++ Value.func (.yield l) #[] #[] :: ys).toArray w fun e w1 => ∃ x Ω1, e = .returned x ∧ X.j (some T) Ω1 w1
/-- A function does what is said, at these arguments. -/
def CallOk (P : Program) (f : Nat) (args : List V) (R : V) : Prop :=
  (pureL args = true → ∀ (Ω : Own) (w : World) (xs : List Value), Base Ω w → DenL Ω w args xs →
    Calls P f xs.toArray w fun e w1 => ∃ x Ω1, e = .returned x ∧ Below w.heap.size w w1 ∧ Den Ω1 w1 R x ∧ ResOk Ω Ω1 w w1 R) ∧
  ∀ b pre post, args = pre ++ .fn (.y b) [] :: post → ItOk P f b pre post R
/-- A function that may be called does what is said. -/
def CallsOk (P : Program) (call : Nat → List V → Option V) : Prop := ∀ f args r, call f args = some r → Enters P f ∧ CallOk P f args r
theorem run_valueCall {c : Call} {f : Operand} (ho : o.op = .call c) (hc : c.callee = .value f) {g : Nat} (hg : Enters P g) {first caps : Array Value} (hf : a.eval f = .func (.func g) first caps) :
    (execOp a.eval o).run P w = .ok (.enter g (first ++ c.args.map a.eval ++ caps)) w := by
  simp only [execOp, ho, resolve, hc, hf, Deferred.ofValue, Sem.run_bind, Sem.run_pure, Result.andThen_ok, invoke, run_callFunc hg]
end
end Go.Lo
