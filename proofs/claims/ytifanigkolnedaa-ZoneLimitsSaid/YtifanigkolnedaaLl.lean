/- Operations, one by one. -/
import Derived.Test.YtifanigkolnedaaLk
namespace Go.Lo
open Go.RowKit (Below)
section
variable {P : Program} {X : Sc} {w0 w : World} {Ω : Own} {a : Act} {σ : St} {o : Oper} {mk : Bool}

theorem info_size {t : TypeId} {n : Nat} (h : sizeC P t = some n) : ∃ i, P.info? t = some i ∧ i.size = n := by
  unfold sizeC at h
  cases hi : P.info? t with
  | none => rw [hi] at h; cases h
  | some i => rw [hi] at h; simp only [Option.map_some, Option.some.injEq] at h; exact ⟨i, rfl, h⟩
theorem run_sizeOf {t : TypeId} {n : Nat} (h : sizeC P t = some n) (w : World) : (sizeOf t).run P w = .ok n w := by
  obtain ⟨i, hi, rfl⟩ := info_size h
  simp [sizeOf, typeInfo, hi]

theorem run_move {x : Operand} (ho : o.op = .move x) : (execOp a.eval o).run P w = .ok (.value (a.eval x)) w := by simp [execOp, ho]
theorem run_assign {x : Operand} (ho : o.op = .assign x) : (execOp a.eval o).run P w = .ok (.value (a.eval x)) w := by simp [execOp, ho]
theorem run_pick {c x y : Operand} (ho : o.op = .pick c x y) {b : Bool} (hc : a.eval c = .bool b) : (execOp a.eval o).run P w = .ok (.value (if b then a.eval x else a.eval y)) w := by
  simp [execOp, ho, hc, asBool]
theorem run_alloc {t : TypeId} (ho : o.op = .alloc t) {i : TypeInfo} {z : Value} (hi : P.info? t = some i) (hz : i.zero = some z) :
    (execOp a.eval o).run P w = .ok (.value (.pointer (some ⟨w.heap.size, 0, none⟩))) (w.alloc (.cells z.cells t)) := by
  simp [execOp, ho, Instr.alloc, zeroValue, typeInfo, hi, hz, newVar, newRow]
theorem run_box {t : TypeId} {x : Operand} (ho : o.op = .box t x) :
    (execOp a.eval o).run P w = .ok (.value (.pointer (some ⟨w.heap.size, 0, none⟩))) (w.alloc (.cells (a.eval x).cells t)) := by
  simp [execOp, ho, Instr.box, newVar, newRow]
theorem run_mkf {f : Nat} {first caps : Array Operand} (ho : o.op = .makeFunc (.func f) first caps) (hf : first.isEmpty = true) :
    (execOp a.eval o).run P w = .ok (.value (.func (.func f) #[] (caps.map a.eval))) w := by
  have : first = #[] := by simpa using hf
  subst this
  simp [execOp, ho, Instr.makeFunc]
theorem run_mkm {f : Nat} {first caps : Array Operand} (ho : o.op = .makeFunc (.func f) first caps) (hf : caps.isEmpty = true) :
    (execOp a.eval o).run P w = .ok (.value (.func (.func f) (first.map a.eval) #[])) w := by
  have : caps = #[] := by simpa using hf
  subst this
  simp [execOp, ho, Instr.makeFunc]
theorem run_ext {x : Operand} {i : Nat} (ho : o.op = .extract x i) {vs : Array Value} {v : Value} (hx : a.eval x = .tuple vs) (hv : vs[i]? = some v) :
    (execOp a.eval o).run P w = .ok (.value v) w := by
  simp [execOp, ho, hx, Instr.extract, hv]
theorem run_convI {s d : TypeId} {x : Operand} (ho : o.op = .convert s d x) {k j k' : IntKind} {n : Int} (hs : P.underlying s = some (.int k')) (hd : P.underlying d = some (.int k)) (hx : a.eval x = .int j n) :
    (execOp a.eval o).run P w = .ok (.value (.int k (k.wrap n))) w := by
  simp [execOp, ho, hx, convert, run_underlying hs, run_underlying hd, Conv.intToInt]
theorem run_un {t : TypeId} {op : UnOp} {x : Operand} (ho : o.op = .unOp op t x) {v v' : V} (hx : Den Ω w v (a.eval x)) (hv : unV op v = some v') : ∃ y, (execOp a.eval o).run P w = .ok (.value y) w ∧ Den Ω w v' y := by
  cases v <;> simp [unV] at hv
  case bool b =>
    cases op <;> simp at hv
    subst hv
    simp only [Den] at hx
    exact ⟨.bool (!b), by simp [execOp, ho, hx, Op.unary], by simp [Den]⟩
  case int k n =>
    cases op <;> simp at hv
    subst hv
    simp only [Den] at hx
    exact ⟨.int k (k.wrap (0 - n)), by simp [execOp, ho, hx, Op.unary, Op.intArith], by simp [Den]⟩

/-! ### Loads -/
theorem addr_add (b o j : Nat) : (⟨b, o, none⟩ : Addr).add j = ⟨b, o + j, none⟩ := by unfold Addr.add; split <;> simp_all
theorem nC_one {t : TypeId} (h : nC P t = some none) : ∃ d, P.underlying t = some d ∧ d.isRow = false := by
  unfold nC at h
  cases hd : P.underlying t with
  | none => simp [hd] at h
  | some d =>
    refine ⟨d, rfl, ?_⟩
    cases hs : sizeC P t with
    | none => cases d <;> simp [hd, hs] at h
    | some n => cases d <;> simp [hd, hs] at h <;> rfl
theorem nC_many {t : TypeId} {n : Nat} (h : nC P t = some (some n)) : (∃ d, P.underlying t = some d ∧ d.isRow = true) ∧ sizeC P t = some n := by
  unfold nC at h
  split at h
  · rename_i fs m hd hs
    simp only [Option.some.injEq] at h; subst h
    exact ⟨⟨_, hd, rfl⟩, hs⟩
  · rename_i k e m hd hs
    simp only [Option.some.injEq] at h; subst h
    exact ⟨⟨_, hd, rfl⟩, hs⟩
  · split at h <;> simp at h
  · cases h
theorem run_isAgg_no {t : TypeId} {d : TypeDesc} (hd : P.underlying t = some d) (h : d.isRow = false) (w : World) : (isAgg t).run P w = .ok false w := by
  unfold isAgg
  rw [Sem.run_bind, run_underlying hd w]
  cases d <;> simp_all
theorem run_load_one {t : TypeId} (h : nC P t = some none) {b off : Nat} {x : Value} (hc : w.cell? ⟨b, off, none⟩ = some x) : (Instr.loadAt t (.pointer (some ⟨b, off, none⟩))).run P w = .ok x w := by
  obtain ⟨d, hd, hm⟩ := nC_one h
  simp [Instr.loadAt, Instr.sureAddr, loadVar, run_isAgg_no hd hm, load, Sem.run, hc]
theorem run_load_many {t : TypeId} {n : Nat} (h : nC P t = some (some n)) {b off : Nat} {xs : List Value} (hn : xs.length = n) (hc : ∀ j x, xs[j]? = some x → w.cell? ⟨b, off + j, none⟩ = some x) :
    (Instr.loadAt t (.pointer (some ⟨b, off, none⟩))).run P w = .ok (.agg xs.toArray) w := by
  obtain ⟨⟨d, hd, hr⟩, hs⟩ := nC_many h
  exact run_loadAt_mid w b off t xs d (fun j v hv => hc j v hv) hd hr (by unfold sizeC at hs; rw [hs, hn])

/-- What is read at an address whose cells are known. -/
theorem load_cells {t : TypeId} {n : Option Nat} (h : nC P t = some n) {b base off : Nat} {cs : List V} {v : V} {xs : List Value} (hl : DenL Ω w cs xs) (hc : ∀ j x, xs[j]? = some x → w.cell? ⟨b, base + j, none⟩ = some x) (hp : partV cs off n = some v) :
    ∃ x, (Instr.loadAt t (.pointer (some ⟨b, base + off, none⟩))).run P w = .ok x w ∧ Den Ω w v x := by
  cases n with
  | none =>
    simp only [partV] at hp
    obtain ⟨x, hx, hd⟩ := hl.get hp
    exact ⟨x, run_load_one h (hc off x hx), hd⟩
  | some n =>
    simp only [partV] at hp
    split at hp
    · rename_i hle
      injection hp with hp; subst hp
      have hd := (hl.drop off).take n
      refine ⟨.agg ((xs.drop off).take n).toArray, run_load_many h ?_ (fun j x hj => ?_), ?_⟩
      · rw [hd.length, List.length_take, List.length_drop]; omega
      · rw [List.getElem?_take] at hj
        split at hj
        · rw [List.getElem?_drop] at hj
          have := hc _ x hj
          rwa [show base + (off + j) = base + off + j by omega] at this
        · cases hj
      · simp only [Den]
        exact ⟨_, rfl, hd⟩
    · cases hp
theorem run_loadOp {t : TypeId} {x : Operand} (ho : o.op = .load t x) : (execOp a.eval o).run P w = ((Instr.loadAt t (a.eval x)).run P w).andThen (fun v w => .ok (.value v) w) := by
  simp only [execOp, ho, Sem.run_bind]
  congr 1
theorem yields_load (h : Inv X w0 Ω w a.tmps σ) (hd : ∀ d, o.dst = some d → d < a.tmps.size) {t : TypeId} {x : Operand} (ho : o.op = .load t x) {n : Option Nat} (hn : nC P t = some n) {u v : V} {ex : List Nat} (hx : Den Ω w u (a.eval x))
    (hs : loadV (bxOf σ.fr ex) n u = some v) :
    Yields P X w0 Ω w a o (apply σ o.dst (.val v)) mk := by
  have key : ∃ y, (Instr.loadAt t (a.eval x)).run P w = .ok y w ∧ Den Ω w v y := by
    cases u <;> simp only [loadV, reduceCtorEq] at hs
    case ref s off =>
      split at hs
      · rename_i cs hcs
        unfold bxOf at hcs
        split at hcs
        · cases hcs
        · split at hcs
          · rename_i cs' hg
            injection hcs with hcs; subst hcs
            obtain ⟨_, h2⟩ := h.slot s _ hg
            simp only [DenS] at h2
            obtain ⟨b, xs, T, e1, e2, e3, e4, e5⟩ := h2
            simp only [Den] at hx
            obtain ⟨b', hx1, hx2⟩ := hx
            have := h.uniq b b' s e2 hx2
            subst this
            rw [hx1]
            have := load_cells (base := 0) (b := b) hn e4 (fun j y hj => by
              rw [Nat.zero_add, cell_of_row w b j _ T (0, 0) e3]
              simpa using hj) hs
            simpa using this
          · cases hcs
      · cases hs
    case cref cs =>
      simp only [Den] at hx
      obtain ⟨b, off, hx1, _, hx3⟩ := hx
      rw [hx1]
      obtain ⟨xs, g1, g2⟩ := hx3.vals
      exact load_cells (base := off) hn g1 g2 hs
    case eref u m i off cs =>
      simp only [Den] at hx
      obtain ⟨b, p, hx1, _, _, _, _, _, hx3⟩ := hx
      rw [hx1]
      obtain ⟨xs, g1, g2⟩ := hx3.vals
      exact load_cells (base := _) hn g1 g2 hs
  obtain ⟨y, h1, h2⟩ := key
  exact Yields.val h hd (by rw [run_loadOp ho, h1]; rfl) h2

/-! ### Addresses -/
theorem run_fieldPlace {f : Field} {n b off : Nat} (hs : sizeC P f.type = some n) (hn : n ≠ 0) : (fieldPlace ⟨b, off, none⟩ f).run P w = .ok ⟨b, off + f.offset, none⟩ w := by
  simp [fieldPlace, run_sizeOf hs, hn, addr_add]
theorem fieldC_spec {t : TypeId} {i off : Nat} {u : TypeId} (h : fieldC P t i = some (off, u)) : ∃ fs f, P.underlying t = some (.struct fs) ∧ fs[i]? = some f ∧ f.offset = off ∧ f.type = u := by
  unfold fieldC at h
  split at h
  · rename_i fs hu
    split at h
    · rename_i f hf
      simp only [Option.some.injEq, Prod.mk.injEq] at h
      exact ⟨fs, f, hu, hf, h.1, h.2⟩
    · cases h
  · cases h
theorem run_fieldAt {t : TypeId} {i off n : Nat} {u : TypeId} (h : fieldC P t i = some (off, u)) (hs : sizeC P u = some n) (hn : n ≠ 0) (b q : Nat) :
    (Instr.fieldAt t (.pointer (some ⟨b, q, none⟩)) i).run P w = .ok (.pointer (some ⟨b, q + off, none⟩)) w := by
  obtain ⟨fs, f, h1, h2, rfl, rfl⟩ := fieldC_spec h
  simp [Instr.fieldAt, run_underlying h1, h2, Instr.sureAddr, run_fieldPlace hs hn]
theorem run_indexSl {t e : TypeId} {n : Nat} (ht : P.underlying t = some (.slice e)) (hs : sizeC P e = some n) {b off len cap : Nat} {k : IntKind} {i : Int} (h0 : 0 ≤ i) (h1 : i < len) :
    (Instr.indexAt t (.slice (some ⟨b, off, none⟩) len cap) (.int k i)).run P w = .ok (.pointer (some ⟨b, off + i.toNat * n, none⟩)) w := by
  simp [Instr.indexAt, asIntOf, run_underlying ht, run_sizeOf hs, h0, h1, addr_add]
theorem run_indexArr {t e : TypeId} {n len : Nat} (ht : P.underlying t = some (.array len e)) (hs : sizeC P e = some n) {b off : Nat} {k : IntKind} {i : Int} (h0 : 0 ≤ i) (h1 : i < len) :
    (Instr.indexAt t (.pointer (some ⟨b, off, none⟩)) (.int k i)).run P w = .ok (.pointer (some ⟨b, off + i.toNat * n, none⟩)) w := by
  simp [Instr.indexAt, asIntOf, run_underlying ht, run_sizeOf hs, h0, h1, addr_add, Instr.sureAddr]
end
end Go.Lo
