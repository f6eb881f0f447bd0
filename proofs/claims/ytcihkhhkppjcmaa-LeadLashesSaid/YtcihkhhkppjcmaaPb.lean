/- Texts put together. -/
import Derived.Test.YtcihkhhkppjcmaaPa
import Derived.ChangeKeysEq
import Derived.Laws.Cover3
import Derived.Laws.MakeOwn
import Derived.Laws.Slices
import Derived.Maps.Keyed
/- Operations, one by one. -/
namespace Go.Lo
open Go.RowKit (Below)
section
variable {P : Program} {X : Sc} {w0 w : World} {Ω : Own} {a : Act} {σ : St} {o : Oper} {mk : Bool}

theorem info_size {t : TypeId} {n : Nat} (h : sizeC P t = some n) : ∃ i, P.info? t = some i ∧ i.size = n := by
  unfold sizeC at h
  cases hi : P.info? t with
  | none => rw [hi] at h; cases h
  | some i => rw [hi] at h; simp only [Option.map_some, Option.some.injEq] at h; exact ⟨i, rfl, h⟩
theorem run_sizeOf {t : TypeId} {n : Nat} (h : sizeC P t = some n) (w : World) : (sizeOf t).run P w = .ok n w := by
  obtain ⟨i, hi, rfl⟩ := info_size h
  simp [sizeOf, typeInfo, hi]

theorem run_move {x : Operand} (ho : o.op = .move x) : (execOp a.eval o).run P w = .ok (.value (a.eval x)) w := by simp [execOp, ho]
theorem run_assign {x : Operand} (ho : o.op = .assign x) : (execOp a.eval o).run P w = .ok (.value (a.eval x)) w := by simp [execOp, ho]
theorem run_pick {c x y : Operand} (ho : o.op = .pick c x y) {b : Bool} (hc : a.eval c = .bool b) : (execOp a.eval o).run P w = .ok (.value (if b then a.eval x else a.eval y)) w := by
  simp [execOp, ho, hc, asBool]
theorem run_alloc {t : TypeId} (ho : o.op = .alloc t) {i : TypeInfo} {z : Value} (hi : P.info? t = some i) (hz : i.zero = some z) :
    (execOp a.eval o).run P w = .ok (.value (.pointer (some ⟨w.heap.size, 0, none⟩))) (w.alloc (.cells z.cells t)) := by
  simp [execOp, ho, Instr.alloc, zeroValue, typeInfo, hi, hz, newVar, newRow]
theorem run_box {t : TypeId} {x : Operand} (ho : o.op = .box t x) :
    (execOp a.eval o).run P w = .ok (.value (.pointer (some ⟨w.heap.size, 0, none⟩))) (w.alloc (.cells (a.eval x).cells t)) := by
  simp [execOp, ho, Instr.box, newVar, newRow]
theorem run_mkf {f : Nat} {first caps : Array Operand} (ho : o.op = .makeFunc (.func f) first caps) (hf : first.isEmpty = true) :
    (execOp a.eval o).run P w = .ok (.value (.func (.func f) #[] (caps.map a.eval))) w := by
  have : first = #[] := by simpa using hf
  subst this
  simp [execOp, ho, Instr.makeFunc]
theorem run_mkm {f : Nat} {first caps : Array Operand} (ho : o.op = .makeFunc (.func f) first caps) (hf : caps.isEmpty = true) :
    (execOp a.eval o).run P w = .ok (.value (.func (.func f) (first.map a.eval) #[])) w := by
  have : caps = #[] := by simpa using hf
  subst this
  simp [execOp, ho, Instr.makeFunc]
theorem run_ext {x : Operand} {i : Nat} (ho : o.op = .extract x i) {vs : Array Value} {v : Value} (hx : a.eval x = .tuple vs) (hv : vs[i]? = some v) :
    (execOp a.eval o).run P w = .ok (.value v) w := by
  simp [execOp, ho, hx, Instr.extract, hv]
theorem run_convI {s d : TypeId} {x : Operand} (ho : o.op = .convert s d x) {k j k' : IntKind} {n : Int} (hs : P.underlying s = some (.int k')) (hd : P.underlying d = some (.int k)) (hx : a.eval x = .int j n) :
    (execOp a.eval o).run P w = .ok (.value (.int k (k.wrap n))) w := by
  simp [execOp, ho, hx, convert, run_underlying hs, run_underlying hd, Conv.intToInt]
theorem run_un {t : TypeId} {op : UnOp} {x : Operand} (ho : o.op = .unOp op t x) {v v' : V} (hx : Den Ω w v (a.eval x)) (hv : unV op v = some v') : ∃ y, (execOp a.eval o).run P w = .ok (.value y) w ∧ Den Ω w v' y := by
  cases v <;> simp [unV] at hv
  case bool b =>
    cases op <;> simp at hv
    subst hv
    simp only [Den] at hx
    exact ⟨.bool (!b), by simp [execOp, ho, hx, Op.unary], by simp [Den]⟩
  case int k n =>
    cases op <;> simp at hv
    subst hv
    simp only [Den] at hx
    exact ⟨.int k (k.wrap (0 - n)), by simp [execOp, ho, hx, Op.unary, Op.intArith], by simp [Den]⟩

/-! ### Loads -/
theorem addr_add (b o j : Nat) : (⟨b, o, none⟩ : Addr).add j = ⟨b, o + j, none⟩ := by unfold Addr.add; split <;> simp_all
theorem nC_one {t : TypeId} (h : nC P t = some none) : ∃ d, P.underlying t = some d ∧ d.isRow = false := by
  unfold nC at h
  cases hd : P.underlying t with
  | none => simp [hd] at h
  | some d =>
    refine ⟨d, rfl, ?_⟩
    cases hs : sizeC P t with
    | none => cases d <;> simp [hd, hs] at h
    | some n => cases d <;> simp [hd, hs] at h <;> rfl
theorem nC_many {t : TypeId} {n : Nat} (h : nC P t = some (some n)) : (∃ d, P.underlying t = some d ∧ d.isRow = true) ∧ sizeC P t = some n := by
  unfold nC at h
  split at h
  · rename_i fs m hd hs
    simp only [Option.some.injEq] at h; subst h
    exact ⟨⟨_, hd, rfl⟩, hs⟩
  · rename_i k e m hd hs
    simp only [Option.some.injEq] at h; subst h
    exact ⟨⟨_, hd, rfl⟩, hs⟩
  · split at h <;> simp at h
  · cases h
theorem run_isAgg_no {t : TypeId} {d : TypeDesc} (hd : P.underlying t = some d) (h : d.isRow = false) (w : World) : (isAgg t).run P w = .ok false w := by
  unfold isAgg
  rw [Sem.run_bind, run_underlying hd w]
  cases d <;> simp_all
theorem run_load_one {t : TypeId} (h : nC P t = some none) {b off : Nat} {x : Value} (hc : w.cell? ⟨b, off, none⟩ = some x) : (Instr.loadAt t (.pointer (some ⟨b, off, none⟩))).run P w = .ok x w := by
  obtain ⟨d, hd, hm⟩ := nC_one h
  simp [Instr.loadAt, Instr.sureAddr, loadVar, run_isAgg_no hd hm, load, Sem.run, hc]
theorem run_load_many {t : TypeId} {n : Nat} (h : nC P t = some (some n)) {b off : Nat} {xs : List Value} (hn : xs.length = n) (hc : ∀ j x, xs[j]? = some x → w.cell? ⟨b, off + j, none⟩ = some x) :
    (Instr.loadAt t (.pointer (some ⟨b, off, none⟩))).run P w = .ok (.agg xs.toArray) w := by
  obtain ⟨⟨d, hd, hr⟩, hs⟩ := nC_many h
  exact run_loadAt_mid w b off t xs d (fun j v hv => hc j v hv) hd hr (by unfold sizeC at hs; rw [hs, hn])

/-- What is read at an address whose cells are known. -/
theorem load_cells {t : TypeId} {n : Option Nat} (h : nC P t = some n) {b base off : Nat} {cs : List V} {v : V} {xs : List Value} (hl : DenL Ω w cs xs) (hc : ∀ j x, xs[j]? = some x → w.cell? ⟨b, base + j, none⟩ = some x) (hp : partV cs off n = some v) :
    ∃ x, (Instr.loadAt t (.pointer (some ⟨b, base + off, none⟩))).run P w = .ok x w ∧ Den Ω w v x := by
  cases n with
  | none =>
    simp only [partV] at hp
    obtain ⟨x, hx, hd⟩ := hl.get hp
    exact ⟨x, run_load_one h (hc off x hx), hd⟩
  | some n =>
    simp only [partV] at hp
    split at hp
    · rename_i hle
      injection hp with hp; subst hp
      have hd := (hl.drop off).take n
      refine ⟨.agg ((xs.drop off).take n).toArray, run_load_many h ?_ (fun j x hj => ?_), ?_⟩
      · rw [hd.length, List.length_take, List.length_drop]; omega
      · rw [List.getElem?_take] at hj
        split at hj
        · rw [List.getElem?_drop] at hj
          have := hc _ x hj
          rwa [show base + (off + j) = base + off + j by omega] at this
        · cases hj
      · simp only [Den]
        exact ⟨_, rfl, hd⟩
    · cases hp
theorem run_loadOp {t : TypeId} {x : Operand} (ho : o.op = .load t x) : (execOp a.eval o).run P w = ((Instr.loadAt t (a.eval x)).run P w).andThen (fun v w => .ok (.value v) w) := by
  simp only [execOp, ho, Sem.run_bind]
  congr 1
theorem bxOf_get {fr : List (Nat × V)} {ex : List Nat} {s : Nat} {cs : List V} (hs : s < 1000000) (h : bxOf fr ex s = some cs) : get fr s = some (.box cs) ∧ memN s ex = false := by
  unfold bxOf at h
  rw [if_pos hs] at h
  split at h
  · cases h
  · rename_i hm
    split at h
    · rename_i cs' hg; injection h with h; subst h; exact ⟨hg, by simpa using hm⟩
    · cases h
theorem mpOf_get {fr : List (Nat × V)} {ex : List Nat} {s : Nat} {cs : List V} (h : bxOf fr ex (s + 1000000) = some cs) : get fr s = some (.mbox cs) ∧ memN s ex = false := by
  unfold bxOf at h
  rw [if_neg (by omega), Nat.add_sub_cancel] at h
  split at h
  · cases h
  · rename_i hm
    split at h
    · rename_i cs' hg; injection h with h; subst h; exact ⟨hg, by simpa using hm⟩
    · cases h
theorem yields_load (h : Inv X w0 Ω w a.tmps σ) (hd : ∀ d, o.dst = some d → d < a.tmps.size) {t : TypeId} {x : Operand} (ho : o.op = .load t x) {n : Option Nat} (hn : nC P t = some n) {u v : V} {ex : List Nat} (hx : Den Ω w u (a.eval x))
    (hs : loadV (bxOf σ.fr ex) n u = some v) :
    Yields P X w0 Ω w a o (apply σ o.dst (.val v)) mk := by
  have key : ∃ y, (Instr.loadAt t (a.eval x)).run P w = .ok y w ∧ Den Ω w v y := by
    cases u <;> simp only [loadV, reduceCtorEq] at hs
    case ref s off =>
      split at hs
      case isFalse => cases hs
      rename_i hlt
      split at hs
      · rename_i cs hcs
        obtain ⟨hg, _⟩ := bxOf_get hlt hcs
        obtain ⟨_, h2⟩ := h.slot s _ hg
        simp only [DenS] at h2
        obtain ⟨b, xs, T, e1, e2, e3, e4, e5⟩ := h2
        simp only [Den] at hx
        obtain ⟨b', hx1, hx2⟩ := hx
        have := h.uniq b b' s e2 hx2
        subst this
        rw [hx1]
        have := load_cells (base := 0) (b := b) hn e4 (fun j y hj => by
          rw [Nat.zero_add, cell_of_row w b j _ T (0, 0) e3]
          simpa using hj) hs
        simpa using this
      · cases hs
    case cref cs =>
      simp only [Den] at hx
      obtain ⟨b, off, hx1, _, hx3⟩ := hx
      rw [hx1]
      obtain ⟨xs, g1, g2⟩ := hx3.vals
      exact load_cells (base := off) hn g1 g2 hs
    case gref cs =>
      simp only [Den] at hx
      obtain ⟨b, off, hx1, _, _, hx3⟩ := hx
      rw [hx1]
      obtain ⟨xs, g1, g2⟩ := hx3.vals
      exact load_cells (base := off) hn g1 g2 hs
    case eref u m i off cs =>
      simp only [Den] at hx
      obtain ⟨b, p, hx1, _, _, _, _, _, hx3⟩ := hx
      rw [hx1]
      obtain ⟨xs, g1, g2⟩ := hx3.vals
      exact load_cells (base := _) hn g1 g2 hs
  obtain ⟨y, h1, h2⟩ := key
  exact Yields.val h hd (by rw [run_loadOp ho, h1]; rfl) h2

/-! ### Addresses -/
theorem run_fieldPlace {f : Field} {n b off : Nat} (hs : sizeC P f.type = some n) (hn : n ≠ 0) : (fieldPlace ⟨b, off, none⟩ f).run P w = .ok ⟨b, off + f.offset, none⟩ w := by
  simp [fieldPlace, run_sizeOf hs, hn, addr_add]
theorem fieldC_spec {t : TypeId} {i off : Nat} {u : TypeId} (h : fieldC P t i = some (off, u)) : ∃ fs f, P.underlying t = some (.struct fs) ∧ fs[i]? = some f ∧ f.offset = off ∧ f.type = u := by
  unfold fieldC at h
  split at h
  · rename_i fs hu
    split at h
    · rename_i f hf
      simp only [Option.some.injEq, Prod.mk.injEq] at h
      exact ⟨fs, f, hu, hf, h.1, h.2⟩
    · cases h
  · cases h
theorem run_fieldAt {t : TypeId} {i off n : Nat} {u : TypeId} (h : fieldC P t i = some (off, u)) (hs : sizeC P u = some n) (hn : n ≠ 0) (b q : Nat) :
    (Instr.fieldAt t (.pointer (some ⟨b, q, none⟩)) i).run P w = .ok (.pointer (some ⟨b, q + off, none⟩)) w := by
  obtain ⟨fs, f, h1, h2, rfl, rfl⟩ := fieldC_spec h
  simp [Instr.fieldAt, run_underlying h1, h2, Instr.sureAddr, run_fieldPlace hs hn]
theorem run_indexSl {t e : TypeId} {n : Nat} (ht : P.underlying t = some (.slice e)) (hs : sizeC P e = some n) {b off len cap : Nat} {k : IntKind} {i : Int} (h0 : 0 ≤ i) (h1 : i < len) :
    (Instr.indexAt t (.slice (some ⟨b, off, none⟩) len cap) (.int k i)).run P w = .ok (.pointer (some ⟨b, off + i.toNat * n, none⟩)) w := by
  simp [Instr.indexAt, asIntOf, run_underlying ht, run_sizeOf hs, h0, h1, addr_add]
theorem run_indexArr {t e : TypeId} {n len : Nat} (ht : P.underlying t = some (.array len e)) (hs : sizeC P e = some n) {b off : Nat} {k : IntKind} {i : Int} (h0 : 0 ≤ i) (h1 : i < len) :
    (Instr.indexAt t (.pointer (some ⟨b, off, none⟩)) (.int k i)).run P w = .ok (.pointer (some ⟨b, off + i.toNat * n, none⟩)) w := by
  simp [Instr.indexAt, asIntOf, run_underlying ht, run_sizeOf hs, h0, h1, addr_add, Instr.sureAddr]
end
end Go.Lo

/- Operations, one by one: stores, and values that are built. -/
namespace Go.Lo
open Go.RowKit (Below)
section
variable {P : Program} {X : Sc} {w0 w : World} {Ω : Own} {a : Act} {σ : St} {o : Oper} {mk : Bool}

theorem prot_nil (Ω : Own) : Ω.prot [] = Ω := by
  cases Ω with
  | mk o lim cur tsz =>
    simp only [Own.prot, memN, Bool.or_false]
    congr 1
    funext b
    split
    · rename_i h; exact h.symm
    · rfl
theorem tkOf_get {tk : List (Nat × Nat × Bool)} {ex : List Nat} {t : Nat} {x : Nat × Bool} (h : tkOf tk ex t = some x) : get tk t = some x ∧ memN (t / 100) ex = false := by
  unfold tkOf at h
  split at h
  · cases h
  · rename_i hm; exact ⟨h, by simpa using hm⟩
theorem run_storeOp {t : TypeId} {x y : Operand} (ho : o.op = .store t x y) : (execOp a.eval o).run P w = ((Instr.storeAt t (a.eval x) (a.eval y)).run P w).andThen (fun _ w => .ok .skip w) := by
  simp only [execOp, ho, Sem.run_bind]
  congr 1
theorem run_storeAt {t : TypeId} {n b off : Nat} {v : Value} {cur : Array Value} {T : TypeId} (hs : sizeC P t = some n) (hh : w.heap[b]? = some (.cells cur T (0, 0))) (hn : v.cells.size = n) (hfit : off + n ≤ cur.size) (h1 : ∀ u ∈ v.cells.toList, u.oneCell' = true) :
    (Instr.storeAt t (.pointer (some ⟨b, off, none⟩)) v).run P w = .ok () (w.setRow b (cur.toList.take off ++ v.cells.toList ++ cur.toList.drop (off + n)).toArray) := by
  have h2 := run_storeCells_at P b off T v.cells.toList 0 cur w hh (by simp [hn]; omega) h1
  simp only [Nat.add_zero, Array.length_toList, hn] at h2
  simp [Instr.storeAt, Instr.sureAddr, storeVar, run_sizeOf hs, hn, h2]
theorem DenL.splice {cs new cs' : List V} {xs ys : List Value} {off : Nat} (h : DenL Ω w cs xs) (h' : DenL Ω w new ys) (hs : Lo.splice cs off new = some cs') : DenL Ω w cs' (xs.take off ++ ys ++ xs.drop (off + new.length)) := by
  unfold Lo.splice at hs
  split at hs
  · injection hs with hs; subst hs
    exact ((h.take off).append h').append (h.drop _)
  · cases hs
theorem splice_len {cs new cs' : List V} {off : Nat} (hs : splice cs off new = some cs') : off + new.length ≤ cs.length ∧ cs'.length = cs.length := by
  unfold splice at hs
  split at hs
  · rename_i h
    injection hs with hs; subst hs
    refine ⟨h, ?_⟩
    simp; omega
  · cases hs
theorem splice_all {q : V → Prop} {cs new cs' : List V} {off : Nat} (hs : splice cs off new = some cs') (h1 : ∀ v ∈ cs, q v) (h2 : ∀ v ∈ new, q v) : ∀ v ∈ cs', q v := by
  unfold splice at hs
  split at hs
  · injection hs with hs; subst hs
    intro v hv
    simp only [List.mem_append] at hv
    rcases hv with (hv | hv) | hv
    · exact h1 v (List.mem_of_mem_take hv)
    · exact h2 v hv
    · exact h1 v (List.mem_of_mem_drop hv)
  · cases hs

theorem yields_store (h : Inv X w0 Ω w a.tmps σ) (hd : ∀ d, o.dst = some d → d < a.tmps.size) {t : TypeId} {x y : Operand} (ho : o.op = .store t x y) {n : Nat} (hn : sizeC P t = some n) {s off : Nat} {v : V} {ex : List Nat} {cs cs' : List V}
    (hx : Den Ω w (.ref s off) (a.eval x)) (hy : Den Ω w v (a.eval y)) (hlt : s < 1000000) (hvn : v.cells.length = n) (hvc : v.cells.all V.cellOk = true) (hb : bxOf σ.fr ex s = some cs) (hs : splice cs off v.cells = some cs') :
    Yields P X w0 Ω w a o (apply σ o.dst (.sto s cs')) mk := by
  obtain ⟨hg, _⟩ := bxOf_get hlt hb
  obtain ⟨_, h2⟩ := h.slot s _ hg
  simp only [DenS] at h2
  obtain ⟨b, xs, T, e1, e2, e3, e4, e5⟩ := h2
  simp only [Den] at hx
  obtain ⟨b', hx1, hx2⟩ := hx
  have := h.uniq b b' s e2 hx2
  subst this
  have hyl := Den.cells hvc hy
  have hsz : (a.eval y).cells.size = n := by rw [← Array.length_toList, hyl.length, hvn]
  obtain ⟨hle, hlen⟩ := splice_len hs
  have hr := run_storeAt (P := P) (w := w) (off := off) hn e3 hsz (by simp only [List.size_toArray, e4.length]; omega) (DenL.one hvc hyl)
  have hnew := DenL.splice e4 hyl hs
  rw [hvn] at hnew
  refine ⟨undef, _, Ω, .inr ⟨by rw [run_storeOp ho, hx1, hr]; rfl, rfl⟩, ?_, fun _ hf _ => hf⟩
  have h3 := h.sto e2 e3 hg (xs := xs.take off ++ (a.eval y).cells.toList ++ xs.drop (off + n)) hnew (splice_all hs e5 (cells_cellOk hvc))
  exact h3.putO hd (by simp [Den]) a rfl

theorem froz_of_tok {t c : Nat} {p : Bool} (hc : Ω.o c = .arr t p) (hall : ∀ b p, Ω.o b = .arr t p → p = false) : ¬ Ω.froz c := by
  intro hf
  have := hall c p hc
  subst this
  rcases hf with hf | ⟨u, hf⟩ <;> rw [hc] at hf <;> cases hf
theorem yields_est (h : Inv X w0 Ω w a.tmps σ) (hd : ∀ d, o.dst = some d → d < a.tmps.size) {t : TypeId} {x y : Operand} (ho : o.op = .store t x y) {n : Nat} (hn : sizeC P t = some n) {u m i off : Nat} {v v' : V} {ex : List Nat} {cs cs' : List V}
    (hx : Den Ω w (.eref u m i off cs) (a.eval x)) (hy : Den Ω w v (a.eval y)) (hf : v.frzE = some (v', [])) (hvn : v'.cells.length = n) (hvp : v'.cells.all V.pm = true) (ht : tkOf σ.tk ex u = some (m, true)) (hs : splice cs off v'.cells = some cs') :
    Yields P X w0 Ω w a o (apply σ o.dst (.est u m i cs')) mk := by
  obtain ⟨htk, _⟩ := tkOf_get ht
  obtain ⟨c, k, T, xs, g1, ⟨p, g2⟩, g3, g4, g5, g6, g7, g8⟩ := h.tok u m true htk
  have g8 := g8 rfl
  simp only [Den] at hx
  obtain ⟨b, q, hx1, hx2, hx3, hx4, hx5, hx6, hx7⟩ := hx
  have hbc : b = c := (hx4 c k m g1).2 rfl
  subst hbc
  have hv' := (Den.frzE (ps := []) v v' [] _ hf (by simp) hy).1
  rw [prot_nil] at hv'
  have hvc : v'.cells.all V.cellOk = true := List.all_eq_true.2 fun z hz => (V.pm_pure (List.all_eq_true.1 hvp z hz)).2
  have hyl := Den.cells hvc hv'
  have hsz : (a.eval y).cells.size = n := by rw [← Array.length_toList, hyl.length, hvn]
  obtain ⟨hle, hlen⟩ := splice_len hs
  have hi1 : i * Ω.tsz u + Ω.tsz u ≤ m * Ω.tsz u := by rw [← Nat.succ_mul]; exact Nat.mul_le_mul_right _ hx3
  have hm1 : m * Ω.tsz u ≤ xs.size := by rw [g4]; exact Nat.mul_le_mul_right _ g5
  have hr := run_storeAt (P := P) (w := w) (off := i * Ω.tsz u + off) hn g3 hsz (by omega) (DenL.one hvc hyl)
  generalize hw : (xs.toList.take (i * Ω.tsz u + off) ++ (a.eval y).cells.toList ++ xs.toList.drop (i * Ω.tsz u + off + n)).toArray = ys at hr
  have hys : ys.size = xs.size := by
    rw [← hw]; simp only [List.size_toArray, List.length_append, List.length_take, List.length_drop, Array.length_toList]; omega
  have hsize : (w.setRow b ys).heap.size = w.heap.size := by simp [World.setRow]
  have hcell : ∀ j, (w.setRow b ys).cell? ⟨b, j, none⟩ = ys[j]? := fun j => cell_setRow_same w b j xs ys T (0, 0) g3
  have hcell0 : ∀ j, w.cell? ⟨b, j, none⟩ = xs[j]? := fun j => cell_of_row w b j xs T (0, 0) g3
  have hyold : ∀ j, (j < i * Ω.tsz u + off ∨ i * Ω.tsz u + off + n ≤ j) → ys[j]? = xs[j]? := by
    intro j hj
    rw [← hw, List.getElem?_toArray]
    have hl1 : (xs.toList.take (i * Ω.tsz u + off)).length = i * Ω.tsz u + off := by rw [List.length_take, Array.length_toList]; omega
    rcases hj with hj | hj
    · rw [List.append_assoc, List.getElem?_append_left (by omega), List.getElem?_take_of_lt hj, Array.getElem?_toList]
    · rw [List.getElem?_append_right (by simp only [List.length_append, hl1, Array.length_toList]; omega), List.getElem?_drop, Array.getElem?_toList]
      congr 1
      simp only [List.length_append, hl1, Array.length_toList]; omega
  have hext : ExtM Ω Ω w (w.setRow b ys) := ⟨fun _ h => h, fun _ _ => Nat.le_refl _, fun b' off' hb' _ => cell_setRow_other w b ys ⟨b', off', none⟩ (fun e => by
    simp only at e; subst e; exact absurd hb' (froz_of_tok g2 g8))⟩
  -- the element as it is now
  obtain ⟨zs, z1, z2⟩ := hx7.vals
  have hpm' : cs'.all V.pm = true := List.all_eq_true.2 (splice_all hs (List.all_eq_true.1 hx6) (List.all_eq_true.1 hvp))
  have hnewL : DenL Ω (w.setRow b ys) cs' (zs.take off ++ (a.eval y).cells.toList ++ zs.drop (off + n)) := by
    have h1 := DenL.splice z1 hyl hs
    rw [hvn] at h1
    have key : ∀ (vs : List V) (us : List Value), vs.all V.pm = true → DenL Ω w vs us → DenL Ω (w.setRow b ys) vs us := by
      intro vs
      induction vs with
      | nil => intro us _ h; simpa [DenL] using h
      | cons v vs ih =>
        intro us hp h
        simp only [DenL] at h
        obtain ⟨x, us', rfl, k2, k3⟩ := h
        simp only [List.all_cons, Bool.and_eq_true] at hp
        exact DenL.cons (Den.extM hext v x hp.1 k2) (ih us' hp.2 k3)
    exact key _ _ hpm' h1
  have hzl : zs.length = Ω.tsz u := by rw [z1.length, hx5]
  have hest : EstW Ω w (w.setRow b ys) u b m i (Ω.tsz u) cs' := by
    refine ⟨⟨k, g1⟩, g8, rfl, by rw [hlen, hx5], hpm', ?_, fun b' off' _ ho' => ?_, ⟨p, g2⟩⟩
    · refine rowC hnewL (fun v hv => V.pm_pure (List.all_eq_true.1 hpm' v hv)) (fun j y' hj => ?_)
      have hjlt : j < Ω.tsz u := by
        have := (List.getElem?_eq_some_iff.1 hj).1
        rw [hnewL.length, hlen, hx5] at this
        exact this
      refine ⟨by rw [g6]; omega, ?_⟩
      rw [hcell]
      by_cases hj1 : j < off
      · rw [hyold _ (.inl (by omega)), ← hcell0]
        refine z2 j y' ?_
        rw [List.append_assoc, List.getElem?_append_left (by rw [List.length_take, hzl]; omega), List.getElem?_take_of_lt hj1] at hj
        exact hj
      · by_cases hj2 : j < off + n
        · rw [List.append_assoc, List.getElem?_append_right (by rw [List.length_take, hzl]; omega), List.getElem?_append_left (by rw [List.length_take, hzl, Array.length_toList, hsz]; omega), List.length_take, hzl] at hj
          rw [← hw, List.getElem?_toArray]
          have hl1 : (xs.toList.take (i * Ω.tsz u + off)).length = i * Ω.tsz u + off := by rw [List.length_take, Array.length_toList]; omega
          rw [List.append_assoc, List.getElem?_append_right (by omega), hl1, List.getElem?_append_left (by rw [Array.length_toList, hsz]; omega)]
          rw [← hj]
          congr 1
          omega
        · rw [hyold _ (.inr (by omega)), ← hcell0]
          refine z2 j y' ?_
          rw [List.getElem?_append_right (by rw [List.length_append, List.length_take, hzl, Array.length_toList, hsz]; omega), List.getElem?_drop, List.length_append, List.length_take, hzl, Array.length_toList, hsz] at hj
          rw [← hj]
          congr 1
          omega
    · by_cases hbb : b' = b
      · subst hbb
        rw [hcell, hcell0]
        exact hyold _ (by omega)
      · exact cell_setRow_other w b ys ⟨b', off', none⟩ hbb
  have h3 := h.est hest hx3 ⟨h.kept.os, h.kept.tape, h.kept.output, by rw [hsize]; exact h.kept.size, fun b' hb' hX => by
      by_cases e : b' = b
      · subst e
        rcases h.ownA b' u p g2 with k1 | k1
        · exact absurd hb' (Nat.not_lt_of_le k1)
        · exact absurd k1 hX
      · rw [setRow_other w b b' _ e]; exact h.kept.block b' hb' hX⟩ (by rw [hsize]; exact Nat.le_refl _) (fun b' hb' => setRow_other w b b' _ hb') (fun xs' T' hxs' => by
      rw [g3] at hxs'
      injection hxs' with hxs'
      injection hxs' with e1 e2
      subst e1; subst e2
      exact ⟨ys, setRow_heap w b xs ys T (0, 0) g3, hys⟩)
  refine ⟨undef, _, Ω, .inr ⟨by rw [run_storeOp ho, hx1, hr]; rfl, rfl⟩, ?_, fun _ hf _ => hf⟩
  exact h3.putO hd (by simp [Den]) a rfl
end
end Go.Lo

/- Comparisons. -/
namespace Go.Lo
section
variable {P : Program} {w : World} {Ω : Own}

def eqVals : List (Option IntKind) → List Value → List Value → Option Bool
  | [], [], [] => some true
  | some k :: sh, .int k1 a :: xs, .int k2 b :: ys => if k1 = k ∧ k2 = k then (match eqVals sh xs ys with | some r => some (a == b && r) | none => none) else none
  | none :: sh, .bool a :: xs, .bool b :: ys => match eqVals sh xs ys with | some r => some (a == b && r) | none => none
  | _, _, _ => none
theorem eqVals_inv {k : Option IntKind} {sh : List (Option IntKind)} {xs ys : List Value} {r : Bool} (h : eqVals (k :: sh) xs ys = some r) :
    ∃ x y xs' ys' r0 r1, xs = x :: xs' ∧ ys = y :: ys' ∧ eqVals sh xs' ys' = some r1 ∧ r = (r0 && r1) ∧
      ((k = none ∧ ∃ a b, x = .bool a ∧ y = .bool b ∧ r0 = (a == b)) ∨ ∃ q a b, k = some q ∧ x = .int q a ∧ y = .int q b ∧ r0 = (a == b)) := by
  cases xs with
  | nil => cases k <;> simp [eqVals] at h
  | cons x xs =>
    cases ys with
    | nil => cases k <;> cases x <;> simp [eqVals] at h
    | cons y ys =>
      cases k with
      | none =>
        cases x <;> cases y <;> simp only [eqVals, reduceCtorEq] at h
        rename_i a b
        split at h
        · rename_i q hq
          simp only [Option.some.injEq] at h
          exact ⟨_, _, xs, ys, a == b, q, rfl, rfl, hq, h.symm, .inl ⟨rfl, a, b, rfl, rfl, rfl⟩⟩
        · cases h
      | some k =>
        cases x <;> cases y <;> simp only [eqVals, reduceCtorEq] at h
        rename_i k1 a k2 b
        split at h
        · rename_i hk
          obtain ⟨rfl, rfl⟩ := hk
          split at h
          · rename_i q hq
            simp only [Option.some.injEq] at h
            exact ⟨_, _, xs, ys, a == b, q, rfl, rfl, hq, h.symm, .inr ⟨_, a, b, rfl, rfl, rfl, rfl⟩⟩
          · cases h
        · cases h
theorem eqVals_cons {k : Option IntKind} {sh : List (Option IntKind)} {x y : Value} {xs ys : List Value} {r0 r1 : Bool} (h : eqVals sh xs ys = some r1)
    (hk : (k = none ∧ ∃ a b, x = .bool a ∧ y = .bool b ∧ r0 = (a == b)) ∨ ∃ q a b, k = some q ∧ x = .int q a ∧ y = .int q b ∧ r0 = (a == b)) : eqVals (k :: sh) (x :: xs) (y :: ys) = some (r0 && r1) := by
  rcases hk with ⟨rfl, a, b, rfl, rfl, rfl⟩ | ⟨q, a, b, rfl, rfl, rfl, rfl⟩
  · simp only [eqVals, h]
  · simp only [eqVals, h]; simp
theorem eqVals_len : ∀ {sh : List (Option IntKind)} {xs ys : List Value} {r : Bool}, eqVals sh xs ys = some r → xs.length = sh.length ∧ ys.length = sh.length := by
  intro sh
  induction sh with
  | nil =>
    intro xs ys r h
    cases xs <;> cases ys <;> simp [eqVals] at h <;> exact ⟨rfl, rfl⟩
  | cons k sh ih =>
    intro xs ys r h
    obtain ⟨x, y, xs', ys', r0, r1, rfl, rfl, h1, _, _⟩ := eqVals_inv h
    obtain ⟨h2, h3⟩ := ih h1
    simp [h2, h3]
theorem eqVals_den : ∀ {sh : List (Option IntKind)} {cs ds : List V} {xs ys : List Value} {r : Bool}, eqSh sh cs ds = some r → DenL Ω w cs xs → DenL Ω w ds ys → eqVals sh xs ys = some r := by
  intro sh
  induction sh with
  | nil =>
    intro cs ds xs ys r h h1 h2
    cases cs <;> cases ds <;> simp [eqSh] at h
    simp only [DenL] at h1 h2; subst h1; subst h2; subst h
    rfl
  | cons k sh ih =>
    intro cs ds xs ys r h h1 h2
    cases cs with
    | nil => cases k <;> simp [eqSh] at h
    | cons c cs =>
      cases ds with
      | nil => cases k <;> cases c <;> simp [eqSh] at h
      | cons d ds =>
        cases k with
        | none =>
          cases c <;> cases d <;> simp only [eqSh, reduceCtorEq] at h
          simp only [DenL, Den] at h1 h2
          obtain ⟨_, xs', rfl, rfl, h1⟩ := h1
          obtain ⟨_, ys', rfl, rfl, h2⟩ := h2
          split at h
          · rename_i q hq
            simp only [eqVals, ih hq h1 h2]
            exact h
          · cases h
        | some k =>
          cases c <;> cases d <;> simp only [eqSh, reduceCtorEq] at h
          simp only [DenL, Den] at h1 h2
          obtain ⟨_, xs', rfl, rfl, h1⟩ := h1
          obtain ⟨_, ys', rfl, rfl, h2⟩ := h2
          split at h
          · rename_i hk
            split at h
            · rename_i q hq
              simp only [eqVals, if_pos hk, ih hq h1 h2]
              exact h
            · cases h
          · cases h
theorem eqVals_split : ∀ {sh sh' : List (Option IntKind)} {xs ys : List Value} {r : Bool}, eqVals (sh ++ sh') xs ys = some r →
    ∃ r1 r2, eqVals sh (xs.take sh.length) (ys.take sh.length) = some r1 ∧ eqVals sh' (xs.drop sh.length) (ys.drop sh.length) = some r2 ∧ r = (r1 && r2) := by
  intro sh
  induction sh with
  | nil =>
    intro sh' xs ys r h
    exact ⟨true, r, rfl, by simpa using h, by simp⟩
  | cons k sh ih =>
    intro sh' xs ys r h
    rw [List.cons_append] at h
    obtain ⟨x, y, xs', ys', r0, r1, rfl, rfl, h1, rfl, h2⟩ := eqVals_inv h
    obtain ⟨s1, s2, g1, g2, rfl⟩ := ih h1
    exact ⟨r0 && s1, s2, by simpa using eqVals_cons g1 h2, by simpa using g2, by rw [Bool.and_assoc]⟩

/-- A value of the type with these cells. -/
def IsVal (P : Program) (t : TypeId) (xs : List Value) (v : Value) : Prop :=
  match P.underlying t with
  | some (.struct _) => v = .agg xs.toArray
  | some (.array _ _) => v = .agg xs.toArray
  | _ => xs = [v]
theorem run_part {t : TypeId} {n : Nat} (hs : sizeC P t = some n) {d : TypeDesc} (hd : P.underlying t = some d) (h1 : d.isRow = false → n = 1) {xs : List Value} {off : Nat} (hle : off + n ≤ xs.length) (w : World) :
    ∃ v, (part t xs.toArray off).run P w = .ok v w ∧ IsVal P t ((xs.drop off).take n) v := by
  by_cases hr : d.isRow = true
  · have hagg : (isAgg t).run P w = .ok true w := by
      unfold isAgg
      rw [Sem.run_bind, run_underlying hd w]
      cases d <;> simp_all
    refine ⟨.agg (xs.toArray.extract off (off + n)), by simp [part, hagg, run_sizeOf hs], ?_⟩
    have e : xs.toArray.extract off (off + n) = ((xs.drop off).take n).toArray := by
      apply Array.ext'
      rw [Array.toList_extract]
      simp [List.extract]
    unfold IsVal
    cases d <;> simp at hr <;> simp only [hd] <;> rw [e]
  · have hr : d.isRow = false := by simpa using hr
    have hn := h1 hr
    subst hn
    have hlt : off < xs.length := by omega
    refine ⟨xs[off], by simp [part, run_isAgg_no hd hr, hlt], ?_⟩
    have e : (xs.drop off).take 1 = [xs[off]] := by rw [List.drop_eq_getElem_cons hlt]; rfl
    unfold IsVal
    cases d <;> simp at hr <;> simp only [hd] <;> rw [e]
theorem shape_row : ∀ {d : Nat} {t : TypeId} {sh : List (Option IntKind)}, shapeC P d t = some sh → ∃ k, P.underlying t = some k ∧ sizeC P t = some sh.length ∧ (k.isRow = false → sh.length = 1) := by
  intro d t sh h
  cases d with
  | zero => simp [shapeC] at h
  | succ d =>
    have key : ∀ sh', sized P t sh' = some sh → sh' = sh ∧ sizeC P t = some sh.length := fun sh' e => by
      unfold sized at e
      split at e
      · injection e with e; subst e; exact ⟨rfl, by assumption⟩
      · cases e
    unfold shapeC at h
    cases hu : P.underlying t with
    | none => simp [hu] at h
    | some k =>
      cases k <;> simp only [hu, reduceCtorEq] at h
      case bool => obtain ⟨rfl, h2⟩ := key _ h; exact ⟨_, rfl, h2, fun _ => rfl⟩
      case int q => obtain ⟨rfl, h2⟩ := key _ h; exact ⟨_, rfl, h2, fun _ => rfl⟩
      case struct fs =>
        split at h
        · cases h
        · split at h
          · obtain ⟨rfl, h2⟩ := key _ h; exact ⟨_, rfl, h2, fun hr => by simp at hr⟩
          · cases h
      case array n e =>
        split at h
        · obtain ⟨rfl, h2⟩ := key _ h; exact ⟨_, rfl, h2, fun hr => by simp at hr⟩
        · cases h
theorem take_drop_flat (n c : Nat) (xs : List Value) : (xs.drop n).drop c = xs.drop (n + c) := by rw [List.drop_drop]
theorem run_equalIn_shape : ∀ (d : Nat) (t : TypeId) (sh : List (Option IntKind)), shapeC P d t = some sh → ∀ (D : Nat) (xs ys : List Value) (r : Bool) (vx vy : Value) (w : World), eqVals sh xs ys = some r →
    IsVal P t xs vx → IsVal P t ys vy → (Op.equalIn (D + d) t vx vy).run P w = .ok r w := by
  intro d
  induction d with
  | zero => intro t sh h; simp [shapeC] at h
  | succ d ih =>
    intro t sh h D xs ys r vx vy w hr hx hy
    -- one part
    have step : ∀ (e : TypeId) (s1 s2 : List (Option IntKind)) (off : Nat) (r : Bool), off ≤ xs.length → off ≤ ys.length → shapeC P d e = some s1 → eqVals (s1 ++ s2) (xs.drop off) (ys.drop off) = some r →
        ∃ a b r1 r2, off + s1.length ≤ xs.length ∧ off + s1.length ≤ ys.length ∧ (part e xs.toArray off).run P w = .ok a w ∧ (part e ys.toArray off).run P w = .ok b w ∧ (Op.equalIn (D + d) e a b).run P w = .ok r1 w ∧
          eqVals s2 (xs.drop (off + s1.length)) (ys.drop (off + s1.length)) = some r2 ∧ r = (r1 && r2) := by
      intro e s1 s2 off r hl1 hl2 h1 h2
      obtain ⟨k, k1, k2, k3⟩ := shape_row h1
      obtain ⟨l1, l2⟩ := eqVals_len h2
      rw [List.length_drop, List.length_append] at l1 l2
      obtain ⟨r1, r2, g1, g2, g3⟩ := eqVals_split h2
      have ho1 : off + s1.length ≤ xs.length := by omega
      have ho2 : off + s1.length ≤ ys.length := by omega
      obtain ⟨a, ha1, ha2⟩ := run_part k2 k1 k3 ho1 w
      obtain ⟨b, hb1, hb2⟩ := run_part k2 k1 k3 ho2 w
      exact ⟨a, b, r1, r2, ho1, ho2, ha1, hb1, ih e s1 h1 D _ _ r1 a b w g1 ha2 hb2, by rw [List.drop_drop, List.drop_drop] at g2; exact g2, g3⟩
    have key : ∀ sh', sized P t sh' = some sh → sh' = sh := fun sh' e => by
      unfold sized at e
      split at e
      · injection e
      · cases e
    unfold shapeC at h
    rw [show D + (d + 1) = (D + d) + 1 from rfl]
    cases hu : P.underlying t with
    | none => simp [hu] at h
    | some k =>
      cases k <;> simp only [hu, reduceCtorEq] at h
      case bool =>
        have := key _ h; subst this
        simp only [IsVal, hu] at hx hy
        subst hx; subst hy
        obtain ⟨x, y, xs', ys', r0, r1, e1, e2, h1, rfl, h2⟩ := eqVals_inv hr
        injection e1 with e1 e3; injection e2 with e2 e4
        subst e1; subst e2; subst e3; subst e4
        simp only [eqVals, Option.some.injEq] at h1; subst h1
        rcases h2 with ⟨_, a, b, rfl, rfl, rfl⟩ | ⟨q, a, b, h2, _⟩
        · rw [Bool.and_true]; exact run_equalIn_bool' w (D + d) t _ _ hu
        · cases h2
      case int q =>
        have := key _ h; subst this
        simp only [IsVal, hu] at hx hy
        subst hx; subst hy
        obtain ⟨x, y, xs', ys', r0, r1, e1, e2, h1, rfl, h2⟩ := eqVals_inv hr
        injection e1 with e1 e3; injection e2 with e2 e4
        subst e1; subst e2; subst e3; subst e4
        simp only [eqVals, Option.some.injEq] at h1; subst h1
        rcases h2 with ⟨h2, _⟩ | ⟨q', a, b, h2, rfl, rfl, rfl⟩
        · cases h2
        · rw [Bool.and_true]; exact run_equalIn_int w (D + d) t _ q _ _ hu
      case struct fs =>
        split at h
        · cases h
        · rename_i hst
          split at h
          · rename_i sh' hfs
            have := key _ h; subst this
            simp only [IsVal, hu] at hx hy
            subst hx; subst hy
            have hfo : P.fieldsOf t = fs := by simp [Program.fieldsOf, hu]
            rw [run_equalIn_struct w (D + d) t _ _ (by rw [hfo]; exact hu) (by simpa using hst), hfo]
            generalize fs.toList = l at hfs
            have go : ∀ (l : List Field) (o : Nat) (s : List (Option IntKind)) (r : Bool), o ≤ xs.length → o ≤ ys.length → shapeFs (shapeC P d) l o = some s → eqVals s (xs.drop o) (ys.drop o) = some r →
                (Op.eqFields (D + d) xs.toArray ys.toArray l).run P w = .ok r w := by
              intro l
              induction l with
              | nil =>
                intro o s r hl1 hl2 h1 h2
                simp only [shapeFs, Option.some.injEq] at h1; subst h1
                cases hq : xs.drop o <;> cases hq2 : ys.drop o <;> simp [eqVals, hq, hq2] at h2
                subst h2
                simp [Op.eqFields]
              | cons f l ihl =>
                intro o s r hl1 hl2 h1 h2
                simp only [shapeFs] at h1
                split at h1
                · rename_i s1 hs1
                  split at h1
                  · rename_i hc
                    split at h1
                    · rename_i s2 hs2
                      injection h1 with h1; subst h1
                      obtain ⟨a, b, r1, r2, l1, l2, q1, q2, q3, q4, rfl⟩ := step f.type s1 s2 o r hl1 hl2 hs1 h2
                      have hrec := ihl _ s2 r2 l1 l2 hs2 q4
                      simp only [Op.eqFields, hc.2, ne_eq, not_false_eq_true, if_true, Sem.run_bind, hc.1, q1, q2, q3, Result.andThen_ok]
                      cases r1
                      · simp
                      · simpa using hrec
                    · cases h1
                  · cases h1
                · cases h1
            exact go l 0 _ r (Nat.zero_le _) (Nat.zero_le _) hfs (by simpa using hr)
          · cases h
      case array n e =>
        split at h
        · rename_i s1 hs1
          have := key _ h; subst this
          simp only [IsVal, hu] at hx hy
          subst hx; subst hy
          obtain ⟨k, k1, k2, k3⟩ := shape_row hs1
          have hi : ∃ i, P.info? e = some i ∧ P.cellsOf e = s1.length := by
            unfold sizeC at k2
            cases hi : P.info? e with
            | none => simp [hi] at k2
            | some i => simp only [hi, Option.map_some, Option.some.injEq] at k2; exact ⟨i, rfl, by simp [Program.cellsOf, hi, k2]⟩
          obtain ⟨i, hi, hce⟩ := hi
          rw [run_equalIn_array w (D + d) _ _ hu hi, hce, List.range_eq_range']
          have go : ∀ (m i : Nat) (r : Bool), i * s1.length ≤ xs.length → i * s1.length ≤ ys.length → eqVals (List.replicate m s1).flatten (xs.drop (i * s1.length)) (ys.drop (i * s1.length)) = some r →
              (Op.eqItems (D + d) e s1.length xs.toArray ys.toArray (List.range' i m)).run P w = .ok r w := by
            intro m
            induction m with
            | zero =>
              intro i r hl1 hl2 h2
              cases hq : xs.drop (i * s1.length) <;> cases hq2 : ys.drop (i * s1.length) <;> simp [eqVals, hq, hq2] at h2
              subst h2
              simp [Op.eqItems]
            | succ m ihm =>
              intro i r hl1 hl2 h2
              rw [List.replicate_succ, List.flatten_cons] at h2
              obtain ⟨a, b, r1, r2, l1, l2, q1, q2, q3, q4, rfl⟩ := step e s1 _ _ r hl1 hl2 hs1 h2
              rw [← Nat.succ_mul] at q4 l1 l2
              have hrec := ihm (i + 1) r2 l1 l2 q4
              rw [List.range'_succ]
              simp only [Op.eqItems, Sem.run_bind, q1, q2, q3, Result.andThen_ok]
              cases r1
              · simp
              · simpa using hrec
          exact go n 0 r (by simp) (by simp) (by simpa using hr)
        · cases h
end
end Go.Lo

/- Binary operations. -/
namespace Go.Lo
section
variable {P : Program} {X : Sc} {w0 w : World} {Ω : Own} {a : Act} {σ : St} {o : Oper} {mk : Bool}

theorem run_binOp {op : BinOp} {t u : TypeId} {x y : Operand} (ho : o.op = .binOp op t x y u) :
    (execOp a.eval o).run P w = ((eqGuard op t x y (a.eval x) (a.eval y)).run P w).andThen fun _ w => ((binOp op t (a.eval x) (a.eval y)).run P w).andThen fun v w => .ok (.value v) w := by
  simp only [execOp, ho, Sem.run_bind]
  cases (eqGuard op t x y (a.eval x) (a.eval y)).run P w with
  | ok _ w =>
    simp only [Result.andThen_ok]
    congr 1
  | halt _ _ => rfl
theorem run_eqGuard_int (op : BinOp) (t : TypeId) (x y : Operand) (k k' : IntKind) (n m : Int) (w : World) : (eqGuard op t x y (.int k n) (.int k' m)).run P w = .ok () w := by
  cases op <;> simp [eqGuard]
theorem run_eqGuard_bool (op : BinOp) (t : TypeId) (x y : Operand) (n m : Bool) (w : World) : (eqGuard op t x y (.bool n) (.bool m)).run P w = .ok () w := by
  cases op <;> simp [eqGuard]
theorem run_eqGuard_sl (op : BinOp) (t : TypeId) (x y : Operand) (b c : Option Addr) (n m n' m' : Nat) (w : World) : (eqGuard op t x y (.slice b n m) (.slice c n' m')).run P w = .ok () w := by
  cases op <;> simp [eqGuard]
theorem run_binI {op : BinOp} {k : IntKind} {n m : Int} {r : V} (h : binI op k n m = some r) (t : TypeId) (w : World) : ∃ z, (binOp op t (.int k n) (.int k m)).run P w = .ok z w ∧ Den Ω w r z := by
  cases op <;> simp only [binI, reduceCtorEq, Option.some.injEq] at h
  all_goals first
    | (subst h
       refine ⟨_, ?_, (by simp only [Den]; rfl)⟩
       simp [binOp, Op.intArith, Op.intCmp]
       done)
    | (split at h
       · cases h
       · simp only [Option.some.injEq] at h
         subst h
         refine ⟨_, ?_, (by simp only [Den]; rfl)⟩
         simp [binOp, Op.intDiv, *]
         done)
    | (simp only [intBits, Option.some.injEq] at h
       subst h
       refine ⟨_, ?_, (by simp only [Den]; rfl)⟩
       simp [binOp, Op.intBits]
       done)
    | (subst h
       refine ⟨_, ?_, (by simp only [Den]; rfl)⟩
       simp only [binOp, ne_eq, not_true_eq_false, if_false, Op.intCmp, Sem.run_pure]
       congr 2
       first | done | (by_cases e : n = m <;> simp [e]))
theorem run_binS {op : BinOp} {k k' : IntKind} {n m : Int} {r : V} (h : binS op k n m = some r) (t : TypeId) (w : World) : ∃ z, (binOp op t (.int k n) (.int k' m)).run P w = .ok z w ∧ Den Ω w r z := by
  unfold binS at h
  split at h
  · cases h
  · cases op <;> simp only [reduceCtorEq, Option.some.injEq] at h
    all_goals
      subst h
      refine ⟨_, ?_, (by simp only [Den]; rfl)⟩
      simp [binOp, Op.shift, *]
/-- What the type of the operands tells. -/
def binTy (P : Program) (t : TypeId) (ty : Nat) : Prop := (ty = 1 → P.underlying t = some .bool) ∧ (ty = 2 → ∃ e, P.underlying t = some (.slice e))
theorem run_bin {op : BinOp} {t u : TypeId} {x y : Operand} (ho : o.op = .binOp op t x y u) {ty : Nat} (ht : binTy P t ty) {v v' r : V} (hx : Den Ω w v (a.eval x)) (hy : Den Ω w v' (a.eval y)) (h : binV ty op v v' = some r) :
    ∃ z, (execOp a.eval o).run P w = .ok (.value z) w ∧ Den Ω w r z := by
  rw [run_binOp ho]
  have fin : ∀ {s : V}, (eqGuard op t x y (a.eval x) (a.eval y)).run P w = .ok () w → (∃ z, (binOp op t (a.eval x) (a.eval y)).run P w = .ok z w ∧ Den Ω w s z) →
      ∃ z, ((eqGuard op t x y (a.eval x) (a.eval y)).run P w).andThen (fun _ w => ((binOp op t (a.eval x) (a.eval y)).run P w).andThen fun v w => .ok (Next.value v) w) = .ok (Next.value z) w ∧ Den Ω w s z := by
    rintro s h0 ⟨z, h1, h2⟩
    exact ⟨z, by rw [h0]; simp only [Result.andThen_ok]; rw [h1]; rfl, h2⟩
  have eqlNil : ∀ (p : Option Addr) (l c : Nat) (s : V), a.eval x = .slice p l c → a.eval y = .slice none 0 0 → ty = 2 → nilCmp op p.isNone = some s →
      ∃ z, ((eqGuard op t x y (a.eval x) (a.eval y)).run P w).andThen (fun _ w => ((binOp op t (a.eval x) (a.eval y)).run P w).andThen fun v w => .ok (Next.value v) w) = .ok (Next.value z) w ∧ Den Ω w s z := by
    intro p l c s h1 h2 h3 h4
    refine fin (by rw [h1, h2]; exact run_eqGuard_sl _ _ _ _ _ _ _ _ _ _ _) ?_
    rw [h1, h2]
    obtain ⟨e, he⟩ := ht.2 h3
    cases op <;> simp only [nilCmp, reduceCtorEq, Option.some.injEq] at h4
    · subst h4
      refine ⟨.bool p.isNone, ?_, by simp [Den]⟩
      simp [binOp, run_equal_slice_nil w t e p l c he]
    · subst h4
      refine ⟨.bool !p.isNone, ?_, by simp [Den]⟩
      simp [binOp, run_equal_slice_nil w t e p l c he]
  cases v with
  | int k n =>
    cases v' <;> simp only [binV, reduceCtorEq] at h
    rename_i k' m
    simp only [Den] at hx hy
    refine fin (by rw [hx, hy]; exact run_eqGuard_int _ _ _ _ _ _ _ _ _) ?_
    rw [hx, hy]
    split at h
    · exact run_binS h t w
    · exact run_binS h t w
    · split at h
      · rename_i hk
        subst hk
        exact run_binI h t w
      · cases h
  | bool b =>
    cases v' <;> simp only [binV, reduceCtorEq] at h
    rename_i c
    simp only [Den] at hx hy
    refine fin (by rw [hx, hy]; exact run_eqGuard_bool _ _ _ _ _ _ _) ?_
    rw [hx, hy]
    split at h
    · rename_i h1
      have hb := ht.1 h1
      cases op <;> simp only [reduceCtorEq, Option.some.injEq] at h
      · subst h; exact ⟨_, run_eql_bool w t b c hb, by simp [Den]⟩
      · subst h; exact ⟨_, run_neq_bool w t b c hb, by simp [Den]⟩
    · cases h
  | nil =>
    cases v' <;> simp only [binV, reduceCtorEq] at h
    simp only [Den] at hx hy
    split at h
    · rename_i h2
      exact eqlNil none 0 0 r hx hy h2 h
    · cases h
  | sl tok sz es =>
    cases tok <;> cases v' <;> simp only [binV, reduceCtorEq] at h
    simp only [Den] at hx hy
    obtain ⟨b, cap, p, h1, _⟩ := hx
    split at h
    · rename_i h2
      exact eqlNil _ _ _ r h1 hy h2 h
    · cases h
  | _ => cases v' <;> simp only [binV, reduceCtorEq] at h
/-- Structs and arrays, cell by cell. -/
theorem run_eqs {op : BinOp} {t u : TypeId} {x y : Operand} (ho : o.op = .binOp op t x y u) {ne : Bool} {sh : List (Option IntKind)} (hop : eqOpC op = some ne) (hs : shapeC P 12 t = some sh) (hg : P.eqGuardType P.depth t = false)
    (hr : ∃ k, P.underlying t = some k ∧ k.isRow = true)
    {cs ds : List V} {r : Bool} (hx : Den Ω w (.agg cs) (a.eval x)) (hy : Den Ω w (.agg ds) (a.eval y)) (h : eqSh sh cs ds = some r) :
    (execOp a.eval o).run P w = .ok (.value (.bool (ne != r))) w := by
  rw [run_binOp ho]
  simp only [Den] at hx hy
  obtain ⟨xs, hx1, hx2⟩ := hx
  obtain ⟨ys, hy1, hy2⟩ := hy
  have hv := eqVals_den h hx2 hy2
  rw [hx1, hy1, run_eqGuard_agg w op t x y _ _ hg]
  simp only [Result.andThen_ok]
  obtain ⟨k, hk1, hk2⟩ := hr
  have isv : ∀ zs : List Value, IsVal P t zs (.agg zs.toArray) := fun zs => by
    unfold IsVal
    cases k <;> simp at hk2 <;> simp [hk1]
  have he := run_equalIn_shape 12 t sh hs 9988 xs ys r _ _ w hv (isv xs) (isv ys)
  rw [show 9988 + 12 = 10000 from rfl] at he
  cases op <;> simp only [eqOpC, reduceCtorEq, Option.some.injEq] at hop
  · subst hop
    rw [run_eql_struct w, he]
    simp
  · subst hop
    rw [run_neq_struct w, he]
    simp
end
end Go.Lo

/- Composite values. -/
namespace Go.Lo
section
variable {P : Program} {X : Sc} {w0 w : World} {Ω : Own} {a : Act} {σ : St} {o : Oper} {mk : Bool}

theorem run_isAgg_yes {t : TypeId} {d : TypeDesc} (hd : P.underlying t = some d) (h : d.isRow = true) (w : World) : (isAgg t).run P w = .ok true w := by
  unfold isAgg
  rw [Sem.run_bind, run_underlying hd w]
  cases d <;> simp_all
/-- A part of cells that are known. -/
theorem run_partV {t : TypeId} {n : Option Nat} (h : nC P t = some n) {cs : List V} {xs : List Value} {off : Nat} {v : V} (hl : DenL Ω w cs xs) (hp : partV cs off n = some v) (w' : World) :
    ∃ x, (part t xs.toArray off).run P w' = .ok x w' ∧ Den Ω w v x := by
  cases n with
  | none =>
    obtain ⟨d, hd, hr⟩ := nC_one h
    simp only [partV] at hp
    obtain ⟨x, hx, hv⟩ := hl.get hp
    exact ⟨x, by simp [part, run_isAgg_no hd hr, hx], hv⟩
  | some n =>
    obtain ⟨⟨d, hd, hr⟩, hs⟩ := nC_many h
    simp only [partV] at hp
    split at hp
    · rename_i hle
      injection hp with hp; subst hp
      refine ⟨.agg (xs.toArray.extract off (off + n)), by simp [part, run_isAgg_yes hd hr, run_sizeOf hs], ?_⟩
      have e : xs.toArray.extract off (off + n) = ((xs.drop off).take n).toArray := by
        apply Array.ext'
        rw [Array.toList_extract]
        simp [List.extract]
      simp only [Den]
      exact ⟨_, by rw [e], (hl.drop off).take n⟩
    · cases hp
theorem run_field {t : TypeId} {x : Operand} {i : Nat} (ho : o.op = .field t x i) {off : Nat} {u : TypeId} {n : Option Nat} (hf : fieldC P t i = some (off, u)) (hn : nC P u = some n) {cs : List V} {v : V} (hx : Den Ω w (.agg cs) (a.eval x)) (hp : partV cs off n = some v) :
    ∃ y, (execOp a.eval o).run P w = .ok (.value y) w ∧ Den Ω w v y := by
  simp only [Den] at hx
  obtain ⟨xs, hx1, hx2⟩ := hx
  obtain ⟨fs, f, h1, h2, rfl, rfl⟩ := fieldC_spec hf
  obtain ⟨y, hy, hd⟩ := run_partV hn hx2 hp w
  exact ⟨y, by simp [execOp, ho, Instr.field, run_underlying h1, h2, hx1, asAgg, hy], hd⟩
theorem run_index {t e : TypeId} {x i : Operand} (ho : o.op = .index t x i) {len sz : Nat} {n : Option Nat} (ht : P.underlying t = some (.array len e)) (hs : sizeC P e = some sz) (hn : nC P e = some n) {cs : List V} {k : IntKind} {j : Int} {v : V}
    (hx : Den Ω w (.agg cs) (a.eval x)) (hi : Den Ω w (.int k j) (a.eval i)) (h0 : 0 ≤ j ∧ j < len) (hp : partV cs (j.toNat * sz) n = some v) :
    ∃ y, (execOp a.eval o).run P w = .ok (.value y) w ∧ Den Ω w v y := by
  simp only [Den] at hx hi
  obtain ⟨xs, hx1, hx2⟩ := hx
  obtain ⟨y, hy, hd⟩ := run_partV hn hx2 hp w
  exact ⟨y, by simp [execOp, ho, Instr.index, run_underlying ht, hx1, hi, asIntOf, h0, run_sizeOf hs, hy], hd⟩

/-! ### Filling -/
theorem foldl_set (off : Nat) : ∀ (vs : List Value) (k : Nat) (cells : Array Value), off + k + vs.length ≤ cells.size →
    (List.foldl (fun cs (p : Value × Nat) => cs.setIfInBounds (off + p.2) p.1) cells (vs.zipIdx k)).toList = cells.toList.take (off + k) ++ vs ++ cells.toList.drop (off + k + vs.length)
  | [], k, cells, _ => by simp
  | v :: vs, k, cells, h => by
    simp only [List.length_cons] at h
    rw [List.zipIdx_cons, List.foldl_cons, foldl_set off vs (k + 1) _ (by simp only [Array.size_setIfInBounds]; omega)]
    simp only [Array.toList_setIfInBounds, List.length_cons]
    have hlt : off + k < cells.toList.length := by simpa using (by omega : off + k < cells.size)
    rw [show off + (k + 1) = (off + k) + 1 by omega, List.take_succ_eq_append_getElem (by simpa using hlt), List.take_set_of_le (Nat.le_refl _), List.getElem_set_self, List.drop_set_of_lt (by omega)]
    rw [show off + k + 1 + vs.length = off + k + (vs.length + 1) by omega]
    simp
theorem fill_step (place : Nat → Option (Nat × Nat)) (cells : Array Value) (i : Nat) (v : Value) (rest : List (Nat × Value)) {off n : Nat} (hp : place i = some (off, n)) (hn : v.cells.size = n) (hle : off + n ≤ cells.size) :
    Instr.fill place cells ((i, v) :: rest) = Instr.fill place (cells.toList.take off ++ v.cells.toList ++ cells.toList.drop (off + n)).toArray rest := by
  have hc : ¬ ((decide (v.cells.size ≠ n) || decide (off + v.cells.size > cells.size)) = true) := by simp [hn]; omega
  simp only [Instr.fill, hp]
  rw [if_neg hc]
  congr 1
  apply Array.ext'
  rw [← Array.foldl_toList, Array.toList_zipIdx]
  have := foldl_set off v.cells.toList 0 cells (by simpa [hn] using hle)
  simp only [Nat.add_zero, Array.length_toList, hn] at this
  exact this
theorem fill_sound {place : Nat → Option (Nat × Nat)} : ∀ {pl : List (Nat × Nat)} {vs : List V} {zs cs : List V} {ps : List (Nat × Value)} {cells : Array Value}, fill pl vs zs = some cs →
    ps.map (fun p => place p.1) = pl.map some → DenL Ω w vs (ps.map (·.2)) → DenL Ω w zs cells.toList → ∃ cells', Instr.fill place cells ps = some cells' ∧ DenL Ω w cs cells'.toList := by
  intro pl
  induction pl with
  | nil =>
    intro vs zs cs ps cells h hp hv hz
    have hps : ps = [] := by simpa using hp
    subst hps
    cases vs with
    | nil => simp only [fill, Option.some.injEq] at h; subst h; exact ⟨cells, rfl, hz⟩
    | cons v vs => simp [fill] at h
  | cons q pl ih =>
    intro vs zs cs ps cells h hp hv hz
    obtain ⟨off, n⟩ := q
    cases vs with
    | nil => simp [fill] at h
    | cons v vs =>
      cases ps with
      | nil => simp at hp
      | cons p ps =>
        obtain ⟨i, x⟩ := p
        simp only [List.map_cons, List.cons.injEq] at hp hv
        simp only [DenL] at hv
        obtain ⟨x', xs', e, hv1, hv2⟩ := hv
        injection e with e1 e2
        subst e1; subst e2
        simp only [fill] at h
        split at h
        · rename_i hc
          split at h
          · rename_i zs' hs
            have hx := Den.cells hc.2 hv1
            have hxl : x.cells.size = n := by rw [← Array.length_toList, hx.length, hc.1]
            have hle : off + n ≤ cells.size := by
              have := hs
              unfold splice at this
              split at this
              · rename_i hl
                rw [hc.1, ← hz.length, Array.length_toList] at hl; exact hl
              · cases this
            obtain ⟨cells', g1, g2⟩ := ih (cells := (cells.toList.take off ++ x.cells.toList ++ cells.toList.drop (off + n)).toArray) h hp.2 hv2 (by
              have := DenL.splice hz hx hs
              rw [hc.1] at this
              exact this)
            exact ⟨cells', by rw [fill_step place cells i x ps hp.1 hxl hle]; exact g1, g2⟩
          · cases h
        · cases h
/-- The zero value of a type. -/
theorem zeroC_spec {t : TypeId} {z : V} (h : zeroC P t = some z) : ∃ i zv, P.info? t = some i ∧ i.zero = some zv ∧ valV zv = some z ∧ z.cells.length = i.size ∧ z.cells.all V.cellOk = true := by
  unfold zeroC at h
  cases hi : P.info? t with
  | none => simp [hi] at h
  | some i =>
    cases hz : i.zero with
    | none => simp [hi, hz] at h
    | some zv =>
      simp only [hi, hz] at h
      split at h
      · rename_i v hv
        split at h
        · rename_i hc
          injection h with h; subst h
          exact ⟨i, zv, rfl, hz, hv, hc.1, hc.2⟩
        · cases h
      · cases h
theorem partsC_spec {place : Nat → Option (Nat × Nat)} : ∀ {ps : List (Nat × Operand)} {pl : List (Nat × Nat)}, partsC place ps = some pl → ps.map (fun p => place p.1) = pl.map some
  | [], pl, h => by simp only [partsC, Option.some.injEq] at h; subst h; rfl
  | (i, x) :: ps, pl, h => by
    simp only [partsC] at h
    split at h
    · rename_i q qs h1 h2
      injection h with h; subst h
      simp [h1, partsC_spec h2]
    · cases h
theorem run_build {t : TypeId} {ps : Array (Nat × Operand)} (ho : o.op = .build t ps) {k : K} {xs : List Operand} (hb : buildC P t ps.toList = some (k, xs)) {vs : List V} (hv : DenL Ω w vs (xs.map a.eval)) {cs : List V}
    {zs : List V} {pl : List (Nat × Nat)} (hk : k = .build zs pl) (hf : fill pl vs zs = some cs) :
    ∃ y, (execOp a.eval o).run P w = .ok (.value y) w ∧ Den Ω w (.agg cs) y := by
  unfold buildC at hb
  split at hb
  · rename_i zs' place hz hpl
    split at hb
    · rename_i pl' hp
      simp only [Option.some.injEq, Prod.mk.injEq] at hb
      obtain ⟨rfl, rfl⟩ := hb
      injection hk with hk1 hk2
      subst hk1; subst hk2
      obtain ⟨it, zv, hi, hzz, hval, hl, hc⟩ := zeroC_spec hz
      have hzd := Den.cells (Ω := Ω) (w := w) hc (valV_den _ _ hval)
      have hp' := partsC_spec hp
      obtain ⟨cells, g1, g2⟩ := fill_sound (place := place) (ps := ps.toList.map fun p => (p.1, a.eval p.2)) hf (by rw [List.map_map]; exact hp') (by rw [List.map_map]; rw [List.map_map] at hv; exact hv) hzd
      have hbuilt : P.built t (ps.toList.map fun p => (p.1, a.eval p.2)) = some cells := by
        unfold placesC at hpl
        unfold Program.built
        rw [hi]
        cases hu : P.underlying t with
        | none => simp [hu] at hpl
        | some d =>
          cases d <;> simp only [hu, reduceCtorEq] at hpl
          case struct fs =>
            split at hpl
            · rename_i l hl
              injection hpl with hpl; subst hpl
              simp only [hzz, hl]
              exact g1
            · cases hpl
          case array n e =>
            split at hpl
            · rename_i ie hie
              injection hpl with hpl; subst hpl
              simp only [hzz, hie]
              exact g1
            · cases hpl
      refine ⟨.agg cells, ?_, ?_⟩
      · have := Go.run_build (P := P) w t (ps.map fun p => (p.1, a.eval p.2)) cells (by rw [Array.toList_map]; exact hbuilt)
        simp only [execOp, ho, Sem.run_bind]
        rw [this]
        rfl
      · simp only [Den]
        exact ⟨cells.toList, by simp, g2⟩
    · cases hb
  · cases hb

/-! ### Slices -/
theorem replicate_made (z : List Value) : ∀ (m : Nat), ((List.range (m * z.length)).map fun i => z.toArray[i % z.length]!) = (List.replicate m z).flatten
  | 0 => by simp
  | m + 1 => by
    rw [Nat.succ_mul, Nat.add_comm, List.range_add, List.map_append, List.map_map, List.replicate_succ, List.flatten_cons, ← replicate_made z m]
    congr 1
    · apply List.ext_getElem
      · simp
      · intro i h1 h2
        simp only [List.length_map, List.length_range] at h1
        simp [Nat.mod_eq_of_lt h1, h1]
    · apply List.map_congr_left
      intro i _
      simp
theorem DenL.replicate {cs : List V} {xs : List Value} (h : DenL Ω w cs xs) : ∀ (m : Nat), DenL Ω w (List.replicate m cs).flatten (List.replicate m xs).flatten
  | 0 => by simp [DenL]
  | m + 1 => by
    rw [List.replicate_succ, List.replicate_succ, List.flatten_cons, List.flatten_cons]
    exact h.append (DenL.replicate h m)
theorem flatten_set : ∀ {es : List (List V)} {sz i : Nat} {e : List V}, (∀ cs ∈ es, cs.length = sz) → i < es.length → e.length = sz → splice es.flatten (i * sz) e = some (es.set i e).flatten
  | [], sz, i, e, _, hi, _ => by simp at hi
  | cs :: es, sz, 0, e, hl, _, he => by
    have := hl cs (by simp)
    simp only [splice, List.flatten_cons, Nat.zero_mul, Nat.zero_add, List.length_append, List.take_zero, List.nil_append, List.set_cons_zero]
    rw [if_pos (by omega), show e.length = cs.length by omega, List.drop_left]
  | cs :: es, sz, i + 1, e, hl, hi, he => by
    have h0 := hl cs (by simp)
    have ih := flatten_set (i := i) (fun ds hd => hl ds (List.mem_cons_of_mem _ hd)) (by simpa using hi) he
    unfold splice at ih ⊢
    split at ih
    · rename_i hle
      injection ih with ih
      simp only [List.flatten_cons, List.length_append, List.set_cons_succ]
      rw [Nat.succ_mul, if_pos (by omega), ← ih, show i * sz + sz = cs.length + i * sz by omega, List.take_length_add_append, show cs.length + i * sz + e.length = cs.length + (i * sz + e.length) by omega, List.drop_length_add_append]
      simp
    · cases ih
end
end Go.Lo

/- Slices that are made. -/
namespace Go.Lo
section
variable {P : Program} {X : Sc} {w0 w : World} {Ω : Own} {a : Act} {σ : St} {o : Oper} {mk : Bool}

theorem elemC_spec {t e : TypeId} (h : elemC P t = some e) : P.underlying t = some (.slice e) := by
  unfold elemC at h
  split at h
  · injection h with h; subst h; assumption
  · cases h
theorem memN_append {s : Nat} : ∀ {xs ys : List Nat}, memN s (xs ++ ys) = (memN s xs || memN s ys)
  | [], ys => by simp [memN]
  | x :: xs, ys => by
    simp only [List.cons_append, memN]
    split
    · rfl
    · exact memN_append
theorem memN_self : ∀ {xs : List Nat} {s : Nat}, s ∈ xs → memN s xs = true
  | x :: xs, s, h => by
    simp only [memN]
    split
    · rfl
    · rename_i hne
      rcases List.mem_cons.1 h with rfl | h
      · exact absurd rfl hne
      · exact memN_self h
/-- Elements of a slice, one by one. -/
theorem fillE_sound {sz : Nat} {ps : List Nat} : ∀ {ix : List Nat} {vs : List V} {es es' : List (List V)} {ts : List Nat} {xs : List Value} {cells : Array Value}, fillE sz ix vs es = some (es', ts) → (∀ t ∈ ts, memN t ps = true) →
    (∀ cs ∈ es, cs.length = sz ∧ cs.all V.pm = true) → DenL Ω w vs xs → DenL (Ω.prot ps) w es.flatten cells.toList →
    ∃ cells', Instr.fill (fun i => some (i * sz, sz)) cells (ix.zip xs) = some cells' ∧ DenL (Ω.prot ps) w es'.flatten cells'.toList ∧ es'.length = es.length ∧ (∀ cs ∈ es', cs.length = sz ∧ cs.all V.pm = true) ∧ ix.length = xs.length := by
  intro ix
  induction ix with
  | nil =>
    intro vs es es' ts xs cells h ht hes hv hd
    cases vs with
    | nil =>
      simp only [fillE, Option.some.injEq, Prod.mk.injEq] at h
      obtain ⟨rfl, rfl⟩ := h
      simp only [DenL] at hv
      subst hv
      exact ⟨cells, rfl, hd, rfl, hes, rfl⟩
    | cons v vs => simp [fillE] at h
  | cons i ix ih =>
    intro vs es es' ts xs cells h ht hes hv hd
    cases vs with
    | nil => simp [fillE] at h
    | cons v vs =>
      simp only [DenL] at hv
      obtain ⟨x, xs, rfl, hv1, hv2⟩ := hv
      simp only [fillE] at h
      split at h
      · rename_i v' us hf
        split at h
        · rename_i hc
          split at h
          · rename_i es2 us2 h2
            simp only [Option.some.injEq, Prod.mk.injEq] at h
            obtain ⟨rfl, rfl⟩ := h
            have hx := (Den.frzE (ps := ps) v v' us x hf (fun t h => ht t (by simp [h])) hv1).1
            have hcc : v'.cells.all V.cellOk = true := List.all_eq_true.2 fun z hz => (V.pm_pure (List.all_eq_true.1 hc.2.1 z hz)).2
            have hxc := Den.cells hcc hx
            have hxl : x.cells.size = sz := by rw [← Array.length_toList, hxc.length, hc.1]
            have hsp := flatten_set (fun cs h => (hes cs h).1) hc.2.2 hc.1
            have hle : i * sz + sz ≤ cells.size := by
              have := hsp
              unfold splice at this
              split at this
              · rename_i hl
                rw [hc.1, ← hd.length, Array.length_toList] at hl; exact hl
              · cases this
            have hsd := DenL.splice hd hxc hsp
            rw [hc.1] at hsd
            obtain ⟨cells', g1, g2, g3, g4, g5⟩ := ih (cells := (cells.toList.take (i * sz) ++ x.cells.toList ++ cells.toList.drop (i * sz + sz)).toArray) h2 (fun t h => ht t (by simp [h])) (fun cs hcs => by
              rcases List.mem_or_eq_of_mem_set hcs with h | rfl
              · exact hes cs h
              · exact ⟨hc.1, hc.2.1⟩) hv2 hsd
            refine ⟨cells', ?_, g2, by rw [g3, List.length_set], g4, by simp [g5]⟩
            rw [List.zip_cons_cons, fill_step _ cells i x _ rfl hxl hle]
            exact g1
          · cases h
        · cases h
      · cases h
theorem zero_row {z : V} {zv : Value} {n m : Nat} (hc : z.cells.all V.cellOk = true) (hl : z.cells.length = n) (hval : valV zv = some z) :
    DenL Ω w (List.replicate m z.cells).flatten ((Array.range (m * n)).map (zv.cells[· % zv.cells.size]!)).toList := by
  have hzd := Den.cells (Ω := Ω) (w := w) hc (valV_den _ _ hval)
  have hzs : zv.cells.toList.length = n := by rw [hzd.length, hl]
  have e : ((Array.range (m * n)).map (zv.cells[· % zv.cells.size]!)).toList = (List.replicate m zv.cells.toList).flatten := by
    rw [← replicate_made, hzs, Array.toList_map, Array.toList_range]
    have : zv.cells.size = n := by rw [← Array.length_toList, hzs]
    simp [this]
  rw [e]
  exact hzd.replicate m
theorem zeroE_spec {t : TypeId} {z : V} (h : zeroE P t = some z) : zeroC P t = some z ∧ z.cells.all V.pm = true := by
  unfold zeroE at h
  split at h
  · split at h
    · injection h with h; subst h; exact ⟨by assumption, by assumption⟩
    · cases h
  · cases h
theorem size_info {t : TypeId} {n : Nat} {i : TypeInfo} (hs : sizeC P t = some n) (hi : P.info? t = some i) : i.size = n := by
  unfold sizeC at hs
  simpa [hi] using hs
theorem bytes_info {t : TypeId} {n : Nat} {i : TypeInfo} (hs : bytesC P t = some n) (hi : P.info? t = some i) : i.bytes = n := by
  unfold bytesC at hs
  simpa [hi] using hs
theorem yields_buildSlice (h : Inv X w0 Ω w a.tmps σ) {t e : TypeId} {len : Nat} {ps : Array (Nat × Operand)} (ho : o.op = .buildSlice t len ps) (he : elemC P t = some e) {sz : Nat} (hs : sizeC P e = some sz) {z : V} (hz : zeroE P e = some z)
    (hsz : sz ≠ 0 ∧ len * sz ≤ 16777216) {d : Nat} (hdst : o.dst = some d) (hd : d < a.tmps.size) (hf : Fresh Ω d) {vs : List V} (hv : DenL Ω w vs ((ps.toList.map (·.2)).map a.eval)) {es : List (List V)} {ts : List Nat}
    (hfl : fillE sz (ps.toList.map (·.1)) vs (List.replicate len z.cells) = some (es, ts)) :
    Yields P X w0 Ω w a o (apply σ o.dst (.mk (.sl (some (d * 100)) sz es) (d * 100) len ts)) true := by
  obtain ⟨hz, hzp⟩ := zeroE_spec hz
  obtain ⟨i, zv, hi, hzz, hval, hl, hc⟩ := zeroC_spec hz
  have hsi := size_info hs hi
  subst hsi
  have hrow := zero_row (Ω := Ω.prot ts) (w := w) (m := len) hc hl hval
  obtain ⟨cells, g1, g2, g3, g4, g5⟩ := fillE_sound (ps := ts) hfl (fun t h => memN_self h) (fun cs hcs => by
    rw [List.mem_replicate] at hcs
    rw [hcs.2]; exact ⟨hl, hzp⟩) hv hrow
  have hzip : (ps.map fun (p : Nat × Operand) => (p.1, a.eval p.2)).toList = (ps.toList.map (·.1)).zip ((ps.toList.map (·.2)).map a.eval) := by
    rw [Array.toList_map, List.map_map, List.zip_map']
    rfl
  have hlen : es.length = len := by rw [g3, List.length_replicate]
  have hcl : cells.size = len * i.size := by
    rw [← Array.length_toList, g2.length, flatten_length (fun cs hc => (g4 cs hc).1), hlen]
  refine Yields.arr (nd := 0) (ys := cells.toList) (c := cells) (T := e) (k := len) h hdst hd hf ?_ hcl (Nat.le_refl _) (Nat.pos_of_ne_zero hsz.1) hlen g2 g4 (fun j y hj => by simpa using hj)
  have hgo : ¬ (16777216 < len * i.size) := by omega
  have hlim : ¬ (len * i.size > 2 ^ 24) := by omega
  rw [← hzip] at g1
  by_cases hn : len * i.size = 0
  · rw [hn] at g1
    simp only [Array.range_zero', Array.map_empty, Array.toList_map] at g1
    simp [execOp, ho, Instr.buildSlice, run_underlying (elemC_spec he), run_sizeOf hs, hn, newRow, Array.range_zero', g1, World.drewN_zero]
  · simp only [Array.toList_map] at g1
    simp [execOp, ho, Instr.buildSlice, run_underlying (elemC_spec he), run_sizeOf hs, hn, hgo, zeroValue, typeInfo, hi, hzz, newRow, g1, World.drewN_zero]
theorem yields_makeSlice (h : Inv X w0 Ω w a.tmps σ) {t e : TypeId} {x y : Operand} (ho : o.op = .makeSlice t x y) (he : elemC P t = some e) {sz b : Nat} (hs : sizeC P e = some sz) (hb : bytesC P e = some b) {z : V} (hz : zeroE P e = some z)
    (hsz : sz ≠ 0 ∧ b ≠ 0) {d : Nat} (hdst : o.dst = some d) (hd : d < a.tmps.size) (hf : Fresh Ω d) {k k' : IntKind} {l c : Int} (hx : Den Ω w (.int k l) (a.eval x)) (hy : Den Ω w (.int k' c) (a.eval y))
    (hc : 0 ≤ l ∧ l ≤ c ∧ c * b ≤ 140737488355328) :
    Yields P X w0 Ω w a o (apply σ o.dst (.mk (.sl (some (d * 100)) sz (List.replicate l.toNat z.cells)) (d * 100) l.toNat [])) true := by
  obtain ⟨hz, hzp⟩ := zeroE_spec hz
  obtain ⟨i, zv, hi, hzz, hval, hl, hcc⟩ := zeroC_spec hz
  have hsi := size_info hs hi
  have hbi := bytes_info hb hi
  subst hsi; subst hbi
  simp only [Den] at hx hy
  have hcb : c ≤ c * i.bytes := by
    have : (1 : Int) ≤ i.bytes := by omega
    have h0 : 0 ≤ c := by omega
    calc c = c * 1 := by omega
      _ ≤ c * i.bytes := Int.mul_le_mul_of_nonneg_left this h0
  have hrow := zero_row (Ω := Ω.prot []) (w := w) (m := l.toNat) hcc hl hval
  have hlc : l.toNat ≤ c.toNat := Int.toNat_le_toNat hc.2.1
  refine Yields.arr (nd := 0) (ys := ((Array.range (l.toNat * i.size)).map (zv.cells[· % zv.cells.size]!)).toList) (c := madeCells zv.cells (c.toNat * i.size)) (T := e) (k := c.toNat) h hdst hd hf ?_ (size_madeCells _ _) hlc (Nat.pos_of_ne_zero hsz.1) (by simp) hrow
    (fun cs hcs => by rw [List.mem_replicate] at hcs; rw [hcs.2]; exact ⟨hl, hzp⟩) (fun j y hj => ?_)
  · have := run_make (P := P) w t e i zv (elemC_spec he) hi hzz k k' l c hc.1 hc.2.1 (by rw [Int.mul_comm]; omega) (by omega)
    simp only [execOp, ho, Sem.run_bind, hx, hy, this]
    rfl
  · have hlm : l.toNat * i.size ≤ c.toNat * i.size := Nat.mul_le_mul_right _ hlc
    have hj' := (List.getElem?_eq_some_iff.1 hj).1
    simp only [Array.length_toList, Array.size_map, Array.size_range] at hj'
    rw [← hj]
    simp only [madeCells, Array.getElem?_map, Array.getElem?_toList]
    rw [Array.getElem?_range, Array.getElem?_range, if_pos hj', if_pos (by omega)]

/-! ### Slice expressions -/
/-- An index, if there is one. -/
def popI (b : Bool) (dflt : Int) (vs : List V) : Option (Int × List V) :=
  if b = true then (match vs with | .int _ i :: r => some (i, r) | _ => none) else some (dflt, vs)
theorem popI_spec {x : Option Operand} {xs : List Operand} {vs r : List V} {dflt i : Int} (h : popI x.isSome dflt vs = some (i, r)) (hv : DenL Ω w vs ((x.toList ++ xs).map a.eval)) :
    DenL Ω w r (xs.map a.eval) ∧ ((x = none ∧ i = dflt) ∨ ∃ y k, x = some y ∧ a.eval y = .int k i) := by
  unfold popI at h
  cases x with
  | none =>
    simp only [Option.isSome_none, Bool.false_eq_true, if_false, Option.some.injEq, Prod.mk.injEq] at h
    obtain ⟨rfl, rfl⟩ := h
    exact ⟨by simpa using hv, .inl ⟨rfl, rfl⟩⟩
  | some y =>
    simp only [Option.isSome_some, if_true] at h
    split at h
    · rename_i k j r' 
      simp only [Option.some.injEq, Prod.mk.injEq] at h
      obtain ⟨rfl, rfl⟩ := h
      simp only [Option.toList_some, List.singleton_append, List.map_cons, DenL, Den] at hv
      obtain ⟨x', ys, e, h1, h2⟩ := hv
      injection e with e1 e2
      subst e2
      exact ⟨h2, .inr ⟨y, k, rfl, by rw [e1, h1]⟩⟩
    · cases h
theorem bounds_spec {len n l h : Nat} {lo hi mx : Option Operand} {vs : List V} (hv : DenL Ω w vs ((lo.toList ++ hi.toList ++ mx.toList).map a.eval)) (hb : bounds len n lo.isSome hi.isSome mx.isSome vs = some (l, h)) :
    ∃ il ih im : Int, ((lo = none ∧ il = 0) ∨ ∃ y k, lo = some y ∧ a.eval y = .int k il) ∧ ((hi = none ∧ ih = len) ∨ ∃ y k, hi = some y ∧ a.eval y = .int k ih) ∧ ((mx = none ∧ im = n) ∨ ∃ y k, mx = some y ∧ a.eval y = .int k im) ∧
      0 ≤ il ∧ il ≤ ih ∧ ih ≤ im ∧ im ≤ n ∧ l = il.toNat ∧ h = ih.toNat := by
  have hb' : (match popI lo.isSome 0 vs with
      | none => none
      | some (l, vs) => match popI hi.isSome len vs with
        | none => none
        | some (h, vs) => match popI mx.isSome n vs with
          | some (m, []) => if 0 ≤ l ∧ l ≤ h ∧ h ≤ m ∧ m ≤ n then some (l.toNat, h.toNat) else none
          | _ => none) = some (l, h) := hb
  rw [List.append_assoc] at hv
  split at hb'
  · cases hb'
  · rename_i il vs1 e1
    obtain ⟨hv1, s1⟩ := popI_spec e1 hv
    split at hb'
    · cases hb'
    · rename_i ih vs2 e2
      obtain ⟨hv2, s2⟩ := popI_spec e2 hv1
      split at hb'
      · rename_i im e3
        rw [← List.append_nil mx.toList] at hv2
        obtain ⟨_, s3⟩ := popI_spec e3 hv2
        split at hb'
        · rename_i hc
          simp only [Option.some.injEq, Prod.mk.injEq] at hb'
          exact ⟨il, ih, im, s1, s2, s3, hc.1, hc.2.1, hc.2.2.1, hc.2.2.2, hb'.1.symm, hb'.2.symm⟩
        · cases hb'
      · cases hb'
theorem run_bounds {len n cap l h : Nat} (hlc : n ≤ cap) {lo hi mx : Option Operand} (hm : mx.isSome = true → hi.isSome = true) {vs : List V} (hv : DenL Ω w vs ((lo.toList ++ hi.toList ++ mx.toList).map a.eval)) (hb : bounds len n lo.isSome hi.isSome mx.isSome vs = some (l, h)) :
    ∃ m, (Instr.sliceBounds true len cap (lo.map a.eval) (hi.map a.eval) (mx.map a.eval)).run P w = .ok (l, h, m) w ∧ l ≤ h ∧ h ≤ m ∧ m ≤ cap ∧ h ≤ n := by
  obtain ⟨il, ih, im, s1, s2, s3, c1, c2, c3, c4, rfl, rfl⟩ := bounds_spec hv hb
  have k1 : il ≤ (ih.toNat : Int) := by omega
  have k2 : ih ≤ (im.toNat : Int) := by omega
  have k3 : im ≤ (cap : Int) := by omega
  have k4 : ih ≤ (cap : Int) := by omega
  have k5 : 0 ≤ ih := by omega
  have k6 : 0 ≤ im := by omega
  have b1 : ∀ (q : IntKind) (code : BoundsCode), (Instr.sliceBound (.int q il) ih.toNat code).run P w = .ok il.toNat w := fun q code => run_sliceBound w q il _ code c1 k1
  have b2 : ∀ (q : IntKind) (code : BoundsCode), (Instr.sliceBound (.int q ih) im.toNat code).run P w = .ok ih.toNat w := fun q code => run_sliceBound w q ih _ code k5 k2
  have b3 : ∀ (q : IntKind) (code : BoundsCode), (Instr.sliceBound (.int q im) cap code).run P w = .ok im.toNat w := fun q code => run_sliceBound w q im _ code k6 k3
  have b4 : ∀ (q : IntKind) (code : BoundsCode), (Instr.sliceBound (.int q ih) cap code).run P w = .ok ih.toNat w := fun q code => run_sliceBound w q ih _ code k5 k4
  rcases s3 with ⟨rfl, rfl⟩ | ⟨y3, q3, rfl, e3⟩
  · refine ⟨cap, ?_, by omega, by omega, Nat.le_refl _, by omega⟩
    rcases s1 with ⟨rfl, rfl⟩ | ⟨y1, q1, rfl, e1⟩ <;> rcases s2 with ⟨rfl, rfl⟩ | ⟨y2, q2, rfl, e2⟩
    · simp [Instr.sliceBounds]
    · simp [Instr.sliceBounds, e2, run_sliceBound, k4, k5]
    · have k1' : il ≤ (len : Int) := by omega
      simp [Instr.sliceBounds, e1, run_sliceBound, c1, k1']
    · simp [Instr.sliceBounds, e1, e2, b4, b1]
  · refine ⟨im.toNat, ?_, by omega, by omega, by omega, by omega⟩
    rcases s2 with ⟨rfl, _⟩ | ⟨y2, q2, rfl, e2⟩
    · simp at hm
    · rcases s1 with ⟨rfl, rfl⟩ | ⟨y1, q1, rfl, e1⟩
      · simp [Instr.sliceBounds, e2, e3, b2, b3]
      · simp [Instr.sliceBounds, e1, e2, e3, b1, b2, b3]
theorem run_sliceOp {t e : TypeId} {x : Operand} {lo hi mx : Option Operand} (ho : o.op = .slice t x lo hi mx) (he : elemC P t = some e) {sz : Nat} (hs : sizeC P e = some sz) {p : Option Addr} {len cap l h m : Nat} (hx : a.eval x = .slice p len cap)
    (hb : (Instr.sliceBounds true len cap (lo.map a.eval) (hi.map a.eval) (mx.map a.eval)).run P w = .ok (l, h, m) w) :
    (execOp a.eval o).run P w = .ok (.value (.slice (if m = l then p else p.map (·.add (l * sz))) (h - l) (m - l))) w := by
  simp [execOp, ho, Instr.sliceAt, Instr.slice, run_underlying (elemC_spec he), hx, hb, run_sizeOf hs]
end
end Go.Lo

/- Slices that are read, cut and appended to; addresses. -/
namespace Go.Lo
section
variable {P : Program} {X : Sc} {w0 w : World} {Ω : Own} {a : Act} {σ : St} {o : Oper} {mk : Bool}

theorem slice_view {t e : TypeId} {x : Operand} {lo hi mx : Option Operand} (ho : o.op = .slice t x lo hi mx) (he : elemC P t = some e) {sz : Nat} (hs : sizeC P e = some sz) (hm : mx.isSome = true → hi.isSome = true)
    {es : List (List V)} {vs : List V} {Ω' : Own} (hx : Den Ω' w (.sl none sz es) (a.eval x)) (hv : DenL Ω w vs ((lo.toList ++ hi.toList ++ mx.toList).map a.eval)) {l h : Nat} (hb : bounds es.length es.length lo.isSome hi.isSome mx.isSome vs = some (l, h)) :
    ∃ y, (execOp a.eval o).run P w = .ok (.value y) w ∧ Den Ω' w (.sl none sz ((es.take h).drop l)) y := by
  simp only [Den] at hx
  rcases hx with ⟨rfl, q, hx⟩ | ⟨b, off, cap, hx, hf, hE⟩
  · obtain ⟨m, h1, h2, h3, h4, h5⟩ := run_bounds (P := P) (w := w) (cap := 0) (Nat.le_refl _) hm hv hb
    refine ⟨_, run_sliceOp ho he hs hx (by simpa using h1), ?_⟩
    simp only [Den]
    refine .inl ⟨by simp, q, ?_⟩
    have : l = 0 := by simp at h5; omega
    have : h = 0 := by simpa using h5
    subst_vars
    have : m = 0 := by omega
    subst this
    simp
  · obtain ⟨m, h1, h2, h3, h4, h5⟩ := run_bounds (P := P) (w := w) (cap := es.length + cap) (Nat.le_add_right _ _) hm hv hb
    refine ⟨_, run_sliceOp ho he hs hx h1, ?_⟩
    have hl : ((es.take h).drop l).length = h - l := by rw [List.length_drop, List.length_take]; omega
    simp only [Den]
    by_cases hml : m = l
    · have e : (es.take h).drop l = [] := List.eq_nil_of_length_eq_zero (by omega)
      rw [e]
      refine .inr ⟨b, off, m - l - (h - l), ?_, hf, trivial⟩
      rw [if_pos hml, List.length_nil]
      congr 1 <;> omega
    · refine .inr ⟨b, off + l * sz, m - l - (h - l), ?_, hf, (hE.take h).drop l⟩
      rw [if_neg hml, hl]
      simp only [Option.map_some, addr_add]
      congr 1
      omega
theorem yields_slice_none (h : Inv X w0 Ω w a.tmps σ) (hd : ∀ d, o.dst = some d → d < a.tmps.size) {t e : TypeId} {x : Operand} {lo hi mx : Option Operand} (ho : o.op = .slice t x lo hi mx) (he : elemC P t = some e) {sz : Nat} (hs : sizeC P e = some sz) (hm : mx.isSome = true → hi.isSome = true)
    {es : List (List V)} {vs : List V} (hx : Den Ω w (.sl none sz es) (a.eval x)) (hv : DenL Ω w vs ((lo.toList ++ hi.toList ++ mx.toList).map a.eval)) {l r : Nat} (hb : bounds es.length es.length lo.isSome hi.isSome mx.isSome vs = some (l, r)) :
    Yields P X w0 Ω w a o (apply σ o.dst (.val (.sl none sz ((es.take r).drop l)))) mk := by
  obtain ⟨y, h1, h2⟩ := slice_view ho he hs hm hx hv hb
  exact Yields.val h hd h1 h2
theorem yields_slice_some (h : Inv X w0 Ω w a.tmps σ) (hd : ∀ d, o.dst = some d → d < a.tmps.size) {t e : TypeId} {x : Operand} {lo hi mx : Option Operand} (ho : o.op = .slice t x lo hi mx) (he : elemC P t = some e) {sz : Nat} (hs : sizeC P e = some sz) (hm : mx.isSome = true → hi.isSome = true)
    {u : Nat} {es : List (List V)} {vs : List V} (hx : Den Ω w (.sl (some u) sz es) (a.eval x)) (hv : DenL Ω w vs ((lo.toList ++ hi.toList ++ mx.toList).map a.eval)) {l r : Nat} (hb : bounds es.length es.length lo.isSome hi.isSome mx.isSome vs = some (l, r)) :
    Yields P X w0 Ω w a o (apply σ o.dst (.prot (.sl none sz ((es.take r).drop l)) [u])) mk := by
  obtain ⟨y, h1, h2⟩ := slice_view ho he hs hm (Den.view (ps := [u]) (by simp [memN]) hx) hv hb
  exact Yields.prot h hd h1 h2
theorem yields_slice_nil (h : Inv X w0 Ω w a.tmps σ) (hd : ∀ d, o.dst = some d → d < a.tmps.size) {t e : TypeId} {x : Operand} {lo hi mx : Option Operand} (ho : o.op = .slice t x lo hi mx) (he : elemC P t = some e) {sz : Nat} (hs : sizeC P e = some sz) (hm : mx.isSome = true → hi.isSome = true)
    {vs : List V} (hx : Den Ω w .nil (a.eval x)) (hv : DenL Ω w vs ((lo.toList ++ hi.toList ++ mx.toList).map a.eval)) {b : Nat × Nat} (hb : bounds 0 0 lo.isSome hi.isSome mx.isSome vs = some b) :
    Yields P X w0 Ω w a o (apply σ o.dst (.val .nil)) mk := by
  obtain ⟨l, r⟩ := b
  simp only [Den] at hx
  obtain ⟨m, h1, h2, h3, h4, h5⟩ := run_bounds (P := P) (w := w) (cap := 0) (Nat.le_refl _) hm hv hb
  refine Yields.val h hd (run_sliceOp ho he hs hx h1) ?_
  have : l = 0 := by omega
  have : r = 0 := by omega
  have : m = 0 := by omega
  subst_vars
  simp [Den]

theorem yields_trunc (h : Inv X w0 Ω w a.tmps σ) (hd : ∀ d, o.dst = some d → d < a.tmps.size) {t e : TypeId} {x y : Operand} (ho : o.op = .slice t x none (some y) none) (he : elemC P t = some e) {sz : Nat} (hs : sizeC P e = some sz)
    {u : Nat} {es : List (List V)} {q : IntKind} {m : Int} (hx : Den Ω w (.sl (some u) sz es) (a.eval x)) (hy : Den Ω w (.int q m) (a.eval y)) (ht : get σ.tk u = some (es.length, true)) (h0 : 0 ≤ m) (h1 : m ≤ es.length) :
    Yields P X w0 Ω w a o (apply σ o.dst (.trunc (.sl (some u) sz (es.take m.toNat)) u m.toNat)) mk := by
  obtain ⟨c, k, T, xs, g1, ⟨p, g2⟩, g3, g4, g5, g6, g7, g8⟩ := h.tok u _ true ht
  simp only [Den] at hx hy
  obtain ⟨b, cap, p', hx1, hx2, hx3, hx4, hx5⟩ := hx
  obtain ⟨e1, e2⟩ := (hx4 c k _ g1).2 rfl
  subst e1
  rw [e2] at hx1
  have hb : (Instr.sliceBounds true es.length k none (some (a.eval y)) none).run P w = .ok (0, m.toNat, k) w := by
    have := run_sliceBound (P := P) w q m k .sliceAcap h0 (by omega)
    simp [Instr.sliceBounds, hy, this]
  have hr := run_sliceOp (P := P) (w := w) (a := a) ho he hs hx1 (by simpa using hb)
  have hv : (Value.slice (if k = 0 then (some ⟨b, 0, none⟩ : Option Addr) else (some ⟨b, 0, none⟩ : Option Addr).map (·.add (0 * sz))) (m.toNat - 0) (k - 0)) = .slice (some ⟨b, 0, none⟩) m.toNat k := by
    rw [Nat.zero_mul]
    simp [Addr.add]
  rw [hv] at hr
  refine ⟨_, w, Ω.trunc u b k m.toNat, .inl hr, ?_, fun d hf _ => ⟨fun b hb => hf.1 b hb, fun b t p e hb => hf.2 b t p e hb⟩⟩
  exact (h.trunc ht (by omega) g1).putO hd (Den.cut h ht (by omega) g1 hx3 rfl hx5) a rfl

/-! ### Lengths -/
theorem run_lenOp {c : Call} {x : Operand} {t e : TypeId} (ho : o.op = .call c) (hc : c.callee = .builtin .len) (hx : c.args.toList = [x]) (ht : c.argTypes.toList = [t]) (he : elemC P t = some e) {p : Option Addr} {n k : Nat} (hv : a.eval x = .slice p n k) :
    (execOp a.eval o).run P w = .ok (.value (.int .i64 n)) w := by
  have h1 : c.args = #[x] := Array.ext' (by simp [hx])
  have h2 : c.argTypes = #[t] := Array.ext' (by simp [ht])
  simp [execOp, ho, resolve, invoke, hc, builtin, h1, h2, Builtin.len_, run_underlying (elemC_spec he), hv, goInt]
theorem run_capOp {c : Call} {x : Operand} {t e : TypeId} (ho : o.op = .call c) (hc : c.callee = .builtin .cap) (hx : c.args.toList = [x]) (ht : c.argTypes.toList = [t]) (he : elemC P t = some e) {p : Option Addr} {n k : Nat} (hv : a.eval x = .slice p n k) :
    (execOp a.eval o).run P w = .ok (.value (.int .i64 k)) w := by
  have h1 : c.args = #[x] := Array.ext' (by simp [hx])
  have h2 : c.argTypes = #[t] := Array.ext' (by simp [ht])
  simp [execOp, ho, resolve, invoke, hc, builtin, h1, h2, Builtin.cap_, run_underlying (elemC_spec he), hv, goInt]
theorem sl_len {t : Option Nat} {sz : Nat} {es : List (List V)} {x : Value} (h : Den Ω w (.sl t sz es) x) : ∃ p k, x = .slice p es.length k := by
  cases t with
  | none =>
    simp only [Den] at h
    rcases h with ⟨rfl, q, rfl⟩ | ⟨b, off, cap, rfl, _⟩
    · exact ⟨q, 0, rfl⟩
    · exact ⟨_, _, rfl⟩
  | some t =>
    simp only [Den] at h
    obtain ⟨b, cap, p, rfl, _⟩ := h
    exact ⟨_, _, rfl⟩

/-! ### Least and greatest -/
theorem run_max2 (k k' : IntKind) (n m : Int) (w : World) : (Builtin.max2 (.int k n) (.int k' m)).run P w = .ok (.int k (if m > n then m else n)) w := by simp [Builtin.max2]
theorem run_min2 (k k' : IntKind) (n m : Int) (w : World) : (Builtin.min2 (.int k n) (.int k' m)).run P w = .ok (.int k (if m < n then m else n)) w := by simp [Builtin.min2]
theorem intsOf_den : ∀ {vs : List V} {k : IntKind} {ns : List Int} {xs : List Value}, intsOf vs = some (k, ns) → DenL Ω w vs xs → xs = ns.map (.int k)
  | [], k, ns, xs, h, _ => by simp [intsOf] at h
  | [v], k, ns, xs, h, hd => by
    cases v <;> simp [intsOf] at h
    obtain ⟨rfl, rfl⟩ := h
    simp only [DenL, Den] at hd
    obtain ⟨x, ys, rfl, rfl, rfl⟩ := hd
    rfl
  | v :: u :: vs, k, ns, xs, h, hd => by
    cases v <;> simp only [intsOf, reduceCtorEq] at h
    split at h
    · rename_i k' ns' h'
      split at h
      · rename_i hk
        subst hk
        simp only [Option.some.injEq, Prod.mk.injEq] at h
        obtain ⟨rfl, rfl⟩ := h
        rw [DenL] at hd
        obtain ⟨x, ys, rfl, h1, h2⟩ := hd
        simp only [Den] at h1
        rw [intsOf_den h' h2, h1]
        rfl
      · cases h
    · cases h
theorem run_maxL (k : IntKind) : ∀ (ns : List Int) (n : Int), ((ns.map (Value.int k)).foldlM Builtin.max2 (.int k n)).run P w = .ok (.int k (maxL n ns)) w
  | [], n => by simp [maxL]
  | m :: ns, n => by
    rw [List.map_cons, List.foldlM_cons, Sem.run_bind, run_max2]
    simp only [Result.andThen_ok]
    rw [run_maxL k ns]
    rfl
theorem run_minL (k : IntKind) : ∀ (ns : List Int) (n : Int), ((ns.map (Value.int k)).foldlM Builtin.min2 (.int k n)).run P w = .ok (.int k (minL n ns)) w
  | [], n => by simp [minL]
  | m :: ns, n => by
    rw [List.map_cons, List.foldlM_cons, Sem.run_bind, run_min2]
    simp only [Result.andThen_ok]
    rw [run_minL k ns]
    rfl
theorem run_maxOp {c : Call} (ho : o.op = .call c) (hc : c.callee = .builtin .max) {k : IntKind} {n : Int} {ns : List Int} (hx : c.args.toList.map a.eval = (n :: ns).map (.int k)) :
    (execOp a.eval o).run P w = .ok (.value (.int k (maxL n ns))) w := by
  have h1 : (c.args.map a.eval).toList = (n :: ns).map (.int k) := by rw [Array.toList_map, hx]
  simp only [execOp, ho, resolve, invoke, hc, builtin, Sem.run_bind, Sem.run_pure, Result.andThen_ok, Builtin.max_, h1, List.map_cons, run_maxL]
theorem run_minOp {c : Call} (ho : o.op = .call c) (hc : c.callee = .builtin .min) {k : IntKind} {n : Int} {ns : List Int} (hx : c.args.toList.map a.eval = (n :: ns).map (.int k)) :
    (execOp a.eval o).run P w = .ok (.value (.int k (minL n ns))) w := by
  have h1 : (c.args.map a.eval).toList = (n :: ns).map (.int k) := by rw [Array.toList_map, hx]
  simp only [execOp, ho, resolve, invoke, hc, builtin, Sem.run_bind, Sem.run_pure, Result.andThen_ok, Builtin.min_, h1, List.map_cons, run_minL]
end
end Go.Lo

/- Appends, and addresses of elements and fields. -/
namespace Go.Lo
section
variable {P : Program} {X : Sc} {w0 w : World} {Ω : Own} {a : Act} {σ : St} {o : Oper} {mk : Bool}

/-- The elements of a slice that has some. -/
theorem sl_cells {t : Option Nat} {sz : Nat} {es : List (List V)} {x : Value} (h : Den Ω w (.sl t sz es) x) (hne : es ≠ []) :
    ∃ b off cap xs, x = .slice (some ⟨b, off, none⟩) es.length cap ∧ DenL Ω w es.flatten xs ∧ xs.length = es.length * sz ∧ (∀ j v, xs[j]? = some v → w.cell? ((⟨b, off, none⟩ : Addr).add j) = some v) ∧ (∀ cs ∈ es, cs.length = sz ∧ cs.all V.pm = true) := by
  have key : ∀ {b off : Nat}, DenE Ω w es sz b off → ∃ xs, DenL Ω w es.flatten xs ∧ xs.length = es.length * sz ∧ (∀ j v, xs[j]? = some v → w.cell? ((⟨b, off, none⟩ : Addr).add j) = some v) ∧ (∀ cs ∈ es, cs.length = sz ∧ cs.all V.pm = true) := by
    intro b off hE
    obtain ⟨xs, h1, h2⟩ := hE.cells.vals
    refine ⟨xs, h1, by rw [h1.length, hE.length_flatten], fun j v hj => by rw [addr_add]; exact h2 j v hj, fun cs hcs => ?_⟩
    obtain ⟨i, hi⟩ := List.getElem?_of_mem hcs
    obtain ⟨g1, g2, _⟩ := hE.get hi
    exact ⟨g1, g2⟩
  cases t with
  | none =>
    simp only [Den] at h
    rcases h with ⟨rfl, _⟩ | ⟨b, off, cap, rfl, _, hE⟩
    · exact absurd rfl hne
    · obtain ⟨xs, g⟩ := key hE
      exact ⟨b, off, _, xs, rfl, g⟩
  | some t =>
    simp only [Den] at h
    obtain ⟨b, cap, p, rfl, _, _, _, hE⟩ := h
    obtain ⟨xs, g⟩ := key hE
    exact ⟨b, 0, _, xs, rfl, g⟩
theorem run_append_uu {t u e e' : TypeId} (ht : P.underlying t = some (.slice e)) (hu : P.underlying u = some (.slice e')) {n : Nat} (hs : sizeC P e = some n) (ty : TypeId) (args : Array Value) :
    (Builtin.append_ #[t, u] ty args).run P w = (Builtin.append_ #[t, t] ty args).run P w := by
  simp only [Builtin.append_, List.getElem?_toArray, List.getElem?_cons_zero, List.getElem?_cons_succ]
  cases args[0]? with
  | none => rfl
  | some v =>
    cases args[1]? with
    | none => rfl
    | some v' =>
      cases v <;> simp only [Sem.run_bind, run_underlying ht, run_underlying hu, Result.andThen_ok, run_sizeOf hs, Sem.run_pure]
theorem run_append_fit {t e : TypeId} {i : TypeInfo} (ht : P.underlying t = some (.slice e)) (hi : P.info? e = some i) (ty : TypeId)
    (g sLen sCap : Nat) (cur : Array Value) {T : TypeId} (hg : w.heap[g]? = some (.cells cur T (0, 0)))
    (ad : Addr) (m c : Nat) (news : List Value) (hl : news.length = m * i.size) (hnews : ∀ j u, news[j]? = some u → w.cell? (ad.add j) = some u) (h1 : ∀ u ∈ news, u.oneCell' = true)
    (hroom : sLen + m ≤ sCap) (hfit : sLen * i.size + news.length ≤ cur.size) :
    (Builtin.append_ #[t, t] ty #[.slice (some ⟨g, 0, none⟩) sLen sCap, .slice (some ad) m c]).run P w =
      .ok (.slice (some ⟨g, 0, none⟩) (sLen + m) sCap) (w.setRow g (cur.toList.take (sLen * i.size) ++ news ++ cur.toList.drop (sLen * i.size + news.length)).toArray) := by
  have hf := run_firstCells_some (P := P) w i.size m ad m c news hl hnews
  have hst := run_storeCells_at P g (sLen * i.size) T news 0 cur w hg (by simpa using hfit) h1
  simp only [Nat.add_zero] at hst
  simp [Builtin.append_, run_underlying ht, sizeOf, typeInfo, hi, Builtin.lenOf, hroom, hf, Addr.add_lit, hst]
theorem run_append_none {t e : TypeId} {i : TypeInfo} (ht : P.underlying t = some (.slice e)) (hi : P.info? e = some i) (ty : TypeId) {s : Value} {p q : Option Addr} {n k c : Nat} (hs : s = .slice p n k) (hk : n ≤ k) :
    (Builtin.append_ #[t, t] ty #[s, .slice q 0 c]).run P w = .ok s w := by
  subst hs
  have hf : (Builtin.firstCells i.size 0 (.slice q 0 c)).run P w = .ok #[] w := by
    cases q with
    | none => exact run_firstCells_none w i.size 0 0 c
    | some ad => exact run_firstCells_some (P := P) w i.size 0 ad 0 c [] (by simp) (fun j v h => by simp at h)
  cases p with
  | none => simp [Builtin.append_, run_underlying ht, sizeOf, typeInfo, hi, Builtin.lenOf, hf, hk]
  | some ad => simp [Builtin.append_, run_underlying ht, sizeOf, typeInfo, hi, Builtin.lenOf, hf, hk, storeCells]
/-- An append, as an operation. -/
structure AppOp (P : Program) (o : Oper) (x y : Operand) (t e : TypeId) (sz bytes : Nat) (z : V) : Prop where
  op : ∃ c u e', o.op = .call c ∧ c.callee = .builtin .append ∧ c.args.toList = [x, y] ∧ c.argTypes.toList = [t, u] ∧ elemC P u = some e'
  elem : elemC P t = some e
  size : sizeC P e = some sz
  byte : bytesC P e = some bytes
  zero : zeroC P e = some z
  pos : sz ≠ 0 ∧ bytes ≠ 0 ∧ bytes ≤ 1000000
theorem AppOp.run {x y : Operand} {t e : TypeId} {sz bytes : Nat} {z : V} (h : AppOp P o x y t e sz bytes z) : (execOp a.eval o).run P w = ((Builtin.append_ #[t, t] o.type #[a.eval x, a.eval y]).run P w).andThen fun v w => .ok (.value v) w := by
  obtain ⟨c, u, e', ho, hc, h1, h2, hu⟩ := h.op
  have h1 : c.args = #[x, y] := Array.ext' (by simp [h1])
  have h2 : c.argTypes = #[t, u] := Array.ext' (by simp [h2])
  rw [← run_append_uu (elemC_spec h.elem) (elemC_spec hu) h.size]
  simp only [execOp, ho, resolve, invoke, hc, builtin, h1, h2, Sem.run_bind, Sem.run_pure, Result.andThen_ok, List.map_toArray, List.map_cons, List.map_nil]
theorem zeroCells_size (z : Array Value) (n : Nat) : (Builtin.zeroCells z n).size = n * z.size := by simp [Builtin.zeroCells]
theorem yields_append_empty (h : Inv X w0 Ω w a.tmps σ) (hd : ∀ d, o.dst = some d → d < a.tmps.size) {x y : Operand} {t e : TypeId} {sz bytes : Nat} {z : V} (hop : AppOp P o x y t e sz bytes z) {v : V} (hx : Den Ω w v (a.eval x))
    (hxs : ∃ p n k, a.eval x = .slice p n k ∧ n ≤ k) (hy : ∃ q c, a.eval y = .slice q 0 c) : Yields P X w0 Ω w a o (apply σ o.dst (.val v)) mk := by
  obtain ⟨i, hi, _⟩ := info_size hop.size
  obtain ⟨p, n, k, h1, h2⟩ := hxs
  obtain ⟨q, c, h3⟩ := hy
  refine Yields.val h hd ?_ hx
  rw [hop.run, h3, run_append_none (elemC_spec hop.elem) hi o.type h1 h2]
  rfl
theorem yields_append_new (h : Inv X w0 Ω w a.tmps σ) {x y : Operand} {t e : TypeId} {sz bytes : Nat} {z : V} (hop : AppOp P o x y t e sz bytes z) {d : Nat} (hdst : o.dst = some d) (hd : d < a.tmps.size) (hf : Fresh Ω d)
    (hx : Den Ω w .nil (a.eval x)) {u : Option Nat} {ys : List (List V)} (hy : Den Ω w (.sl u sz ys) (a.eval y)) (hne : ys ≠ []) (hb : ys.length * bytes ≤ 140737488355328) :
    Yields P X w0 Ω w a o (apply σ o.dst (.mk (.sl (some (d * 100)) sz ys) (d * 100) ys.length [])) true := by
  obtain ⟨i, zv, hi, hzz, hval, hl, hc⟩ := zeroC_spec hop.zero
  have hsi := size_info hop.size hi
  have hbi := bytes_info hop.byte hi
  subst hsi; subst hbi
  have hzs : zv.cells.size = i.size := by rw [← Array.length_toList, (Den.cells (Ω := Ω) (w := w) hc (valV_den _ _ hval)).length, hl]
  obtain ⟨b, off, cap, xs, h1, h2, h3, h4, h5⟩ := sl_cells hy hne
  simp only [Den] at hx
  have hpos : 0 < ys.length := List.length_pos_iff.2 hne
  have hle : ys.length ≤ ys.length * i.bytes := Nat.le_mul_of_pos_right _ (Nat.pos_of_ne_zero hop.pos.2.1)
  have hr := run_append_nil (P := P) w t o.type e i zv (elemC_spec hop.elem) hi hzz ⟨b, off, none⟩ ys.length cap xs h3 h4 hpos (by omega) (by omega)
  have hge := grownCap_ge w ys.length 0 e
  refine Yields.arr (nd := 1) (ys := xs) (T := e) (c := xs.toArray ++ Builtin.zeroCells zv.cells (grownCap w ys.length 0 e - ys.length)) (k := grownCap w ys.length 0 e) h hdst hd hf ?_ ?_ hge (Nat.pos_of_ne_zero hop.pos.1) rfl (by rw [prot_nil]; exact h2) h5 (fun j y hj => ?_)
  · rw [hop.run, hx, h1, hr]; rfl
  · rw [Array.size_append, zeroCells_size, hzs, List.size_toArray, h3, ← Nat.add_mul]; congr 1; omega
  · rw [Array.getElem?_append_left (by simpa using (List.getElem?_eq_some_iff.1 hj).1)]; simpa using hj
theorem protT_nil : ∀ (l : List (Nat × Nat × Bool)), protT [] l = l
  | [] => rfl
  | (k, n, w) :: l => by simp [protT, memN, protT_nil l]
theorem yields_append_prep (h : Inv X w0 Ω w a.tmps σ) {x y : Operand} {t e : TypeId} {sz bytes : Nat} {z : V} (hop : AppOp P o x y t e sz bytes z) {d : Nat} (hdst : o.dst = some d) (hd : d < a.tmps.size)
    (hx : Den Ω w .nil (a.eval x)) {u : Option Nat} {ys : List (List V)} (hy : Den Ω w (.sl u sz ys) (a.eval y)) (hne : ys ≠ []) (hb : ys.length * bytes ≤ 140737488355328) :
    Yields P X w0 Ω w a o (apply σ o.dst (.mkp (.sl (some (d * 100)) sz ys) d ys.length)) true := by
  have hy' := Den.prepD (ds := [d]) _ _ hy
  have hyy : ∃ u', Den (Ω.prep [d]) w (.sl u' sz ys) (a.eval y) := by
    cases u with
    | none => exact ⟨none, hy'⟩
    | some u =>
      simp only [V.prep] at hy'
      split at hy'
      · exact ⟨none, hy'⟩
      · exact ⟨some u, hy'⟩
  obtain ⟨u', hyy⟩ := hyy
  have hx' : Den (Ω.prep [d]) w .nil (a.eval x) := by simpa [Den] using hx
  obtain ⟨x1, w1, Ω1, k1, k2, k3⟩ := yields_append_new (h.prep [d]) hop hdst hd (fresh_prep (by simp [memN])) hx' hyy hne hb
  refine ⟨x1, w1, Ω1, k1, ?_, fun d' hf hne' => k3 d' ⟨fun b hb => hf.1 b (prep_box hb).1, fun b t p e hb => hf.2 b t p e (prep_arr hb).1⟩ hne'⟩
  have e : protT [] (prepT [d] σ.tk) = prepT [d] σ.tk := protT_nil _
  simp only [apply] at k2
  rw [e] at k2
  simpa only [apply, Lo.prep] using k2
theorem run_append_zeros {t u e : TypeId} {i : TypeInfo} {zv : Value} {q : IntKind} (ht : P.underlying t = some (.slice e)) (hu : P.underlying u = some (.int q)) (hi : P.info? e = some i) (hz : i.zero = some zv) (hs : i.size ≠ 0) (ty : TypeId) {k : IntKind} {n : Nat}
    (h0 : 0 < n) (h63 : (n : Int) ≤ 9223372036854775807) (h48 : n * i.bytes ≤ 281474976710656) :
    (Builtin.append_ #[t, u] ty #[.slice none 0 0, .int k (n : Int)]).run P w =
      .ok (.slice (some ⟨w.heap.size, 0, none⟩) n (grownCap w n 0 e)) (w.drew.alloc (.cells (Builtin.zeroCells zv.cells n ++ Builtin.zeroCells zv.cells (grownCap w n 0 e - n)) e)) := by
  have hn : n ≠ 0 := by omega
  have hw : IntKind.i64.wrap (n : Int) = (n : Int) := by
    rw [IntKind.wrap_i64]; omega
  have h1 : ¬ ((n : Int) < 0) := by omega
  have h2 : ¬ (281474976710656 < (n : Int) * (i.bytes : Int)) := by
    have : ((n * i.bytes : Nat) : Int) ≤ ((281474976710656 : Nat) : Int) := Int.ofNat_le.2 h48
    rw [Int.natCast_mul] at this; omega
  have h63' : ¬ (9223372036854775807 < (n : Int)) := by omega
  have h48' : ¬ (281474976710656 < Builtin.nextslicecap n 0 * i.bytes) := by rw [nextslicecap_zero h0]; omega
  have hm : n * i.size ≠ 0 := Nat.mul_ne_zero hn hs
  simp [Builtin.append_, run_underlying ht, run_underlying hu, sizeOf, typeInfo, zeroValue, hi, hz, asInt, asIntOf, hw, h1, h2, hn, h63', h48', Question.forced, run_firstCells_none, newRow, grownCap]
  intro hx
  exact absurd hx hm
theorem fresh_tok (h : Inv X w0 Ω w a.tmps σ) {t n d : Nat} {wr : Bool} (ht : get σ.tk t = some (n, wr)) (hf : Fresh Ω d) : t / 100 ≠ d := by
  intro e
  obtain ⟨c, k, T, xs, _, ⟨p, g2⟩, _⟩ := h.tok t n wr ht
  exact hf.2 c t p e g2
theorem yields_append_more (h : Inv X w0 Ω w a.tmps σ) (hd : ∀ d, o.dst = some d → d < a.tmps.size) {x y : Operand} {t e : TypeId} {sz bytes : Nat} {z : V} (hop : AppOp P o x y t e sz bytes z)
    {u n : Nat} {wr : Bool} {xs : List (List V)} (hx : Den Ω w (.sl (some u) sz xs) (a.eval x)) (ht : get σ.tk u = some (n, wr)) (hn : n = xs.length)
    {q : Option Nat} {ys : List (List V)} (hy : Den Ω w (.sl q sz ys) (a.eval y)) (hne : ys ≠ []) (hb : (xs.length + ys.length) * bytes ≤ 140737488355328) :
    Yields P X w0 Ω w a o (apply σ o.dst (.app (.sl (some u) sz (xs ++ ys)) u (xs.length + ys.length))) mk := by
  obtain ⟨i, zv, hi, hzz, hval, hl, hc⟩ := zeroC_spec hop.zero
  have hsi := size_info hop.size hi
  have hbi := bytes_info hop.byte hi
  subst hsi; subst hbi
  have hzs : zv.cells.size = i.size := by rw [← Array.length_toList, (Den.cells (Ω := Ω) (w := w) hc (valV_den _ _ hval)).length, hl]
  obtain ⟨b, off, cap, vs, h1, h2, h3, h4, h5⟩ := sl_cells hy hne
  obtain ⟨c, k, T, old, g1, ⟨p, g2⟩, g3, g4, g5, g6, g7, g8⟩ := h.tok u n wr ht
  have hfu : ∀ d, Fresh Ω d → u / 100 ≠ d := fun d hf => fresh_tok h ht hf
  simp only [Den] at hx
  obtain ⟨b', cap', p', hx1, hx2, hx3, hx4, hx5⟩ := hx
  obtain ⟨e1, e2⟩ := (hx4 c k n g1).2 hn.symm
  subst e1
  rw [e2] at hx1
  have hpos : 0 < ys.length := List.length_pos_iff.2 hne
  have hcell : vs.all Value.oneCell' = true := List.all_eq_true.2 fun v hv => DenL.one (List.all_eq_true.2 fun c hc => by
    obtain ⟨cs, hcs, hcc⟩ := List.mem_flatten.1 hc
    exact (V.pm_pure (List.all_eq_true.1 (h5 cs hcs).2 c hcc)).2) h2 v hv
  by_cases hroom : xs.length + ys.length ≤ k
  · have hfit : xs.length * i.size + vs.length ≤ old.size := by rw [g4, h3, ← Nat.add_mul, ← hx3]; exact Nat.mul_le_mul_right _ hroom
    have hr := run_append_fit (P := P) (w := w) (elemC_spec hop.elem) hi o.type b' xs.length k old g3 ⟨b, off, none⟩ ys.length cap vs h3 h4 (List.all_eq_true.1 hcell) hroom hfit
    subst hn
    obtain ⟨k1, k2⟩ := h.app (m := ys.length) ht g1 g2 g3 hx3 (by rw [g4, ← hx3]) hroom rfl rfl hx5 h2 h5
    refine ⟨_, _, _, .inl ?_, k1.putO hd k2 a rfl, fun d hf _ => ⟨fun b hb => hf.1 b hb, fun b t p e hb => hf.2 b t p e hb⟩⟩
    rw [hop.run, hx1, h1, hr]; rfl
  · have hle : xs.length + ys.length ≤ (xs.length + ys.length) * i.bytes := Nat.le_mul_of_pos_right _ (Nat.pos_of_ne_zero hop.pos.2.1)
    obtain ⟨us, q1, q2⟩ := hx5.cells.vals
    have hul : us.length = xs.length * i.size := by rw [q1.length, hx5.length_flatten]
    have hr := run_append_grow (P := P) w t o.type e i zv (elemC_spec hop.elem) hi hzz ⟨b', 0, none⟩ xs.length k us hul (fun j v hj => by rw [addr_add]; exact q2 j v hj) ⟨b, off, none⟩ ys.length cap vs h3 h4 (by omega) (by omega)
      (growslice_fits (by omega) hb)
    have hge := grownCap_ge w (xs.length + ys.length) k e
    have hpx : ∀ cs ∈ xs, cs.length = i.size ∧ cs.all V.pm = true := fun cs hcs => by
      obtain ⟨j, hj⟩ := List.getElem?_of_mem hcs
      obtain ⟨r1, r2, _⟩ := hx5.get hj
      exact ⟨r1, r2⟩
    have hall : DenL Ω w (xs ++ ys).flatten (us ++ vs) := by rw [List.flatten_append]; exact q1.append h2
    have hd' := h.drew 1
    subst hn
    obtain ⟨k1, k2⟩ := hd'.grow (m := ys.length) ht hx3 hpos (us.toArray ++ vs.toArray ++ Builtin.zeroCells zv.cells (grownCap w (xs.length + ys.length) k e - (xs.length + ys.length))) e (k := grownCap w (xs.length + ys.length) k e)
      (by simp only [Array.size_append, zeroCells_size, hzs, List.size_toArray, hul, h3, ← Nat.add_mul]; congr 1; omega) hge rfl rfl (DenL.ext (goes_drew h 1).ext _ _ hall)
      (fun cs hcs => by
        rcases List.mem_append.1 hcs with h | h
        · exact hpx cs h
        · exact h5 cs h)
      (fun j y hj => by
        rw [Array.getElem?_append_left (by simpa using (List.getElem?_eq_some_iff.1 hj).1), List.append_toArray]
        simpa using hj)
    refine ⟨_, _, _, .inl ?_, k1.putO hd k2 a rfl, fun d hf _ => ⟨fun b hb => ?_, fun b t p e hb => ?_⟩⟩
    · rw [hop.run, hx1, h1, hr]; rfl
    · simp only [Own.grow] at hb
      split at hb
      · cases hb
      · exact hf.1 b hb
    · simp only [Own.grow] at hb
      split at hb
      · injection hb with hb _
        subst hb
        exact hfu d hf e
      · exact hf.2 b t p e hb
/-- Zeros into a slice that is nil. -/
structure AppZ (P : Program) (o : Oper) (x y : Operand) (t e : TypeId) (sz bytes : Nat) (z : V) : Prop where
  op : ∃ c u q, o.op = .call c ∧ c.callee = .builtin .append ∧ c.args.toList = [x, y] ∧ c.argTypes.toList = [t, u] ∧ P.underlying u = some (.int q)
  elem : elemC P t = some e
  size : sizeC P e = some sz
  byte : bytesC P e = some bytes
  zero : zeroE P e = some z
  pos : sz ≠ 0 ∧ bytes ≠ 0
theorem yields_appz (h : Inv X w0 Ω w a.tmps σ) {x y : Operand} {t e : TypeId} {sz bytes : Nat} {z : V} (hop : AppZ P o x y t e sz bytes z) {d : Nat} (hdst : o.dst = some d) (hd : d < a.tmps.size)
    (hx : Den Ω w .nil (a.eval x)) {k : IntKind} {n : Int} (hy : Den Ω w (.int k n) (a.eval y)) (h0 : 0 < n) (hb : n * bytes ≤ 140737488355328) :
    Yields P X w0 Ω w a o (apply σ o.dst (.mkp (.sl (some (d * 100)) sz (List.replicate n.toNat z.cells)) d n.toNat)) true := by
  obtain ⟨hz, hzp⟩ := zeroE_spec hop.zero
  obtain ⟨i, zv, hi, hzz, hval, hl, hcc⟩ := zeroC_spec hz
  have hsi := size_info hop.size hi
  have hbi := bytes_info hop.byte hi
  subst hsi; subst hbi
  obtain ⟨c, u, q, ho, hc, h1, h2, hu⟩ := hop.op
  have h1 : c.args = #[x, y] := Array.ext' (by simp [h1])
  have h2 : c.argTypes = #[t, u] := Array.ext' (by simp [h2])
  simp only [Den] at hx hy
  have hzs : zv.cells.size = i.size := by rw [← Array.length_toList, (Den.cells (Ω := Ω) (w := w) hcc (valV_den _ _ hval)).length, hl]
  have hnn : ((n.toNat : Nat) : Int) = n := Int.toNat_of_nonneg (by omega)
  have hpos : 0 < n.toNat := by omega
  have hbn : n.toNat * i.bytes ≤ 140737488355328 := by
    have : ((n.toNat * i.bytes : Nat) : Int) ≤ ((140737488355328 : Nat) : Int) := by rw [Int.natCast_mul, hnn]; exact hb
    exact Int.ofNat_le.1 this
  have hle : n.toNat ≤ n.toNat * i.bytes := Nat.le_mul_of_pos_right _ (Nat.pos_of_ne_zero hop.pos.2)
  have hr := run_append_zeros (w := w) (elemC_spec hop.elem) hu hi hzz hop.pos.1 o.type (k := k) hpos (by omega) (by omega)
  rw [hnn] at hr
  have hge := grownCap_ge w n.toNat 0 e
  have hz0 : ∀ m : Nat, (Builtin.zeroCells zv.cells m).toList = (List.replicate m zv.cells.toList).flatten := by
    intro m
    rw [← replicate_made, Array.length_toList]
    simp [Builtin.zeroCells]
  have hrow : DenL ((Ω.prep [d]).prot []) w (List.replicate n.toNat z.cells).flatten (Builtin.zeroCells zv.cells n.toNat).toList := by
    rw [hz0]
    exact (Den.cells hcc (valV_den _ _ hval)).replicate _
  obtain ⟨x1, w1, Ω1, k1, k2, k3⟩ := Yields.arr (P := P) (nd := 1) (ys := (Builtin.zeroCells zv.cells n.toNat).toList) (T := e) (k := grownCap w n.toNat 0 e) (n := n.toNat) (sz := i.size)
    (c := Builtin.zeroCells zv.cells n.toNat ++ Builtin.zeroCells zv.cells (grownCap w n.toNat 0 e - n.toNat)) (h.prep [d]) hdst hd (fresh_prep (by simp [memN]))
    (by simp only [execOp, ho, resolve, invoke, hc, builtin, h1, h2, Sem.run_bind, Sem.run_pure, Result.andThen_ok, List.map_toArray, List.map_cons, List.map_nil, hx, hy, hr]; rfl)
    (by rw [Array.size_append, zeroCells_size, zeroCells_size, hzs, ← Nat.add_mul]; congr 1; omega) hge (Nat.pos_of_ne_zero hop.pos.1) (by simp) hrow
    (fun cs hcs => by rw [List.mem_replicate] at hcs; rw [hcs.2]; exact ⟨hl, hzp⟩)
    (fun j y hj => by rw [Array.getElem?_append_left (by simpa using (List.getElem?_eq_some_iff.1 hj).1)]; simpa using hj)
  refine ⟨x1, w1, Ω1, k1, ?_, fun d' hf hne' => k3 d' ⟨fun b hb => hf.1 b (prep_box hb).1, fun b t p e hb => hf.2 b t p e (prep_arr hb).1⟩ hne'⟩
  have e : protT [] (prepT [d] σ.tk) = prepT [d] σ.tk := protT_nil _
  simp only [apply] at k2
  rw [e] at k2
  simpa only [apply, Lo.prep] using k2
end
end Go.Lo

/- Addresses and calls. -/
namespace Go.Lo
open Go.RowKit (Below)
section
variable {P : Program} {X : Sc} {w0 w : World} {Ω : Own} {a : Act} {σ : St} {o : Oper} {mk : Bool}

theorem run_faOp {t : TypeId} {x : Operand} {i : Nat} (ho : o.op = .fieldAddr t x i) {off n : Nat} {u : TypeId} (hf : fieldC P t i = some (off, u)) (hs : sizeC P u = some n) (hn : n ≠ 0) {b q : Nat} (hx : a.eval x = .pointer (some ⟨b, q, none⟩)) :
    (execOp a.eval o).run P w = .ok (.value (.pointer (some ⟨b, q + off, none⟩))) w := by
  simp only [execOp, ho, Sem.run_bind, hx, run_fieldAt hf hs hn, Result.andThen_ok, Sem.run_pure]
/-- A pointer moves on. -/
theorem den_move_ref {s q off : Nat} {x : Value} (h : Den Ω w (.ref s q) x) : ∃ b, x = .pointer (some ⟨b, q, none⟩) ∧ Den Ω w (.ref s (q + off)) (.pointer (some ⟨b, q + off, none⟩)) := by
  simp only [Den] at h ⊢
  obtain ⟨b, h1, h2⟩ := h
  exact ⟨b, h1, b, rfl, h2⟩
theorem den_move_cref {off : Nat} {cs : List V} {x : Value} (h : Den Ω w (.cref cs) x) : ∃ b q, x = .pointer (some ⟨b, q, none⟩) ∧ Den Ω w (.cref (cs.drop off)) (.pointer (some ⟨b, q + off, none⟩)) := by
  simp only [Den] at h ⊢
  obtain ⟨b, q, h1, h2, h3⟩ := h
  exact ⟨b, q, h1, b, q + off, rfl, h2, h3.drop off⟩
theorem den_move_gref {off : Nat} {cs : List V} {x : Value} (h : Den Ω w (.gref cs) x) : ∃ b q, x = .pointer (some ⟨b, q, none⟩) ∧ Den Ω w (.gref (cs.drop off)) (.pointer (some ⟨b, q + off, none⟩)) := by
  simp only [Den] at h ⊢
  obtain ⟨b, q, h1, h2, h4, h3⟩ := h
  exact ⟨b, q, h1, b, q + off, rfl, h2, by rw [List.all_eq_true] at h4 ⊢; exact fun x hx => h4 x (List.mem_of_mem_drop hx), h3.drop off⟩
theorem den_move_eref {t n i q off : Nat} {cs : List V} {x : Value} (h : Den Ω w (.eref t n i q cs) x) : ∃ b r, x = .pointer (some ⟨b, r, none⟩) ∧ Den Ω w (.eref t n i (q + off) cs) (.pointer (some ⟨b, r + off, none⟩)) := by
  simp only [Den] at h ⊢
  obtain ⟨b, p, h1, h2⟩ := h
  exact ⟨b, _, h1, b, p, by rw [Nat.add_assoc], h2⟩
theorem run_ixaOp {t e : TypeId} {x y : Operand} (ho : o.op = .indexAddr t x y) {len n : Nat} (ht : P.underlying t = some (.array len e)) (hs : sizeC P e = some n) {k : IntKind} {i : Int} (hy : Den Ω w (.int k i) (a.eval y)) (h0 : 0 ≤ i ∧ i < len) {b q : Nat} (hx : a.eval x = .pointer (some ⟨b, q, none⟩)) :
    (execOp a.eval o).run P w = .ok (.value (.pointer (some ⟨b, q + i.toNat * n, none⟩))) w := by
  simp only [Den] at hy
  simp only [execOp, ho, Sem.run_bind, hx, hy, run_indexArr ht hs h0.1 h0.2, Result.andThen_ok, Sem.run_pure]
theorem run_ixsOp {t e : TypeId} {x y : Operand} (ho : o.op = .indexAddr t x y) {n : Nat} (ht : P.underlying t = some (.slice e)) (hs : sizeC P e = some n) {k : IntKind} {i : Int} (hy : Den Ω w (.int k i) (a.eval y)) {len c : Nat} (h0 : 0 ≤ i ∧ i < len) {b q : Nat} (hx : a.eval x = .slice (some ⟨b, q, none⟩) len c) :
    (execOp a.eval o).run P w = .ok (.value (.pointer (some ⟨b, q + i.toNat * n, none⟩))) w := by
  simp only [Den] at hy
  simp only [execOp, ho, Sem.run_bind, hx, hy, run_indexSl ht hs h0.1 h0.2, Result.andThen_ok, Sem.run_pure]
theorem ixs_none {t e : TypeId} {x y : Operand} (ho : o.op = .indexAddr t x y) {n : Nat} (ht : P.underlying t = some (.slice e)) (hs : sizeC P e = some n) {k : IntKind} {i : Int} (hy : Den Ω w (.int k i) (a.eval y)) {es : List (List V)} {cs : List V} (hx : Den Ω w (.sl none n es) (a.eval x))
    (h0 : 0 ≤ i) (hc : es[i.toNat]? = some cs) : ∃ z, (execOp a.eval o).run P w = .ok (.value z) w ∧ Den Ω w (.cref cs) z := by
  have hlt := (List.getElem?_eq_some_iff.1 hc).1
  simp only [Den] at hx
  rcases hx with ⟨rfl, _⟩ | ⟨b, off, cap, hx, hf, hE⟩
  · simp at hlt
  · refine ⟨_, run_ixsOp ho ht hs hy ⟨h0, by omega⟩ hx, ?_⟩
    simp only [Den]
    exact ⟨b, _, rfl, .inl hf, (hE.get hc).2.2⟩
theorem ixs_some {t e : TypeId} {x y : Operand} (ho : o.op = .indexAddr t x y) {n : Nat} (ht : P.underlying t = some (.slice e)) (hs : sizeC P e = some n) {k : IntKind} {i : Int} (hy : Den Ω w (.int k i) (a.eval y)) {u : Nat} {es : List (List V)} {cs : List V} (hx : Den Ω w (.sl (some u) n es) (a.eval x))
    (h0 : 0 ≤ i) (hc : es[i.toNat]? = some cs) : ∃ z, (execOp a.eval o).run P w = .ok (.value z) w ∧ Den Ω w (.eref u es.length i.toNat 0 cs) z := by
  have hlt := (List.getElem?_eq_some_iff.1 hc).1
  simp only [Den] at hx
  obtain ⟨b, cap, p, hx, h2, h3, h4, hE⟩ := hx
  refine ⟨_, run_ixsOp ho ht hs hy ⟨h0, by omega⟩ hx, ?_⟩
  obtain ⟨g1, g2, g3⟩ := hE.get hc
  simp only [Den]
  subst h3
  refine ⟨b, p, by rw [Nat.zero_add, Nat.add_zero], h2, hlt, fun c k m hc => ⟨(h4 c k m hc).1, fun e => ((h4 c k m hc).2 e).1⟩, g1, g2, by simpa using g3⟩
def V.isPtr : V → Bool
  | .ref _ _ => true
  | .cref _ => true
  | .gref _ => true
  | .eref _ _ _ _ _ => true
  | .fn _ _ => true
  | _ => false
theorem run_nilcOp {x : Operand} (ho : o.op = .nilCheck x) {v : V} (hv : v.isPtr = true) (hx : Den Ω w v (a.eval x)) :
    (execOp a.eval o).run P w = .ok (.value (a.eval x)) w := by
  cases v <;> simp only [V.isPtr, Bool.false_eq_true] at hv
  · rename_i f caps
    simp only [Den] at hx
    obtain ⟨xs, hg, _⟩ := hx
    cases f with
    | f n => simp only [Fk.Is] at hg; simp [execOp, ho, hg]
    | m n => simp only [Fk.Is] at hg; simp [execOp, ho, hg]
    | y b => simp only [Fk.Is] at hg; obtain ⟨l, _, hg⟩ := hg; simp [execOp, ho, hg]
  · simp only [Den] at hx; obtain ⟨b, h1, _⟩ := hx; simp [execOp, ho, h1]
  · simp only [Den] at hx; obtain ⟨b, q, h1, _⟩ := hx; simp [execOp, ho, h1]
  · simp only [Den] at hx; obtain ⟨b, q, h1, _⟩ := hx; simp [execOp, ho, h1]
  · simp only [Den] at hx; obtain ⟨b, p, h1, _⟩ := hx; simp [execOp, ho, h1]

/-! ### Calls -/
/-- Everything is allowed; 'ro': inside the body of a range over a function. -/
def wideR (ro : Option Nat) : Fence := { Fence.wide with round := ro }
theorem wideR_fn (ro : Option Nat) (f : FuncId) : (wideR ro).fn f := trivial
theorem wideR_depth (ro : Option Nat) : ((wideR ro).depth.isSome = true → 1 ≤ 0) := by intro h; simp [wideR, Fence.wide] at h
theorem callsIn_wideR {ro : Option Nat} {n : Nat} {f : FuncId} {args : Array Value} {R : Ending → World → Prop} (h : Calls P f args w R) : CallsIn (wideR ro) n P f args w R :=
  ⟨trivial, (callsIn_wide (n := n).2 h).2⟩
/-- A function that can be entered. -/
def Enters (P : Program) (f : Nat) : Prop := ∃ fn c, P.funcs[f]? = some fn ∧ fn.name ≠ "runtime.NumGoroutine" ∧ fn.body = some c
theorem run_callFunc {f : Nat} (h : Enters P f) (args : Array Value) (w : World) : (callFunc f args).run P w = .ok (.enter f args) w := by
  obtain ⟨fn, c, h1, h2, h3⟩ := h
  simp [callFunc, run_program, h1, h2, h3]
theorem frz_cellOk {rd : Nat → Option (List V)} : ∀ {v v' : V}, v.frz rd = some v' → v.cellOk = true ∨ v = .dead → v'.cellOk = true := by
  intro v v' h hc
  rcases hc with hc | rfl
  · cases v <;> simp only [V.cellOk, Bool.false_eq_true] at hc
    case bool => simp only [V.frz, Option.some.injEq] at h; subst h; rfl
    case int => simp only [V.frz, Option.some.injEq] at h; subst h; rfl
    case nil => simp only [V.frz, Option.some.injEq] at h; subst h; rfl
    case sl => simp only [V.frz, Option.some.injEq] at h; subst h; rfl
    case fn f cs =>
      cases f with
      | y b => simp [V.frz] at h
      | f n =>
        simp only [V.frz] at h
        split at h
        · simp only [Option.some.injEq] at h; subst h; rfl
        · cases h
      | m n =>
        simp only [V.frz] at h
        split at h
        · simp only [Option.some.injEq] at h; subst h; rfl
        · cases h
    case ref =>
      simp only [V.frz] at h
      split at h
      · simp only [Option.some.injEq] at h; subst h; rfl
      · cases h
    case cref => simp only [V.frz, Option.some.injEq] at h; subst h; rfl
    case gref => simp only [V.frz, Option.some.injEq] at h; subst h; rfl
    case np => simp only [V.frz, Option.some.injEq] at h; subst h; rfl
    case bag => simp only [V.frz, Option.some.injEq] at h; subst h; rfl
    case eref => simp [V.frz] at h
  · simp [V.frz] at h
theorem frzL_cellOk {rd : Nat → Option (List V)} : ∀ {vs vs' : List V}, frzL rd vs = some vs' → (∀ v ∈ vs, v.cellOk = true ∨ v = .dead) → ∀ v ∈ vs', v.cellOk = true
  | [], vs', h, _, v, hv => by simp only [frzL, Option.some.injEq] at h; subst h; simp at hv
  | u :: us, vs', h, hc, v, hv => by
    simp only [frzL] at h
    split at h
    · rename_i u' us' h1 h2
      simp only [Option.some.injEq] at h; subst h
      rcases List.mem_cons.1 hv with rfl | hv
      · exact frz_cellOk h1 (hc u (by simp))
      · exact frzL_cellOk h2 (fun v hv => hc v (by simp [hv])) v hv
    · cases h
theorem pureL_mem : ∀ {vs : List V}, pureL vs = true → ∀ v ∈ vs, v.pure = true
  | u :: us, h, v, hv => by
    simp only [pureL] at h
    split at h
    · rename_i hu
      rcases List.mem_cons.1 hv with rfl | hv
      · exact hu
      · exact pureL_mem h v hv
    · cases h
theorem rdOk (h : Inv X w0 Ω w a.tmps σ) (ex : List Nat) : ∀ n, RdOk Ω w (bxF (bxOf σ.fr ex) n)
  | 0 => fun s cs b hs _ => by simp [bxF] at hs
  | n + 1 => fun s cs b hs hb => by
    simp only [bxF] at hs
    split at hs
    case isFalse => cases hs
    rename_i hlt
    split at hs
    · rename_i cs0 h0
      obtain ⟨hg, _⟩ := bxOf_get hlt h0
      obtain ⟨_, h2⟩ := h.slot s _ hg
      simp only [DenS] at h2
      obtain ⟨b', xs, T, e1, e2, e3, e4, e5⟩ := h2
      have := h.uniq b b' s hb e2
      subst this
      obtain ⟨k1, k2⟩ := DenL.frz (rdOk h ex n) cs0 cs xs hs e4
      have hlim : (cOwn Ω w).lim b = xs.length := by simp [cOwn, hb, blkSize, e3]
      refine rowC k1 (fun v hv => ⟨pureL_mem k2 v hv, frzL_cellOk hs e5 v hv⟩) (fun j y hj => ⟨?_, ?_⟩)
      · rw [hlim, Nat.zero_add]; exact (List.getElem?_eq_some_iff.1 hj).1
      · rw [Nat.zero_add, cell_of_row w b j _ T (0, 0) e3]; simpa using hj
    · cases hs
/-- What an operation that calls comes to. -/
theorem wp_value {ro : Option Nat} {n : Nat} {K : Act → World → Prop} {Q : Exit → Act → World → Prop} (hd : ∀ c, o.op ≠ .defer c) {x : Value} {w' : World} (hr : (execOp a.eval o).run P w = .ok (.value x) w' ∨ ((execOp a.eval o).run P w = .ok .skip w' ∧ x = undef))
    (hK : K (a.put o.dst x) w') : o.wpIn (wideR ro) n P a w K Q := by
  refine ⟨fun f _ => trivial, ?_⟩
  have hs : o.semAt (wideR ro).round a.eval = execOp a.eval o := by
    cases ro with
    | none => rfl
    | some l => exact Oper.semAt_some l _ o hd
  rw [hs]
  rcases hr with hr | ⟨hr, rfl⟩ <;> rw [hr] <;> exact hK
theorem Yields.wp {ro : Option Nat} {n : Nat} {K : Act → World → Prop} {Q : Exit → Act → World → Prop} {σ' : St} (hy : Yields P X w0 Ω w a o σ' mk) (hd : ∀ c, o.op ≠ .defer c)
    (hK : ∀ x w' Ω', Inv X w0 Ω' w' (a.put o.dst x).tmps σ' → (∀ d, Fresh Ω d → (mk = true → o.dst ≠ some d) → Fresh Ω' d) → K (a.put o.dst x) w') : o.wpIn (wideR ro) n P a w K Q := by
  obtain ⟨x, w', Ω', h1, h2, h3⟩ := hy
  exact wp_value hd h1 (hK x w' Ω' h2 h3)
theorem wp_enter {ro : Option Nat} {n : Nat} {K : Act → World → Prop} {Q : Exit → Act → World → Prop} (hd : ∀ c, o.op ≠ .defer c) {f : Nat} {args : Array Value} (hr : (execOp a.eval o).run P w = .ok (.enter f args) w) {R : Value → World → Prop}
    (hc : Calls P f args w fun e w1 => ∃ x, e = .returned x ∧ R x w1) (hK : ∀ x w1, R x w1 → K (a.put o.dst x) w1) : o.wpIn (wideR ro) n P a w K Q := by
  refine ⟨fun f _ => trivial, ?_⟩
  have hs : o.semAt (wideR ro).round a.eval = execOp a.eval o := by
    cases ro with
    | none => rfl
    | some l => exact Oper.semAt_some l _ o hd
  rw [hs, hr]
  refine ⟨fun h => by simp [wideR, Fence.wide] at h, CallsIn.mono (callsIn_wideR hc) fun e w1 he => ?_⟩
  obtain ⟨x, rfl, hx⟩ := he
  exact hK x w1 hx
theorem fresh_res {Ω1 : Own} {d : Nat} {al : Bool} {d' : Nat} (hf : Fresh Ω d') (hne : d' ≠ d) : Fresh (Ω.res Ω1 w.heap.size d al) d' := by
  refine ⟨fun b hb => hf.1 b (res_box hb).2, fun b t p e hb => ?_⟩
  rcases res_arr hb with ⟨_, q, hq, _⟩ | ⟨_, k, hk, rfl, _⟩
  · exact hf.2 b t q e hq
  · exact hne (by omega)
/-! ### The body of a range is called -/
theorem Inv.other {tm : Array Value} {w' : World} (h : Inv X w0 Ω w tm σ) {tr' : Option (List (List V))} (hk : Kept X.x w0 w') (hs : w.heap.size ≤ w'.heap.size) (hm : ∀ b, Ω.mine b → w'.heap[b]? = w.heap[b]?)
    (hc : ∀ b off, (Ω.frozp b ∨ Ω.o b = .frg) → off < Ω.lim b → w'.cell? ⟨b, off, none⟩ = w.cell? ⟨b, off, none⟩) (hj : X.j tr' Ω w') : Inv X w0 Ω w' tm { σ with tr := tr' } where
  kept := hk
  ownB := h.ownB
  ownA := h.ownA
  bnd b hb := Nat.lt_of_lt_of_le (h.bnd b hb) hs
  uniq := h.uniq
  limB := h.limB
  old := h.old
  out := hj
  slot s v hv := by
    obtain ⟨h1, h2⟩ := h.slot s v hv
    refine ⟨h1, h2.ext ⟨fun _ h => h, fun _ h => .inr h, fun _ _ p h => ⟨p, h⟩, fun _ _ h => h, fun _ _ => Nat.le_refl _, fun b off hne hl => ?_, fun _ _ _ _ => rfl, fun _ _ _ c k n _ h => ⟨c, k, n, h, .inl ⟨rfl, rfl, rfl⟩⟩, rfl, fun _ h => h⟩ (fun b s O hb hh => by rw [hm b (.inl ⟨s, hb⟩)]; exact hh)⟩
    cases hb : Ω.o b with
    | out => exact (hne hb).elim
    | frz => exact hc b off (.inl (.inl (.inl hb))) hl
    | frzb => exact hc b off (.inl (.inr hb)) hl
    | frg => exact hc b off (.inr hb) hl
    | box s => exact World.cell?_of_block (hm b (.inl ⟨s, hb⟩))
    | arr t p => exact World.cell?_of_block (hm b (.inr ⟨t, p, hb⟩))
  tok t n wr ht := by
    obtain ⟨c, k, T, xs, g1, ⟨p, g2⟩, g3, g⟩ := h.tok t n wr ht
    exact ⟨c, k, T, xs, g1, ⟨p, g2⟩, by rw [hm c (.inr ⟨t, p, g2⟩)]; exact g3, g⟩
/-- What was yielded is the beginning of T. -/
def UpTo (T : List (List V)) (σ : St) : Prop := ∀ l, σ.tr = some l → l <+: T
/-- What a call of the body of a range comes to. -/
structure YieldOk (P : Program) (X : Sc) (w0 : World) (T : List (List V)) : Prop where
  none : ∀ Ω w, X.j none Ω w → Ω.yl = none
  some : ∀ (ro : Option Nat) (n b l : Nat) (tr : List (List V)) (as : List V) (xs : List Value) (Ω : Own) (w : World), X.j (some tr) Ω w → Ω.yl = some (l, b) → DenL Ω w as xs →
    (as.all fun v => v.cells.all V.pm) = true → tr ++ [as] <+: T →
    ∃ fn tmps asg body, (Instr.yield l xs.toArray).run P w = .ok (.round l fn tmps asg body) w ∧ RoundIn (wideR ro) n P l fn tmps asg body w fun e w' => e = .returned (.bool (goesOn b (Option.some tr))) ∧
      X.j (Option.some (tr ++ [as])) Ω w' ∧ Kept X.x w0 w' ∧ w.heap.size ≤ w'.heap.size ∧ (∀ b, Ω.mine b → w'.heap[b]? = w.heap[b]?) ∧ ∀ b off, (Ω.frozp b ∨ Ω.o b = .frg) → off < Ω.lim b → w'.cell? ⟨b, off, Option.none⟩ = w.cell? ⟨b, off, Option.none⟩
theorem run_yieldCall {c : Call} {f : Operand} (ho : o.op = .call c) (hc : c.callee = .value f) {l : Nat} (hf : a.eval f = .func (.yield l) #[] #[]) :
    (execOp a.eval o).run P w = (Instr.yield l (c.args.map a.eval)).run P w := by
  simp only [execOp, ho, resolve, hc, hf, Deferred.ofValue, Sem.run_bind, Sem.run_pure, Result.andThen_ok, invoke, Array.empty_append]
theorem wp_round {ro : Option Nat} {n : Nat} {K : Act → World → Prop} {Q : Exit → Act → World → Prop} (hd : ∀ c, o.op ≠ .defer c) {l : Nat} {fn : FuncId} {tmps : Array Value} {asg body : Code} (hr : (execOp a.eval o).run P w = .ok (.round l fn tmps asg body) w) {R : Value → World → Prop}
    (hc : ∀ n, RoundIn (wideR ro) n P l fn tmps asg body w fun e w1 => ∃ x, e = .returned x ∧ R x w1) (hK : ∀ x w1, R x w1 → K (a.put o.dst x) w1) : o.wpIn (wideR ro) n P a w K Q := by
  refine ⟨fun f _ => trivial, ?_⟩
  have hs : o.semAt (wideR ro).round a.eval = execOp a.eval o := by
    cases ro with
    | none => rfl
    | some l => exact Oper.semAt_some l _ o hd
  rw [hs, hr]
  refine ⟨fun h => by simp [wideR, Fence.wide] at h, RoundIn.mono (hc _) fun e w1 he => ?_⟩
  obtain ⟨x, rfl, hx⟩ := he
  exact hK x w1 hx
/-- An iterator yields what is said, up to a stop. -/
def ItOk (P : Program) (f b : Nat) (pre post : List V) (R : V) : Prop := ∀ T, itemsOf (some R) = some T → ∀ (X : Sc) (Ω : Own) (w : World) (l : Nat) (xs ys : List Value), Base Ω w → Ω.yl = some (l, b) → pureL pre = true → pureL post = true → DenL Ω w pre xs → DenL Ω w post ys →
  X.o = Ω.o → X.lim = Ω.lim → X.j (some []) Ω w → (∀ Ω w, ¬ X.j none Ω w) → YieldOk P X w T →
  Calls P f (xs ++ Value.func (.yield l) #[] #[] :: ys).toArray w fun e w1 => ∃ x Ω1, e = .returned x ∧ X.j (some T) Ω1 w1
/-- What a function may turn to which a box is handed: the box, and its arrays. -/
structure BaseIo (Ω : Own) (w : World) (b : Nat) : Prop where
  o : ∀ c, Ω.o c = .out ∨ Ω.o c = .frz ∨ Ω.o c = .frzb ∨ Ω.o c = .frg ∨ Ω.o c = .box 0 ∨ ∃ k, k < 100 ∧ Ω.o c = .arr k false
  bnd : ∀ c, Ω.o c ≠ .out → c < w.heap.size
  box : ∀ c, Ω.o c = .box 0 → c = b
  here : Ω.o b = .box 0
  limB : Ω.lim b = 0
  yl : Ω.yl = none
/-- A function turns a box as is said. -/
def IoOk (P : Program) (f : Nat) (cs rest : List V) (R : V) : Prop := ∀ (Ω : Own) (w : World) (b : Nat) (xs ys : List Value) (T : TypeId), BaseIo Ω w b → DenL Ω w cs xs → w.heap[b]? = some (.cells xs.toArray T (0, 0)) →
  (∀ k n, (k, n) ∈ tksL cs → TokOk Ω w k n true) → DenL Ω w rest ys →
  Calls P f (Value.pointer (some ⟨b, 0, none⟩) :: ys).toArray w fun e w1 => ∃ x Ω1 xs1 T1 cs1 r, R = .tup [.box cs1, r] ∧ e = .returned x ∧ Kept Ω.mine w w1 ∧ Den Ω1 w1 r x ∧ DenL Ω1 w1 cs1 xs1 ∧
    w1.heap[b]? = some (.cells (List.toArray xs1) T1 (0, 0)) ∧ Ω1.o b = .box 0 ∧ (∀ c, c < w.heap.size → ¬ Ω.mine c → Ω1.o c = Ω.o c ∧ Ω1.lim c = Ω.lim c) ∧ (∀ c, Ω1.o c ≠ .out → c < w1.heap.size) ∧ ∀ k n, (k, n) ∈ tksL cs1 → TokOk Ω1 w1 k n true
/-- A function does what is said, at these arguments. -/
def CallOk (P : Program) (f : Nat) (args : List V) (R : V) : Prop :=
  (pureL args = true → ∀ (Ω : Own) (w : World) (xs : List Value), Base Ω w → DenL Ω w args xs →
    Calls P f xs.toArray w fun e w1 => ∃ x Ω1, e = .returned x ∧ Below w.heap.size w w1 ∧ Den Ω1 w1 R x ∧ ResOk Ω Ω1 w w1 R) ∧
  (∀ b pre post, args = pre ++ .fn (.y b) [] :: post → ItOk P f b pre post R) ∧
  ∀ cs rest, args = .box cs :: rest → ioL cs = true → (rest.all fun v => v.cells.all V.pm) = true → IoOk P f cs rest R
/-- A function that may be called does what is said. -/
def CallsOk (P : Program) (call : Nat → List V → Option V) : Prop := ∀ f args r, call f args = some r → Enters P f ∧ CallOk P f args r
theorem run_valueCall {c : Call} {f : Operand} (ho : o.op = .call c) (hc : c.callee = .value f) {g : Nat} (hg : Enters P g) {first caps : Array Value} (hf : a.eval f = .func (.func g) first caps) :
    (execOp a.eval o).run P w = .ok (.enter g (first ++ c.args.map a.eval ++ caps)) w := by
  simp only [execOp, ho, resolve, hc, hf, Deferred.ofValue, Sem.run_bind, Sem.run_pure, Result.andThen_ok, invoke, run_callFunc hg]
end
end Go.Lo

/- Every operation does what the logical machine says. -/
namespace Go.Lo
open Go.RowKit (Below)
section
variable {P : Program} {X : Sc} {w0 w : World} {Ω : Own} {a : Act} {σ : St} {o : Oper} {mk : Bool}

theorem DenL.inv0 {vs : List V} (h : DenL Ω w vs []) : vs = [] := by
  cases vs with
  | nil => rfl
  | cons v vs => simp [DenL] at h
theorem DenL.invS {vs : List V} {x : Value} {xs : List Value} (h : DenL Ω w vs (x :: xs)) : ∃ v us, vs = v :: us ∧ Den Ω w v x ∧ DenL Ω w us xs := by
  cases vs with
  | nil => simp [DenL] at h
  | cons v vs =>
    simp only [DenL] at h
    obtain ⟨y, ys, e, h1, h2⟩ := h
    injection e with e1 e2
    subst e1; subst e2
    exact ⟨v, vs, rfl, h1, h2⟩
theorem DenL.inv1 {vs : List V} {x : Value} (h : DenL Ω w vs [x]) : ∃ v, vs = [v] ∧ Den Ω w v x := by
  obtain ⟨v, us, rfl, h1, h2⟩ := h.invS
  have := h2.inv0; subst this
  exact ⟨v, rfl, h1⟩
theorem DenL.inv2 {vs : List V} {x y : Value} (h : DenL Ω w vs [x, y]) : ∃ v u, vs = [v, u] ∧ Den Ω w v x ∧ Den Ω w u y := by
  obtain ⟨v, us, rfl, h1, h2⟩ := h.invS
  obtain ⟨u, rfl, h3⟩ := h2.inv1
  exact ⟨v, u, rfl, h1, h3⟩
theorem DenL.inv3 {vs : List V} {x y z : Value} (h : DenL Ω w vs [x, y, z]) : ∃ v u t, vs = [v, u, t] ∧ Den Ω w v x ∧ Den Ω w u y ∧ Den Ω w t z := by
  obtain ⟨v, us, rfl, h1, h2⟩ := h.invS
  obtain ⟨u, t, rfl, h3, h4⟩ := h2.inv2
  exact ⟨v, u, t, rfl, h1, h3, h4⟩
/-- What an operation of this form comes to, whatever follows. -/
def Sound (P : Program) (X : Sc) (w0 : World) (Ω : Own) (w : World) (a : Act) (σ : St) (o : Oper) (mk : Bool) (e : Eff) : Prop :=
  ∀ (ro : Option Nat) (n : Nat) (K : Act → World → Prop) (Q : Exit → Act → World → Prop),
    (∀ x w' Ω', Inv X w0 Ω' w' (a.put o.dst x).tmps (apply σ o.dst e) → (∀ d, Fresh Ω d → (mk = true → o.dst ≠ some d) → Fresh Ω' d) → K (a.put o.dst x) w') → o.wpIn (wideR ro) n P a w K Q
theorem Yields.sound {e : Eff} (hy : Yields P X w0 Ω w a o (apply σ o.dst e) mk) (hd : ∀ c, o.op ≠ .defer c) : Sound P X w0 Ω w a σ o mk e := fun _ _ _ _ hK => hy.wp hd hK
theorem sound_val (h : Inv X w0 Ω w a.tmps σ) (hdst : ∀ d, o.dst = some d → d < a.tmps.size) (hd : ∀ c, o.op ≠ .defer c) {v : V} (hr : ∃ x, (execOp a.eval o).run P w = .ok (.value x) w ∧ Den Ω w v x) : Sound P X w0 Ω w a σ o mk (.val v) := by
  obtain ⟨x, h1, h2⟩ := hr
  exact (Yields.val h hdst h1 h2).sound hd
theorem valO_some {x : Option V} {e : Eff} (h : valO x = some e) : ∃ v, x = some v ∧ e = .val v := by
  cases x with
  | none => simp [valO] at h
  | some v => simp only [valO, Option.some.injEq] at h; exact ⟨v, rfl, h.symm⟩
section ops
variable {call : Nat → List V → Option V} {dr al : Bool} {root : Option Nat} {k : K} {xs : List Operand} {vs : List V} {e : Eff} {ex : List Nat}
  (h : Inv X w0 Ω w a.tmps σ) (hdst : ∀ d, o.dst = some d → d < a.tmps.size) (hop : opC P o.op dr al mk root = some (k, xs)) (hv : DenL Ω w vs (xs.map a.eval))
  (hsem : sem call (bxOf σ.fr ex) (tkOf σ.tk ex) (o.dst.getD 0) k vs = some e) (hmd : mk = true → ∃ d, o.dst = some d ∧ Fresh Ω d)
include h hdst hop hv hsem

theorem sound_move {x : Operand} (ho : o.op = .move x) : Sound P X w0 Ω w a σ o mk e := by
  simp only [ho, opC, Option.some.injEq, Prod.mk.injEq] at hop
  obtain ⟨rfl, rfl⟩ := hop
  obtain ⟨v, rfl, h1⟩ := hv.inv1
  simp only [sem, Option.some.injEq] at hsem; subst hsem
  exact sound_val h hdst (by simp [ho]) ⟨_, run_move ho, h1⟩
theorem sound_assign {x : Operand} (ho : o.op = .assign x) : Sound P X w0 Ω w a σ o mk e := by
  simp only [ho, opC, Option.some.injEq, Prod.mk.injEq] at hop
  obtain ⟨rfl, rfl⟩ := hop
  obtain ⟨v, rfl, h1⟩ := hv.inv1
  simp only [sem, Option.some.injEq] at hsem; subst hsem
  exact sound_val h hdst (by simp [ho]) ⟨_, run_assign ho, h1⟩
theorem sound_pick {x y z : Operand} (ho : o.op = .pick x y z) : Sound P X w0 Ω w a σ o mk e := by
  simp only [ho, opC, Option.some.injEq, Prod.mk.injEq] at hop
  obtain ⟨rfl, rfl⟩ := hop
  obtain ⟨v, u, t, rfl, h1, h2, h3⟩ := hv.inv3
  cases v <;> simp only [sem, Option.some.injEq, reduceCtorEq] at hsem
  subst hsem
  simp only [Den] at h1
  refine sound_val h hdst (by simp [ho]) ⟨_, run_pick ho h1, ?_⟩
  split <;> assumption
theorem sound_load {t : TypeId} {x : Operand} (ho : o.op = .load t x) : Sound P X w0 Ω w a σ o mk e := by
  simp only [ho, opC] at hop
  split at hop
  · rename_i n hn
    simp only [Option.some.injEq, Prod.mk.injEq] at hop
    obtain ⟨rfl, rfl⟩ := hop
    obtain ⟨v, rfl, h1⟩ := hv.inv1
    simp only [sem] at hsem
    obtain ⟨r, h2, rfl⟩ := valO_some hsem
    exact (yields_load h hdst ho hn h1 h2).sound (by simp [ho])
  · cases hop
theorem sound_bin {op : BinOp} {t u : TypeId} {x y : Operand} (ho : o.op = .binOp op t x y u) : Sound P X w0 Ω w a σ o mk e := by
  have plain : ∀ ty, binTy P t ty → k = .bin ty op → xs = [x, y] → Sound P X w0 Ω w a σ o mk e := by
    rintro ty ht rfl rfl
    obtain ⟨v, v', rfl, h1, h2⟩ := hv.inv2
    simp only [sem] at hsem
    obtain ⟨r, h3, rfl⟩ := valO_some hsem
    exact sound_val h hdst (by simp [ho]) (run_bin ho ht h1 h2 h3)
  have aggr : (∃ d, P.underlying t = some d ∧ d.isRow = true) → eqsC P op t x y = some (k, xs) → Sound P X w0 Ω w a σ o mk e := by
    intro hrow he
    unfold eqsC at he
    split at he
    · rename_i ne sh hop' hsh
      split at he
      · rename_i hg
        simp only [Option.some.injEq, Prod.mk.injEq] at he
        obtain ⟨rfl, rfl⟩ := he
        obtain ⟨v, v', rfl, h1, h2⟩ := hv.inv2
        cases v <;> cases v' <;> simp only [sem, reduceCtorEq] at hsem
        split at hsem
        · rename_i r hr
          simp only [Option.some.injEq] at hsem; subst hsem
          exact sound_val h hdst (by simp [ho]) ⟨_, run_eqs ho hop' hsh hg hrow h1 h2 hr, by simp [Den]⟩
        · cases hsem
      · cases he
    · cases he
  simp only [ho, opC] at hop
  cases hu : P.underlying t with
  | none => simp [hu] at hop
  | some d =>
    cases d <;> simp only [hu, Option.some.injEq, Prod.mk.injEq, reduceCtorEq] at hop
    case int q => exact plain 0 ⟨by simp, by simp⟩ hop.1.symm hop.2.symm
    case bool => exact plain 1 ⟨fun _ => hu, by simp⟩ hop.1.symm hop.2.symm
    case slice el => exact plain 2 ⟨by simp, fun _ => ⟨el, hu⟩⟩ hop.1.symm hop.2.symm
    case struct fs => exact aggr ⟨_, hu, rfl⟩ hop
    case array q el => exact aggr ⟨_, hu, rfl⟩ hop
theorem sound_un {op : UnOp} {t : TypeId} {x : Operand} (ho : o.op = .unOp op t x) : Sound P X w0 Ω w a σ o mk e := by
  simp only [ho, opC, Option.some.injEq, Prod.mk.injEq] at hop
  obtain ⟨rfl, rfl⟩ := hop
  obtain ⟨v, rfl, h1⟩ := hv.inv1
  simp only [sem] at hsem
  obtain ⟨r, h3, rfl⟩ := valO_some hsem
  exact sound_val h hdst (by simp [ho]) (run_un ho h1 h3)
theorem sound_conv {s d : TypeId} {x : Operand} (ho : o.op = .convert s d x) : Sound P X w0 Ω w a σ o mk e := by
  simp only [ho, opC] at hop
  split at hop
  · rename_i q q' h1 h2
    simp only [Option.some.injEq, Prod.mk.injEq] at hop
    obtain ⟨rfl, rfl⟩ := hop
    obtain ⟨v, rfl, hv1⟩ := hv.inv1
    cases v <;> simp only [sem, Option.some.injEq, reduceCtorEq] at hsem
    subst hsem
    simp only [Den] at hv1
    exact sound_val h hdst (by simp [ho]) ⟨_, run_convI ho h1 h2 hv1, by simp [Den]⟩
  · cases hop
theorem sound_mkf {f : Fn} {first caps : Array Operand} (ho : o.op = .makeFunc f first caps) : Sound P X w0 Ω w a σ o mk e := by
  simp only [ho, opC] at hop
  cases f <;> simp only [reduceCtorEq] at hop
  split at hop
  · rename_i hf
    simp only [Option.some.injEq, Prod.mk.injEq] at hop
    obtain ⟨rfl, rfl⟩ := hop
    simp only [sem, Option.some.injEq] at hsem; subst hsem
    refine sound_val h hdst (by simp [ho]) ⟨_, run_mkf ho hf, ?_⟩
    simp only [Den]
    exact ⟨caps.toList.map a.eval, by rw [← Array.toList_map]; simp only [Fk.Is, Array.toArray_toList], hv⟩
  · split at hop
    · rename_i hf
      simp only [Option.some.injEq, Prod.mk.injEq] at hop
      obtain ⟨rfl, rfl⟩ := hop
      simp only [sem, Option.some.injEq] at hsem; subst hsem
      refine sound_val h hdst (by simp [ho]) ⟨_, run_mkm ho hf, ?_⟩
      simp only [Den]
      exact ⟨first.toList.map a.eval, by rw [← Array.toList_map]; simp only [Fk.Is, Array.toArray_toList], hv⟩
    · cases hop
theorem sound_ext {x : Operand} {i : Nat} (ho : o.op = .extract x i) : Sound P X w0 Ω w a σ o mk e := by
  simp only [ho, opC, Option.some.injEq, Prod.mk.injEq] at hop
  obtain ⟨rfl, rfl⟩ := hop
  obtain ⟨v, rfl, h1⟩ := hv.inv1
  cases v <;> simp only [sem, reduceCtorEq] at hsem
  obtain ⟨r, h3, rfl⟩ := valO_some hsem
  simp only [Den] at h1
  obtain ⟨ys, h4, h5⟩ := h1
  obtain ⟨y, h6, h7⟩ := h5.get h3
  exact sound_val h hdst (by simp [ho]) ⟨y, run_ext ho h4 (by simpa using h6), h7⟩
theorem sound_field {t : TypeId} {x : Operand} {i : Nat} (ho : o.op = .field t x i) : Sound P X w0 Ω w a σ o mk e := by
  simp only [ho, opC] at hop
  split at hop
  · rename_i off u hf
    split at hop
    · rename_i n hn
      simp only [Option.some.injEq, Prod.mk.injEq] at hop
      obtain ⟨rfl, rfl⟩ := hop
      obtain ⟨v, rfl, h1⟩ := hv.inv1
      cases v <;> simp only [sem, reduceCtorEq] at hsem
      obtain ⟨r, h3, rfl⟩ := valO_some hsem
      exact sound_val h hdst (by simp [ho]) (run_field ho hf hn h1 h3)
    · cases hop
  · cases hop
theorem sound_index {t : TypeId} {x y : Operand} (ho : o.op = .index t x y) : Sound P X w0 Ω w a σ o mk e := by
  simp only [ho, opC] at hop
  split at hop
  · rename_i len el ht
    split at hop
    · rename_i n m hs hn
      simp only [Option.some.injEq, Prod.mk.injEq] at hop
      obtain ⟨rfl, rfl⟩ := hop
      obtain ⟨v, u, rfl, h1, h2⟩ := hv.inv2
      cases v <;> cases u <;> simp only [sem, reduceCtorEq] at hsem
      split at hsem
      · rename_i hc
        obtain ⟨r, h3, rfl⟩ := valO_some hsem
        exact sound_val h hdst (by simp [ho]) (run_index ho ht hs hn h1 h2 hc h3)
      · cases hsem
    · cases hop
  · cases hop
theorem sound_build {t : TypeId} {ps : Array (Nat × Operand)} (ho : o.op = .build t ps) : Sound P X w0 Ω w a σ o mk e := by
  simp only [ho, opC] at hop
  have hop' := hop
  unfold buildC at hop
  split at hop
  · rename_i zs place hz hpl
    split at hop
    · rename_i pl hp
      simp only [Option.some.injEq, Prod.mk.injEq] at hop
      obtain ⟨hk, hxs⟩ := hop
      subst hk
      simp only [sem] at hsem
      split at hsem
      · rename_i cs hcs
        simp only [Option.some.injEq] at hsem; subst hsem
        exact sound_val h hdst (by simp [ho]) (run_build ho hop' hv rfl hcs)
      · cases hsem
    · cases hop
  · cases hop
theorem sound_slice {t : TypeId} {x : Operand} {lo hi mx : Option Operand} (ho : o.op = .slice t x lo hi mx) : Sound P X w0 Ω w a σ o mk e := by
  simp only [ho, opC] at hop
  split at hop
  · rename_i el he
    split at hop
    · rename_i n hs
      split at hop
      · rename_i hn
        split at hop
        · rename_i lo' hi' mx' r0 y
          simp only [Option.some.injEq, Prod.mk.injEq] at hop
          obtain ⟨rfl, rfl⟩ := hop
          obtain ⟨v, u, rfl, h1, h2⟩ := hv.inv2
          cases v <;> (try (simp only [sem, reduceCtorEq] at hsem; done))
          rename_i tok sz es
          cases tok <;> (try (simp only [sem, reduceCtorEq] at hsem; done))
          cases u <;> simp only [sem, reduceCtorEq] at hsem
          split at hsem
          · rename_i m htk
            split at hsem
            · rename_i hc
              obtain ⟨rfl, rfl, h3, h4⟩ := hc
              simp only [Option.some.injEq] at hsem; subst hsem
              exact (yields_trunc h hdst ho he hs h1 h2 (tkOf_get htk).1 h3 h4).sound (by simp [ho])
            · cases hsem
          · cases hsem
        simp only [Option.some.injEq, Prod.mk.injEq] at hop
        obtain ⟨rfl, rfl⟩ := hop
        rw [List.map_cons] at hv
        obtain ⟨v, us, rfl, h1, h2⟩ := hv.invS
        cases v <;> (try (simp only [sem, reduceCtorEq] at hsem; done))
        case nil =>
          simp only [sem] at hsem
          split at hsem
          · rename_i b hb
            simp only [Option.some.injEq] at hsem; subst hsem
            exact (yields_slice_nil h hdst ho he hs hn.2 h1 h2 hb).sound (by simp [ho])
          · cases hsem
        case sl tok sz es =>
          cases tok with
          | none =>
            simp only [sem] at hsem
            split at hsem
            · rename_i hsz
              subst hsz
              split at hsem
              · rename_i l r hb
                simp only [Option.some.injEq] at hsem; subst hsem
                exact (yields_slice_none h hdst ho he hs hn.2 h1 h2 hb).sound (by simp [ho])
              · cases hsem
            · cases hsem
          | some tk =>
            simp only [sem] at hsem
            split at hsem
            · rename_i hsz
              subst hsz
              split at hsem
              · rename_i l r hb
                split at hsem
                · simp only [Option.some.injEq] at hsem; subst hsem
                  exact (yields_slice_some h hdst ho he hs hn.2 h1 h2 hb).sound (by simp [ho])
                · cases hsem
              · cases hsem
            · cases hsem
      · cases hop
    · cases hop
  · cases hop
theorem sound_fa {t : TypeId} {x : Operand} {i : Nat} (ho : o.op = .fieldAddr t x i) : Sound P X w0 Ω w a σ o mk e := by
  simp only [ho, opC] at hop
  split at hop
  · rename_i off u hf
    split at hop
    · rename_i n hn
      split at hop
      · rename_i hn0
        simp only [Option.some.injEq, Prod.mk.injEq] at hop
        obtain ⟨rfl, rfl⟩ := hop
        obtain ⟨v, rfl, h1⟩ := hv.inv1
        cases v <;> simp only [sem, Option.some.injEq, reduceCtorEq] at hsem
        · subst hsem
          obtain ⟨b, h3, h4⟩ := den_move_ref (off := off) h1
          exact sound_val h hdst (by simp [ho]) ⟨_, run_faOp ho hf hn hn0 h3, h4⟩
        · subst hsem
          obtain ⟨b, q, h3, h4⟩ := den_move_cref (off := off) h1
          exact sound_val h hdst (by simp [ho]) ⟨_, run_faOp ho hf hn hn0 h3, h4⟩
        · subst hsem
          obtain ⟨b, q, h3, h4⟩ := den_move_gref (off := off) h1
          exact sound_val h hdst (by simp [ho]) ⟨_, run_faOp ho hf hn hn0 h3, h4⟩
        · subst hsem
          obtain ⟨b, q, h3, h4⟩ := den_move_eref (off := off) h1
          exact sound_val h hdst (by simp [ho]) ⟨_, run_faOp ho hf hn hn0 h3, h4⟩
      · cases hop
    · cases hop
  · cases hop
theorem sound_ia {t : TypeId} {x y : Operand} (ho : o.op = .indexAddr t x y) : Sound P X w0 Ω w a σ o mk e := by
  simp only [ho, opC] at hop
  split at hop
  · rename_i el ht
    split at hop
    · rename_i n hs
      split at hop
      · simp only [Option.some.injEq, Prod.mk.injEq] at hop
        obtain ⟨rfl, rfl⟩ := hop
        obtain ⟨v, u, rfl, h1, h2⟩ := hv.inv2
        cases v <;> (try (simp only [sem, reduceCtorEq] at hsem; done))
        rename_i tok sz es
        cases u <;> (try (cases tok <;> simp only [sem, reduceCtorEq] at hsem; done))
        rename_i q i
        cases tok with
        | none =>
          simp only [sem] at hsem
          split at hsem
          · rename_i hc
            obtain ⟨rfl, h0⟩ := hc
            split at hsem
            · rename_i cs hcs
              simp only [Option.some.injEq] at hsem; subst hsem
              exact sound_val h hdst (by simp [ho]) (ixs_none ho ht hs h2 h1 h0 hcs)
            · cases hsem
          · cases hsem
        | some tk =>
          simp only [sem] at hsem
          split at hsem
          · rename_i hc
            obtain ⟨rfl, h0⟩ := hc
            split at hsem
            · rename_i cs hcs
              simp only [Option.some.injEq] at hsem; subst hsem
              exact sound_val h hdst (by simp [ho]) (ixs_some ho ht hs h2 h1 h0 hcs)
            · cases hsem
          · cases hsem
      · cases hop
    · cases hop
  · rename_i len el ht
    split at hop
    · rename_i n hs
      split at hop
      · simp only [Option.some.injEq, Prod.mk.injEq] at hop
        obtain ⟨rfl, rfl⟩ := hop
        obtain ⟨v, u, rfl, h1, h2⟩ := hv.inv2
        cases v <;> (try (simp only [sem, reduceCtorEq] at hsem; done)) <;> cases u <;> (try (simp only [sem, reduceCtorEq] at hsem; done)) <;> simp only [sem] at hsem <;> split at hsem <;> (try (cases hsem; done))
        · rename_i hc
          simp only [Option.some.injEq] at hsem; subst hsem
          obtain ⟨b, h3, h4⟩ := den_move_ref h1
          exact sound_val h hdst (by simp [ho]) ⟨_, run_ixaOp ho ht hs h2 hc h3, h4⟩
        · rename_i hc
          simp only [Option.some.injEq] at hsem; subst hsem
          obtain ⟨b, q, h3, h4⟩ := den_move_cref h1
          exact sound_val h hdst (by simp [ho]) ⟨_, run_ixaOp ho ht hs h2 hc h3, h4⟩
        · rename_i hc
          simp only [Option.some.injEq] at hsem; subst hsem
          obtain ⟨b, q, h3, h4⟩ := den_move_gref h1
          exact sound_val h hdst (by simp [ho]) ⟨_, run_ixaOp ho ht hs h2 hc h3, h4⟩
        · rename_i hc
          simp only [Option.some.injEq] at hsem; subst hsem
          obtain ⟨b, q, h3, h4⟩ := den_move_eref h1
          exact sound_val h hdst (by simp [ho]) ⟨_, run_ixaOp ho ht hs h2 hc h3, h4⟩
      · cases hop
    · cases hop
  · cases hop
theorem sound_nilc {x : Operand} (ho : o.op = .nilCheck x) : Sound P X w0 Ω w a σ o mk e := by
  simp only [ho, opC, Option.some.injEq, Prod.mk.injEq] at hop
  obtain ⟨rfl, rfl⟩ := hop
  obtain ⟨v, rfl, h1⟩ := hv.inv1
  have : v.isPtr = true ∧ e = .val v := by
    cases v <;> simp only [sem, Option.some.injEq, reduceCtorEq] at hsem <;> exact ⟨rfl, hsem.symm⟩
  obtain ⟨h2, rfl⟩ := this
  exact sound_val h hdst (by simp [ho]) ⟨_, run_nilcOp ho h2 h1, h1⟩
end ops
end
end Go.Lo

/- Every operation, second part: what makes, writes and calls. -/
namespace Go.Lo
open Go.RowKit (Below)
section
variable {P : Program} {X : Sc} {w0 w : World} {Ω : Own} {a : Act} {σ : St} {o : Oper} {mk : Bool}
section ops
variable {call : Nat → List V → Option V} {dr al : Bool} {root : Option Nat} {k : K} {xs : List Operand} {vs : List V} {e : Eff} {ex : List Nat}
  (h : Inv X w0 Ω w a.tmps σ) (hdst : ∀ d, o.dst = some d → d < a.tmps.size) (hv : DenL Ω w vs (xs.map a.eval))
  (hsem : sem call (bxOf σ.fr ex) (tkOf σ.tk ex) (o.dst.getD 0) k vs = some e)
include h hdst hv hsem

theorem sound_alloc (hop : opC P o.op dr al mk root = some (k, xs)) (hmd : ∃ d, o.dst = some d ∧ Fresh Ω d) {t : TypeId} (ho : o.op = .alloc t) : Sound P X w0 Ω w a σ o true e := by
  obtain ⟨d, hd, hf⟩ := hmd
  simp only [ho, opC] at hop
  split at hop
  · rename_i zs hz
    simp only [Option.some.injEq, Prod.mk.injEq] at hop
    obtain ⟨rfl, rfl⟩ := hop
    have := hv.inv0; subst this
    simp only [sem, Option.some.injEq] at hsem; subst hsem
    unfold zeroD at hz
    split at hz
    · rename_i i hi
      split at hz
      · rename_i z hzz
        simp only [Option.some.injEq] at hz; subst hz
        refine (Yields.box h hd (hdst d hd) hf (xs := z.cells.toList) (T := t) (by rw [run_alloc ho hi hzz, Array.toArray_toList]) ?_ ?_).sound (by simp [ho])
        · generalize z.cells.toList = l
          induction l with
          | nil => exact DenL.nil
          | cons x l ih =>
            rw [List.map_cons]
            refine DenL.cons ?_ ih
            split
            · rename_i v hv
              split
              · exact valV_den x v hv
              · simp [Den]
            · simp [Den]
        · intro v hv
          obtain ⟨x, _, rfl⟩ := List.mem_map.1 hv
          split
          · split
            · rename_i hc; exact .inl hc
            · exact .inr rfl
          · exact .inr rfl
      · cases hz
    · cases hz
  · cases hop
theorem sound_box (hop : opC P o.op dr al mk root = some (k, xs)) (hmd : ∃ d, o.dst = some d ∧ Fresh Ω d) {t : TypeId} {x : Operand} (ho : o.op = .box t x) : Sound P X w0 Ω w a σ o true e := by
  obtain ⟨d, hd, hf⟩ := hmd
  simp only [ho, opC] at hop
  split at hop
  · simp only [Option.some.injEq, Prod.mk.injEq] at hop
    obtain ⟨rfl, rfl⟩ := hop
    obtain ⟨v, rfl, h1⟩ := hv.inv1
    simp only [sem] at hsem
    split at hsem
    · rename_i hc
      simp only [Option.some.injEq] at hsem; subst hsem
      exact (Yields.box h hd (hdst d hd) hf (xs := (a.eval x).cells.toList) (T := t) (by rw [run_box ho, Array.toArray_toList]) (Den.cells hc h1) (cells_cellOk hc)).sound (by simp [ho])
    · cases hsem
  · cases hop
theorem sound_store (hop : opC P o.op dr al mk root = some (k, xs)) {t : TypeId} {x y : Operand} (ho : o.op = .store t x y) : Sound P X w0 Ω w a σ o mk e := by
  simp only [ho, opC] at hop
  split at hop
  · rename_i n hn
    simp only [Option.some.injEq, Prod.mk.injEq] at hop
    obtain ⟨rfl, rfl⟩ := hop
    obtain ⟨v, u, rfl, h1, h2⟩ := hv.inv2
    cases v <;> (try (simp only [sem, reduceCtorEq] at hsem; done))
    case ref s off =>
      simp only [sem] at hsem
      split at hsem
      · rename_i hc
        split at hsem
        · rename_i cs hb
          split at hsem
          · rename_i cs' hs
            simp only [Option.some.injEq] at hsem; subst hsem
            exact (yields_store h hdst ho hn h1 h2 hc.1 hc.2.1 hc.2.2.1 hb hs).sound (by simp [ho])
          · cases hsem
        · cases hsem
      · cases hsem
    case eref u' m i off cs =>
      cases root with
      | some r => simp only [sem, reduceCtorEq] at hsem
      | none =>
        simp only [sem] at hsem
        split at hsem
        · rename_i v' m' hfz htk
          split at hsem
          · rename_i hc
            obtain ⟨rfl, hc2, hc3⟩ := hc
            split at hsem
            · rename_i cs' hs
              simp only [Option.some.injEq] at hsem; subst hsem
              exact (yields_est h hdst ho hn h1 h2 hfz hc2 hc3 htk hs).sound (by simp [ho])
            · cases hsem
          · cases hsem
        · cases hsem
  · cases hop
theorem sound_buildSlice (hop : opC P o.op dr al mk root = some (k, xs)) (hmd : ∃ d, o.dst = some d ∧ Fresh Ω d) {t : TypeId} {len : Nat} {ps : Array (Nat × Operand)} (ho : o.op = .buildSlice t len ps) : Sound P X w0 Ω w a σ o true e := by
  obtain ⟨d, hd, hf⟩ := hmd
  simp only [ho, opC] at hop
  split at hop
  · rename_i el he
    split at hop
    · rename_i n z hs hz
      split at hop
      · rename_i hn
        simp only [Option.some.injEq, Prod.mk.injEq] at hop
        obtain ⟨rfl, rfl⟩ := hop
        simp only [sem] at hsem
        split at hsem
        · rename_i es ts hfl
          split at hsem
          · simp only [Option.some.injEq] at hsem; subst hsem
            rw [hd]
            simp only [Option.getD_some]
            have := yields_buildSlice (P := P) h ho he hs hz hn hd (hdst d hd) hf hv hfl
            exact this.sound (by simp [ho])
          · cases hsem
        · cases hsem
      · cases hop
    · cases hop
  · cases hop
theorem sound_makeSlice (hop : opC P o.op dr al mk root = some (k, xs)) (hmd : ∃ d, o.dst = some d ∧ Fresh Ω d) {t : TypeId} {x y : Operand} (ho : o.op = .makeSlice t x y) : Sound P X w0 Ω w a σ o true e := by
  obtain ⟨d, hd, hf⟩ := hmd
  simp only [ho, opC] at hop
  split at hop
  · rename_i el he
    split at hop
    · rename_i n b z hs hb hz
      split at hop
      · rename_i hn
        simp only [Option.some.injEq, Prod.mk.injEq] at hop
        obtain ⟨rfl, rfl⟩ := hop
        obtain ⟨v, u, rfl, h1, h2⟩ := hv.inv2
        cases v <;> (try (simp only [sem, reduceCtorEq] at hsem; done)) <;> cases u <;> simp only [sem, reduceCtorEq] at hsem
        split at hsem
        · rename_i hc
          simp only [Option.some.injEq] at hsem; subst hsem
          rw [hd]
          simp only [Option.getD_some]
          have := yields_makeSlice (P := P) h ho he hs hb hz hn hd (hdst d hd) hf h1 h2 hc
          exact this.sound (by simp [ho])
        · cases hsem
      · cases hop
    · cases hop
  · cases hop
theorem sound_append {x y : Operand} {t el : TypeId} {n b : Nat} {z : V} (hap : AppOp P o x y t el n b z) (hk : k = .append dr n b) (hxs : xs = [x, y]) (hmd : ∃ d, o.dst = some d ∧ (dr = true → (∃ y, vs = [.nil, y]) → Fresh Ω d)) : Sound P X w0 Ω w a σ o true e := by
  obtain ⟨d, hd, hf⟩ := hmd
  subst hk; subst hxs
  have hnd : ∀ c, o.op ≠ .defer c := by
    obtain ⟨c, _, _, ho, _⟩ := hap.op
    simp [ho]
  obtain ⟨v, u, rfl, h1, h2⟩ := hv.inv2
  have emptyY : ∀ {q : Option Nat} {sz : Nat}, Den Ω w (.sl q sz []) (a.eval y) → ∃ q c, a.eval y = .slice q 0 c := fun hy => by
    obtain ⟨p, k, hk⟩ := sl_len hy
    exact ⟨p, k, hk⟩
  have nilY : Den Ω w .nil (a.eval y) → ∃ q c, a.eval y = .slice q 0 c := fun hy => by
    simp only [Den] at hy
    exact ⟨_, _, hy⟩
  have nilX : Den Ω w .nil (a.eval x) → ∃ p n k, a.eval x = .slice p n k ∧ n ≤ k := fun hx => by
    simp only [Den] at hx
    exact ⟨_, _, _, hx, Nat.le_refl _⟩
  cases v <;> (try (simp only [sem, reduceCtorEq] at hsem; done))
  case nil =>
    cases u <;> (try (simp only [sem, reduceCtorEq] at hsem; done))
    case nil =>
      simp only [sem, Option.some.injEq] at hsem; subst hsem
      exact (yields_append_empty h hdst hap h1 (nilX h1) (nilY h2)).sound hnd
    case sl tok sz es =>
      simp only [sem] at hsem
      split at hsem
      · rename_i hsz
        subst hsz
        split at hsem
        · simp only [Option.some.injEq] at hsem; subst hsem
          exact (yields_append_empty h hdst hap h1 (nilX h1) (emptyY h2)).sound hnd
        · split at hsem
          · rename_i hb
            split at hsem
            · rename_i hdr
              simp only [Option.some.injEq] at hsem; subst hsem
              rw [hd]
              simp only [Option.getD_some]
              have := yields_append_new h hap hd (hdst d hd) (hf hdr ⟨_, rfl⟩) h1 h2 (by simp) hb
              exact this.sound hnd
            · simp only [Option.some.injEq] at hsem; subst hsem
              rw [hd]
              simp only [Option.getD_some]
              have := yields_append_prep h hap hd (hdst d hd) h1 h2 (by simp) hb
              exact this.sound hnd
          · cases hsem
      · cases hsem
  case sl tok sz es =>
    cases tok with
    | none => simp only [sem, reduceCtorEq] at hsem
    | some tk =>
      simp only [sem] at hsem
      split at hsem
      · rename_i m wr htk
        split at hsem
        · rename_i hc
          obtain ⟨hc1, rfl⟩ := hc
          obtain ⟨htk', _⟩ := tkOf_get htk
          have ownX : ∃ p n k, a.eval x = .slice p n k ∧ n ≤ k := by
            obtain ⟨c, k, T, xs, g1, ⟨p, g2⟩, g3, g4, g5, g6, g7, g8⟩ := h.tok tk m wr htk'
            simp only [Den] at h1
            obtain ⟨b', cap', p', hx1, hx2, hx3, hx4, hx5⟩ := h1
            exact ⟨_, _, _, hx1, Nat.le_add_right _ _⟩
          cases u <;> (try (simp only [reduceCtorEq] at hsem; done))
          case nil =>
            simp only [Option.some.injEq] at hsem; subst hsem
            exact (yields_append_empty h hdst hap h1 ownX (nilY h2)).sound hnd
          case sl tok2 sz2 ys =>
            simp only at hsem
            split at hsem
            · rename_i hc2
              obtain ⟨rfl, hb⟩ := hc2
              split at hsem
              · simp only [Option.some.injEq] at hsem; subst hsem
                exact (yields_append_empty h hdst hap h1 ownX (emptyY h2)).sound hnd
              · simp only [Option.some.injEq] at hsem; subst hsem
                exact (yields_append_more h hdst hap h1 htk' hc1 h2 (by simp) hb).sound hnd
            · cases hsem
        · cases hsem
      · cases hsem
theorem sound_appz {x y : Operand} {t el : TypeId} {n b : Nat} {z : V} (hap : AppZ P o x y t el n b z) (hk : k = .appz n b z.cells) (hxs : xs = [x, y]) (hmd : ∃ d, o.dst = some d) : Sound P X w0 Ω w a σ o true e := by
  obtain ⟨d, hd⟩ := hmd
  subst hk; subst hxs
  obtain ⟨c, u0, q, ho, hc, ha1, ha2, hu⟩ := hap.op
  have hnd : ∀ c, o.op ≠ .defer c := by simp [ho]
  obtain ⟨v, u, rfl, h1, h2⟩ := hv.inv2
  cases v <;> (try (simp only [sem, reduceCtorEq] at hsem; done)) <;> cases u <;> simp only [sem, reduceCtorEq] at hsem
  rename_i k m
  split at hsem
  · rename_i hc0
    split at hsem
    · rename_i hz0
      subst hz0
      simp only [Option.some.injEq] at hsem; subst hsem
      refine sound_val h hdst hnd ⟨.slice none 0 0, ?_, by simp [Den]⟩
      simp only [Den] at h1 h2
      obtain ⟨i, hi, _⟩ := info_size hap.size
      have ha1 : c.args = #[x, y] := Array.ext' (by simp [ha1])
      have ha2 : c.argTypes = #[t, u0] := Array.ext' (by simp [ha2])
      have hw : IntKind.i64.wrap 0 = 0 := by rw [IntKind.wrap_i64]; omega
      simp [execOp, ho, resolve, invoke, hc, builtin, ha1, ha2, h1, h2, Builtin.append_, run_underlying (elemC_spec hap.elem), run_underlying hu, sizeOf, typeInfo, hi, asInt, asIntOf, hw]
    · rename_i hz0
      simp only [Option.some.injEq] at hsem; subst hsem
      rw [hd]
      simp only [Option.getD_some]
      have := yields_appz h hap hd (hdst d hd) h1 h2 (by omega) hc0.2
      exact this.sound hnd
  · cases hsem
end ops
/-! ### Maps from integers to slices -/
open Go.Maps (Keyed int_keyed keyOf_int_mk)
open Go.ChangeMaps (setBlock)
theorem mapC_spec {t : TypeId} (h : mapC P t = true) : ∃ k e i, P.underlying t = some (.map k e) ∧ P.underlying k = some (.int .i64) ∧ P.info? e = some i ∧ i.zero = some (.slice none 0 0) := by
  unfold mapC at h
  split at h
  · rename_i k e hu
    split at h
    · rename_i i hk hi
      split at h
      · rename_i hz
        exact ⟨k, e, i, hu, hk, hi, hz⟩
      · cases h
    · cases h
  · cases h
theorem int_wf {n : Int} (h : -9223372036854775808 ≤ n ∧ n ≤ 9223372036854775807) : (Lit.int .i64 n).wf = true := by
  simp only [Lit.wf, Bool.and_eq_true, decide_eq_true_eq]
  exact h
def KeysI (es : Array MapEntry) : Prop := ∀ e ∈ es.toList, ∃ n, e.key = .int .i64 n ∧ (Lit.int .i64 n).wf = true
theorem KeysI.read {k : TypeId} (hk : P.underlying k = some (.int .i64)) {es : Array MapEntry} (h : KeysI es) : ∀ e ∈ es.toList, ∃ l, keyOf P k e.key = some l := fun e he => by
  obtain ⟨n, h1, h2⟩ := h e he
  exact ⟨_, by rw [h1]; exact keyOf_int_mk hk h2⟩
theorem map_look {t k e : TypeId} {i : TypeInfo} (ht : P.underlying t = some (.map k e)) (hk : P.underlying k = some (.int .i64)) (hi : P.info? e = some i) (hz : i.zero = some (.slice none 0 0)) {b : Nat} {es : Array MapEntry} {clk : Nat}
    (hb : w.heap[b]? = some (.map es clk)) (hes : KeysI es) {n : Int} (hn : (Lit.int .i64 n).wf = true) :
    ((Instr.lookup t (.map (some b)) (.int .i64 n) false).run P w = .ok (.slice none 0 0) w ∧ ∀ x ∈ es.toList, x.key ≠ .int .i64 n) ∨
    ∃ e0 ∈ es.toList, e0.key = .int .i64 n ∧ (Instr.lookup t (.map (some b)) (.int .i64 n) false).run P w = .ok e0.val w := by
  have K : Keyed P k := int_keyed hk
  have hkey := keyOf_int_mk (P := P) hk hn
  have hzz : (zeroValue e).run P w = .ok (.slice none 0 0) w := by simp [zeroValue, typeInfo, hi, hz]
  rcases K.find w hkey es.toList (hes.read hk) with ⟨h1, h2⟩ | ⟨j, e0, h1, h2, h3⟩
  · exact .inl ⟨by simp [Instr.lookup, run_underlying ht, MapKept.run_getObj_map hb, K.check w _ hkey, h1, hzz, Result.andThen], h2⟩
  · exact .inr ⟨e0, List.mem_of_getElem? h2, h3, by simp [Instr.lookup, run_underlying ht, MapKept.run_getObj_map hb, K.check w _ hkey, h1, Result.andThen]⟩
theorem map_store {t k e : TypeId} (ht : P.underlying t = some (.map k e)) (hk : P.underlying k = some (.int .i64)) {b : Nat} {es : Array MapEntry} {clk : Nat}
    (hb : w.heap[b]? = some (.map es clk)) (hes : KeysI es) (hnd : (es.toList.map (·.key)).Nodup) {n : Int} (hn : (Lit.int .i64 n).wf = true) (val : Value) :
    ∃ es' clk', (Instr.mapUpdate t (.map (some b)) (.int .i64 n) val).run P w = .ok () (setBlock w b (.map es' clk')) ∧ (∀ x ∈ es'.toList, (x ∈ es.toList ∧ x.key ≠ .int .i64 n) ∨ (x.key = .int .i64 n ∧ x.val = val)) ∧
      (∀ x ∈ es.toList, x.key ≠ .int .i64 n → x ∈ es'.toList) ∧ (∃ x ∈ es'.toList, x.key = .int .i64 n) ∧ (es'.toList.map (·.key)).Nodup := by
  have K : Keyed P k := int_keyed hk
  have hkey := keyOf_int_mk (P := P) hk hn
  generalize (.int .i64 n : Value) = key at *
  rcases K.find w hkey es.toList (hes.read hk) with ⟨h1, h2⟩ | ⟨j, e0, h1, h2, h3⟩
  · refine ⟨es.push ⟨key, val, clk⟩, clk + 1, ?_, ?_, ?_, ⟨⟨key, val, clk⟩, by simp, rfl⟩, ?_⟩
    · simp [Instr.mapUpdate, run_underlying ht, MapKept.run_getObj_map hb, K.check w false hkey, h1, MapKept.run_setObj_map _ hb, Result.andThen, setBlock]
    · intro x hx
      simp only [Array.toList_push, List.mem_append, List.mem_singleton] at hx
      rcases hx with hx | rfl
      · exact .inl ⟨hx, h2 x hx⟩
      · exact .inr ⟨rfl, rfl⟩
    · intro x hx _
      simp only [Array.toList_push, List.mem_append]
      exact .inl hx
    · simp only [Array.toList_push, List.map_append, List.map_cons, List.map_nil]
      rw [List.nodup_append]
      refine ⟨hnd, by simp, fun a ha c hc => ?_⟩
      rw [List.mem_singleton] at hc; subst hc
      obtain ⟨x, hx, rfl⟩ := List.mem_map.1 ha
      exact h2 x hx
  · have hj : es[j]? = some e0 := by simpa using h2
    have hjl : j < es.toList.length := (List.getElem?_eq_some_iff.1 h2).1
    have hlist : (es.modify j (fun e' => { e' with key := key, val := val })).toList = es.toList.set j { e0 with key := key, val := val } := by rw [Array.toList_modify, Go.ChangeMaps.modify_eq_set _ _ _ _ h2]
    have hmap : (es.toList.set j { e0 with key := key, val := val }).map (·.key) = es.toList.map (·.key) := by
      rw [List.map_set]
      apply List.ext_getElem?
      intro i
      rw [List.getElem?_set]
      split
      · rename_i e
        subst e
        rw [if_pos (by simpa using hjl), List.getElem?_map, h2]
        simp [h3]
      · rfl
    refine ⟨es.modify j (fun e' => { e' with key := key, val := val }), clk, ?_, ?_, ?_, ?_, by rw [hlist, hmap]; exact hnd⟩
    · simp [Instr.mapUpdate, run_underlying ht, MapKept.run_getObj_map hb, K.check w false hkey, h1, hj, h3, K.stays w hkey, MapKept.run_setObj_map _ hb, Result.andThen, setBlock]
    · intro x hx
      rw [hlist] at hx
      obtain ⟨i, hi, ex⟩ := List.getElem_of_mem hx
      rw [List.getElem_set] at ex
      split at ex
      · subst ex; exact .inr ⟨rfl, rfl⟩
      · rename_i hne
        have hi' : i < es.toList.length := by simpa using hi
        refine .inl ⟨ex ▸ List.getElem_mem hi', fun hk2 => hne ?_⟩
        have q1 : (es.toList.map (·.key))[i]? = some key := by rw [List.getElem?_map, List.getElem?_eq_getElem hi', ex]; simp [hk2]
        have q2 : (es.toList.map (·.key))[j]? = some key := by rw [List.getElem?_map, h2]; simp [h3]
        exact (List.getElem?_inj (by simpa using hjl) hnd).1 (by rw [q2, q1])
    · intro x hx hne
      rw [hlist]
      obtain ⟨i, hi, ex⟩ := List.getElem_of_mem hx
      have : j ≠ i := fun e => by
        subst e
        rw [List.getElem?_eq_getElem hi] at h2
        injection h2 with h2
        exact hne (by rw [← ex, h2, h3])
      exact List.mem_iff_getElem?.2 ⟨i, by rw [List.getElem?_set_ne this, List.getElem?_eq_getElem hi, ex]⟩
    · exact ⟨{ e0 with key := key, val := val }, by rw [hlist]; exact List.mem_iff_getElem?.2 ⟨j, by rw [List.getElem?_set_self hjl]⟩, rfl⟩
end
end Go.Lo

/- A box is handed to a function that turns it. -/
namespace Go.Lo
section
variable {P : Program} {X : Sc} {w0 w w1 : World} {Ω Ω1 : Own} {a : Act} {σ : St} {o : Oper} {mk : Bool}

theorem killSL_eq (s : Nat) : ∀ cs, killSL s cs = cs.map (V.killS s)
  | [] => rfl
  | v :: vs => by simp only [killSL, List.map_cons, killSL_eq s vs]
theorem get_killSF {s : Nat} : ∀ {l : List (Nat × V)} {u : Nat} {v : V}, get (killSF s l) u = some v → ∃ v0, get l u = some v0 ∧ v = v0.killS s
  | [], u, v, h => by simp [killSF, get] at h
  | (k, v0) :: l, u, v, h => by
    simp only [killSF, get] at h ⊢
    split at h
    · rename_i e; rw [if_pos e]; injection h with h; exact ⟨v0, rfl, h.symm⟩
    · rename_i e; rw [if_neg e]; exact get_killSF h
theorem killS_cell1 {s : Nat} : ∀ (v : V), v.cellOk = true → (v.killS s).cellOk = true ∨ v.killS s = .dead
  | .bool _, _ => .inl rfl
  | .int _ _, _ => .inl rfl
  | .nil, _ => .inl rfl
  | .sl none _ _, _ => .inl rfl
  | .sl (some u) sz es, _ => by
    simp only [V.killS]
    split
    · exact .inr rfl
    · exact .inl rfl
  | .fn _ _, _ => .inl rfl
  | .ref _ _, _ => .inl rfl
  | .cref _, _ => .inl rfl
  | .gref _, _ => .inl rfl
  | .np, _ => .inl rfl
  | .bag _ _, _ => .inl rfl
  | .eref u m j off cs, _ => by
    simp only [V.killS]
    split
    · exact .inr rfl
    · exact .inl rfl
  | .und, h => by simp [V.cellOk] at h
  | .dead, h => by simp [V.cellOk] at h
  | .agg _, h => by simp [V.cellOk] at h
  | .tup _, h => by simp [V.cellOk] at h
  | .box _, h => by simp [V.cellOk] at h
  | .mbox _, h => by simp [V.cellOk] at h
  | .mref _, h => by simp [V.cellOk] at h
theorem killS_cellOk {s : Nat} : ∀ {vs : List V}, (∀ v ∈ vs, v.cellOk = true ∨ v = .dead) → ∀ v ∈ killSL s vs, v.cellOk = true ∨ v = .dead
  | [], _, v, hv => by simp [killSL] at hv
  | u :: vs, h, v, hv => by
    simp only [killSL, List.mem_cons] at hv
    rcases hv with rfl | hv
    · rcases h u (by simp) with hu | rfl
      · exact killS_cell1 u hu
      · exact .inr rfl
    · exact killS_cellOk (fun v hv => h v (by simp [hv])) v hv
theorem lookM_killS {t : Nat} (cs : List V) (m : Int) : lookM (killSL t cs) m = (lookM cs m).map (V.killS t) := by
  rw [killSL_eq]
  refine lookM_map _ (fun _ _ => rfl) (fun v hv q k x => ?_) cs m
  cases v
  case sl u sz es =>
    cases u with
    | none => simp only [V.killS, reduceCtorEq] at x
    | some u => simp only [V.killS] at x; repeat' split at x
                all_goals cases x
  all_goals first
    | exact absurd rfl (hv _ _)
    | (simp only [V.killS, reduceCtorEq] at x; done)
    | (simp only [V.killS] at x; split at x <;> cases x)

/-- Who owns what while such a function is at work. 'ts': the arrays that are handed. -/
def Own.ent (Ω : Own) (w : World) (s : Nat) (ts : List Nat) : Own where
  o c := match Ω.o c with
    | .box u => if u = s then .box 0 else .frzb
    | .arr t p => if t / 100 = s ∧ memN t ts = true then .arr (t % 100) p else .frz
    | x => x
  lim c := match Ω.o c with
    | .box u => if u = s then 0 else blkSize w c
    | _ => Ω.lim c
  cur k := Ω.cur (s * 100 + k)
  tsz k := Ω.tsz (s * 100 + k)
/-- And behind it. -/
def Own.ret (Ω Ω1 : Own) (n s : Nat) (ts : List Nat) : Own where
  o c := if c < n then (match Ω.o c with
      | .box u => .box u
      | .arr t _ => if t / 100 = s then (if memN t ts = true then (match Ω1.o c with
          | .arr k q => if k < 100 then .arr (s * 100 + k) q else .frz
          | .frz => .frz
          | _ => .out) else .frz) else .arr t true
      | x => x)
    else (match Ω1.o c with
      | .arr k q => if k < 100 then .arr (s * 100 + k) q else .frz
      | .frz => .frz
      | _ => .out)
  lim c := if c < n then (match Ω.o c with
      | .arr t _ => if t / 100 = s ∧ memN t ts = true then Ω1.lim c else Ω.lim c
      | _ => Ω.lim c)
    else Ω1.lim c
  cur t := if t / 100 = s then Ω1.cur (t % 100) else Ω.cur t
  tsz t := if t / 100 = s then Ω1.tsz (t % 100) else Ω.tsz t
  yl := Ω.yl
theorem ent_mine {s : Nat} {ts : List Nat} {c : Nat} (h : (Ω.ent w s ts).mine c) : Ω.o c = .box s ∨ ∃ t p, Ω.o c = .arr t p ∧ t / 100 = s ∧ memN t ts = true := by
  rcases h with ⟨u, h⟩ | ⟨t, p, h⟩
  · simp only [Own.ent] at h
    cases ho : Ω.o c <;> rw [ho] at h <;> simp only [reduceCtorEq] at h
    · split at h
      · rename_i e; subst e; exact .inl rfl
      · cases h
    · split at h <;> cases h
  · simp only [Own.ent] at h
    cases ho : Ω.o c <;> rw [ho] at h <;> simp only [reduceCtorEq] at h
    · split at h <;> cases h
    · rename_i t' p'
      split at h
      · rename_i e
        exact .inr ⟨t', p', rfl, e.1, e.2⟩
      · cases h
theorem ent_mine' {s : Nat} {ts : List Nat} {c : Nat} (h : Ω.o c = .box s ∨ ∃ t p, Ω.o c = .arr t p ∧ t / 100 = s ∧ memN t ts = true) : (Ω.ent w s ts).mine c := by
  rcases h with h | ⟨t, p, h, h1, h2⟩
  · exact .inl ⟨0, by simp [Own.ent, h]⟩
  · exact .inr ⟨t % 100, p, by simp [Own.ent, h, h1, h2]⟩
/-- What is known of the arrays that are handed. -/
structure Handed (Ω : Own) (w : World) (ts : List Nat) : Prop where
  wr : ∀ t, memN t ts = true → ∀ c p, Ω.o c = .arr t p → p = false
theorem ent_extM {s : Nat} {ts : List Nat} (hh : Handed Ω w ts) : ExtM Ω (Ω.ent w s ts) w w := by
  refine ⟨fun c hc => ?_, fun c hc => ?_, fun _ _ _ _ => rfl⟩
  · rcases hc with hc | ⟨t, hc⟩
    · exact .inl (by simp [Own.ent, hc])
    · have : ¬ (t / 100 = s ∧ memN t ts = true) := fun h => by
        have := hh.wr t h.2 c true hc
        cases this
      exact .inl (by simp [Own.ent, hc, this])
  · have : ∀ u, Ω.o c ≠ .box u := fun u e => by rcases hc with hc | ⟨t, hc⟩ <;> rw [hc] at e <;> cases e
    refine Nat.le_of_eq ?_
    simp only [Own.ent]
theorem unioL_den {s : Nat} {tk : List (Nat × Nat × Bool)} {ex ts : List Nat} (hh : Handed Ω w ts) : ∀ {cs cs1 : List V} {xs : List Value}, unioL s (tkOf tk ex) cs = some cs1 → (∀ t n, (t, n) ∈ tksL cs → memN t ts = true) → DenL Ω w cs xs → DenL (Ω.ent w s ts) w cs1 xs
  | [], cs1, xs, h, _, hd => by
    simp only [unioL, Option.some.injEq] at h; subst h
    simpa [DenL] using hd
  | v :: vs, cs1, xs, h, ht, hd => by
    simp only [DenL] at hd
    obtain ⟨x, ys, rfl, h2, h3⟩ := hd
    have pmc : v.pm = true → (match unioL s (tkOf tk ex) vs with
        | some r => some (v :: r)
        | none => none) = some cs1 → DenL (Ω.ent w s ts) w cs1 (x :: ys) := fun hp h => by
      split at h
      · rename_i r hr
        simp only [Option.some.injEq] at h; subst h
        exact DenL.cons (Den.extM (ent_extM hh) _ _ hp h2) (unioL_den hh hr (fun t n hm => ht t n (by simp [tksL, hm])) h3)
      · cases h
    unfold unioL at h
    split at h
    · rename_i heq; cases heq
    · rename_i t sz es vs' heq
      simp only [List.cons.injEq] at heq
      obtain ⟨rfl, rfl⟩ := heq
      split at h
      · rename_i hc
        split at h
        · rename_i r hr
          simp only [Option.some.injEq] at h; subst h
          refine DenL.cons ?_ (unioL_den hh hr (fun t n hm => ht t n (by simp [tksL, hm])) h3)
          have hm := ht t es.length (by simp [tksL, V.tks])
          have hts : s * 100 + t % 100 = t := by have := hc.1; omega
          simp only [Den] at h2 ⊢
          obtain ⟨b, cap, p, g1, g2, g3, g4, g5⟩ := h2
          refine ⟨b, cap, p, g1, by simp [Own.ent, g2, hc.1, hm], by simp only [Own.ent, hts]; exact g3, by simp only [Own.ent, hts]; exact g4, ?_⟩
          refine DenE.extM (ent_extM hh) es sz b 0 ?_ (fun _ _ => rfl) g5
          simp [Own.ent, g2]
        · cases h
      · cases h
    · rename_i v' vs' hne heq
      simp only [List.cons.injEq] at heq
      obtain ⟨rfl, rfl⟩ := heq
      split at h
      · rename_i hp; exact pmc hp h
      · cases h
theorem unioL_tks {s : Nat} {tk : Nat → Option (Nat × Bool)} : ∀ {cs cs1 : List V}, unioL s tk cs = some cs1 → (∀ t n, (t, n) ∈ tksL cs → t / 100 = s ∧ tk t = some (n, true) ∧ (t % 100, n) ∈ tksL cs1) ∧ ∀ k n, (k, n) ∈ tksL cs1 → ∃ t, (t, n) ∈ tksL cs ∧ t = s * 100 + k ∧ k < 100 ∧ tk t = some (n, true)
  | [], cs1, h => by
    simp only [unioL, Option.some.injEq] at h; subst h
    exact ⟨fun t n hm => by simp [tksL] at hm, fun t n hm => by simp [tksL] at hm⟩
  | v :: vs, cs1, h => by
    have pmc : v.pm = true → (match unioL s tk vs with
        | some r => some (v :: r)
        | none => none) = some cs1 → (∀ t n, (t, n) ∈ tksL (v :: vs) → t / 100 = s ∧ tk t = some (n, true) ∧ (t % 100, n) ∈ tksL cs1) ∧ ∀ k n, (k, n) ∈ tksL cs1 → ∃ t, (t, n) ∈ tksL (v :: vs) ∧ t = s * 100 + k ∧ k < 100 ∧ tk t = some (n, true) := fun hp h => by
      split at h
      · rename_i r hr
        simp only [Option.some.injEq] at h; subst h
        have hv : v.tks = [] := by
          cases v <;> simp only [V.pm, Bool.false_eq_true] at hp <;> try rfl
          rename_i t _ _
          cases t with
          | none => rfl
          | some t => simp at hp
        obtain ⟨k1, k2⟩ := unioL_tks hr
        exact ⟨fun t n hm => by
          simp only [tksL, hv, List.nil_append] at hm ⊢
          exact k1 t n hm, fun k n hm => by
          simp only [tksL, hv, List.nil_append] at hm ⊢
          exact k2 k n hm⟩
      · cases h
    unfold unioL at h
    split at h
    · rename_i heq; cases heq
    · rename_i t sz es vs' heq
      simp only [List.cons.injEq] at heq
      obtain ⟨rfl, rfl⟩ := heq
      split at h
      · rename_i hc
        split at h
        · rename_i r hr
          simp only [Option.some.injEq] at h; subst h
          obtain ⟨k1, k2⟩ := unioL_tks hr
          refine ⟨fun u n hm => ?_, fun k n hm => ?_⟩
          · simp only [tksL, V.tks, List.singleton_append, List.mem_cons, Prod.mk.injEq] at hm ⊢
            rcases hm with ⟨rfl, rfl⟩ | hm
            · exact ⟨hc.1, hc.2, .inl ⟨rfl, rfl⟩⟩
            · obtain ⟨q1, q2, q3⟩ := k1 u n hm
              exact ⟨q1, q2, .inr q3⟩
          · simp only [tksL, V.tks, List.singleton_append, List.mem_cons, Prod.mk.injEq] at hm ⊢
            rcases hm with ⟨rfl, rfl⟩ | hm
            · exact ⟨t, .inl ⟨rfl, rfl⟩, by have := hc.1; omega, by omega, hc.2⟩
            · obtain ⟨u, q1, q2⟩ := k2 k n hm
              exact ⟨u, .inr q1, q2⟩
        · cases h
      · cases h
    · rename_i v' vs' hne heq
      simp only [List.cons.injEq] at heq
      obtain ⟨rfl, rfl⟩ := heq
      split at h
      · rename_i hp; exact pmc hp h
      · cases h
/-- The step of such a call. -/
structure IoStep (Ω Ω1 : Own) (w w1 : World) (s b : Nat) (ts : List Nat) : Prop where
  kept : Kept (Ω.ent w s ts).mine w w1
  here : Ω.o b = .box s
  box : Ω1.o b = .box 0
  old : ∀ c, c < w.heap.size → ¬ (Ω.ent w s ts).mine c → Ω1.o c = (Ω.ent w s ts).o c ∧ Ω1.lim c = (Ω.ent w s ts).lim c
  bnd : ∀ c, Ω1.o c ≠ .out → c < w1.heap.size
theorem IoStep.same {s b : Nat} {ts : List Nat} (hs : IoStep Ω Ω1 w w1 s b ts) (h : Inv X w0 Ω w a.tmps σ) {c : Nat} (hc : Ω.o c ≠ .out) (h1 : Ω.o c ≠ .box s) (h2 : ∀ t p, Ω.o c = .arr t p → ¬ (t / 100 = s ∧ memN t ts = true)) : w1.heap[c]? = w.heap[c]? :=
  hs.kept.block c (h.bnd c hc) fun hm => by
    rcases ent_mine hm with e | ⟨t, p, e, e1, e2⟩
    · exact h1 e
    · exact h2 t p e ⟨e1, e2⟩
theorem ret_old {n s : Nat} {ts : List Nat} {c : Nat} (hc : c < n) (h : ∀ t p, Ω.o c ≠ .arr t p) : (Ω.ret Ω1 n s ts).o c = Ω.o c ∧ (Ω.ret Ω1 n s ts).lim c = Ω.lim c := by
  simp only [Own.ret, if_pos hc]
  cases ho : Ω.o c <;> simp only [and_self]
  exact absurd ho (h _ _)
theorem ret_box {n s u : Nat} {ts : List Nat} {c : Nat} (h : (Ω.ret Ω1 n s ts).o c = .box u) : c < n ∧ Ω.o c = .box u := by
  simp only [Own.ret] at h
  split at h
  · rename_i hc
    refine ⟨hc, ?_⟩
    split at h
    · rename_i ho; rw [ho]; exact h
    · repeat' split at h
      all_goals cases h
    · exact h
  · repeat' split at h
    all_goals cases h
theorem ret_arr {n s t : Nat} {ts : List Nat} {c : Nat} {p : Bool} (h : (Ω.ret Ω1 n s ts).o c = .arr t p) :
    (c < n ∧ t / 100 ≠ s ∧ p = true ∧ ∃ q, Ω.o c = .arr t q) ∨ (∃ k, k < 100 ∧ t = s * 100 + k ∧ Ω1.o c = .arr k p ∧ (c < n → ∃ u q, Ω.o c = .arr u q ∧ u / 100 = s ∧ memN u ts = true)) := by
  simp only [Own.ret] at h
  split at h
  · rename_i hc
    split at h
    · cases h
    · rename_i u q ho
      split at h
      · rename_i hu
        split at h
        · rename_i hm
          split at h
          · rename_i k q' h1
            split at h
            · rename_i hk
              injection h with e1 e2
              subst e2
              exact .inr ⟨k, hk, e1.symm, h1, fun _ => ⟨u, q, ho, hu, hm⟩⟩
            · cases h
          · cases h
          · cases h
        · cases h
      · rename_i hu
        injection h with e1 e2
        subst e1; subst e2
        exact .inl ⟨hc, hu, rfl, q, ho⟩
    · rename_i _ hne
      exact absurd h (hne _ _)
  · rename_i hc
    split at h
    · rename_i k q' h1
      split at h
      · rename_i hk
        injection h with e1 e2
        subst e2
        exact .inr ⟨k, hk, e1.symm, h1, fun hlt => absurd hlt hc⟩
      · cases h
    · cases h
    · cases h
theorem ret_froz {n s : Nat} {ts : List Nat} (hh : Handed Ω w ts) {c : Nat} (hc : c < n) (h : Ω.froz c) : (Ω.ret Ω1 n s ts).froz c := by
  rcases h with h | ⟨t, h⟩
  · exact .inl (by simp [Own.ret, hc, h])
  · by_cases h1 : t / 100 = s
    · by_cases h2 : memN t ts = true
      · have := hh.wr t h2 c true h; cases this
      · exact .inl (by simp [Own.ret, hc, h, h1, h2])
    · exact .inr ⟨t, by simp [Own.ret, hc, h, h1]⟩
theorem ret_lim {n s : Nat} {ts : List Nat} {c : Nat} (hc : c < n) (h : ∀ t p, Ω.o c = .arr t p → ¬ (t / 100 = s ∧ memN t ts = true)) : (Ω.ret Ω1 n s ts).lim c = Ω.lim c := by
  simp only [Own.ret, if_pos hc]
  cases ho : Ω.o c <;> simp only
  rw [if_neg (h _ _ ho)]
theorem froz_apart {s : Nat} {ts : List Nat} (hh : Handed Ω w ts) {c : Nat} (h : Ω.froz c) : ∀ t p, Ω.o c = .arr t p → ¬ (t / 100 = s ∧ memN t ts = true) := fun t p ho h2 => by
  have hp := hh.wr t h2.2 c p ho
  subst hp
  rcases h with h | ⟨u, h⟩ <;> rw [ho] at h <;> cases h
theorem froz_box {s : Nat} {c : Nat} (h : Ω.frozp c) : Ω.o c ≠ .box s := fun e => by
  rcases h with (h | ⟨t, h⟩) | h <;> rw [e] at h <;> cases h
theorem ret_extP {s b : Nat} {ts : List Nat} (hh : Handed Ω w ts) (h : Inv X w0 Ω w a.tmps σ) (hs : IoStep Ω Ω1 w w1 s b ts) : ExtP Ω (Ω.ret Ω1 w.heap.size s ts) w w1 := by
  have key : ∀ c, Ω.frozp c → ∀ t p, Ω.o c = .arr t p → ¬ (t / 100 = s ∧ memN t ts = true) := fun c hc => by
    rcases hc with hc | hc
    · exact froz_apart hh hc
    · intro t p ho; rw [hc] at ho; cases ho
  refine ⟨fun c hc => ret_froz hh (h.bnd c (Own.froz_ne hc)) hc, fun c hc => .inr ?_, fun c hc => Nat.le_of_eq (ret_lim (h.bnd c (Own.frozp_ne hc)) (key c hc)).symm, fun c off hc _ => World.cell?_of_block (hs.same h (Own.frozp_ne hc) (froz_box hc) (key c hc)), fun c hc => ?_⟩
  · rw [(ret_old (h.bnd c (by simp [hc])) (by intro t p e; rw [hc] at e; cases e)).1, hc]
  · have hk : ∀ t p, Ω.o c = .arr t p → ¬ (t / 100 = s ∧ memN t ts = true) := fun t p e => by rw [hc] at e; cases e
    exact ⟨by rw [(ret_old (h.bnd c (by simp [hc])) (by intro t p e; rw [hc] at e; cases e)).1, hc], Nat.le_of_eq (ret_lim (h.bnd c (by simp [hc])) hk).symm,
      fun off _ => World.cell?_of_block (hs.same h (by simp [hc]) (by simp [hc]) hk)⟩
mutual
theorem Den.killSD {s b : Nat} {ts : List Nat} (hh : Handed Ω w ts) (h : Inv X w0 Ω w a.tmps σ) (hs : IoStep Ω Ω1 w w1 s b ts) : ∀ (v : V) (x : Value), Den Ω w v x → Den (Ω.ret Ω1 w.heap.size s ts) w1 (v.killS s) x
  | .und, _, hd => hd
  | .dead, _, _ => trivial
  | .bool _, _, hd => hd
  | .int _ _, _, hd => hd
  | .nil, _, hd => hd
  | .np, _, hd => hd
  | .agg cs, x, hd => by
    simp only [Den, V.killS] at hd ⊢
    obtain ⟨xs, h1, h2⟩ := hd
    exact ⟨xs, h1, DenL.killSD hh h hs cs xs h2⟩
  | .tup cs, x, hd => by
    simp only [Den, V.killS] at hd ⊢
    obtain ⟨xs, h1, h2⟩ := hd
    exact ⟨xs, h1, DenL.killSD hh h hs cs xs h2⟩
  | .fn f cs, x, hd => by
    simp only [Den, V.killS] at hd ⊢
    obtain ⟨xs, hg, h2⟩ := hd
    exact ⟨xs, hg, DenL.killSD hh h hs cs xs h2⟩
  | .sl none sz es, x, hd => Den.extP (ret_extP hh h hs) _ _ rfl hd
  | .cref cs, x, hd => Den.extP (ret_extP hh h hs) _ _ rfl hd
  | .gref cs, x, hd => Den.extP (ret_extP hh h hs) _ _ rfl hd
  | .bag sz es, x, hd => Den.extP (ret_extP hh h hs) _ _ rfl hd
  | .sl (some t) sz es, x, hd => by
    simp only [V.killS]
    split
    · trivial
    · rename_i hm
      simp only [Den] at hd ⊢
      obtain ⟨c, cap, p, h1, h2, h3, h4, h5⟩ := hd
      have hc := h.bnd c (by simp [h2])
      have ha : ∀ u q, Ω.o c = .arr u q → ¬ (u / 100 = s ∧ memN u ts = true) := fun u q e h => by rw [h2] at e; injection e with e; subst e; exact hm h.1
      have hb := hs.same h (by simp [h2]) (by simp [h2]) ha
      refine ⟨c, cap, true, h1, by simp [Own.ret, hc, h2, hm], by simp only [Own.ret, if_neg hm]; exact h3, by simp only [Own.ret, if_neg hm]; exact h4, DenE.extP (ret_extP hh h hs) es sz c 0 (Nat.le_of_eq (ret_lim hc ha).symm) (fun o _ => World.cell?_of_block hb) h5⟩
  | .ref u off, x, hd => by
    simp only [Den, V.killS] at hd ⊢
    obtain ⟨c, h1, h2⟩ := hd
    exact ⟨c, h1, by rw [(ret_old (h.bnd c (by simp [h2])) (by intro t p e; rw [h2] at e; cases e)).1, h2]⟩
  | .mref u, x, hd => by
    simp only [Den, V.killS] at hd ⊢
    obtain ⟨c, h1, h2⟩ := hd
    exact ⟨c, h1, by rw [(ret_old (h.bnd c (by simp [h2])) (by intro t p e; rw [h2] at e; cases e)).1, h2]⟩
  | .eref t n i off cs, x, hd => by
    simp only [V.killS]
    split
    · trivial
    · rename_i hm
      simp only [Den] at hd ⊢
      obtain ⟨c, p, h1, h2, h3, h4, h5, h6, h7⟩ := hd
      have hc := h.bnd c (by simp [h2])
      have ha : ∀ u q, Ω.o c = .arr u q → ¬ (u / 100 = s ∧ memN u ts = true) := fun u q e h => by rw [h2] at e; injection e with e; subst e; exact hm h.1
      have hb := hs.same h (by simp [h2]) (by simp [h2]) ha
      have ht : (Ω.ret Ω1 w.heap.size s ts).tsz t = Ω.tsz t := by simp [Own.ret, hm]
      have hcu : (Ω.ret Ω1 w.heap.size s ts).cur t = Ω.cur t := by simp [Own.ret, hm]
      rw [ht, hcu]
      exact ⟨c, true, h1, by simp [Own.ret, hc, h2, hm], h3, h4, h5, h6, DenC.extP (ret_extP hh h hs) cs c _ (Nat.le_of_eq (ret_lim hc ha).symm) (fun o _ => World.cell?_of_block hb) h7⟩
  | .box _, _, hd => hd
  | .mbox _, _, hd => hd
theorem DenL.killSD {s b : Nat} {ts : List Nat} (hh : Handed Ω w ts) (h : Inv X w0 Ω w a.tmps σ) (hs : IoStep Ω Ω1 w w1 s b ts) : ∀ (vs : List V) (xs : List Value), DenL Ω w vs xs → DenL (Ω.ret Ω1 w.heap.size s ts) w1 (killSL s vs) xs
  | [], xs, hd => by simpa [killSL, DenL] using hd
  | v :: vs, xs, hd => by
    simp only [DenL] at hd
    obtain ⟨x, ys, rfl, h2, h3⟩ := hd
    exact DenL.cons (Den.killSD hh h hs v x h2) (DenL.killSD hh h hs vs ys h3)
end
end
end Go.Lo

/- What stands behind such a call. -/
namespace Go.Lo
section
variable {P : Program} {X : Sc} {w0 w w1 : World} {Ω Ω1 : Own} {a : Act} {σ : St} {o : Oper} {mk : Bool}

/-- What is an array of the callee's behind the call. -/
theorem io_arr {s b : Nat} {ts : List Nat} (h : Inv X w0 Ω w a.tmps σ) (hs : IoStep Ω Ω1 w w1 s b ts) {c k : Nat} {p : Bool} (hk : k < 100) (h1 : Ω1.o c = .arr k p) :
    (Ω.ret Ω1 w.heap.size s ts).o c = .arr (s * 100 + k) p ∧ (Ω.ret Ω1 w.heap.size s ts).lim c = Ω1.lim c := by
  by_cases hc : c < w.heap.size
  · by_cases hm : (Ω.ent w s ts).mine c
    · rcases ent_mine hm with e | ⟨t, q, e, e1, e2⟩
      · have := h.uniq c b s e hs.here
        subst this
        rw [hs.box] at h1; cases h1
      · simp [Own.ret, hc, e, e1, e2, h1, hk]
    · have := (hs.old c hc hm).1
      rw [h1] at this
      exact (hm (.inr ⟨k, p, this.symm⟩)).elim
  · simp [Own.ret, hc, h1, hk]
theorem io_extM {s b : Nat} {ts : List Nat} (h : Inv X w0 Ω w a.tmps σ) (hs : IoStep Ω Ω1 w w1 s b ts) : ExtM Ω1 (Ω.ret Ω1 w.heap.size s ts) w1 w1 := by
  have key : ∀ c, Ω1.froz c → c < w.heap.size → (∃ t q, Ω.o c = .arr t q ∧ t / 100 = s ∧ memN t ts = true) ∨ (Ω.o c = .frz ∧ Ω1.lim c = Ω.lim c) ∨ ∃ t q, Ω.o c = .arr t q ∧ ¬ (t / 100 = s ∧ memN t ts = true) ∧ Ω1.lim c = Ω.lim c := fun c hf hc => by
    by_cases hm : (Ω.ent w s ts).mine c
    · rcases ent_mine hm with e | ⟨t, q, e, e1, e2⟩
      · have := h.uniq c b s e hs.here
        subst this
        rcases hf with hf | ⟨t, hf⟩ <;> rw [hs.box] at hf <;> cases hf
      · exact .inl ⟨t, q, e, e1, e2⟩
    · obtain ⟨g1, g2⟩ := hs.old c hc hm
      have hne : ∀ t q, (Ω.ent w s ts).o c ≠ .arr t q := fun t q e => hm (.inr ⟨t, q, e⟩)
      have hz : (Ω.ent w s ts).o c = .frz := by
        rcases hf with hf | ⟨t, hf⟩
        · rw [← g1, hf]
        · rw [g1] at hf; exact (hne _ _ hf).elim
      rw [g2]
      simp only [Own.ent] at hz ⊢
      cases ho : Ω.o c <;> rw [ho] at hz <;> simp only [reduceCtorEq] at hz
      · exact .inr (.inl ⟨rfl, rfl⟩)
      · split at hz <;> cases hz
      · rename_i t q
        refine .inr (.inr ⟨t, q, rfl, fun e => ?_, rfl⟩)
        rw [if_pos e] at hz
        cases hz
  refine ⟨fun c hf => ?_, fun c hf => ?_, fun _ _ _ _ => rfl⟩
  · by_cases hc : c < w.heap.size
    · rcases key c hf hc with ⟨t, q, e, e1, e2⟩ | ⟨e, _⟩ | ⟨t, q, e, e1, _⟩
      · rcases hf with hf | ⟨k, hf⟩
        · exact .inl (by simp [Own.ret, hc, e, e1, e2, hf])
        · by_cases hk : k < 100
          · exact .inr ⟨s * 100 + k, (io_arr h hs hk hf).1⟩
          · exact .inl (by simp [Own.ret, hc, e, e1, e2, hf, hk])
      · exact .inl (by simp [Own.ret, hc, e])
      · by_cases e3 : t / 100 = s
        · have : ¬ memN t ts = true := fun e4 => e1 ⟨e3, e4⟩
          exact .inl (by simp [Own.ret, hc, e, e3, this])
        · exact .inr ⟨t, by simp [Own.ret, hc, e, e3]⟩
    · rcases hf with hf | ⟨k, hf⟩
      · exact .inl (by simp [Own.ret, hc, hf])
      · by_cases hk : k < 100
        · exact .inr ⟨s * 100 + k, (io_arr h hs hk hf).1⟩
        · exact .inl (by simp [Own.ret, hc, hf, hk])
  · refine Nat.le_of_eq ?_
    by_cases hc : c < w.heap.size
    · rcases key c hf hc with ⟨t, q, e, e1, e2⟩ | ⟨e, e1⟩ | ⟨t, q, e, e1, e2⟩
      · simp [Own.ret, hc, e, e1, e2]
      · rw [e1]; simp [Own.ret, hc, e]
      · rw [e2]
        simp only [Own.ret, if_pos hc, e, if_neg e1]
    · simp [Own.ret, hc]
theorem io_den {s b : Nat} {ts : List Nat} (h : Inv X w0 Ω w a.tmps σ) (hs : IoStep Ω Ω1 w w1 s b ts) : ∀ {cs : List V} {xs : List Value}, (cs.all V.ioV = true) → DenL Ω1 w1 cs xs → DenL (Ω.ret Ω1 w.heap.size s ts) w1 (rnL s cs) xs
  | [], xs, _, hd => by simpa [rnL, DenL] using hd
  | v :: vs, xs, hi, hd => by
    simp only [List.all_cons, Bool.and_eq_true] at hi
    simp only [DenL] at hd
    obtain ⟨x, ys, rfl, h2, h3⟩ := hd
    refine DenL.cons ?_ (io_den h hs hi.2 h3)
    have pmc : v.pm = true → Den (Ω.ret Ω1 w.heap.size s ts) w1 v x := fun hp => Den.extM (io_extM h hs) _ _ hp h2
    have hv := hi.1
    cases v <;> simp only [V.ioV, V.pm, Bool.false_eq_true] at hv <;> try exact pmc rfl
    · rename_i t sz es
      cases t with
      | none => exact pmc rfl
      | some k =>
        simp only [decide_eq_true_eq] at hv
        simp only [Den, V.rn] at h2 ⊢
        obtain ⟨c, cap, p, g1, g2, g3, g4, g5⟩ := h2
        obtain ⟨k1, k2⟩ := io_arr h hs hv g2
        have hd1 : (s * 100 + k) / 100 = s := by omega
        have hd2 : (s * 100 + k) % 100 = k := by omega
        exact ⟨c, cap, p, g1, k1, by simp only [Own.ret, hd1, hd2, if_true]; exact g3, by simp only [Own.ret, hd1, hd2, if_true]; exact g4, DenE.extM (io_extM h hs) es sz c 0 (Nat.le_of_eq k2.symm) (fun _ _ => rfl) g5⟩
    · rename_i f cs
      cases f with
      | f n =>
        cases cs with
        | nil => exact pmc rfl
        | cons _ _ => simp at hv
      | m n => simp at hv
      | y n => simp at hv
theorem io_tok {s b : Nat} {ts : List Nat} (h : Inv X w0 Ω w a.tmps σ) (hs : IoStep Ω Ω1 w w1 s b ts) {k n : Nat} (hk : k < 100) (ht : TokOk Ω1 w1 k n true) : TokOk (Ω.ret Ω1 w.heap.size s ts) w1 (s * 100 + k) n true := by
  obtain ⟨c, cap, T, xs, g1, ⟨p, g2⟩, g3, g4, g5, g6, g7, g8⟩ := ht
  obtain ⟨k1, k2⟩ := io_arr h hs hk g2
  have hd1 : (s * 100 + k) / 100 = s := by omega
  have hd2 : (s * 100 + k) % 100 = k := by omega
  refine ⟨c, cap, T, xs, by simp only [Own.ret, hd1, hd2, if_true]; exact g1, ⟨p, k1⟩, g3, by simp only [Own.ret, hd1, hd2, if_true]; exact g4, g5, by rw [k2]; simp only [Own.ret, hd1, hd2, if_true]; exact g6, by simp only [Own.ret, hd1, hd2, if_true]; exact g7, fun hw d q hd => ?_⟩
  rcases ret_arr hd with ⟨_, e, _⟩ | ⟨k', hk', e, e1, _⟩
  · exact (e hd1).elim
  · have : k' = k := by omega
    subst this
    exact g8 hw d q e1
theorem ioV_cell {v : V} (h : v.ioV = true) (s : Nat) : (v.rn s).cellOk = true := by
  cases v <;> simp only [V.ioV, V.pm, Bool.false_eq_true] at h <;> try rfl
  rename_i t sz es
  cases t <;> rfl
theorem rnL_mem {s : Nat} : ∀ {cs : List V}, ∀ v ∈ rnL s cs, ∃ u ∈ cs, v = u.rn s
  | [], v, h => by simp [rnL] at h
  | c :: cs, v, h => by
    simp only [rnL, List.mem_cons] at h
    rcases h with rfl | h
    · exact ⟨c, by simp, rfl⟩
    · obtain ⟨u, h1, h2⟩ := rnL_mem v h
      exact ⟨u, by simp [h1], h2⟩
theorem Inv.io {s b : Nat} {ts : List Nat} (h : Inv X w0 Ω w a.tmps σ) (hh : Handed Ω w ts) (hs : IoStep Ω Ω1 w w1 s b ts) {cs cs0 : List V} {xs1 : List Value} {T1 : TypeId} (h0 : get σ.fr s = some (.box cs0)) (hi : ioL cs = true) (hd : DenL Ω1 w1 cs xs1) (hb : w1.heap[b]? = some (.cells xs1.toArray T1 (0, 0))) (ht : ∀ k n, (k, n) ∈ tksL cs → TokOk Ω1 w1 k n true) :
    Inv X w0 (Ω.ret Ω1 w.heap.size s ts) w1 a.tmps { σ with fr := Lo.put (killSF s σ.fr) s (.box (rnL s cs)), tk := addT (tksL (rnL s cs)) (protAll (prepT [s] σ.tk)) } := by
  unfold ioL at hi
  simp only [Bool.and_eq_true] at hi
  have notmine : ∀ c, ¬ Ω.mine c → ¬ (Ω.ent w s ts).mine c := fun c hc hm => by
    rcases ent_mine hm with e | ⟨t, p, e, _⟩
    · exact hc (.inl ⟨s, e⟩)
    · exact hc (.inr ⟨t, p, e⟩)
  have same : ∀ c, c < w.heap.size → ¬ Ω.mine c → (Ω.ret Ω1 w.heap.size s ts).o c = Ω.o c ∧ (Ω.ret Ω1 w.heap.size s ts).lim c = Ω.lim c := fun c hc hm => ret_old hc fun t p e => hm (.inr ⟨t, p, e⟩)
  have bnd : ∀ c, (Ω.ret Ω1 w.heap.size s ts).o c ≠ .out → c < w1.heap.size := fun c hne => by
    by_cases hc : c < w.heap.size
    · exact Nat.lt_of_lt_of_le hc hs.kept.size
    · refine hs.bnd c fun e => hne ?_
      simp [Own.ret, hc, e]
  have old : ∀ c, c < w0.heap.size → ¬ X.x c → ¬ Ω.mine c := fun c hc hX hm => by
    rcases hm with ⟨u, e⟩ | ⟨t, p, e⟩
    · exact h.oldBox hc hX u e
    · exact h.oldArr hc hX t p e
  refine ⟨⟨hs.kept.os.trans h.kept.os, hs.kept.tape.trans h.kept.tape, hs.kept.output.trans h.kept.output, Nat.le_trans h.kept.size hs.kept.size, fun c hc hX => (hs.kept.block c (Nat.lt_of_lt_of_le hc h.kept.size) (notmine c (old c hc hX))).trans (h.kept.block c hc hX)⟩, ?_, ?_, bnd, ?_, ?_, ?_, ?_, ?_, ?_⟩
  · intro c u e
    exact h.ownB c u (ret_box e).2
  · intro c t p e
    rcases ret_arr e with ⟨_, _, _, q, e1⟩ | ⟨k, _, _, e1, e2⟩
    · exact h.ownA c t q e1
    · by_cases hc : c < w.heap.size
      · obtain ⟨u, q, e3, _⟩ := e2 hc
        exact h.ownA c u q e3
      · exact .inl (Nat.le_trans h.kept.size (Nat.le_of_not_lt hc))
  · intro c c' u e e'
    exact h.uniq c c' u (ret_box e).2 (ret_box e').2
  · intro c u e
    obtain ⟨e1, e2⟩ := ret_box e
    rw [(ret_old e1 (by intro t p e3; rw [e2] at e3; cases e3)).2]
    exact h.limB c u e2
  · intro u v hv
    rw [get_put] at hv
    split at hv
    · rename_i e; subst e
      injection hv with hv; subst hv
      obtain ⟨g1, g2⟩ := h.slot s _ h0
      refine ⟨g1, ?_⟩
      simp only [DenS] at g2 ⊢
      obtain ⟨c, xs, T, e1, e2, e3, e4, e5⟩ := g2
      have := h.uniq c b s e2 hs.here
      subst this
      refine ⟨c, xs1, T1, e1, by rw [(ret_old (h.bnd c (by simp [e2])) (by intro t p e; rw [e2] at e; cases e)).1, e2], hb, io_den h hs hi.1 hd, fun v hv => .inl ?_⟩
      obtain ⟨v0, q1, rfl⟩ := rnL_mem v hv
      exact ioV_cell (List.all_eq_true.1 hi.1 v0 q1) s
    · rename_i hne
      obtain ⟨v0, hv0, rfl⟩ := get_killSF hv
      obtain ⟨g1, g2⟩ := h.slot u v0 hv0
      refine ⟨g1, ?_⟩
      have blk : ∀ c, Ω.o c = .box u → w1.heap[c]? = w.heap[c]? ∧ (Ω.ret Ω1 w.heap.size s ts).o c = .box u := fun c e => by
        refine ⟨hs.same h (by simp [e]) (by rw [e]; intro e2; injection e2 with e2; exact hne e2.symm) (by intro t p e2; rw [e] at e2; cases e2), ?_⟩
        rw [(ret_old (h.bnd c (by simp [e])) (by intro t p e3; rw [e] at e3; cases e3)).1, e]
      cases v0 <;> first
        | exact DenS.of (Den.killSD hh h hs _ _ g2)
        | (simp only [DenS, V.killS] at g2 ⊢
           obtain ⟨c, ys, T', q1, q2, q3, q4, q5⟩ := g2
           obtain ⟨r1, r2⟩ := blk c q2
           exact ⟨c, ys, T', q1, r2, by rw [r1]; exact q3, DenL.killSD hh h hs _ _ q4, killS_cellOk q5⟩)
        | (simp only [DenS, V.killS] at g2 ⊢
           obtain ⟨c, es, clk, q1, q2, q3, q4⟩ := g2
           obtain ⟨r1, r2⟩ := blk c q2
           exact ⟨c, es, clk, q1, r2, by rw [r1]; exact q3, q4.mp (V.killS s) (fun n => lookM_killS _ n) fun v x hv => Den.killSD hh h hs v x hv⟩)
  · intro t n wr hg
    rcases get_addT _ _ t n wr hg with ⟨e1, e2⟩ | e1
    · subst e2
      obtain ⟨k, rfl, hk⟩ := rnL_tks cs e1
      have hk1 : k < 100 := by
        have key : ∀ (l : List V), l.all V.ioV = true → (k, n) ∈ tksL l → k < 100 := by
          intro l
          induction l with
          | nil => intro _ hm; simp [tksL] at hm
          | cons v vs ih =>
            intro hl hm
            simp only [List.all_cons, Bool.and_eq_true] at hl
            simp only [tksL, List.mem_append] at hm
            rcases hm with hm | hm
            · have hv := hl.1
              cases v <;> simp only [V.ioV, V.pm, Bool.false_eq_true] at hv <;> (try (simp [V.tks] at hm; done))
              rename_i t sz es
              cases t with
              | none => simp [V.tks] at hm
              | some t =>
                simp only [decide_eq_true_eq] at hv
                simp only [V.tks, List.mem_singleton, Prod.mk.injEq] at hm
                omega
            · exact ih hl.2 hm
        exact key cs hi.1 hk
      exact io_tok h hs hk1 (ht k n hk)
    · rw [get_protAll] at e1
      cases hg' : get (prepT [s] σ.tk) t with
      | none => rw [hg'] at e1; cases e1
      | some y =>
        rw [hg'] at e1
        simp only [Option.map_some, Option.some.injEq, Prod.mk.injEq] at e1
        obtain ⟨rfl, rfl⟩ := e1
        obtain ⟨m1, m2⟩ := get_prepT hg'
        have hts : t / 100 ≠ s := fun e => by simp [memN, e] at m1
        obtain ⟨c, cap, T, xs, g1, ⟨p, g2⟩, g3, g4, g5, g6, g7, g8⟩ := h.tok t y.1 y.2 m2
        have hc := h.bnd c (by simp [g2])
        have ha : ∀ u q, Ω.o c = .arr u q → ¬ (u / 100 = s ∧ memN u ts = true) := fun u q e h => by rw [g2] at e; injection e with e; subst e; exact hts h.1
        refine ⟨c, cap, T, xs, by simp only [Own.ret, if_neg hts]; exact g1, ⟨true, by simp [Own.ret, hc, g2, hts]⟩, by rw [hs.same h (by simp [g2]) (by simp [g2]) ha]; exact g3, by simp only [Own.ret, if_neg hts]; exact g4, g5, by rw [ret_lim hc ha]; simp only [Own.ret, if_neg hts]; exact g6, by simp only [Own.ret, if_neg hts]; exact g7, fun hw => by cases hw⟩
  · intro c hc hX
    obtain ⟨e1, e2⟩ := h.old c hc hX
    obtain ⟨e3, e4⟩ := same c (Nat.lt_of_lt_of_le hc h.kept.size) (old c hc hX)
    exact ⟨e3.trans e1, e4.trans e2⟩
  · refine X.st h.out ⟨⟨hs.kept.os, hs.kept.tape, hs.kept.output, hs.kept.size, fun c hc hm => hs.kept.block c hc (notmine c hm), same⟩, ?_, bnd, rfl, h.bnd⟩
    have := ret_extP hh h hs
    exact ⟨fun c hc => ret_froz hh (h.bnd c (Own.froz_ne hc)) hc, fun c hc => this.lim c (.inl hc), fun c off hc hl => this.cell c off (.inl hc) hl⟩
end
end Go.Lo

/- Calls that turn a box. -/
namespace Go.Lo
section
variable {P : Program} {X : Sc} {w0 w w1 : World} {Ω Ω1 : Own} {a : Act} {σ : St} {o : Oper} {mk : Bool}

theorem den_pmA {Ω' : Own} {w' : World} (h : ExtM Ω Ω' w w') {v : V} {x : Value} (hp : v.cells.all V.pm = true) (hd : Den Ω w v x) : Den Ω' w' v x := by
  cases v with
  | agg cs =>
    simp only [Den] at hd ⊢
    obtain ⟨xs, h1, h2⟩ := hd
    exact ⟨xs, h1, DenL.extMa h cs xs hp h2⟩
  | _ => exact Den.extM h _ _ (by simpa [V.cells] using hp) hd
theorem denL_pmA {Ω' : Own} {w' : World} (h : ExtM Ω Ω' w w') : ∀ {vs : List V} {xs : List Value}, (vs.all fun v => v.cells.all V.pm) = true → DenL Ω w vs xs → DenL Ω' w' vs xs
  | [], xs, _, hd => by simpa [DenL] using hd
  | v :: vs, xs, hp, hd => by
    simp only [List.all_cons, Bool.and_eq_true] at hp
    simp only [DenL] at hd
    obtain ⟨x, ys, rfl, h2, h3⟩ := hd
    exact DenL.cons (den_pmA h hp.1 h2) (denL_pmA h hp.2 h3)
theorem fresh_ret {s b : Nat} {ts : List Nat} {n : Nat} (hb : Ω.o b = .box s) {d : Nat} (hf : Fresh Ω d) : Fresh (Ω.ret Ω1 n s ts) d := by
  refine ⟨fun c hc => hf.1 c (ret_box hc).2, fun c t p e hc => ?_⟩
  rcases ret_arr hc with ⟨_, _, _, q, e1⟩ | ⟨k, hk, e1, _⟩
  · exact hf.2 c t q e e1
  · have : d = s := by omega
    subst this
    exact hf.1 b hb
theorem sound_callp {call : Nat → List V → Option V} (hcall : CallsOk P call) {xs : List Operand} {vs : List V} {e : Eff} {ex : List Nat} (h : Inv X w0 Ω w a.tmps σ) (hdst : ∀ d, o.dst = some d → d < a.tmps.size) (hv : DenL Ω w vs (xs.map a.eval))
    (hsem : sem call (bxOf σ.fr ex) (tkOf σ.tk ex) (o.dst.getD 0) .callp vs = some e) {c : Call} {f : Operand} (ho : o.op = .call c) (hc : c.callee = .value f) (hxs : xs = f :: c.args.toList) : Sound P X w0 Ω w a σ o mk e := by
  subst hxs
  have hnd : ∀ c, o.op ≠ .defer c := by simp [ho]
  rw [List.map_cons] at hv
  simp only [sem] at hsem
  split at hsem
  case h_2 => cases hsem
  rename_i g s rest
  split at hsem
  case isFalse => cases hsem
  rename_i hc1
  split at hsem
  case h_2 => cases hsem
  rename_i cs0 hbx
  split at hsem
  case h_2 => cases hsem
  rename_i cs1 hun
  split at hsem
  case isFalse => cases hsem
  rename_i hio1
  split at hsem
  case h_2 => cases hsem
  rename_i cs2 r hcl
  split at hsem
  case isFalse => cases hsem
  rename_i hc2
  simp only [Option.some.injEq] at hsem; subst hsem
  simp only [DenL] at hv
  obtain ⟨xf, ys0, hz, h1, xr, ys, rfl, h2, h3⟩ := hv
  injection hz with hz1 hz2
  simp only [Den, Fk.Is] at h1 h2
  obtain ⟨cp, hf, hcp⟩ := h1
  simp only [DenL] at hcp
  subst hcp
  obtain ⟨b, rfl, hb⟩ := h2
  obtain ⟨hfr, _⟩ := bxOf_get hc1.1 hbx
  obtain ⟨_, hsl⟩ := h.slot s _ hfr
  simp only [DenS] at hsl
  obtain ⟨b', xs0, T, _, e2, e3, e4, e5⟩ := hsl
  have := h.uniq b b' s hb e2
  subst this
  obtain ⟨t1, t2⟩ := unioL_tks hun
  have hh : Handed Ω w ((tksL cs0).map (·.1)) := ⟨fun t ht d p hd => by
    rw [memN_iff, List.mem_map] at ht
    obtain ⟨⟨t', n⟩, m1, rfl⟩ := ht
    obtain ⟨_, q2, _⟩ := t1 t' n m1
    obtain ⟨_, _, _, _, _, _, _, _, _, _, _, q⟩ := h.tok t' n true (tkOf_get q2).1
    exact q rfl d p hd⟩
  have hmem : ∀ t n, (t, n) ∈ tksL cs0 → memN t ((tksL cs0).map (·.1)) = true := fun t n hm => by
    rw [memN_iff, List.mem_map]; exact ⟨(t, n), hm, rfl⟩
  have hd1 := unioL_den (s := s) hh hun hmem e4
  obtain ⟨hent, hok⟩ := hcall _ _ _ hcl
  have base : BaseIo (Ω.ent w s ((tksL cs0).map (·.1))) w b := by
    refine ⟨fun d => ?_, fun d hne => h.bnd d fun e => hne (by simp [Own.ent, e]), fun d hd => ?_, by simp [Own.ent, hb], by simp [Own.ent, hb], rfl⟩
    · simp only [Own.ent]
      cases hod : Ω.o d with
      | out => exact .inl rfl
      | frz => exact .inr (.inl rfl)
      | frzb => exact .inr (.inr (.inl rfl))
      | frg => exact .inr (.inr (.inr (.inl rfl)))
      | box u =>
        simp only
        split
        · exact .inr (.inr (.inr (.inr (.inl rfl))))
        · exact .inr (.inr (.inl rfl))
      | arr t p =>
        simp only
        split
        · rename_i hm
          have := hh.wr t hm.2 d p hod
          subst this
          exact .inr (.inr (.inr (.inr (.inr ⟨t % 100, by omega, rfl⟩))))
        · exact .inr (.inl rfl)
    · rcases ent_mine (Ω := Ω) (w := w) (s := s) (ts := (tksL cs0).map (·.1)) (c := d) (.inl ⟨0, hd⟩) with e | ⟨t, p, e, m1, m2⟩
      · exact h.uniq d b s e hb
      · simp [Own.ent, e, m1, m2] at hd
  have toks : ∀ k n, (k, n) ∈ tksL cs1 → TokOk (Ω.ent w s ((tksL cs0).map (·.1))) w k n true := fun k n hk => by
    obtain ⟨t, m1, rfl, m2, m3⟩ := t2 k n hk
    obtain ⟨d, cap, T', ws, g1, ⟨p, g2⟩, g3, g4, g5, g6, g7, g8⟩ := h.tok _ n true (tkOf_get m3).1
    have hq1 : (s * 100 + k) / 100 = s := by omega
    have hq2 : (s * 100 + k) % 100 = k := by omega
    refine ⟨d, cap, T', ws, g1, ⟨p, by simp [Own.ent, g2, hq1, hq2, hmem _ n m1]⟩, g3, g4, g5, by simp only [Own.ent, g2]; exact g6, g7, fun _ d' p' hd' => ?_⟩
    rcases base.o d' with q | q | q | q | q | ⟨_, _, q⟩ <;> rw [q] at hd' <;> cases hd'
    rfl
  have hC := (hok.2.2 _ _ rfl hio1 hc1.2) _ w b xs0 ys T base hd1 e3 toks (denL_pmA (ent_extM hh) hc1.2 h3)
  intro ro n K Q hK
  have hrun := run_valueCall (P := P) (w := w) ho hc hent (by rw [← hz1] at hf; exact hf)
  have hargs : #[] ++ c.args.map a.eval ++ [].toArray = (Value.pointer (some ⟨b, 0, none⟩) :: ys).toArray := by
    apply Array.ext'
    simp [hz2]
  rw [hargs] at hrun
  refine wp_enter hnd hrun (R := fun x w1 => ∃ Ω1 xs1 T1, Kept (Ω.ent w s ((tksL cs0).map (·.1))).mine w w1 ∧ Den Ω1 w1 r x ∧ DenL Ω1 w1 cs2 xs1 ∧ w1.heap[b]? = some (.cells (List.toArray xs1) T1 (0, 0)) ∧ Ω1.o b = .box 0 ∧
    (∀ c, c < w.heap.size → ¬ (Ω.ent w s ((tksL cs0).map (·.1))).mine c → Ω1.o c = (Ω.ent w s ((tksL cs0).map (·.1))).o c ∧ Ω1.lim c = (Ω.ent w s ((tksL cs0).map (·.1))).lim c) ∧ (∀ c, Ω1.o c ≠ .out → c < w1.heap.size) ∧ ∀ k n, (k, n) ∈ tksL cs2 → TokOk Ω1 w1 k n true) (fun cs' => ?_) fun x w1 hx => ?_
  · obtain ⟨e, w', fr, ⟨x, Ω1, xs1, T1, cs3, r3, q0, q1, q2, q3, q4, q5, q6, q7, q8, q9⟩, s', y⟩ := hC cs'
    injection q0 with q0
    simp only [List.cons.injEq, V.box.injEq, and_true] at q0
    obtain ⟨rfl, rfl⟩ := q0
    exact ⟨e, w', fr, ⟨x, q1, Ω1, xs1, T1, q2, q3, q4, q5, q6, q7, q8, q9⟩, s', y⟩
  · obtain ⟨Ω1, xs1, T1, q2, q3, q4, q5, q6, q7, q8, q9⟩ := hx
    have hs : IoStep Ω Ω1 w w1 s b ((tksL cs0).map (·.1)) := ⟨q2, hb, q6, q7, q8⟩
    have hi := h.io hh hs hfr hc2.1 q4 q5 q9
    refine hK x w1 _ (hi.putO hdst (Den.bare r x hc2.2.1 (by simpa using hc2.2.2.1) hc2.2.2.2.1 hc2.2.2.2.2 q3) a rfl) fun d hf' _ => fresh_ret hb hf'
end
end Go.Lo

/- Calls; and all operations together. -/
namespace Go.Lo
open Go.RowKit (Below)
section
variable {P : Program} {X : Sc} {w0 w w1 : World} {Ω : Own} {a : Act} {σ : St} {o : Oper} {mk : Bool}

theorem goes_below {tm : Array Value} (h : Inv X w0 Ω w tm σ) (hb : Below w.heap.size w w1) : Goes X w0 Ω Ω w w1 where
  ext := ⟨fun _ h => h, fun _ h => .inr h, fun _ _ p h => ⟨p, h⟩, fun _ _ h => h, fun _ _ => Nat.le_refl _, fun b off hne _ => hb.cell (p := ⟨b, off, none⟩) (h.bnd b hne), fun _ _ _ _ => rfl, fun _ _ _ c k n _ h => ⟨c, k, n, h, .inl ⟨rfl, rfl, rfl⟩⟩, rfl, fun _ h => h⟩
  kept := h.kept.trans ⟨hb.os, hb.tape, hb.output, hb.size, fun b hlt _ => hb.block b hlt⟩
  ownB := h.ownB
  ownA := h.ownA
  bnd b hne := Nat.lt_of_lt_of_le (h.bnd b hne) hb.size
  uniq := h.uniq
  limB := h.limB
  old := h.old
  stp := ⟨hb.os, hb.tape, hb.output, hb.size, fun b hlt _ => hb.block b hlt, fun _ _ _ => ⟨rfl, rfl⟩⟩
  boxes b s O hs hh := by rw [hb.block b (h.bnd b (by simp [hs]))]; exact hh
theorem inv_below {tm : Array Value} (h : Inv X w0 Ω w tm σ) (hb : Below w.heap.size w w1) : Inv X w0 Ω w1 tm σ :=
  h.goes (goes_below h hb) (fun t n wr ht => by
    obtain ⟨c, k, T, xs, g1, ⟨p, g2⟩, g3, g⟩ := h.tok t n wr ht
    exact ⟨c, k, T, xs, g1, ⟨p, g2⟩, by rw [hb.block c (h.bnd c (by simp [g2]))]; exact g3, g⟩)
theorem sound_callE (hdst : ∀ d, o.dst = some d → d < a.tmps.size) (h : Inv X w0 Ω w a.tmps σ) {call : Nat → List V → Option V} {dr al : Bool} {e : Eff} {ex : List Nat} (hcall : CallsOk P call) (hmd : mk = true → ∃ d, o.dst = some d ∧ Fresh Ω d) (hnd : ∀ c, o.op ≠ .defer c) {g : Nat} {vs : List V} {ys : List Value}
    (hsem : callE call (bxOf σ.fr ex) (o.dst.getD 0) dr al mk g vs = some e) (hd : DenL Ω w vs ys) (hrun : Enters P g → (execOp a.eval o).run P w = .ok (.enter g ys.toArray) w) : Sound P X w0 Ω w a σ o mk e := by
  unfold callE at hsem
  split at hsem
  · rename_i as has
    split at hsem
    · rename_i r hr
      split at hsem
      · rename_i hpr
        obtain ⟨hent, hok⟩ := hcall g as r hr
        have hrun := hrun hent
        obtain ⟨k1, k2⟩ := DenL.frz (rdOk h ex 4) _ _ _ has hd
        have hC := hok.1 k2 (cOwn Ω w) w _ (base_cOwn h) k1
        intro ro n K Q hK
        have hC' : Calls P g ys.toArray w fun e w1 => ∃ x, e = .returned x ∧ ∃ Ω1, Below w.heap.size w w1 ∧ Den Ω1 w1 r x ∧ ResOk (cOwn Ω w) Ω1 w w1 r := fun cs' =>
          let ⟨e, w', fr, ⟨x, Ω1, q1, q2⟩, s, y⟩ := hC cs'
          ⟨e, w', fr, ⟨x, q1, Ω1, q2⟩, s, y⟩
        refine wp_enter hnd hrun hC' fun x w1 ⟨Ω1, hb, hden, hres⟩ => ?_
        split at hsem
        · rename_i hmk
          obtain ⟨d, hd, hfr⟩ := hmd hmk
          split at hsem
          · rename_i hdis
            have h100 : ∀ k n, (k, n) ∈ r.tks → k < 100 := fun k n hkn => by
              have := List.all_eq_true.1 hdis.2 (k, n) hkn
              simpa using this
            have fin : ∀ al' : Bool, (al' = true ∨ r.al = false) → e = .res (r.rn d) al' → K (a.put o.dst x) w1 := by
              rintro al' hal rfl
              obtain ⟨i1, i2⟩ := h.res hfr.2 (al := al') hb hres hden hpr hal h100
              refine hK x w1 _ (i1.putO hdst i2 a rfl) (fun d' hf' hne => fresh_res hf' (fun e => hne hmk (e ▸ hd)))
            rw [hd] at hsem
            simp only [Option.getD_some] at hsem
            split at hsem
            · split at hsem
              · cases hsem
              · simp only [Option.some.injEq] at hsem
                exact fin true (.inl rfl) hsem.symm
            · rename_i hal
              simp only [Option.some.injEq] at hsem
              refine fin false (.inr ?_) hsem.symm
              cases hra : r.al
              · rfl
              · exact absurd (.inr hra) hal
          · cases hsem
        · split at hsem
          · rename_i hbare
            simp only [Option.some.injEq] at hsem; subst hsem
            exact hK x w1 Ω ((inv_below h hb).putO hdst (Den.bare r x hpr (by simpa using hbare.1) hbare.2.1 hbare.2.2 hden) a rfl) (fun _ hf _ => hf)
          · cases hsem
      · cases hsem
    · cases hsem
  · cases hsem
section ops
variable {call : Nat → List V → Option V} {dr al : Bool} {root : Option Nat} {k : K} {xs : List Operand} {vs : List V} {e : Eff} {ex : List Nat}
  (h : Inv X w0 Ω w a.tmps σ) (hdst : ∀ d, o.dst = some d → d < a.tmps.size) (hv : DenL Ω w vs (xs.map a.eval))
  (hsem : sem call (bxOf σ.fr ex) (tkOf σ.tk ex) (o.dst.getD 0) k vs = some e)
include h hdst hv hsem

theorem sound_value {T : List (List V)} (hY : YieldOk P X w0 T) (hT : UpTo T (apply σ o.dst e)) (hcall : CallsOk P call) (hmd : mk = true → ∃ d, o.dst = some d ∧ Fresh Ω d) {c : Call} {f : Operand} (ho : o.op = .call c) (hc : c.callee = .value f) (hk : k = .call dr al mk) (hxs : xs = f :: c.args.toList) : Sound P X w0 Ω w a σ o mk e := by
  subst hk; subst hxs
  rw [List.map_cons] at hv
  obtain ⟨v, us, rfl, h1, h2⟩ := hv.invS
  have hnd : ∀ c, o.op ≠ .defer c := by simp [ho]
  cases v <;> (try (simp only [sem, reduceCtorEq] at hsem; done))
  rename_i g caps
  cases g with
  | y b =>
    cases caps with
    | cons _ _ => simp only [sem, reduceCtorEq] at hsem
    | nil =>
      simp only [sem] at hsem
      split at hsem
      · cases hsem
      · split at hsem
        · rename_i as ps hfr
          split at hsem
          · rename_i hc'
            simp only [Option.some.injEq] at hsem; subst hsem
            simp only [Den, Fk.Is, DenL] at h1
            obtain ⟨_, ⟨l, hyl, hf⟩, rfl⟩ := h1
            have h' := h.prot ps
            obtain ⟨g1, _⟩ := DenL.frzE (ps := ps) _ _ _ _ hfr (fun t ht => memN_self ht) h2
            have hout := h'.out
            simp only at hout
            cases htr : σ.tr with
            | none =>
              rw [htr] at hout
              have : Ω.yl = none := hY.none (Ω.prot ps) w hout
              rw [hyl] at this
              cases this
            | some tr =>
              rw [htr] at hout
              intro ro n K Q hK
              have hpre := hT (tr ++ [as]) (by simp [apply, htr])
              have hyl' : (Ω.prot ps).yl = some (l, b) := hyl
              obtain ⟨fn, tmps, asg, body, r1, _⟩ := hY.some ro n b l tr as _ _ w hout hyl' g1 hc'.2 hpre
              have hrun := run_yieldCall (P := P) (w := w) ho hc hf
              rw [show c.args.map a.eval = (c.args.toList.map a.eval).toArray by apply Array.ext'; simp, r1] at hrun
              refine wp_round hnd hrun (R := fun x w1 => x = .bool (goesOn b (some tr)) ∧ Inv X w0 (Ω.prot ps) w1 a.tmps { σ with tk := protT ps σ.tk, tr := some (tr ++ [as]) }) (fun n => ?_) fun x w1 hx => ?_
              · obtain ⟨fn', tmps', asg', body', r1', r2⟩ := hY.some ro n b l tr as _ _ w hout hyl' g1 hc'.2 hpre
                rw [r1] at r1'
                injection r1' with r1'
                injection r1' with _ e1 e2 e3 e4
                subst e1; subst e2; subst e3; subst e4
                refine RoundIn.mono r2 fun e w1 he => ?_
                obtain ⟨rfl, j1, j2, j3, j4, j5⟩ := he
                exact ⟨_, rfl, rfl, h'.other j2 j3 j4 j5 j1⟩
              · obtain ⟨rfl, hi⟩ := hx
                refine hK _ w1 (Ω.prot ps) ?_ fun d hfd _ => ⟨fun b hb => hfd.1 b (prot_box hb), fun b t p e hb => ?_⟩
                · have := hi.putO (dst := o.dst) (v := .bool (goesOn b (some tr))) (x := .bool (goesOn b (some tr))) hdst (by simp [Den]) a rfl
                  simpa only [apply, htr, Option.map_some] using this
                · obtain ⟨q, hq, _⟩ := prot_arr hb
                  exact hfd.2 b t q e hq
          · cases hsem
        · cases hsem
  | f g =>
    simp only [sem] at hsem
    simp only [Den, Fk.Is] at h1
    obtain ⟨cs, hf, hcs⟩ := h1
    refine sound_callE hdst h hcall hmd hnd hsem (h2.append hcs) fun hent => ?_
    rw [run_valueCall (w := w) ho hc hent hf]
    congr 2
    apply Array.ext'; simp
  | m g =>
    simp only [sem] at hsem
    simp only [Den, Fk.Is] at h1
    obtain ⟨cs, hf, hcs⟩ := h1
    refine sound_callE hdst h hcall hmd hnd hsem (hcs.append h2) fun hent => ?_
    rw [run_valueCall (w := w) ho hc hent hf]
    congr 2
    apply Array.ext'; simp
end ops

/-! ### Maps -/
open Go.ChangeMaps (setBlock)
theorem Yields.mbox (h : Inv X w0 Ω w a.tmps σ) {o : Oper} {d : Nat} (hdst : o.dst = some d) (hd : d < a.tmps.size) (hf : Fresh Ω d)
    (hr : (execOp a.eval o).run P w = .ok (.value (.map (some w.heap.size))) (w.alloc (.map #[] 0))) : Yields P X w0 Ω w a o (apply σ o.dst (.val (.mbox []))) true := by
  refine ⟨_, _, Ω.mkBox w.heap.size d, .inl hr, ?_, fun d' hf' hne => ?_⟩
  · simp only [apply, hdst, Lo.putO, Act.put]
    exact h.mkMap hd hf.1
  · have hne : d' ≠ d := fun e => hne rfl (e ▸ hdst)
    refine ⟨fun b hb => ?_, fun b t p e hb => ?_⟩
    · simp only [Own.mkBox] at hb
      split at hb
      · injection hb with hb; exact hne hb.symm
      · exact hf'.1 b hb
    · simp only [Own.mkBox] at hb
      split at hb
      · cases hb
      · exact hf'.2 b t p e hb
theorem map_at (h : Inv X w0 Ω w a.tmps σ) {s : Nat} {x : Value} {ex : List Nat} {cs : List V} (hx : Den Ω w (.mref s) x) (hb : bxOf σ.fr ex (s + 1000000) = some cs) :
    ∃ b es clk, x = .map (some b) ∧ Ω.o b = .box s ∧ w.heap[b]? = some (.map es clk) ∧ MapD Ω w cs es ∧ get σ.fr s = some (.mbox cs) := by
  obtain ⟨hg, _⟩ := mpOf_get hb
  obtain ⟨_, h2⟩ := h.slot s _ hg
  simp only [DenS] at h2
  obtain ⟨b, es, clk, e1, e2, e3, e4⟩ := h2
  simp only [Den] at hx
  obtain ⟨b', hx1, hx2⟩ := hx
  have := h.uniq b b' s e2 hx2
  subst this
  exact ⟨b, es, clk, hx1, e2, e3, e4, hg⟩
theorem MapD.keys {cs : List V} {es : Array MapEntry} (h : MapD Ω w cs es) : KeysI es := fun e he => by
  obtain ⟨n, v, h1, h2, _⟩ := h.1 e he
  exact ⟨n, h1, h2⟩
theorem look_map (h : Inv X w0 Ω w a.tmps σ) {t : TypeId} {x i : Operand} (ho : o.op = .lookup t x i false) (hm : mapC P t = true) {s : Nat} {n : Int} {ex : List Nat} {cs : List V}
    (hx : Den Ω w (.mref s) (a.eval x)) (hi : Den Ω w (.int .i64 n) (a.eval i)) (hn : -9223372036854775808 ≤ n ∧ n ≤ 9223372036854775807) (hb : bxOf σ.fr ex (s + 1000000) = some cs) :
    (lookM cs n = none ∧ (execOp a.eval o).run P w = .ok (.value (.slice none 0 0)) w) ∨ ∃ v y, lookM cs n = some v ∧ Den Ω w v y ∧ (execOp a.eval o).run P w = .ok (.value y) w := by
  obtain ⟨b, es, clk, e1, e2, e3, e4, _⟩ := map_at h hx hb
  obtain ⟨k, e, inf, t1, t2, t3, t4⟩ := mapC_spec hm
  simp only [Den] at hi
  have hrun : (execOp a.eval o).run P w = ((Instr.lookup t (a.eval x) (a.eval i) false).run P w).andThen (fun v w => .ok (.value v) w) := by
    simp only [execOp, ho, Sem.run_bind]
    congr 1
  rw [hrun, e1, hi]
  rcases map_look t1 t2 t3 t4 e3 e4.keys (int_wf hn) with ⟨h1, h2⟩ | ⟨e0, h1, h2, h3⟩
  · left
    refine ⟨?_, by rw [h1]; rfl⟩
    cases hl : lookM cs n with
    | none => rfl
    | some v =>
      obtain ⟨x, hx, hk⟩ := e4.2.1 n v hl
      exact absurd hk (h2 x hx)
  · right
    obtain ⟨m, v, k1, k2, k3, k4⟩ := e4.1 e0 h1
    rw [h2] at k1
    injection k1 with _ k1
    subst k1
    exact ⟨v, e0.val, k3, k4, by rw [h3]; rfl⟩
theorem yields_mput (h : Inv X w0 Ω w a.tmps σ) (hd : ∀ d, o.dst = some d → d < a.tmps.size) {t : TypeId} {x i z : Operand} (ho : o.op = .mapUpdate t x i z) (hm : mapC P t = true) {s : Nat} {n : Int} {v : V} {ex : List Nat} {cs : List V}
    (hx : Den Ω w (.mref s) (a.eval x)) (hi : Den Ω w (.int .i64 n) (a.eval i)) (hz : Den Ω w v (a.eval z)) (hn : -9223372036854775808 ≤ n ∧ n ≤ 9223372036854775807) (hb : bxOf σ.fr ex (s + 1000000) = some cs) :
    Yields P X w0 Ω w a o (apply σ o.dst (.msto s (setM cs n v))) mk := by
  obtain ⟨b, es, clk, e1, e2, e3, e4, hg⟩ := map_at h hx hb
  obtain ⟨k, e, inf, t1, t2, t3, t4⟩ := mapC_spec hm
  simp only [Den] at hi
  obtain ⟨es', clk', r1, r2, r3, r4, r5⟩ := map_store (P := P) (w := w) t1 t2 e3 e4.keys e4.2.2 (int_wf hn) (a.eval z)
  have hrun : (execOp a.eval o).run P w = ((Instr.mapUpdate t (a.eval x) (a.eval i) (a.eval z)).run P w).andThen (fun _ w => .ok .skip w) := by
    simp only [execOp, ho, Sem.run_bind]
    congr 1
  have hblt : b < w.heap.size := (Array.getElem?_eq_some_iff.1 e3).1
  have h3 := h.msto (w' := setBlock w b (.map es' clk')) (es' := es') (clk' := clk') e2 e3 ⟨rfl, rfl, rfl, by simp [setBlock]⟩ (by simp [setBlock, hblt]) (fun c hc => by simp [setBlock, Ne.symm hc]) hg (cs := setM cs n v) ⟨fun y hy => ?_, fun m u hu => ?_, r5⟩
  · refine ⟨undef, _, Ω, .inr ⟨by rw [hrun, e1, hi, r1]; rfl, rfl⟩, ?_, fun _ hf _ => hf⟩
    exact h3.putO hd (by simp [Den]) a rfl
  · rcases r2 y hy with ⟨q1, q2⟩ | ⟨q1, q2⟩
    · obtain ⟨m, u, k1, k2, k3, k4⟩ := e4.1 y q1
      refine ⟨m, u, k1, k2, ?_, k4⟩
      rw [lookM_set, if_neg (fun e => q2 (by rw [k1, e]))]
      exact k3
    · exact ⟨n, v, q1, int_wf hn, by rw [lookM_set, if_pos rfl], by rw [q2]; exact hz⟩
  · rw [lookM_set] at hu
    by_cases e : n = m
    · subst e
      obtain ⟨x, hx, hk⟩ := r4
      exact ⟨x, hx, hk⟩
    · rw [if_neg e] at hu
      obtain ⟨x, hx, hk⟩ := e4.2.1 m u hu
      refine ⟨x, r3 x hx (fun e2 => e ?_), hk⟩
      have q := hk.symm.trans e2
      simp only [Value.int.injEq, true_and] at q
      exact q.symm
theorem callee_value {c : Call} {f : Operand} {dr al mk : Bool} (hc : c.callee = .value f) : callC P c dr al mk = some (if dr = false ∧ al = true ∧ mk = false then .callp else .call dr al mk, f :: c.args.toList) := by
  unfold callC; rw [hc]
/-- Every operation. -/
theorem op_sound {call : Nat → List V → Option V} {T : List (List V)} (hY : YieldOk P X w0 T) (hcall : CallsOk P call) {dr al : Bool} {root : Option Nat} {k : K} {xs : List Operand} {ys : List Opd} {vs : List V} {e : Eff} {ex : List Nat}
    (h : Inv X w0 Ω w a.tmps σ) (hdst : ∀ d, o.dst = some d → d < a.tmps.size) (hop : opC P o.op dr al (makes P o) root = some (k, xs)) (hys : opdsC xs = some ys) (hvs : opds σ.fr ys = some vs)
    (hsem : sem call (bxOf σ.fr ex) (tkOf σ.tk ex) (o.dst.getD 0) k vs = some e) (hmk : makes P o = true → ∃ d, o.dst = some d) (hnd : needs P dr o = true → (isAppend o = true → ∃ y, vs = [.nil, y]) → ∀ d, o.dst = some d → Fresh Ω d) (hT : UpTo T (apply σ o.dst e)) : Sound P X w0 Ω w a σ o (makes P o) e := by
  have hmd : isAppend o = false → makes P o = true → ∃ d, o.dst = some d ∧ Fresh Ω d := fun ha hm => by
    obtain ⟨d, hd⟩ := hmk hm
    exact ⟨d, hd, hnd (by simp [needs, hm, ha]) (fun h => by rw [ha] at h; cases h) d hd⟩
  have hv := opds_sound h hys hvs
  cases ho : o.op <;> (try (simp only [ho, opC, reduceCtorEq] at hop; done))
  case move => exact sound_move h hdst hop hv hsem ho
  case assign => exact sound_assign h hdst hop hv hsem ho
  case pick => exact sound_pick h hdst hop hv hsem ho
  case alloc =>
    have hm : makes P o = true := by simp [makes, ho]
    rw [hm] at hop ⊢
    exact sound_alloc h hdst hv hsem hop (hmd (by simp [isAppend, ho]) hm) ho
  case box =>
    have hm : makes P o = true := by simp [makes, ho]
    rw [hm] at hop ⊢
    exact sound_box h hdst hv hsem hop (hmd (by simp [isAppend, ho]) hm) ho
  case build => exact sound_build h hdst hop hv hsem ho
  case buildSlice =>
    have hm : makes P o = true := by simp [makes, ho]
    rw [hm] at hop ⊢
    exact sound_buildSlice h hdst hv hsem hop (hmd (by simp [isAppend, ho]) hm) ho
  case load => exact sound_load h hdst hop hv hsem ho
  case store => exact sound_store h hdst hv hsem hop ho
  case nilCheck => exact sound_nilc h hdst hop hv hsem ho
  case binOp => exact sound_bin h hdst hop hv hsem ho
  case unOp => exact sound_un h hdst hop hv hsem ho
  case convert => exact sound_conv h hdst hop hv hsem ho
  case makeFunc => exact sound_mkf h hdst hop hv hsem ho
  case makeSlice =>
    have hm : makes P o = true := by simp [makes, ho]
    rw [hm] at hop ⊢
    exact sound_makeSlice h hdst hv hsem hop (hmd (by simp [isAppend, ho]) hm) ho
  case slice => exact sound_slice h hdst hop hv hsem ho
  case fieldAddr => exact sound_fa h hdst hop hv hsem ho
  case field => exact sound_field h hdst hop hv hsem ho
  case indexAddr => exact sound_ia h hdst hop hv hsem ho
  case index => exact sound_index h hdst hop hv hsem ho
  case extract => exact sound_ext h hdst hop hv hsem ho
  case makeMap t r =>
    have hm : makes P o = true := by simp [makes, ho]
    obtain ⟨d, hd, hf⟩ := hmd (by simp [isAppend, ho]) hm
    cases r with
    | some x => simp [ho, opC] at hop
    | none =>
      simp only [ho, opC] at hop
      split at hop
      · simp only [Option.some.injEq, Prod.mk.injEq] at hop
        obtain ⟨rfl, rfl⟩ := hop
        have hnil : vs = [] := by
          cases vs with
          | nil => rfl
          | cons v vs => simp [DenL] at hv
        subst hnil
        simp only [sem, Option.some.injEq] at hsem; subst hsem
        rw [hm]
        exact (Yields.mbox h hd (hdst d hd) hf (by simp only [execOp, ho, Sem.run_bind]; rfl)).sound (by simp [ho])
      · cases hop
  case lookup t x i c =>
    cases c with
    | true => simp [ho, opC] at hop
    | false =>
      simp only [ho, opC] at hop
      split at hop
      · rename_i hmc
        simp only [Option.some.injEq, Prod.mk.injEq] at hop
        obtain ⟨rfl, rfl⟩ := hop
        obtain ⟨v, u, rfl, h1, h2⟩ := hv.inv2
        simp only [sem] at hsem
        split at hsem
        · rename_i s n heq
          simp only [List.cons.injEq, and_true] at heq
          obtain ⟨rfl, rfl⟩ := heq
          split at hsem
          · rename_i hn
            split at hsem
            · rename_i cs hb
              rcases look_map h ho hmc h1 h2 hn hb with ⟨g1, g2⟩ | ⟨v, y, g1, g2, g3⟩
              · rw [g1] at hsem
                simp only [Option.some.injEq] at hsem; subst hsem
                exact sound_val h hdst (by simp [ho]) ⟨_, g2, by simp [Den]⟩
              · rw [g1] at hsem
                split at hsem
                · cases hsem
                · rename_i v' _ heq
                  injection heq with heq; subst heq
                  simp only [Option.some.injEq] at hsem; subst hsem
                  exact sound_val h hdst (by simp [ho]) ⟨_, g3, g2⟩
                · rename_i heq; cases heq
            · cases hsem
          · cases hsem
        · cases hsem
      · cases hop
  case mapUpdate t x i z =>
    simp only [ho, opC] at hop
    split at hop
    · rename_i hmc
      simp only [Option.some.injEq, Prod.mk.injEq] at hop
      obtain ⟨rfl, rfl⟩ := hop
      obtain ⟨v, u, z', rfl, h1, h2, h3⟩ := hv.inv3
      simp only [sem] at hsem
      split at hsem
      · rename_i s n heq
        simp only [List.cons.injEq, and_true] at heq
        obtain ⟨rfl, rfl, rfl⟩ := heq
        split at hsem
        · rename_i hn
          split at hsem
          · rename_i cs hb
            simp only [Option.some.injEq] at hsem; subst hsem
            exact (yields_mput h hdst ho hmc h1 h2 h3 hn hb).sound (by simp [ho])
          · cases hsem
        · cases hsem
      · rename_i s n t' sz es heq
        simp only [List.cons.injEq, and_true] at heq
        obtain ⟨rfl, rfl, rfl⟩ := heq
        split at hsem
        · rename_i hn
          split at hsem
          · rename_i cs hb
            simp only [Option.some.injEq] at hsem; subst hsem
            exact (yields_mput h hdst ho hmc h1 h2 h3 hn hb).sound (by simp [ho])
          · cases hsem
        · cases hsem
      · cases hsem
    · cases hop
  case call c =>
    simp only [ho, opC] at hop
    cases hc : c.callee with
    | value f =>
      rw [callee_value hc] at hop
      simp only [Option.some.injEq, Prod.mk.injEq] at hop
      by_cases hcp : dr = false ∧ al = true ∧ makes P o = false
      · rw [if_pos hcp] at hop
        obtain ⟨rfl, rfl⟩ := hop
        exact sound_callp hcall h hdst hv hsem ho hc rfl
      rw [if_neg hcp] at hop
      exact sound_value h hdst hv hsem hY hT hcall (hmd (by
        obtain ⟨callee, args, argTypes⟩ := c
        simp only at hc
        subst hc
        simp [isAppend, ho])) ho hc hop.1.symm hop.2.symm
    | invoke r m => simp [callC, hc] at hop
    | builtin b =>
      simp only [callC, hc] at hop
      split at hop
      · rename_i x t hx ht
        cases hel : elemC P t with
        | none => simp [hel] at hop
        | some el =>
          simp only [hel, Option.map_some, Option.some.injEq, Prod.mk.injEq] at hop
          obtain ⟨rfl, rfl⟩ := hop
          obtain ⟨v, rfl, h1⟩ := hv.inv1
          cases v <;> simp only [sem, Option.some.injEq, reduceCtorEq] at hsem
          · subst hsem
            simp only [Den] at h1
            exact sound_val h hdst (by simp [ho]) ⟨_, run_lenOp ho hc hx ht hel h1, by simp [Den]⟩
          · subst hsem
            obtain ⟨p, q, h2⟩ := sl_len h1
            exact sound_val h hdst (by simp [ho]) ⟨_, run_lenOp ho hc hx ht hel h2, by simp [Den]⟩
      · rename_i x t hx ht
        cases hel : elemC P t with
        | none => simp [hel] at hop
        | some el =>
          simp only [hel, Option.map_some, Option.some.injEq, Prod.mk.injEq] at hop
          obtain ⟨rfl, rfl⟩ := hop
          obtain ⟨v, rfl, h1⟩ := hv.inv1
          cases v <;> simp only [sem, Option.some.injEq, reduceCtorEq] at hsem
          subst hsem
          simp only [Den] at h1
          exact sound_val h hdst (by simp [ho]) ⟨_, run_capOp ho hc hx ht hel h1, by simp [Den]⟩
      · rename_i x y t u hx ht
        split at hop
        · rename_i el el' he he'
          split at hop
          · rename_i n b z hs hb hz
            split at hop
            · rename_i hn
              simp only [Option.some.injEq, Prod.mk.injEq] at hop
              have hm : makes P o = true := by
                obtain ⟨callee, args, argTypes⟩ := c
                simp only at hc
                subst hc
                simp [makes, ho]
              rw [hm]
              exact sound_append h hdst hv hsem ⟨⟨c, u, el', ho, hc, hx, ht, he'⟩, he, hs, hb, hz, hn⟩ hop.1.symm hop.2.symm (by
                obtain ⟨d, hd⟩ := hmk hm
                exact ⟨d, hd, fun hdr hnil => hnd (by simp [needs, hm, hdr]) (fun _ => hnil) d hd⟩)
            · cases hop
          · cases hop
        · rename_i el he he'
          split at hop
          · rename_i q n b z hu hs hb hz
            split at hop
            · rename_i hn
              simp only [Option.some.injEq, Prod.mk.injEq] at hop
              have hm : makes P o = true := by
                obtain ⟨callee, args, argTypes⟩ := c
                simp only at hc
                subst hc
                simp [makes, ho]
              rw [hm]
              exact sound_appz h hdst hv hsem ⟨⟨c, u, q, ho, hc, hx, ht, hu⟩, he, hs, hb, hz, hn.1, hn.2.1⟩ hop.1.symm hop.2.symm (hmk hm)
            · cases hop
          · cases hop
        · cases hop
      · simp only [Option.some.injEq, Prod.mk.injEq] at hop
        obtain ⟨rfl, rfl⟩ := hop
        simp only [sem] at hsem
        split at hsem
        · rename_i q m ms hi
          simp only [Option.some.injEq] at hsem; subst hsem
          exact sound_val h hdst (by simp [ho]) ⟨_, run_maxOp ho hc (intsOf_den hi hv), by simp [Den]⟩
        · cases hsem
      · simp only [Option.some.injEq, Prod.mk.injEq] at hop
        obtain ⟨rfl, rfl⟩ := hop
        simp only [sem] at hsem
        split at hsem
        · rename_i q m ms hi
          simp only [Option.some.injEq] at hsem; subst hsem
          exact sound_val h hdst (by simp [ho]) ⟨_, run_minOp ho hc (intsOf_den hi hv), by simp [Den]⟩
        · cases hsem
      · cases hop
end
end Go.Lo
