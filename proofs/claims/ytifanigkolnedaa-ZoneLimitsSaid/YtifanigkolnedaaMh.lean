/- Arguments that read as data are logical values. -/
import Derived.Test.YtifanigkolnedaaMg
import Derived.ChangeArms
namespace Go.Lo
inductive Ty where
  | bool
  | int (k : IntKind)
  | st (fs : List Ty)
  | arr (n : Nat) (e : Ty)
  | sl (e : Ty)
  deriving Inhabited
mutual
def Ty.cells : Ty → Nat
  | .bool => 1
  | .int _ => 1
  | .st fs => cellsL fs
  | .arr n e => n * e.cells
  | .sl _ => 1
def cellsL : List Ty → Nat
  | [] => 0
  | t :: ts => t.cells + cellsL ts
end
mutual
/-- Cells of the type. -/
def HasC : Ty → List V → Prop
  | .bool, cs => ∃ b, cs = [.bool b]
  | .int k, cs => ∃ n, cs = [.int k n] ∧ (Lit.int k n).wf = true
  | .st fs, cs => HasCs fs cs
  | .arr n e, cs => ∃ es : List (List V), es.length = n ∧ cs = es.flatten ∧ ∀ x ∈ es, HasC e x
  | .sl e, cs => cs = [.nil] ∨ ∃ es, cs = [.sl none e.cells es] ∧ es.length ≤ maxLen ∧ ∀ x ∈ es, HasC e x
def HasCs : List Ty → List V → Prop
  | [], cs => cs = []
  | t :: ts, cs => ∃ a b, cs = a ++ b ∧ HasC t a ∧ HasCs ts b
end
def tysC (f : TypeId → Option Ty) : List Field → Nat → Option (List Ty)
  | [], _ => some []
  | x :: xs, o => match f x.type with
    | some t => if x.offset = o then (match tysC f xs (o + t.cells) with
      | some ts => some (t :: ts)
      | none => none) else none
    | none => none
def tyC (P : Program) : Nat → TypeId → Option Ty
  | 0, _ => none
  | d + 1, t =>
    let r : Option Ty := match P.underlying t with
      | some .bool => some .bool
      | some (.int k) => some (.int k)
      | some (.struct fs) => match tysC (tyC P d) fs.toList 0 with
        | some ts => some (.st ts)
        | none => none
      | some (.array n e) => match tyC P d e with
        | some ty => some (.arr n ty)
        | none => none
      | some (.slice e) => match tyC P d e with
        | some ty => if ty.cells ≠ 0 then some (.sl ty) else none
        | none => none
      | _ => none
    match r with
    | some ty => if P.cellsOf t = ty.cells then some ty else none
    | none => none
def allFrz (W : World) : Own where
  o b := if b < W.heap.size then .frz else .out
  lim b := blkSize W b
  cur _ := none
  tsz _ := 0
theorem base_allFrz (W : World) : Base (allFrz W) W := ⟨fun b => by simp only [allFrz]; split <;> simp, fun b h => by
  simp only [allFrz] at h
  split at h
  · assumption
  · exact absurd rfl h⟩
theorem tyC_cells {P : Program} {d : Nat} {t : TypeId} {ty : Ty} (h : tyC P d t = some ty) : P.cellsOf t = ty.cells := by
  cases d with
  | zero => simp [tyC] at h
  | succ d =>
    unfold tyC at h
    simp only at h
    split at h
    · split at h
      · simp only [Option.some.injEq] at h; subst h; assumption
      · cases h
    · cases h
theorem choose_list {α : Type} {p : Nat → α → Prop} : ∀ (n : Nat), (∀ i, i < n → ∃ x, p i x) → ∃ l : List α, l.length = n ∧ ∀ i x, l[i]? = some x → p i x
  | 0, _ => ⟨[], rfl, fun i x h => by simp at h⟩
  | n + 1, h => by
    obtain ⟨l, h1, h2⟩ := choose_list n (fun i hi => h i (by omega))
    obtain ⟨x, hx⟩ := h n (by omega)
    refine ⟨l ++ [x], by simp [h1], fun i y hy => ?_⟩
    by_cases hi : i < l.length
    · rw [List.getElem?_append_left hi] at hy; exact h2 i y hy
    · rw [List.getElem?_append_right (by omega)] at hy
      have : i - l.length = 0 := by
        have := (List.getElem?_eq_some_iff.1 hy).1
        simp at this; omega
      rw [this] at hy
      simp only [List.getElem?_cons_zero, Option.some.injEq] at hy
      subst hy
      rw [show i = n by omega]; exact hx
/-- Plain cells. -/
def PlainL (vs : List V) : Prop := ∀ v ∈ vs, v.pure = true ∧ v.cellOk = true ∧ v.pm = true
section
variable {H : Type} {enc : TypeId × Value → H} {P : Program} {W : World} {held : Bool}
theorem cells_get {a : Addr} : ∀ {n : Nat} {cs : List Value}, W.cells? 0 a n = some cs → cs.length = n ∧ ∀ j, j < n → W.cell? (a.add j) = cs[j]? := by
  intro n cs h
  unfold World.cells? at h
  simp only [Nat.zero_le, if_true] at h
  have key : ∀ (l : List Nat) (cs : List Value), l.mapM (fun i => W.cell? (a.add i)) = some cs → cs.length = l.length ∧ ∀ (j i : Nat), l[j]? = some i → W.cell? (a.add i) = cs[j]? := by
    intro l
    induction l with
    | nil => intro cs h; simp at h; subst h; exact ⟨rfl, fun j i h => by simp at h⟩
    | cons k l ih =>
      intro cs h
      rw [List.mapM_cons] at h
      simp only [bind, Option.bind_eq_some_iff, pure, Option.some.injEq] at h
      obtain ⟨x, hx, ys, hy, rfl⟩ := h
      obtain ⟨h1, h2⟩ := ih ys hy
      refine ⟨by simp [h1], fun j i hj => ?_⟩
      cases j with
      | zero => simp only [List.getElem?_cons_zero, Option.some.injEq] at hj; subst hj; simpa using hx
      | succ j => simp only [List.getElem?_cons_succ] at hj ⊢; exact h2 j i hj
  obtain ⟨h1, h2⟩ := key _ _ h
  simp only [List.length_range] at h1
  exact ⟨h1, fun j hj => h2 j j (by rw [List.getElem?_range hj])⟩
theorem cell_spot {a : Addr} {x : Value} (h : W.cell? a = some x) : a.spot = none ∧ a.off < blkSize W a.block ∧ a.block < W.heap.size := by
  unfold World.cell? at h
  split at h
  · rename_i c t fz hc
    split at h
    · cases h
    · rename_i hs
      refine ⟨by cases hsp : a.spot <;> simp_all, ?_, (Array.getElem?_eq_some_iff.1 hc).1⟩
      unfold blkSize
      rw [hc]
      exact (Array.getElem?_eq_some_iff.1 h).1
  · cases h
theorem mapM_all {α β : Type} {f : α → Option β} : ∀ {l : List α} {ys : List β}, l.mapM f = some ys → ∀ a ∈ l, ∃ y, f a = some y
  | [], _, _, a, ha => by cases ha
  | b :: l, ys, h, a, ha => by
    rw [List.mapM_cons] at h
    simp only [bind, Option.bind_eq_some_iff, pure, Option.some.injEq] at h
    obtain ⟨y, hy, zs, hz, rfl⟩ := h
    rcases List.mem_cons.1 ha with rfl | ha
    · exact ⟨y, hy⟩
    · exact mapM_all hz a ha
theorem trod_arr {n : Nat} {t e : TypeId} {m : Nat} {cs : List Value} {x : DataW H × List MemPlace} (hu : P.underlying t = some (.array m e)) (h : DataW.trod enc P W 0 (fun _ => true) held (n + 1) t cs = some x) :
    cs.length = P.cellsOf t ∧ ∀ i, i < m → ∃ y, DataW.trod enc P W 0 (fun _ => true) held n e ((cs.drop (i * P.cellsOf e)).take (P.cellsOf e)) = some y := by
  unfold DataW.trod at h
  rw [hu] at h
  simp only at h
  split at h
  · rename_i hl
    refine ⟨hl, fun i hi => ?_⟩
    rw [Option.map_eq_some_iff] at h
    obtain ⟨ys, hy, _⟩ := h
    exact mapM_all hy i (List.mem_range.2 hi)
  · cases h
theorem plain_append {a b : List V} (ha : PlainL a) (hb : PlainL b) : PlainL (a ++ b) := fun v hv => by
  rcases List.mem_append.1 hv with h | h
  · exact ha v h
  · exact hb v h
theorem trod_cells : ∀ (n d : Nat) (t : TypeId) (ty : Ty) (cs : List Value) (x : DataW H × List MemPlace), tyC P d t = some ty → DataW.trod enc P W 0 (fun _ => true) held n t cs = some x →
    ∃ vs, DenL (allFrz W) W vs cs ∧ HasC ty vs ∧ PlainL vs
  | 0, _, _, _, _, _, _, h => by simp [DataW.trod] at h
  | n + 1, 0, _, _, _, _, hty, _ => by simp [tyC] at hty
  | n + 1, d + 1, t, ty, cs, x, hty, h => by
    have hce := tyC_cells hty
    unfold tyC at hty
    simp only at hty
    cases hu : P.underlying t with
    | none => simp [hu] at hty
    | some k =>
      cases k <;> simp only [hu, reduceCtorEq] at hty
      case bool =>
        split at hty
        · simp only [Option.some.injEq] at hty; subst hty
          obtain ⟨b, rfl, _⟩ := DataW.trod_bool hu h
          exact ⟨[.bool b], DenL.cons (by simp [Den]) DenL.nil, ⟨b, rfl⟩, fun v hv => by rw [List.mem_singleton] at hv; subst hv; exact ⟨rfl, rfl, rfl⟩⟩
        · cases hty
      case int q =>
        split at hty
        · simp only [Option.some.injEq] at hty; subst hty
          obtain ⟨m, rfl, _, hw⟩ := DataW.trod_int hu h
          exact ⟨[.int q m], DenL.cons (by simp [Den]) DenL.nil, ⟨m, rfl, hw⟩, fun v hv => by rw [List.mem_singleton] at hv; subst hv; exact ⟨rfl, rfl, rfl⟩⟩
        · cases hty
      case struct fs =>
        split at hty
        · rename_i ty' hr
          split at hty
          · simp only [Option.some.injEq] at hty; subst hty
            split at hr
            · rename_i ts hts
              simp only [Option.some.injEq] at hr; subst hr
              obtain ⟨xs, n', hn, hx, hlen, hxl, hall⟩ := DataW.trod_struct hu h
              have hn' : n' = n := by omega
              subst hn'
              have hall' : ∀ f ∈ fs.toList, ∃ y, DataW.trod enc P W 0 (fun _ => true) held n' f.type ((cs.drop f.offset).take (P.cellsOf f.type)) = some y := fun f hf => by
                obtain ⟨i, hi⟩ := List.getElem?_of_mem hf
                rw [Array.getElem?_toList] at hi
                have hlt : i < xs.length := by rw [hxl]; exact (Array.getElem?_eq_some_iff.1 hi).1
                exact ⟨xs[i], by rw [hall i f hi, List.getElem?_eq_getElem hlt]⟩
              have go : ∀ (l : List Field) (o : Nat) (ts : List Ty), tysC (tyC P d) l o = some ts → (∀ f ∈ l, ∃ y, DataW.trod enc P W 0 (fun _ => true) held n' f.type ((cs.drop f.offset).take (P.cellsOf f.type)) = some y) →
                  ∃ vs, DenL (allFrz W) W vs ((cs.drop o).take (cellsL ts)) ∧ HasCs ts vs ∧ PlainL vs := by
                intro l
                induction l with
                | nil =>
                  intro o ts h1 _
                  simp only [tysC, Option.some.injEq] at h1; subst h1
                  exact ⟨[], by simp [cellsL, DenL], rfl, fun v hv => by cases hv⟩
                | cons f l ih =>
                  intro o ts h1 h2
                  simp only [tysC] at h1
                  split at h1
                  · rename_i ty1 hty1
                    split at h1
                    · rename_i hof
                      split at h1
                      · rename_i ts' hts'
                        simp only [Option.some.injEq] at h1; subst h1
                        obtain ⟨y, hy⟩ := h2 f (by simp)
                        obtain ⟨v1, a1, a2, a3⟩ := trod_cells n' d f.type ty1 _ y hty1 hy
                        obtain ⟨v2, b1, b2, b3⟩ := ih _ _ hts' (fun g hg => h2 g (by simp [hg]))
                        refine ⟨v1 ++ v2, ?_, ⟨v1, v2, rfl, a2, b2⟩, plain_append a3 b3⟩
                        rw [cellsL, List.take_add]
                        rw [hof, tyC_cells hty1] at a1
                        rw [← List.drop_drop] at b1
                        exact a1.append b1
                      · cases h1
                    · cases h1
                  · cases h1
              obtain ⟨vs, g1, g2, g3⟩ := go fs.toList 0 ts hts hall'
              refine ⟨vs, ?_, g2, g3⟩
              rw [List.drop_zero, List.take_of_length_le (by rw [hlen, hce]; exact Nat.le_refl _)] at g1
              exact g1
            · cases hr
          · cases hty
        · cases hty
      case array m e =>
        split at hty
        · rename_i ty' hr
          split at hty
          · simp only [Option.some.injEq] at hty; subst hty
            split at hr
            · rename_i te hte
              simp only [Option.some.injEq] at hr; subst hr
              obtain ⟨hlen, hall⟩ := trod_arr hu h
              have hcs := tyC_cells hte
              obtain ⟨es, h1, h2⟩ := choose_list (p := fun i vs => DenL (allFrz W) W vs ((cs.drop (i * P.cellsOf e)).take (P.cellsOf e)) ∧ HasC te vs ∧ PlainL vs) m (fun i hi => by
                obtain ⟨y, hy⟩ := hall i hi
                exact trod_cells n d e te _ y hte hy)
              have key : ∀ (l : List (List V)) (k : Nat), (∀ i vs, l[i]? = some vs → DenL (allFrz W) W vs ((cs.drop ((k + i) * P.cellsOf e)).take (P.cellsOf e))) → DenL (allFrz W) W l.flatten ((cs.drop (k * P.cellsOf e)).take (l.length * P.cellsOf e)) := by
                intro l
                induction l with
                | nil => intro k _; simp [DenL]
                | cons v l ih =>
                  intro k hk
                  rw [List.flatten_cons, List.length_cons, Nat.succ_mul, Nat.add_comm, List.take_add, List.drop_drop]
                  refine DenL.append (hk 0 v rfl) ?_
                  have := ih (k + 1) (fun i vs hi => by
                    have := hk (i + 1) vs (by simpa using hi)
                    rwa [show k + (i + 1) = k + 1 + i by omega] at this)
                  rwa [Nat.succ_mul] at this
              have hmem : ∀ vs ∈ es, HasC te vs ∧ PlainL vs := fun vs hv => by
                obtain ⟨i, hi⟩ := List.getElem?_of_mem hv
                exact (h2 i vs hi).2
              refine ⟨es.flatten, ?_, ⟨es, h1, rfl, fun v hv => (hmem v hv).1⟩, fun v hv => ?_⟩
              · have := key es 0 (fun i vs hi => by rw [Nat.zero_add]; exact (h2 i vs hi).1)
                rw [Nat.zero_mul, List.drop_zero, h1, List.take_of_length_le (by rw [hlen, hce, Ty.cells, hcs]; exact Nat.le_refl _)] at this
                exact this
              · obtain ⟨l, hl, hvl⟩ := List.mem_flatten.1 hv
                exact (hmem l hl).2 v hvl
            · cases hr
          · cases hty
        · cases hty
      case slice e =>
        split at hty
        · rename_i ty' hr
          split at hty
          · simp only [Option.some.injEq] at hty; subst hty
            split at hr
            · rename_i te hte
              split at hr
              · rename_i hnz
                simp only [Option.some.injEq] at hr; subst hr
                have hcs := tyC_cells hte
                rcases DataW.trod_slice hu h with ⟨rfl, _⟩ | ⟨a, len, cap, elems, rest, n', hn, rfl, hx, _, hlc, hmx, hel, hget, hspare, _⟩
                · exact ⟨[.nil], DenL.cons (by simp [Den]) DenL.nil, .inl rfl, fun v hv => by rw [List.mem_singleton] at hv; subst hv; exact ⟨rfl, rfl, rfl⟩⟩
                · have hn' : n' = n := by omega
                  subst hn'
                  have hplain : ∀ es : List (List V), PlainL [V.sl none te.cells es] := fun es v hv => by rw [List.mem_singleton] at hv; subst hv; exact ⟨rfl, rfl, rfl⟩
                  by_cases hcap : cap = 0
                  · have : len = 0 := by omega
                    subst this; subst hcap
                    refine ⟨[.sl none te.cells []], DenL.cons ?_ DenL.nil, .inr ⟨[], rfl, Nat.zero_le _, fun x hx => by cases hx⟩, hplain []⟩
                    simp only [Den]
                    exact .inl ⟨trivial, _, rfl⟩
                  · -- some cell is there: the address is plain
                    have hcell : ∃ y, W.cell? a = some y := by
                      by_cases hl : len = 0
                      · have := (hspare rfl).2 0 (by omega)
                        have hr0 : ∃ z, rest[0]? = some z := ⟨_, List.getElem?_eq_getElem (by rw [(hspare rfl).1]; omega)⟩
                        obtain ⟨z, hz⟩ := hr0
                        rw [hz, hl] at this
                        rw [Option.bind_eq_some_iff] at this
                        obtain ⟨c0, hc0, _⟩ := this
                        obtain ⟨g1, g2⟩ := cells_get hc0
                        have := g2 0 (by omega)
                        rw [List.getElem?_eq_getElem (by omega)] at this
                        simp only [Nat.add_zero, Nat.zero_mul, Addr.add, if_true] at this
                        exact ⟨_, this⟩
                      · have := hget 0 (by omega)
                        have hr0 : ∃ z, elems[0]? = some z := ⟨_, List.getElem?_eq_getElem (by omega)⟩
                        obtain ⟨z, hz⟩ := hr0
                        rw [hz] at this
                        rw [Option.bind_eq_some_iff] at this
                        obtain ⟨c0, hc0, _⟩ := this
                        obtain ⟨g1, g2⟩ := cells_get hc0
                        have := g2 0 (by omega)
                        rw [List.getElem?_eq_getElem (by omega)] at this
                        simp only [Nat.zero_mul, Addr.add, if_true] at this
                        exact ⟨_, this⟩
                    obtain ⟨y0, hy0⟩ := hcell
                    obtain ⟨hsp, _, hbs⟩ := cell_spot hy0
                    obtain ⟨b, off, sp⟩ := a
                    simp only at hsp hbs
                    subst hsp
                    obtain ⟨es, h1, h2⟩ := choose_list (p := fun i vs => DenC (allFrz W) W vs b (off + i * P.cellsOf e) ∧ HasC te vs ∧ PlainL vs ∧ vs.length = P.cellsOf e) len (fun i hi => by
                      have := hget i hi
                      have hr0 : ∃ z, elems[i]? = some z := ⟨_, List.getElem?_eq_getElem (by omega)⟩
                      obtain ⟨z, hz⟩ := hr0
                      rw [hz, Option.bind_eq_some_iff] at this
                      obtain ⟨c0, hc0, hc1⟩ := this
                      obtain ⟨g1, g2⟩ := cells_get hc0
                      obtain ⟨vs, a1, a2, a3⟩ := trod_cells n' d e te c0 z hte hc1
                      have hvl : vs.length = P.cellsOf e := by rw [← a1.length, g1]
                      refine ⟨vs, rowC a1 (fun v hv => ⟨(a3 v hv).1, (a3 v hv).2.1⟩) (fun j y hj => ?_), a2, a3, hvl⟩
                      have hjl : j < P.cellsOf e := by
                        have := (List.getElem?_eq_some_iff.1 hj).1
                        omega
                      have := g2 j hjl
                      rw [hj, addr_add, addr_add] at this
                      obtain ⟨_, q2, _⟩ := cell_spot this
                      exact ⟨q2, this⟩)
                    have hmem : ∀ vs ∈ es, HasC te vs := fun vs hv => by
                      obtain ⟨i, hi⟩ := List.getElem?_of_mem hv
                      exact (h2 i vs hi).2.1
                    refine ⟨[.sl none te.cells es], DenL.cons ?_ DenL.nil, .inr ⟨es, rfl, by rw [h1]; omega, hmem⟩, hplain es⟩
                    simp only [Den]
                    refine .inr ⟨b, off, cap - len, ?_, .inl (by simp only [allFrz, if_pos hbs]), ?_⟩
                    · rw [h1]; congr 1; omega
                    · have key : ∀ (l : List (List V)) (k : Nat), (∀ i vs, l[i]? = some vs → DenC (allFrz W) W vs b (off + (k + i) * P.cellsOf e) ∧ HasC te vs ∧ PlainL vs ∧ vs.length = P.cellsOf e) → DenE (allFrz W) W l te.cells b (off + k * P.cellsOf e) := by
                        intro l
                        induction l with
                        | nil => intro k _; trivial
                        | cons v l ih =>
                          intro k hk
                          obtain ⟨q1, q2, q3, q4⟩ := hk 0 v rfl
                          simp only [DenE]
                          refine ⟨by rw [q4, hcs], List.all_eq_true.2 fun u hu => (q3 u hu).2.2, q1, ?_⟩
                          have := ih (k + 1) (fun i vs hi => by
                            have := hk (i + 1) vs (by simpa using hi)
                            rwa [show k + (i + 1) = k + 1 + i by omega] at this)
                          rw [Nat.succ_mul, hcs, ← Nat.add_assoc] at this
                          rw [hcs]
                          exact this
                      have := key es 0 (fun i vs hi => by rw [Nat.zero_add]; exact h2 i vs hi)
                      rwa [Nat.zero_mul, Nat.add_zero] at this
              · cases hr
            · cases hr
          · cases hty
        · cases hty
end
end Go.Lo
