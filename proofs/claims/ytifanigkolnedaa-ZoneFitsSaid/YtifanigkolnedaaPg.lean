/- The statement about fits is proved: whatever diameters a screw and a nut have in their zones, their play lies in Play, whose ends are plays of the ends of the zones; with the pair that Widest returns it lies in what was wanted, and no other pair that does has wider zones; whatever the input. No condition. -/
import Derived.Test.YtifanigkolnedaaPf
import Derived.Test.YtifanigkolnedaaRows
import Derived.JoinedOf
import Derived.Seven
/- Arguments that read as data, for the plain machine. -/
namespace Go.Lo
def i64r (n : Int) : Prop := -9223372036854775808 ≤ n ∧ n ≤ 9223372036854775807
theorem wf_i64r {n : Int} (h : (Lit.int .i64 n).wf = true) : i64r n := by
  simp [Lit.wf, IntKind.min, IntKind.max, IntKind.bits, IntKind.signed] at h
  unfold i64r
  omega
theorem relL_ints (k : IntKind) : ∀ xs : List Int, RelL (xs.map fun x => .int k x) noT (xs.map fun x => .int k x)
  | [] => RelL.nil
  | x :: xs => by rw [List.map_cons]; exact RelL.cons (by simp only [Rel]) (relL_ints k xs)
theorem relE_eI1 : ∀ xs : List Int, RelE (eI xs) (eI xs)
  | [] => by simp [RelE]
  | x :: xs => by
    have := relE_eI1 xs
    simp only [List.map_cons] at this ⊢
    exact RelE.cons (RelL.one (by simp only [Rel])) this
theorem can_ints {v : V} (h : HasC (.sl (.int .i64)) [v]) : ∃ xs : List Int, Rel (S 1 (eI xs)) noT v ∧ ∀ x ∈ xs, i64r x := by
  simp only [HasC] at h
  rcases h with h | ⟨es, h, _, he⟩
  · injection h with h _
    subst h
    exact ⟨[], by rw [Rel]; left; exact ⟨rfl, rfl⟩, fun x hx => by cases hx⟩
  · injection h with h _
    subst h
    have key : ∀ es : List (List V), (∀ x ∈ es, ∃ n, x = [V.int .i64 n] ∧ (Lit.int .i64 n).wf = true) → ∃ xs : List Int, es = eI xs ∧ ∀ x ∈ xs, i64r x := by
      intro es
      induction es with
      | nil => exact fun _ => ⟨[], rfl, fun x hx => by cases hx⟩
      | cons e es ih =>
        intro h
        obtain ⟨n, h1, h2⟩ := h e (by simp)
        obtain ⟨xs, g1, g2⟩ := ih fun x hx => h x (by simp [hx])
        subst h1
        refine ⟨n :: xs, by simp [g1], fun x hx => ?_⟩
        rcases List.mem_cons.1 hx with rfl | hx
        · exact wf_i64r h2
        · exact g2 x hx
    obtain ⟨xs, rfl, hx⟩ := key es he
    exact ⟨xs, by rw [Rel]; right; exact ⟨_, rfl, relE_eI1 xs⟩, hx⟩
theorem can_rows {v : V} (h : HasC (.sl (.sl (.int .i64))) [v]) : ∃ rs : List (List Int), Rel (S 1 (rs.map fun r => [S 1 (eI r)])) noT v ∧ ∀ r ∈ rs, ∀ x ∈ r, i64r x := by
  rw [HasC] at h
  rcases h with h | ⟨es, h, _, he⟩
  · injection h with h _
    subst h
    exact ⟨[], by rw [Rel]; left; exact ⟨rfl, rfl⟩, fun x hx => by cases hx⟩
  · injection h with h _
    subst h
    have key : ∀ es : List (List V), (∀ x ∈ es, HasC (.sl (.int .i64)) x) → ∃ rs : List (List Int), RelE (rs.map fun r => [S 1 (eI r)]) es ∧ ∀ r ∈ rs, ∀ x ∈ r, i64r x := by
      intro es
      induction es with
      | nil => exact fun _ => ⟨[], by simp [RelE], fun x hx => by cases hx⟩
      | cons e es ih =>
        intro h
        have h1 := h e (by simp)
        obtain ⟨v, rfl⟩ : ∃ v, e = [v] := by
          simp only [HasC] at h1
          rcases h1 with h1 | ⟨_, h1, _⟩ <;> exact ⟨_, h1⟩
        obtain ⟨xs, hx, hb⟩ := can_ints h1
        obtain ⟨rs, g1, g2⟩ := ih fun x hx => h x (by simp [hx])
        refine ⟨xs :: rs, by rw [List.map_cons]; exact RelE.cons (RelL.one hx) g1, fun r hr => ?_⟩
        rcases List.mem_cons.1 hr with rfl | hr
        · exact hb
        · exact g2 r hr
    obtain ⟨rs, hr, hb⟩ := key es he
    exact ⟨rs, by rw [Rel]; right; exact ⟨_, rfl, hr⟩, hb⟩
theorem can_arr {k : IntKind} {n : Nat} {v : V} (h : HasV (.arr n (.int k)) v) : ∃ xs : List Int, xs.length = n ∧ v = .agg (xs.map fun x => .int k x) ∧ ∀ x ∈ xs, (Lit.int k x).wf = true := by
  simp only [HasV, HasC] at h
  obtain ⟨cs, rfl, es, rfl, rfl, he⟩ := h
  have key : ∀ es : List (List V), (∀ x ∈ es, ∃ n, x = [V.int k n] ∧ (Lit.int k n).wf = true) → ∃ xs : List Int, xs.length = es.length ∧ es.flatten = xs.map (fun x => .int k x) ∧ ∀ x ∈ xs, (Lit.int k x).wf = true := by
    intro es
    induction es with
    | nil => exact fun _ => ⟨[], rfl, rfl, fun x hx => by cases hx⟩
    | cons e es ih =>
      intro h
      obtain ⟨n, h1, h2⟩ := h e (by simp)
      obtain ⟨xs, g1, g2, g3⟩ := ih fun x hx => h x (by simp [hx])
      subst h1
      refine ⟨n :: xs, by simp [g1], by simp [g2], fun x hx => ?_⟩
      rcases List.mem_cons.1 hx with rfl | hx
      · exact h2
      · exact g3 x hx
  obtain ⟨xs, g1, g2, g3⟩ := key es he
  exact ⟨xs, g1, by rw [g2], g3⟩
theorem can_int {k : IntKind} {v : V} (h : HasV (.int k) v) : ∃ n, v = .int k n ∧ (Lit.int k n).wf = true := by
  simp only [HasV, HasC] at h
  obtain ⟨n, h, w⟩ := h
  injection h with h _
  exact ⟨n, h, w⟩
theorem can_bool {v : V} (h : HasV .bool v) : ∃ b, v = .bool b := by
  simp only [HasV, HasC] at h
  obtain ⟨n, h⟩ := h
  injection h with h _
  exact ⟨n, h⟩
theorem HasCs.inv {t : Ty} {ts : List Ty} {cs : List V} (h : HasCs (t :: ts) cs) : ∃ a b, cs = a ++ b ∧ HasC t a ∧ HasCs ts b := by rw [HasCs] at h; exact h
theorem HasC.sl1 {t : Ty} {x : List V} (hx : HasC (.sl t) x) : ∃ v, x = [v] := by
  rw [HasC] at hx
  rcases hx with hx | ⟨_, hx, _⟩ <;> exact ⟨_, hx⟩
end Go.Lo

/- Small functions of zone. -/
namespace Go.Lo
open Go.Proofs
set_option linter.unusedSimpArgs false
/-- An element that is an integer. -/
def isI : List V → Bool
  | [.int .i64 _] => true
  | _ => false
/-- slices.Concat -/
def cat : List (List V) → Option (List (List V))
  | [] => some []
  | [.sl none 1 es] :: r => if es.all isI = true then (match cat r with | some l => some (es ++ l) | none => none) else none
  | _ => none
def catF : List V → Option V
  | [.sl none 1 rows] => match cat rows with
    | some l => if rows.length ≤ 1000000000 ∧ l.length ≤ 1000000000 then some (.sl (some 2000000) 1 l) else none
    | none => none
  | _ => none
def F2 : Nat → Option (List V → Option V)
  | 59 => some catF
  | _ => none
noncomputable abbrev R : Nat → List V → Option V := run2 F2 C2
/-- A table. -/
abbrev eR (rs : List (List Int)) : List (List V) := rs.map fun r => [S 1 (eI r)]
abbrev T (s : List Int) (g p : List (List Int)) : V := .agg [S 1 (eI s), S 1 (eR g), S 1 (eR p)]
theorem p61 {s : List Int} {g p : List (List Int)} {c k i : Nat} {rp rg : List Int} {far wide : Int} (nut : Bool) (size : Int) (h1 : p[c]? = some rp) (h2 : g[k]? = some rg) (h3 : rp[i]? = some far) (h4 : rg[i]? = some wide)
   (b1 : 0 ≤ size ∧ size ≤ 100000000) (b2 : -100000 ≤ far ∧ far ≤ 100000) (b3 : -100000 ≤ wide ∧ wide ≤ 100000) :
   R 61 [T s g p, .agg [I c, I k], B nut, I size, I i] = some (if nut = true then .agg [I (size + far), I (size + far + wide)] else .agg [I (size - far - wide), I (size - far)]) := by
  refine run2_body 1 rfl rfl rfl rfl rfl ?_
  cases nut <;> simp (maxSteps := 2000000) (disch := first | omega | (simp; done) | (simp; omega)) [-getElem?_pos, l61, h1, h2, h3, h4, wrap64]
end Go.Lo

/- The plain machine's table is a table of the first machine. -/
namespace Go.Lo
open Go.Proofs
set_option linter.unusedSimpArgs false
theorem isI_eI : ∀ {es : List (List V)}, es.all isI = true → ∃ xs : List Int, es = C1.eI xs
  | [], _ => ⟨[], rfl⟩
  | e :: es, h => by
    rw [List.all_cons, Bool.and_eq_true] at h
    obtain ⟨xs, rfl⟩ := isI_eI h.2
    have h1 := h.1
    unfold isI at h1
    split at h1
    · rename_i n; exact ⟨n :: xs, rfl⟩
    · cases h1
theorem relE_eI : ∀ {xs : List Int} {es : List (List V)}, RelE (C1.eI xs) es → es = C1.eI xs
  | [], es, h => by simpa [C1.eI, RelE] using h
  | x :: xs, es, h => by
    simp only [C1.eI, List.map_cons, RelE, RelL, Rel] at h
    obtain ⟨d, r, rfl, ⟨d1, r1, rfl, rfl, rfl⟩, h⟩ := h
    rw [relE_eI h]; rfl
theorem rel_sl1 {xs : List Int} {v : V} (h : Rel (.sl none 1 (C1.eI xs)) noT v) : C1.Ints v xs := by
  simp only [Rel] at h
  rcases h with ⟨h1, rfl⟩ | ⟨es', rfl, h⟩
  · exact ⟨.inl rfl, by rw [h1]; rfl⟩
  · exact ⟨.inr ⟨_, rfl⟩, relE_eI h⟩
theorem cat_rel : ∀ {rows : List (List V)} {l : List (List V)}, cat rows = some l → ∀ {ds : List (List V)}, RelE rows ds → ∃ rs : List (V × List Int), ds = rs.map (fun r => [r.1]) ∧ (∀ r ∈ rs, C1.Ints r.1 r.2) ∧ l = C1.eI (C1.flatR rs)
  | [], l, h, ds, hd => by
    simp [cat] at h; subst h
    simp [RelE] at hd; subst hd
    exact ⟨[], rfl, by simp, rfl⟩
  | c :: rows, l, h, ds, hd => by
    simp only [RelE] at hd
    obtain ⟨d, r, rfl, hd1, hd⟩ := hd
    unfold cat at h
    split at h
    · cases ‹_ = []›
    · rename_i es r2 heq
      injection heq with e1 e2
      subst e1; subst e2
      split at h
      · rename_i hi
        split at h
        · rename_i l2 hl
          injection h with h
          subst h
          obtain ⟨rs, rfl, h2, rfl⟩ := cat_rel hl hd
          obtain ⟨xs, rfl⟩ := isI_eI hi
          obtain ⟨v, rfl, hv⟩ := RelL.inv1 hd1
          refine ⟨(v, xs) :: rs, rfl, ?_, ?_⟩
          · intro r hr
            rcases List.mem_cons.1 hr with rfl | hr
            · exact rel_sl1 hv
            · exact h2 r hr
          · simp [C1.eI, C1.flatR]
        · cases h
      · cases h
    · cases h
theorem catF_rel {as2 as1 : List V} {r2 : V} (h : catF as2 = some r2) (ha : RelL as2 noT as1) : ∃ r, run Ft Ct 59 as1 = some r ∧ RelR r2 r ∧ ∀ l2, itemsOf (some r2) = some l2 → ∃ l, itemsOf (some r) = some l ∧ RelE l2 l := by
  unfold catF at h
  split at h
  · rename_i rows
    obtain ⟨v, rfl, hv⟩ := RelL.inv1 ha
    split at h
    · rename_i l hl
      split at h
      · rename_i hb
        injection h with h
        subst h
        have key : ∃ rs, C1.RowsV v rs ∧ l = C1.eI (C1.flatR rs) ∧ rs.length = rows.length := by
          simp only [Rel] at hv
          rcases hv with ⟨h1, rfl⟩ | ⟨es', rfl, h1⟩
          · subst h1
            simp [cat] at hl; subst hl
            exact ⟨[], ⟨.inl rfl, rfl, by simp⟩, rfl, rfl⟩
          · obtain ⟨rs, rfl, h2, h3⟩ := cat_rel hl h1
            refine ⟨rs, ⟨.inr ⟨_, rfl⟩, rfl, h2⟩, h3, ?_⟩
            have := RelE.length h1
            simpa using this
        obtain ⟨rs, h1, rfl, h3⟩ := key
        have hft := C1.flat_len rs
        have hlen : (C1.eI (C1.flatR rs)).length = C1.tot rs := by rw [C1.eI_len, hft]
        have := C1.run59 h1 (by omega) (by omega)
        refine ⟨_, this, ?_, fun l2 h => by simp [itemsOf] at h⟩
        by_cases h0 : C1.tot rs = 0
        · have hn : C1.flatR rs = [] := List.length_eq_zero_iff.1 (by omega)
          rw [if_pos h0, hn]
          have hr : ∀ ρ : TkF, Rel (.sl (some 2000000) 1 (C1.eI [])) ρ .nil := fun ρ => by
            rw [Rel]; left; exact ⟨rfl, rfl, rfl⟩
          exact ⟨⟨noT, hr _⟩, fun ρ _ => hr ρ⟩
        · rw [if_neg h0]
          have hr : ∀ ρ : TkF, ρ 0 = some (C1.tot rs, true) → Rel (.sl (some 2000000) 1 (C1.eI (C1.flatR rs))) ρ (.sl (some 0) 1 (C1.eI (C1.flatR rs))) := fun ρ hρ => by
            rw [Rel]; right
            refine ⟨_, rfl, ?_, true, ?_, fun _ => rfl, fun h => by simp [roX] at h, fun _ => by rw [hlen]; exact h0⟩
            · generalize C1.flatR rs = xs
              induction xs with
              | nil => simp [C1.eI, RelE]
              | cons x xs ih =>
                simp only [C1.eI, List.map_cons, RelE, RelL, Rel] at ih ⊢
                exact ⟨_, _, rfl, ⟨_, _, rfl, rfl, rfl⟩, ih⟩
            · rw [hlen]; exact hρ
          refine ⟨⟨fun _ => some (C1.tot rs, true), hr _ rfl⟩, fun ρ h => hr ρ (h 0 _ ?_)⟩
          simp only [V.tks, List.mem_cons]
          left
          rw [hlen]
      · cases h
    · cases h
  · cases h
theorem tabR : TabR F2 Ft C2 Ct := by
  refine ⟨fun f g2 as2 r2 as1 h1 h2 h3 => ?_, fun f lf h1 h2 => ⟨rfl, tabC f lf h2⟩⟩
  unfold F2 at h1
  split at h1
  · injection h1 with h1
    subst h1
    exact catF_rel h2 h3
  · cases h1
end Go.Lo

/- Tables and spans, as arguments. -/
namespace Go.Lo
open Go.Proofs
abbrev tabTy : Ty := .st [.sl (.int .i64), .sl (.sl (.int .i64)), .sl (.sl (.int .i64))]
abbrev spanTy : Ty := .st [.int .i64, .int .i64]
theorem can_tab {v : V} (h : HasV tabTy v) : ∃ (s : List Int) (g p : List (List Int)), Rel (T s g p) noT v ∧ ∀ x ∈ s, i64r x := by
  simp only [HasV] at h
  obtain ⟨cs, rfl, h⟩ := h
  obtain ⟨x1, r1, rfl, h1, h⟩ := h.inv
  obtain ⟨x2, r2, rfl, h2, h⟩ := h.inv
  obtain ⟨x3, r3, rfl, h3, h⟩ := h.inv
  rw [HasCs] at h
  subst h
  obtain ⟨a, rfl⟩ := h1.sl1
  obtain ⟨b, rfl⟩ := h2.sl1
  obtain ⟨c, rfl⟩ := h3.sl1
  obtain ⟨s, hs, hw⟩ := can_ints h1
  obtain ⟨g, hg, _⟩ := can_rows h2
  obtain ⟨p, hp, _⟩ := can_rows h3
  refine ⟨s, g, p, ?_, hw⟩
  rw [Rel]
  exact ⟨_, rfl, RelL.cons hs (RelL.cons hg (RelL.one hp))⟩
theorem can_span {v : V} (h : HasV spanTy v) : ∃ a b : Int, v = .agg [.int .i64 a, .int .i64 b] ∧ i64r a ∧ i64r b := by
  simp only [HasV] at h
  obtain ⟨cs, rfl, h⟩ := h
  obtain ⟨x1, r1, rfl, h1, h⟩ := h.inv
  obtain ⟨x2, r2, rfl, h2, h⟩ := h.inv
  rw [HasCs] at h
  subst h
  simp only [HasC] at h1 h2
  obtain ⟨a, rfl, ha⟩ := h1
  obtain ⟨b, rfl, hb⟩ := h2
  exact ⟨a, b, rfl, wf_i64r ha, wf_i64r hb⟩
theorem rel_agg (xs : List Int) : Rel (.agg (xs.map fun x => .int .i64 x)) noT (.agg (xs.map fun x => .int .i64 x)) := by
  rw [Rel]
  exact ⟨_, rfl, relL_ints .i64 xs⟩
end Go.Lo

/- More arguments that read as data. -/
namespace Go.Lo
theorem wf_u8 {n : Int} (h : (Lit.int .u8 n).wf = true) : 0 ≤ n ∧ n ≤ 255 := by
  simp [Lit.wf, IntKind.min, IntKind.max, IntKind.bits, IntKind.signed] at h; omega
theorem wf_u16 {n : Int} (h : (Lit.int .u16 n).wf = true) : 0 ≤ n ∧ n ≤ 65535 := by
  simp [Lit.wf, IntKind.min, IntKind.max, IntKind.bits, IntKind.signed] at h; omega
theorem wf_i8 {n : Int} (h : (Lit.int .i8 n).wf = true) : -128 ≤ n ∧ n ≤ 127 := by
  simp [Lit.wf, IntKind.min, IntKind.max, IntKind.bits, IntKind.signed] at h; omega
theorem wf_i16 {n : Int} (h : (Lit.int .i16 n).wf = true) : -32768 ≤ n ∧ n ≤ 32767 := by
  simp [Lit.wf, IntKind.min, IntKind.max, IntKind.bits, IntKind.signed] at h; omega
/-- A slice whose elements are told by things of a type, each of which stands for its cells. -/
theorem can_sl {α : Type} {t : Ty} {E : α → List V} {Q : α → Prop} {v : V} (h : HasC (.sl t) [v]) (he : ∀ x, HasC t x → ∃ a, RelL (E a) noT x ∧ Q a) : ∃ l : List α, Rel (S t.cells (l.map E)) noT v ∧ ∀ a ∈ l, Q a := by
  rw [HasC] at h
  rcases h with h | ⟨es, h, _, hes⟩
  · injection h with h _
    subst h
    exact ⟨[], by rw [Rel]; left; exact ⟨rfl, rfl⟩, fun x hx => by cases hx⟩
  · injection h with h _
    subst h
    have key : ∀ es : List (List V), (∀ x ∈ es, HasC t x) → ∃ l : List α, RelE (l.map E) es ∧ ∀ a ∈ l, Q a := by
      intro es
      induction es with
      | nil => exact fun _ => ⟨[], by simp [RelE], fun x hx => by cases hx⟩
      | cons e es ih =>
        intro h
        obtain ⟨a, h1, h2⟩ := he e (h e (by simp))
        obtain ⟨l, g1, g2⟩ := ih fun x hx => h x (by simp [hx])
        refine ⟨a :: l, by rw [List.map_cons]; exact RelE.cons h1 g1, fun x hx => ?_⟩
        rcases List.mem_cons.1 hx with rfl | hx
        · exact h2
        · exact g2 x hx
    obtain ⟨l, hr, hb⟩ := key es hes
    exact ⟨l, by rw [Rel]; right; exact ⟨_, rfl, hr⟩, hb⟩
theorem can_intsK {k : IntKind} {v : V} (h : HasC (.sl (.int k)) [v]) : ∃ xs : List Int, Rel (S 1 (xs.map fun x => [V.int k x])) noT v ∧ ∀ x ∈ xs, (Lit.int k x).wf = true :=
  can_sl (E := fun x => [V.int k x]) (Q := fun x => (Lit.int k x).wf = true) h fun x hx => by
    simp only [HasC] at hx
    obtain ⟨n, rfl, hn⟩ := hx
    exact ⟨n, RelL.one (by simp only [Rel]), hn⟩
theorem can_arrs {k : IntKind} {n : Nat} {v : V} (h : HasC (.sl (.arr n (.int k))) [v]) : ∃ rs : List (List Int), Rel (S n (rs.map fun r => r.map fun x => V.int k x)) noT v ∧ ∀ r ∈ rs, r.length = n ∧ ∀ x ∈ r, (Lit.int k x).wf = true := by
  have := can_sl (E := fun r : List Int => r.map fun x => V.int k x) (Q := fun r => r.length = n ∧ ∀ x ∈ r, (Lit.int k x).wf = true) h fun x hx => by
    obtain ⟨xs, h1, h2, h3⟩ := can_arr (k := k) (n := n) (v := .agg x) (by simp only [HasV]; exact ⟨x, rfl, hx⟩)
    injection h2 with h2
    exact ⟨xs, by rw [h2]; exact relL_ints k xs, h1, h3⟩
  rwa [show (Ty.arr n (.int k)).cells = n from by simp [Ty.cells]] at this
theorem rel_aggK (k : IntKind) (xs : List Int) : Rel (.agg (xs.map fun x => .int k x)) noT (.agg (xs.map fun x => .int k x)) := by
  rw [Rel]
  exact ⟨_, rfl, relL_ints k xs⟩
theorem rel_int (k : IntKind) (n : Int) : Rel (.int k n) noT (.int k n) := by rw [Rel]
theorem rel_bool (b : Bool) : Rel (.bool b) noT (.bool b) := by rw [Rel]
end Go.Lo

/- Small functions of zone and of its reference. -/
namespace Go.Lo
open Go.Proofs
set_option linter.unusedSimpArgs false
/-! ### The first of a list for which a function says so -/
theorem p87 {α : Type} {E : α → List V} {W : α → V} {g : Nat} {caps : List V} {pr : α → Bool} (hc : ∀ rd, frzL rd caps = some caps) {xs : List α} (hE : ∀ x ∈ xs, partV (E x) 0 none = some (W x) ∧ (∀ rd, (W x).frz rd = some (W x)) ∧ ∀ s, opV s (some (W x)) = some (W x)) (hp : ∀ x ∈ xs, R g (W x :: caps) = some (B (pr x))) (hl : xs.length < 4611686018427387904) :
    R 87 [S 1 (xs.map E), .fn (.f g) caps] = some (I (match xs.findIdx? pr with | none => -1 | some k => k)) := by
  have L := loop_find (s := fun i => { fr := [(0, S 1 (xs.map E)), (1, .fn (.f g) caps), (7, I xs.length), (8, I i)], tk := [] }) (f := evC2 R (xs.length + 1) b87_0) (n := xs.length) (g := prAt pr xs) (E := fun i => (.ret, { fr := [(4, I i)], tk := [] })) (X := (.exit 0, { fr := [(0, S 1 (xs.map E)), (1, .fn (.f g) caps), (7, I xs.length), (8, I xs.length), (9, B false)], tk := [] }))
    (fun i hi => by
      have h1 : xs[i]? = some xs[i] := List.getElem?_eq_getElem hi
      have hm : xs[i] ∈ xs := List.getElem_mem hi
      have hp' := hp _ hm
      obtain ⟨h2, h3, h4⟩ := hE _ hm
      have hlt : (i : Int) < xs.length := by omega
      clear hp hE
      generalize xs[i] = x at *
      rw [prAt_some h1]
      generalize hw : W x = w at *
      cases hx : pr x <;> rw [hx] at hp' <;> simp (maxSteps := 2000000) (disch := first | omega | (simp; done) | (simp; omega)) [-getElem?_pos, -partV, b87_0, h1, h2, h3, h4, hc, hp', hlt, wrap64]) (fun _ => by simp) (by simp [b87_0]) (by simp) xs.length 0 (by omega)
  rw [find_idx] at L
  refine run2_body (xs.length + 1) rfl rfl rfl rfl rfl ?_
  cases hf : xs.findIdx? pr with
  | none =>
    rw [hf] at L
    simp at L
    simp [l87, L]
  | some k =>
    rw [hf] at L
    simp at L
    simp [l87, L]
theorem p82 {α : Type} {E : α → List V} {W : α → V} {g : Nat} {caps : List V} {pr : α → Bool} (hc : ∀ rd, frzL rd caps = some caps) {xs : List α} (hE : ∀ x ∈ xs, partV (E x) 0 none = some (W x) ∧ (∀ rd, (W x).frz rd = some (W x)) ∧ ∀ s, opV s (some (W x)) = some (W x)) (hp : ∀ x ∈ xs, R g (W x :: caps) = some (B (pr x))) (hl : xs.length < 4611686018427387904) :
    R 82 [S 1 (xs.map E), .fn (.f g) caps] = some (B (xs.any pr)) := by
  have h := p87 hc hE hp hl
  refine run2_body 1 rfl rfl rfl rfl rfl ?_
  cases hf : xs.findIdx? pr with
  | none =>
    rw [hf] at h
    have : xs.any pr = false := by
      rw [List.findIdx?_eq_none_iff] at hf
      rw [List.any_eq_false]; simpa using hf
    simp [l82, h, hc, this]
  | some k =>
    rw [hf] at h
    have : xs.any pr = true := by
      have := List.findIdx?_isSome (xs := xs) (p := pr)
      rw [hf] at this
      exact this.symm
    simp (maxSteps := 2000000) (disch := first | omega | (simp; done) | (simp; omega)) [l82, h, hc, this]

/-! ### The first of a list for which a function says so -/
theorem p81 {α : Type} {E : α → List V} {W : α → V} {g : Nat} {caps : List V} {pr : α → Bool} (hc : ∀ rd, frzL rd caps = some caps) {xs : List α} (hE : ∀ x ∈ xs, partV (E x) 0 none = some (W x) ∧ (∀ rd, (W x).frz rd = some (W x)) ∧ ∀ s, opV s (some (W x)) = some (W x)) (hp : ∀ x ∈ xs, R g (W x :: caps) = some (B (pr x))) (hl : xs.length < 4611686018427387904) :
    R 81 [S 1 (xs.map E), .fn (.f g) caps] = some (I (match xs.findIdx? pr with | none => -1 | some k => k)) := by
  have L := loop_find (s := fun i => { fr := [(0, S 1 (xs.map E)), (1, .fn (.f g) caps), (7, I xs.length), (8, I i)], tk := [] }) (f := evC2 R (xs.length + 1) b81_0) (n := xs.length) (g := prAt pr xs) (E := fun i => (.ret, { fr := [(4, I i)], tk := [] })) (X := (.exit 0, { fr := [(0, S 1 (xs.map E)), (1, .fn (.f g) caps), (7, I xs.length), (8, I xs.length), (9, B false)], tk := [] }))
    (fun i hi => by
      have h1 : xs[i]? = some xs[i] := List.getElem?_eq_getElem hi
      have hm : xs[i] ∈ xs := List.getElem_mem hi
      have hp' := hp _ hm
      obtain ⟨h2, h3, h4⟩ := hE _ hm
      have hlt : (i : Int) < xs.length := by omega
      clear hp hE
      generalize xs[i] = x at *
      rw [prAt_some h1]
      generalize hw : W x = w at *
      cases hx : pr x <;> rw [hx] at hp' <;> simp (maxSteps := 2000000) (disch := first | omega | (simp; done) | (simp; omega)) [-getElem?_pos, -partV, b81_0, h1, h2, h3, h4, hc, hp', hlt, wrap64]) (fun _ => by simp) (by simp [b81_0]) (by simp) xs.length 0 (by omega)
  rw [find_idx] at L
  refine run2_body (xs.length + 1) rfl rfl rfl rfl rfl ?_
  cases hf : xs.findIdx? pr with
  | none =>
    rw [hf] at L
    simp at L
    simp [l81, L]
  | some k =>
    rw [hf] at L
    simp at L
    simp [l81, L]
theorem p56 {α : Type} {E : α → List V} {W : α → V} {g : Nat} {caps : List V} {pr : α → Bool} (hc : ∀ rd, frzL rd caps = some caps) {xs : List α} (hE : ∀ x ∈ xs, partV (E x) 0 none = some (W x) ∧ (∀ rd, (W x).frz rd = some (W x)) ∧ ∀ s, opV s (some (W x)) = some (W x)) (hp : ∀ x ∈ xs, R g (W x :: caps) = some (B (pr x))) (hl : xs.length < 4611686018427387904) :
    R 56 [S 1 (xs.map E), .fn (.f g) caps] = some (B (xs.any pr)) := by
  have h := p81 hc hE hp hl
  refine run2_body 1 rfl rfl rfl rfl rfl ?_
  cases hf : xs.findIdx? pr with
  | none =>
    rw [hf] at h
    have : xs.any pr = false := by
      rw [List.findIdx?_eq_none_iff] at hf
      rw [List.any_eq_false]; simpa using hf
    simp [l56, h, hc, this]
  | some k =>
    rw [hf] at h
    have : xs.any pr = true := by
      have := List.findIdx?_isSome (xs := xs) (p := pr)
      rw [hf] at this
      exact this.symm
    simp (maxSteps := 2000000) (disch := first | omega | (simp; done) | (simp; omega)) [l56, h, hc, this]

theorem p83 (x lo hi : Int) : R 83 [I x, .cref [I lo], .cref [I hi]] = some (B (decide (x < lo) || decide (x > hi))) := by
  refine run2_body 1 rfl rfl rfl rfl rfl ?_
  by_cases h : x < lo <;> simp [l83, h]
theorem p58 (lo hi : Int) {xs : List Int} (hl : xs.length < 4611686018427387904) : R 58 [I lo, I hi, S 1 (eI xs)] = some (B (xs.all fun x => decide (lo ≤ x ∧ x ≤ hi))) := by
  have h := p82 (g := 83) (caps := [.cref [I lo], .cref [I hi]]) (pr := fun x => decide (x < lo) || decide (x > hi)) (E := fun x => [I x]) (W := fun x => I x) (xs := xs) (fun _ => rfl) (fun _ _ => ⟨rfl, fun _ => rfl, fun _ => rfl⟩) (fun x _ => p83 x lo hi) hl
  refine run2_body 1 rfl rfl rfl rfl rfl ?_
  have e : (xs.all fun x => decide (lo ≤ x ∧ x ≤ hi)) = !(xs.any fun x => decide (x < lo) || decide (x > hi)) := by
    rw [List.not_any_eq_all_not]
    congr 1
    funext x
    by_cases h1 : x < lo <;> by_cases h2 : x > hi <;> simp [h1, h2] <;> omega
  rw [e]
  simp [l58, h]

end Go.Lo

/- A table is checked: by the program, and by the reference. -/
namespace Go.Lo
open Go.Proofs
set_option linter.unusedSimpArgs false
theorem p54 (xs : List Int) (n : Int) : R 54 [S 1 (eI xs), I n] = some (B (decide ((xs.length : Int) > n))) := by
  refine run2_body 1 rfl rfl rfl rfl rfl ?_
  simp (maxSteps := 2000000) (disch := first | omega | (simp; done) | (simp; omega)) [-getElem?_pos, l54]
theorem p55 (xs : List (List Int)) (n : Int) : R 55 [S 1 (eR xs), I n] = some (B (decide ((xs.length : Int) > n))) := by
  refine run2_body 1 rfl rfl rfl rfl rfl ?_
  simp (maxSteps := 2000000) (disch := first | omega | (simp; done) | (simp; omega)) [-getElem?_pos, l55]
theorem p57 (r s : List Int) (g p : List (List Int)) : R 57 [S 1 (eI r), .cref [S 1 (eI s), S 1 (eR g), S 1 (eR p)]] = some (B (decide (r.length ≠ s.length))) := by
  refine run2_body 1 rfl rfl rfl rfl rfl ?_
  by_cases h : r.length = s.length <;> simp (maxSteps := 2000000) (disch := first | omega | (simp; done) | (simp; omega)) [-getElem?_pos, l57, h]
  omega
theorem p56_1 (s : List Int) (g p rs : List (List Int)) (hl : rs.length < 4611686018427387904) : R 56 [S 1 (eR rs), .fn (.f 57) [.cref [S 1 (eI s), S 1 (eR g), S 1 (eR p)]]] = some (B (rs.any fun r => decide (r.length ≠ s.length))) :=
  p56 (E := fun r => [S 1 (eI r)]) (W := fun r => S 1 (eI r)) (fun _ => rfl) (fun _ _ => ⟨rfl, fun _ => rfl, fun _ => rfl⟩) (fun r _ => p57 r s g p) hl
theorem p58_1 (lo hi x : Int) : R 58 [I lo, I hi, S 1 [[I x]]] = some (B (decide (lo ≤ x ∧ x ≤ hi))) := by
  have := p58 lo hi (xs := [x]) (by simp)
  simpa using this
theorem p65 (x lo hi : Int) : R 65 [I x, I lo, I hi] = some (B (decide (lo ≤ x ∧ x ≤ hi))) := by
  refine run2_body 1 rfl rfl rfl rfl rfl ?_
  by_cases h : lo ≤ x <;> simp (maxSteps := 2000000) (disch := first | omega | (simp; done) | (simp; omega)) [-getElem?_pos, l65, h]
def clsB (np ng : Nat) (pl gr : Int) : Bool := decide (0 ≤ pl ∧ pl < np ∧ 0 ≤ gr ∧ gr < ng)
theorem p85 (s : List Int) {g p : List (List Int)} (hg : g.length ≤ 1000) (hp : p.length ≤ 1000) (pl gr : Int) : R 85 [T s g p, .agg [I pl, I gr]] = some (B (clsB p.length g.length pl gr)) := by
  refine run2_body 1 rfl rfl rfl rfl rfl ?_
  have e1 := p58_1 0 ((p.length : Int) - 1) pl
  have e2 := p58_1 0 ((g.length : Int) - 1) gr
  rw [show clsB p.length g.length pl gr = (decide (0 ≤ pl ∧ pl ≤ (p.length : Int) - 1) && decide (0 ≤ gr ∧ gr ≤ (g.length : Int) - 1)) from by rw [Bool.eq_iff_iff]; simp [clsB]; omega]
  by_cases h : 0 ≤ pl ∧ pl ≤ (p.length : Int) - 1 <;> simp (maxSteps := 2000000) (disch := first | omega | (simp; done) | (simp; omega)) [-getElem?_pos, l85, e1, e2, h, wrap64]
theorem p38 (s : List Int) {g p : List (List Int)} (hg : g.length ≤ 1000) (hp : p.length ≤ 1000) (pl gr : Int) : R 38 [T s g p, .agg [I pl, I gr]] = some (B (clsB p.length g.length pl gr)) := by
  refine run2_body 1 rfl rfl rfl rfl rfl ?_
  have e1 := p65 pl 0 ((p.length : Int) - 1)
  have e2 := p65 gr 0 ((g.length : Int) - 1)
  rw [show clsB p.length g.length pl gr = (decide (0 ≤ pl ∧ pl ≤ (p.length : Int) - 1) && decide (0 ≤ gr ∧ gr ≤ (g.length : Int) - 1)) from by rw [Bool.eq_iff_iff]; simp [clsB]; omega]
  by_cases h : 0 ≤ pl ∧ pl ≤ (p.length : Int) - 1 <;> simp (maxSteps := 2000000) (disch := first | omega | (simp; done) | (simp; omega)) [-getElem?_pos, l38, e1, e2, h, wrap64]
theorem p88 (x size : Int) : R 88 [I x, .cref [I size]] = some (B (decide (size ≤ x))) := by
  refine run2_body 1 rfl rfl rfl rfl rfl ?_
  simp (maxSteps := 2000000) (disch := first | omega | (simp; done) | (simp; omega)) [-getElem?_pos, l88]
def stepOf (s : List Int) (size : Int) : Option Nat := if 1 ≤ size then s.findIdx? (fun x => decide (size ≤ x)) else none
theorem p70 (s : List Int) (g p : List (List Int)) (hl : s.length ≤ 1000) (size : Int) : R 70 [T s g p, I size] = some (match stepOf s size with | some j => .tup [I j, I 0] | none => .tup [I 0, I 3]) := by
  refine run2_body 1 rfl rfl rfl rfl rfl ?_
  have e1 := p87 (g := 88) (caps := [.cref [I size]]) (pr := fun x => decide (size ≤ x)) (E := fun x => [I x]) (W := fun x => I x) (xs := s) (fun _ => rfl) (fun _ _ => ⟨rfl, fun _ => rfl, fun _ => rfl⟩) (fun x _ => p88 x size) (by omega)
  unfold stepOf
  cases hf : s.findIdx? (fun x => decide (size ≤ x)) with
  | none => rw [hf] at e1; by_cases h : size < 1 <;> simp (maxSteps := 2000000) (disch := first | omega | (simp; done) | (simp; omega)) [-getElem?_pos, l70, e1, h]
  | some j =>
    rw [hf] at e1
    have : ¬ (j : Int) < 0 := by omega
    by_cases h : size < 1
    · have : ¬ 1 ≤ size := by omega
      simp (maxSteps := 2000000) (disch := first | omega | (simp; done) | (simp; omega)) [-getElem?_pos, l70, e1, h, this]
    · have : 1 ≤ size := by omega
      simp (maxSteps := 2000000) (disch := first | omega | (simp; done) | (simp; omega)) [-getElem?_pos, l70, e1, h, this]
theorem p35 (s : List Int) (g p : List (List Int)) (hl : s.length ≤ 1000) (size : Int) : R 35 [T s g p, I size] = some (match stepOf s size with | some j => .tup [I j, B true] | none => .tup [I 0, B false]) := by
  refine run2_body (s.length + 1) rfl rfl rfl rfl rfl ?_
  unfold stepOf
  by_cases h1 : 1 ≤ size
  · have L := loop_if (s := fun i => { fr := [(1, I size), (2, .box [S 1 (eI s), S 1 (eR g), S 1 (eR p)]), (6, I i)], tk := [] }) (f := evC2 R (s.length + 1) b35_0) (n := s.length) (g := prAt (fun x => decide (size ≤ x)) s) (E := fun i => (.ret, { fr := [(4, I i), (5, B true)], tk := [] })) (X := (.exit 0, { fr := [(1, I size), (2, .box [S 1 (eI s), S 1 (eR g), S 1 (eR p)]), (6, I s.length), (15, B false)], tk := [] }))
      (fun i hi => by
        have h2 : s[i]? = some s[i] := List.getElem?_eq_getElem hi
        rw [prAt_some h2]
        generalize s[i] = x at *
        have h1' : size ≥ 1 := h1
        simp (maxSteps := 2000000) (disch := first | omega | (simp; done) | (simp; omega)) [-getElem?_pos, b35_0, h2, hi, h1, h1', wrap64]) (fun _ => by simp) (by simp (maxSteps := 2000000) (disch := first | omega | (simp; done) | (simp; omega)) [-getElem?_pos, b35_0]) (by simp)
    rw [find_idx] at L
    cases hf : s.findIdx? (fun x => decide (size ≤ x)) with
    | none => rw [hf] at L; simp at L; simp (maxSteps := 2000000) (disch := first | omega | (simp; done) | (simp; omega)) [-getElem?_pos, l35, L, h1, hf]
    | some j => rw [hf] at L; simp at L; simp (maxSteps := 2000000) (disch := first | omega | (simp; done) | (simp; omega)) [-getElem?_pos, l35, L, h1, hf]
  · have L : iter (evC2 R (s.length + 1) b35_0) (s.length + 1) { fr := [(1, I size), (2, .box [S 1 (eI s), S 1 (eR g), S 1 (eR p)]), (6, I 0)], tk := [] } = some (.exit 0, { fr := [(1, I size), (2, .box [S 1 (eI s), S 1 (eR g), S 1 (eR p)]), (6, I 0), (15, B false)], tk := [] }) := by
      rw [iter_succ]
      have h1' : ¬ size ≥ 1 := h1
      by_cases hs : 0 < s.length <;> simp (maxSteps := 2000000) (disch := first | omega | (simp; done) | (simp; omega)) [-getElem?_pos, b35_0, h1, h1', hs]
    simp (maxSteps := 2000000) (disch := first | omega | (simp; done) | (simp; omega)) [-getElem?_pos, l35, L, h1]
end Go.Lo

/- A table is checked, by the program. -/
namespace Go.Lo
open Go.Proofs
set_option linter.unusedSimpArgs false
theorem cat_rows : ∀ g : List (List Int), cat (eR g) = some (eI g.flatten)
  | [] => rfl
  | r :: g => by
    have := cat_rows g
    have hi : (eI r).all isI = true := by simp [isI]
    simp only [List.map_cons, cat, hi, if_true, this, List.flatten_cons, List.map_append]
theorem p59 {g : List (List Int)} (h1 : g.length ≤ 1000000000) (h2 : g.flatten.length ≤ 1000000000) : R 59 [S 1 (eR g)] = some (.sl (some 2000000) 1 (eI g.flatten)) := by
  rw [show R 59 [S 1 (eR g)] = catF [S 1 (eR g)] from run2_told rfl]
  simp only [catF, cat_rows]
  rw [if_pos ⟨by simpa only [List.length_map] using h1, by simpa only [List.length_map] using h2⟩]
/-! ### What is checked -/
def at0 (s : List Int) (i : Nat) : Int := s.getD i 0
def aft (s : List Int) (i : Nat) : Int := if i = 0 then 1 else at0 s (i - 1) + 1
def stepB (s : List Int) (i : Nat) : Bool := decide (aft s i ≤ at0 s i ∧ at0 s i ≤ 10000000)
def formB (n : Nat) (r : List Int) : Bool := decide (r.length ≠ n)
def inR (a b : Int) (xs : List Int) : Bool := xs.all fun n => decide (a ≤ n ∧ n ≤ b)
/-- The error of a table. -/
def chk (s : List Int) (g p : List (List Int)) : Int :=
  if 20 < s.length ∨ 12 < g.length ∨ 12 < p.length then 5
  else if g.any (formB s.length) = true ∨ p.any (formB s.length) = true then 4
  else if (List.range s.length).all (stepB s) = true ∧ s ≠ [] ∧ g ≠ [] ∧ p ≠ [] ∧ g.all (inR 0 100000) = true ∧ p.all (inR (-100000) 100000) = true then 0 else 2
theorem at0_get {s : List Int} {i : Nat} (hi : i < s.length) : s[i]? = some (at0 s i) := by
  unfold at0
  simp [hi]
theorem all_find {n : Nat} {g : Nat → Bool} : (List.range n).all g = ((List.range n).find? fun i => !g i).isNone := by
  rw [Bool.eq_iff_iff, List.all_eq_true, Option.isNone_iff_eq_none, List.find?_eq_none]
  simp
theorem flat_form {g : List (List Int)} {n : Nat} (h : g.any (formB n) = false) : g.flatten.length = g.length * n := by
  induction g with
  | nil => simp
  | cons r g ih =>
    simp only [List.any_cons, Bool.or_eq_false_iff] at h
    have h1 : r.length = n := by simpa [formB] using h.1
    rw [List.flatten_cons, List.length_append, ih h.2, h1, List.length_cons, Nat.add_mul]
    omega
theorem flat_nil {g : List (List Int)} {n : Nat} (h : g.any (formB n) = false) : g.flatten = [] ↔ g = [] ∨ n = 0 := by
  rw [← List.length_eq_zero_iff, flat_form h, Nat.mul_eq_zero, List.length_eq_zero_iff]
theorem flat_in (a b : Int) (g : List (List Int)) : inR a b g.flatten = g.all (inR a b) := by
  induction g with
  | nil => rfl
  | cons r g ih => unfold inR at *; rw [List.flatten_cons, List.all_append, List.all_cons, ih]
theorem p58_in (lo hi : Int) {xs : List Int} (hl : xs.length ≤ 1000000000) : R 58 [I lo, I hi, S 1 (eI xs)] = some (B (inR lo hi xs)) := p58 lo hi (by omega)
theorem loop15_0 (s : List Int) (g p : List (List Int)) (hg : g.length ≤ 12) (hp : p.length ≤ 12) (M : Nat) :
    iter (evC2 R (M + 3) b15_0) (M + 3) { fr := [(1, .box [S 1 (eI s), S 1 (eR g), S 1 (eR p)]), (27, .agg [S 1 (eR g), S 1 (eR p)]), (28, I 0)], tk := [] } =
      if g.any (formB s.length) = true ∨ p.any (formB s.length) = true then some (.ret, { fr := [(1, .box [S 1 (eI s), S 1 (eR g), S 1 (eR p)]), (2, I 4)], tk := [] })
      else some (.exit 0, { fr := [(1, .box [S 1 (eI s), S 1 (eR g), S 1 (eR p)]), (27, .agg [S 1 (eR g), S 1 (eR p)]), (28, I 2), (29, B false)], tk := [] }) := by
  have e1 := p56_1 s g p g (by omega)
  have e2 := p56_1 s g p p (by omega)
  rw [show formB s.length = fun r => decide (r.length ≠ s.length) from rfl]
  generalize (g.any fun r => decide (r.length ≠ s.length)) = c1 at *
  generalize (p.any fun r => decide (r.length ≠ s.length)) = c2 at *
  rw [iter_succ]
  cases c1 with
  | true => simp (maxSteps := 2000000) (disch := first | omega | (simp; done) | (simp; omega)) [-getElem?_pos, b15_0, e1]
  | false =>
    simp (maxSteps := 2000000) (disch := first | omega | (simp; done) | (simp; omega)) [-getElem?_pos, b15_0, e1, wrap64]
    rw [iter_succ]
    cases c2 with
    | true => simp (maxSteps := 2000000) (disch := first | omega | (simp; done) | (simp; omega)) [-getElem?_pos, b15_0, e2]
    | false =>
      simp (maxSteps := 2000000) (disch := first | omega | (simp; done) | (simp; omega)) [-getElem?_pos, b15_0, e2, wrap64]
      rw [iter_succ]
      simp (maxSteps := 2000000) (disch := first | omega | (simp; done) | (simp; omega)) [-getElem?_pos, b15_0]
theorem loop15_1 (s : List Int) (g p : List (List Int)) (hl : s.length ≤ 20) (hw : ∀ x ∈ s, -9223372036854775808 ≤ x) (M : Nat) :
    iter (evC2 R M b15_1) (s.length + 1) { fr := [(1, .box [S 1 (eI s), S 1 (eR g), S 1 (eR p)]), (5, I 1), (36, S 1 (eI s)), (37, I s.length), (38, I 0)], tk := [] } =
      if (List.range s.length).all (stepB s) = true then some (.exit 2, { fr := [(1, .box [S 1 (eI s), S 1 (eR g), S 1 (eR p)]), (5, I (aft s s.length)), (36, S 1 (eI s)), (37, I s.length), (38, I s.length), (39, B false)], tk := [] })
      else some (.ret, { fr := [(1, .box [S 1 (eI s), S 1 (eR g), S 1 (eR p)]), (2, I 2)], tk := [] }) := by
  have L := loop_if (s := fun i => { fr := [(1, .box [S 1 (eI s), S 1 (eR g), S 1 (eR p)]), (5, I (aft s i)), (36, S 1 (eI s)), (37, I s.length), (38, I i)], tk := [] }) (f := evC2 R M b15_1) (n := s.length) (g := fun i => !stepB s i) (E := fun _ => (.ret, { fr := [(1, .box [S 1 (eI s), S 1 (eR g), S 1 (eR p)]), (2, I 2)], tk := [] })) (X := (.exit 2, { fr := [(1, .box [S 1 (eI s), S 1 (eR g), S 1 (eR p)]), (5, I (aft s s.length)), (36, S 1 (eI s)), (37, I s.length), (38, I s.length), (39, B false)], tk := [] }))
    (fun i hi => by
      have h1 := at0_get hi
      have e1 := p58_1 (aft s i) 10000000 (at0 s i)
      have haft : aft s (i + 1) = at0 s i + 1 := by simp [aft]
      rw [haft]
      unfold stepB
      generalize aft s i = a at *
      generalize at0 s i = x at *
      have hx := hw x (List.mem_of_getElem? h1)
      by_cases hc : a ≤ x ∧ x ≤ 10000000
      · simp (maxSteps := 2000000) (disch := first | omega | (simp; done) | (simp; omega)) [-getElem?_pos, b15_1, h1, hi, e1, hc, wrap64]
      · simp (maxSteps := 2000000) (disch := first | omega | (simp; done) | (simp; omega)) [-getElem?_pos, b15_1, h1, hi, e1, hc]) (fun _ => by simp) (by simp (maxSteps := 2000000) (disch := first | omega | (simp; done) | (simp; omega)) [-getElem?_pos, b15_1]) (by simp)
  rw [← List.range_eq_range'] at L
  have h0 : aft s 0 = 1 := rfl
  simp only [h0] at L
  rw [show ((0 : Nat) : Int) = 0 from rfl] at L
  rw [L, all_find]
  cases (List.range s.length).find? (fun i => !stepB s i) <;> simp
theorem p15 (s : List Int) (g p : List (List Int)) (hw : ∀ x ∈ s, -9223372036854775808 ≤ x) : R 15 [T s g p] = some (I (chk s g p)) := by
  have e1 := p54 s 20
  have e2 := p55 g 12
  have e3 := p55 p 12
  refine run2_body (s.length + 3) rfl rfl rfl rfl rfl ?_
  unfold chk
  by_cases c1 : (s.length : Int) > 20
  · simp (maxSteps := 2000000) (disch := first | omega | (simp; done) | (simp; omega)) [-getElem?_pos, l15, e1, c1]; omega
  · by_cases c2 : (g.length : Int) > 12
    · simp (maxSteps := 2000000) (disch := first | omega | (simp; done) | (simp; omega)) [-getElem?_pos, l15, e1, e2, c1, c2]; omega
    · by_cases c3 : (p.length : Int) > 12
      · simp (maxSteps := 2000000) (disch := first | omega | (simp; done) | (simp; omega)) [-getElem?_pos, l15, e1, e2, e3, c1, c2, c3]; omega
      · have L0 := loop15_0 s g p (by omega) (by omega) s.length
        have L1 := loop15_1 s g p (by omega) hw (s.length + 3)
        by_cases c4 : g.any (formB s.length) = true ∨ p.any (formB s.length) = true
        · rw [if_pos c4] at L0
          rw [if_neg (by omega), if_pos c4]
          simp (maxSteps := 2000000) (disch := first | omega | (simp; done) | (simp; omega)) [-getElem?_pos, l15, e1, e2, e3, c1, c2, c3, L0]
        · rw [if_neg c4] at L0
          rw [if_neg (by omega), if_neg c4]
          simp only [not_or, Bool.not_eq_true] at c4
          by_cases c5 : (List.range s.length).all (stepB s) = true
          · rw [if_pos c5] at L1
            have L1 := iter_le (f := evC2 R (s.length + 3) b15_1) (fun _ _ h => h) (show s.length + 1 ≤ s.length + 3 by omega) L1
            have n1 := flat_form c4.1
            have n2 := flat_form c4.2
            have b1 : g.length * s.length ≤ 12 * 20 := Nat.mul_le_mul (by omega) (by omega)
            have b2 : p.length * s.length ≤ 12 * 20 := Nat.mul_le_mul (by omega) (by omega)
            have e4 := p59 (g := g) (by omega) (by omega)
            have e5 := p59 (g := p) (by omega) (by omega)
            have e6 := p58_in 0 100000 (xs := g.flatten) (by omega)
            have e7 := p58_in (-100000) 100000 (xs := p.flatten) (by omega)
            have z1 := flat_nil c4.1
            have z2 := flat_nil c4.2
            rw [← flat_in, ← flat_in]
            have hs : (s = [] ↔ s.length = 0) := by rw [List.length_eq_zero_iff]
            have hiff : ((List.range s.length).all (stepB s) = true ∧ s ≠ [] ∧ g ≠ [] ∧ p ≠ [] ∧ inR 0 100000 g.flatten = true ∧ inR (-100000) 100000 p.flatten = true) ↔ (g.flatten.length ≠ 0 ∧ p.flatten.length ≠ 0 ∧ inR 0 100000 g.flatten = true ∧ inR (-100000) 100000 p.flatten = true) := by
              rw [ne_eq, ne_eq, ne_eq, ne_eq, ne_eq, List.length_eq_zero_iff, List.length_eq_zero_iff, z1, z2, hs]
              simp only [c5, true_and, not_or]
              exact ⟨fun ⟨a, b, c, d⟩ => ⟨⟨b, a⟩, ⟨c, a⟩, d⟩, fun ⟨a, b, d⟩ => ⟨a.2, a.1, b.1, d⟩⟩
            rw [if_iff hiff]
            generalize g.flatten = fg at *
            generalize p.flatten = fp at *
            by_cases d1 : fg.length = 0
            · simp (maxSteps := 2000000) (disch := first | omega | (simp; done) | (simp; omega)) [-getElem?_pos, l15, e1, e2, e3, c1, c2, c3, L0, L1, e4, e5, d1]
            · by_cases d2 : fp.length = 0
              · simp (maxSteps := 2000000) (disch := first | omega | (simp; done) | (simp; omega)) [-getElem?_pos, l15, e1, e2, e3, c1, c2, c3, L0, L1, e4, e5, d1, d2]
              · cases d3 : inR 0 100000 fg with
                | false => simp (maxSteps := 2000000) (disch := first | omega | (simp; done) | (simp; omega)) [-getElem?_pos, l15, e1, e2, e3, c1, c2, c3, L0, L1, e4, e5, e6, d1, d2, d3]
                | true =>
                  cases d4 : inR (-100000) 100000 fp with
                  | false => simp (maxSteps := 2000000) (disch := first | omega | (simp; done) | (simp; omega)) [-getElem?_pos, l15, e1, e2, e3, c1, c2, c3, L0, L1, e4, e5, e6, e7, d1, d2, d3, d4]
                  | true => simp (maxSteps := 2000000) (disch := first | omega | (simp; done) | (simp; omega)) [-getElem?_pos, l15, e1, e2, e3, c1, c2, c3, L0, L1, e4, e5, e6, e7, d1, d2, d3, d4]
          · rw [if_neg c5] at L1
            have L1 := iter_le (f := evC2 R (s.length + 3) b15_1) (fun _ _ h => h) (show s.length + 1 ≤ s.length + 3 by omega) L1
            rw [if_neg (fun h => c5 h.1)]
            simp (maxSteps := 2000000) (disch := first | omega | (simp; done) | (simp; omega)) [-getElem?_pos, l15, e1, e2, e3, c1, c2, c3, L0, L1]
end Go.Lo

/- A table is checked, by the reference. -/
namespace Go.Lo
open Go.Proofs
set_option linter.unusedSimpArgs false
theorem p64_t (rs : List (List Int)) (many least : Int) (hl : rs.length < 4611686018427387904) : R 64 [S 1 (eR rs), I many, I least, B true] = some (I (if (rs.any fun r => decide ((r.length : Int) ≠ many)) = true then 4 else 0)) := by
  have L := loop_if (s := fun i => { fr := [(0, S 1 (eR rs)), (1, I many), (2, I least), (3, B true), (9, I i)], tk := [] }) (f := evC2 R (rs.length + 1) b64_0) (n := rs.length) (g := prAt (fun r => decide ((r.length : Int) ≠ many)) rs) (E := fun _ => (.ret, { fr := [(8, I 4)], tk := [] })) (X := (.exit 0, { fr := [(0, S 1 (eR rs)), (1, I many), (2, I least), (3, B true), (9, I rs.length), (14, B false)], tk := [] }))
    (fun i hi => by
      have h1 : rs[i]? = some rs[i] := List.getElem?_eq_getElem hi
      rw [prAt_some h1]
      generalize rs[i] = r at *
      by_cases h2 : (r.length : Int) = many
      · by_cases h0 : 0 < many <;> simp (maxSteps := 2000000) (disch := first | omega | (simp; done) | (simp; omega)) [-getElem?_pos, b64_0, b64_1, iter_succ, h1, hi, h2, h0, wrap64]
      · simp (maxSteps := 2000000) (disch := first | omega | (simp; done) | (simp; omega)) [-getElem?_pos, b64_0, h1, hi, h2]) (fun _ => by simp) (by simp (maxSteps := 2000000) (disch := first | omega | (simp; done) | (simp; omega)) [-getElem?_pos, b64_0]) (by simp)
  rw [find_idx] at L
  refine run2_body (rs.length + 1) rfl rfl rfl rfl rfl ?_
  rw [← List.findIdx?_isSome]
  cases hf : rs.findIdx? fun r => decide ((r.length : Int) ≠ many) with
  | none => rw [hf] at L; simp at L; simp (maxSteps := 2000000) (disch := first | omega | (simp; done) | (simp; omega)) [-getElem?_pos, l64, L]
  | some j => rw [hf] at L; simp at L; simp (maxSteps := 2000000) (disch := first | omega | (simp; done) | (simp; omega)) [-getElem?_pos, l64, L]
theorem p64_f (rs : List (List Int)) (many least : Int) (hl : rs.length < 4611686018427387904) (hr : ∀ r ∈ rs, r.length < 4611686018427387904) : R 64 [S 1 (eR rs), I many, I least, B false] = some (I (if (rs.all (inR least 100000)) = true ∧ rs ≠ [] then 0 else 2)) := by
  obtain ⟨K, hK⟩ : ∃ K, ∀ r ∈ rs, r.length ≤ K := ⟨(rs.map List.length).sum, fun r h => by
    clear hl hr
    induction rs with
    | nil => cases h
    | cons x xs ih =>
      simp only [List.map_cons, List.sum_cons]
      rcases List.mem_cons.1 h with rfl | h
      · omega
      · have := ih h; omega⟩
  have L := loop_if (s := fun i => { fr := [(0, S 1 (eR rs)), (1, I many), (2, I least), (3, B false), (9, I i)], tk := [] }) (f := evC2 R (K + rs.length + 1) b64_0) (n := rs.length) (g := prAt (fun r => !inR least 100000 r) rs) (E := fun _ => (.ret, { fr := [(8, I 2)], tk := [] })) (X := (.exit 0, { fr := [(0, S 1 (eR rs)), (1, I many), (2, I least), (3, B false), (9, I rs.length), (14, B false)], tk := [] }))
    (fun i hi => by
      have h1 : rs[i]? = some rs[i] := List.getElem?_eq_getElem hi
      rw [prAt_some h1]
      have hm : rs[i] ∈ rs := List.getElem_mem hi
      have hrk := hK _ hm
      have hrl := hr _ hm
      generalize rs[i] = r at *
      have L2 := loop_if (s := fun k => { fr := [(0, S 1 (eR rs)), (1, I many), (2, I least), (3, B false), (9, I i), (10, I k)], tk := [] }) (f := evC2 R (K + rs.length + 1) b64_1) (n := r.length) (g := prAt (fun x => !decide (least ≤ x ∧ x ≤ 100000)) r) (E := fun _ => (.ret, { fr := [(8, I 2)], tk := [] })) (X := (.exit 2, { fr := [(0, S 1 (eR rs)), (1, I many), (2, I least), (3, B false), (9, I i), (10, I r.length), (37, B false)], tk := [] }))
        (fun k hk => by
          have h2 : r[k]? = some r[k] := List.getElem?_eq_getElem hk
          rw [prAt_some h2]
          generalize r[k] = x at *
          have e1 := p65 x least 100000
          by_cases h3 : least ≤ x ∧ x ≤ 100000 <;> simp (maxSteps := 2000000) (disch := first | omega | (simp; done) | (simp; omega)) [-getElem?_pos, b64_1, h1, hi, h2, hk, e1, h3, wrap64]) (fun _ => by simp) (by simp (maxSteps := 2000000) (disch := first | omega | (simp; done) | (simp; omega)) [-getElem?_pos, b64_1, h1, hi]) (by simp)
      rw [find_idx] at L2
      have L2 := iter_le (f := evC2 R (K + rs.length + 1) b64_1) (fun _ _ h => h) (show r.length + 1 ≤ K + rs.length + 1 by omega) L2
      have hin : inR least 100000 r = (r.findIdx? fun x => !decide (least ≤ x ∧ x ≤ 100000)).isNone := by
        unfold inR
        rw [Bool.eq_iff_iff, List.all_eq_true, Option.isNone_iff_eq_none, List.findIdx?_eq_none_iff]
        simp
      rw [hin]
      cases hf : r.findIdx? fun x => !decide (least ≤ x ∧ x ≤ 100000) with
      | none => rw [hf] at L2; simp at L2; simp (maxSteps := 2000000) (disch := first | omega | (simp; done) | (simp; omega)) [-getElem?_pos, b64_0, L2, hi, wrap64]
      | some j => rw [hf] at L2; simp at L2; simp (maxSteps := 2000000) (disch := first | omega | (simp; done) | (simp; omega)) [-getElem?_pos, b64_0, L2, hi]) (fun _ => by simp) (by simp (maxSteps := 2000000) (disch := first | omega | (simp; done) | (simp; omega)) [-getElem?_pos, b64_0]) (by simp)
  rw [find_idx] at L
  have L := iter_le (f := evC2 R (K + rs.length + 1) b64_0) (fun _ _ h => h) (show rs.length + 1 ≤ K + rs.length + 1 by omega) L
  refine run2_body (K + rs.length + 1) rfl rfl rfl rfl rfl ?_
  have hin : rs.all (inR least 100000) = (rs.findIdx? fun r => !inR least 100000 r).isNone := by
    rw [Bool.eq_iff_iff, List.all_eq_true, Option.isNone_iff_eq_none, List.findIdx?_eq_none_iff]
    simp
  rw [hin]
  cases hf : rs.findIdx? fun r => !inR least 100000 r with
  | none =>
    rw [hf] at L; simp at L
    by_cases h0 : rs.length = 0
    · rw [if_neg (fun h => h.2 (List.length_eq_zero_iff.1 h0))]
      simp [h0] at L
      simp (maxSteps := 2000000) (disch := first | omega | (simp; done) | (simp; omega)) [-getElem?_pos, l64, L, h0]
    · rw [if_pos ⟨rfl, fun h => h0 (by rw [h]; rfl)⟩]
      simp (maxSteps := 2000000) (disch := first | omega | (simp; done) | (simp; omega)) [-getElem?_pos, l64, L, h0]
  | some j => rw [hf] at L; simp at L; simp (maxSteps := 2000000) (disch := first | omega | (simp; done) | (simp; omega)) [-getElem?_pos, l64, L]
def refB (s : List Int) (i : Nat) : Bool := decide (1 ≤ at0 s i ∧ at0 s i ≤ 10000000) && !(decide (0 < i) && decide (at0 s i ≤ at0 s (i - 1)))
theorem ref_step (s : List Int) : (List.range s.length).all (refB s) = (List.range s.length).all (stepB s) := by
  rw [Bool.eq_iff_iff, List.all_eq_true, List.all_eq_true]
  constructor
  · intro h i hi
    have h1 := h i hi
    have hi : i < s.length := by simpa using hi
    simp [refB] at h1
    obtain ⟨⟨h11, h12⟩, h13⟩ := h1
    unfold stepB aft
    split
    · simp; omega
    · have h14 : at0 s (i - 1) < at0 s i := by omega
      simp; omega
  · intro h
    have key : ∀ i, i < s.length → 1 ≤ at0 s i := by
      intro i
      induction i with
      | zero => intro hi; have := h 0 (by simpa using hi); simp [stepB, aft] at this; omega
      | succ i ih => intro hi; have := h (i + 1) (by simpa using hi); have := ih (by omega); simp [stepB, aft] at *; omega
    intro i hi
    have h1 := h i hi
    have hi : i < s.length := by simpa using hi
    have h2 := key i hi
    unfold stepB aft at h1
    rw [decide_eq_true_eq] at h1
    obtain ⟨h11, h12⟩ := h1
    simp [refB]
    by_cases hi0 : i = 0
    · exact ⟨⟨h2, h12⟩, .inl hi0⟩
    · rw [if_neg hi0] at h11
      exact ⟨⟨h2, h12⟩, .inr (by omega)⟩
set_option maxHeartbeats 40000000 in
theorem loop20 (s : List Int) (g p : List (List Int)) (hl : s.length ≤ 20) (M : Nat) :
    iter (evC2 R M b20_0) (s.length + 1) { fr := [(1, .box [S 1 (eI s), S 1 (eR g), S 1 (eR p)]), (3, I 0)], tk := [] } =
      if (List.range s.length).all (stepB s) = true then some (.exit 0, { fr := [(1, .box [S 1 (eI s), S 1 (eR g), S 1 (eR p)]), (3, I s.length), (40, B false)], tk := [] })
      else some (.ret, { fr := [(2, I 2)], tk := [] }) := by
  have L := loop_if (s := fun i => { fr := [(1, .box [S 1 (eI s), S 1 (eR g), S 1 (eR p)]), (3, I i)], tk := [] }) (f := evC2 R M b20_0) (n := s.length) (g := fun i => !refB s i) (E := fun _ => (.ret, { fr := [(2, I 2)], tk := [] })) (X := (.exit 0, { fr := [(1, .box [S 1 (eI s), S 1 (eR g), S 1 (eR p)]), (3, I s.length), (40, B false)], tk := [] }))
    (fun i hi => by
      have h1 := at0_get hi
      have e1 := p65 (at0 s i) 1 10000000
      unfold refB
      by_cases c1 : 1 ≤ at0 s i ∧ at0 s i ≤ 10000000
      · by_cases hi0 : i = 0
        · subst hi0
          simp (maxSteps := 2000000) (disch := first | omega | (simp; done) | (simp; omega)) [-getElem?_pos, b20_0, h1, hi, e1, c1, wrap64]
        · have h2 := at0_get (s := s) (i := i - 1) (by omega)
          have hj : (0 : Int) < (i : Int) := by omega
          have hj' : 0 < i := by omega
          have hw : IntKind.i64.wrap ((i : Int) - 1) = ((i - 1 : Nat) : Int) := by rw [wrap64 (by omega) (by omega)]; omega
          generalize i - 1 = j at *
          generalize at0 s i = x at *
          generalize at0 s j = y at *
          by_cases c2 : x ≤ y <;> simp (maxSteps := 2000000) (disch := first | omega | (simp; done) | (simp; omega)) [-getElem?_pos, b20_0, h1, h2, hi, e1, c1, c2, hj, hj', hw, wrap64]
      · simp (maxSteps := 2000000) (disch := first | omega | (simp; done) | (simp; omega)) [-getElem?_pos, b20_0, h1, hi, e1, c1]) (fun _ => by simp) (by simp (maxSteps := 2000000) (disch := first | omega | (simp; done) | (simp; omega)) [-getElem?_pos, b20_0]) (by simp)
  rw [← List.range_eq_range'] at L
  rw [show ((0 : Nat) : Int) = 0 from rfl] at L
  rw [L, ← ref_step, all_find]
  cases (List.range s.length).find? (fun i => !refB s i) <;> simp
set_option maxHeartbeats 40000000 in
theorem p20 (s : List Int) (g p : List (List Int)) : R 20 [T s g p] = some (I (chk s g p)) := by
  refine run2_body (s.length + 1) rfl rfl rfl rfl rfl ?_
  unfold chk
  by_cases c1 : (s.length : Int) > 20
  · simp (maxSteps := 2000000) (disch := first | omega | (simp; done) | (simp; omega)) [-getElem?_pos, l20, c1]; omega
  · by_cases c2 : (g.length : Int) > 12
    · simp (maxSteps := 2000000) (disch := first | omega | (simp; done) | (simp; omega)) [-getElem?_pos, l20, c1, c2]; omega
    · by_cases c3 : (p.length : Int) > 12
      · simp (maxSteps := 2000000) (disch := first | omega | (simp; done) | (simp; omega)) [-getElem?_pos, l20, c1, c2, c3]; omega
      · have hfm : ∀ rs : List (List Int), (rs.any fun r => decide ((r.length : Int) ≠ (s.length : Int))) = rs.any (formB s.length) := fun rs => by
          congr 1; funext r; unfold formB; rw [Bool.eq_iff_iff]; simp; omega
        have e1 := p64_t g s.length 0 (by omega)
        have e2 := p64_t p s.length 0 (by omega)
        rw [hfm] at e1 e2
        rw [if_neg (by omega)]
        by_cases c4 : g.any (formB s.length) = true
        · rw [if_pos c4] at e1
          simp (maxSteps := 2000000) (disch := first | omega | (simp; done) | (simp; omega)) [-getElem?_pos, l20, e1, c1, c2, c3, c4]
        · rw [if_neg c4] at e1
          by_cases c5 : p.any (formB s.length) = true
          · rw [if_pos c5] at e2
            simp (maxSteps := 2000000) (disch := first | omega | (simp; done) | (simp; omega)) [-getElem?_pos, l20, e1, e2, c1, c2, c3, c5]
          · rw [if_neg c5] at e2
            rw [if_neg (fun h => h.elim c4 c5)]
            have L := loop20 s g p (by omega) (s.length + 1)
            by_cases c6 : (List.range s.length).all (stepB s) = true
            · rw [if_pos c6] at L
              by_cases c7 : s = []
              · rw [if_neg (fun h => h.2.1 c7)]
                simp (maxSteps := 2000000) (disch := first | omega | (simp; done) | (simp; omega)) [-getElem?_pos, l20, e1, e2, c1, c2, c3, L]
                simp [c7]
              · have n1 : ∀ r ∈ g, r.length < 4611686018427387904 := fun r hr => by
                  have : ¬ formB s.length r = true := fun h => c4 (List.any_eq_true.2 ⟨r, hr, h⟩)
                  unfold formB at this
                  simp at this; omega
                have n2 : ∀ r ∈ p, r.length < 4611686018427387904 := fun r hr => by
                  have : ¬ formB s.length r = true := fun h => c5 (List.any_eq_true.2 ⟨r, hr, h⟩)
                  unfold formB at this
                  simp at this; omega
                have e3 := p64_f g 0 0 (by omega) n1
                have e4 := p64_f p 0 (-100000) (by omega) n2
                by_cases c8 : (g.all (inR 0 100000)) = true ∧ g ≠ []
                · rw [if_pos c8] at e3
                  by_cases c9 : (p.all (inR (-100000) 100000)) = true ∧ p ≠ []
                  · rw [if_pos c9] at e4
                    rw [if_pos ⟨c6, c7, c8.2, c9.2, c8.1, c9.1⟩]
                    simp (maxSteps := 2000000) (disch := first | omega | (simp; done) | (simp; omega)) [-getElem?_pos, l20, e1, e2, e3, e4, c1, c2, c3, L, c7]
                  · rw [if_neg c9] at e4
                    rw [if_neg (fun h => c9 ⟨h.2.2.2.2.2, h.2.2.2.1⟩)]
                    simp (maxSteps := 2000000) (disch := first | omega | (simp; done) | (simp; omega)) [-getElem?_pos, l20, e1, e2, e3, e4, c1, c2, c3, L, c7]
                · rw [if_neg c8] at e3
                  rw [if_neg (fun h => c8 ⟨h.2.2.2.2.1, h.2.2.1⟩)]
                  simp (maxSteps := 2000000) (disch := first | omega | (simp; done) | (simp; omega)) [-getElem?_pos, l20, e1, e2, e3, c1, c2, c3, L, c7]
            · rw [if_neg c6] at L
              rw [if_neg (fun h => c6 h.1)]
              simp (maxSteps := 2000000) (disch := first | omega | (simp; done) | (simp; omega)) [-getElem?_pos, l20, e1, e2, c1, c2, c3, L]
end Go.Lo

/- Copies of tables; same tables; large ones. -/
namespace Go.Lo
open Go.Proofs
set_option linter.unusedSimpArgs false
set_option maxHeartbeats 4000000
theorem p13 : R 13 [] = some (B true) := run2_of (n := 40) (by kernel_rfl)
theorem p17 (a b : Int) : R 17 [I a, I b] = some (.agg [I a, I b]) := by
  refine run2_body 1 rfl rfl rfl rfl rfl ?_
  simp (maxSteps := 2000000) (disch := first | omega | (simp; done) | (simp; omega)) [-getElem?_pos, l17]
theorem p26 (a b : Int) : R 26 [I a, I b] = some (.agg [I a, I b]) := by
  refine run2_body 1 rfl rfl rfl rfl rfl ?_
  simp (maxSteps := 2000000) (disch := first | omega | (simp; done) | (simp; omega)) [-getElem?_pos, l26]
theorem p30 (a b c d : Int) : R 30 [.agg [I a, I b], .agg [I c, I d]] = some (.agg [I a, I b, I c, I d]) := by
  refine run2_body 1 rfl rfl rfl rfl rfl ?_
  simp (maxSteps := 2000000) (disch := first | omega | (simp; done) | (simp; omega)) [-getElem?_pos, l30]
theorem p53 {xs : List Int} (h : xs.length ≤ 1000000000) : R 53 [S 1 (eI xs)] = some (.sl (some 0) 1 (eI xs)) := by
  refine run2_body 1 rfl rfl rfl rfl rfl ?_
  simp (maxSteps := 2000000) (disch := first | omega | (simp; done) | (simp; omega)) [-getElem?_pos, l53]
theorem p63 {xs ys : List Int} (h : xs.length ≤ 1000000000) : R 63 [S 1 (eI xs), S 1 (eI ys)] = some (B (decide (xs = ys))) := by
  by_cases hl : xs.length = ys.length
  · have L := loop_if (s := fun i => { fr := [(0, S 1 (eI xs)), (1, S 1 (eI ys)), (5, I i)], tk := [] }) (f := evC2 R (xs.length + 1) b63_0) (n := xs.length) (g := fun i => !decide (xs[i]? = ys[i]?)) (E := fun _ => (.ret, { fr := [(4, B false)], tk := [] })) (X := (.exit 0, { fr := [(0, S 1 (eI xs)), (1, S 1 (eI ys)), (5, I xs.length), (14, B false)], tk := [] }))
      (fun i hi => by
        have h1 : xs[i]? = some xs[i] := List.getElem?_eq_getElem hi
        have h2 : ys[i]? = some (ys[i]'(by omega)) := List.getElem?_eq_getElem (by omega)
        rw [h1, h2]
        generalize xs[i] = x at *
        generalize ys[i]'_ = y at *
        by_cases hxy : x = y <;> simp (maxSteps := 2000000) (disch := first | omega | (simp; done) | (simp; omega)) [-getElem?_pos, b63_0, h1, h2, hi, hxy, wrap64]) (fun _ => by simp) (by simp (maxSteps := 2000000) (disch := first | omega | (simp; done) | (simp; omega)) [-getElem?_pos, b63_0]) (by simp)
    refine run2_body (xs.length + 1) rfl rfl rfl rfl rfl ?_
    have hll : (xs.length : Int) = ys.length := by omega
    cases hf : (List.range' 0 xs.length).find? (fun i => !decide (xs[i]? = ys[i]?)) with
    | none =>
      rw [hf] at L
      rw [List.find?_eq_none] at hf
      have he : xs = ys := by
        apply List.ext_getElem? 
        intro i
        by_cases hi : i < xs.length
        · have := hf i (by simp; omega)
          simpa using this
        · rw [List.getElem?_eq_none (by omega), List.getElem?_eq_none (by omega)]
      simp at L
      simp (maxSteps := 2000000) (disch := first | omega | (simp; done) | (simp; omega)) [-getElem?_pos, l63, L, hll]
      exact he
    | some j =>
      rw [hf] at L
      have hj := List.find?_some hf
      have he : ¬ xs = ys := fun e => by subst e; simp at hj
      simp at L
      simp (maxSteps := 2000000) (disch := first | omega | (simp; done) | (simp; omega)) [-getElem?_pos, l63, L, hll]
      exact he
  · have hll : ¬ (xs.length : Int) = ys.length := by omega
    refine run2_body 1 rfl rfl rfl rfl rfl ?_
    have he : ¬ xs = ys := fun e => hl (by rw [e])
    simp (maxSteps := 2000000) (disch := first | omega | (simp; done) | (simp; omega)) [-getElem?_pos, l63, hll, he]
/-! ### same -/
theorem rows_all {g1 g2 : List (List Int)} (h : g1.length = g2.length) : ((List.range' 0 g1.length).find? (fun i => !decide (g1[i]? = g2[i]?))).isNone = decide (g1 = g2) := by
  rw [Bool.eq_iff_iff, Option.isNone_iff_eq_none, List.find?_eq_none, decide_eq_true_eq]
  constructor
  · intro hf
    apply List.ext_getElem?
    intro i
    by_cases hi : i < g1.length
    · have := hf i (by simp; omega)
      simpa using this
    · rw [List.getElem?_eq_none (by omega), List.getElem?_eq_none (by omega)]
  · intro e; subst e; simp
theorem p19 {s1 s2 : List Int} {g1 p1 g2 p2 : List (List Int)} (hs : s1.length ≤ 1000000) (hg : g1.length ≤ 1000000) (hp : p1.length ≤ 1000000) (hgr : ∀ r ∈ g1, r.length ≤ 1000000) (hpr : ∀ r ∈ p1, r.length ≤ 1000000) :
    R 19 [T s1 g1 p1, T s2 g2 p2] = some (B (decide (s1 = s2 ∧ g1 = g2 ∧ p1 = p2))) := by
  have e0 := p63 (xs := s1) (ys := s2) (by omega)
  by_cases c1 : s1 = s2
  · by_cases c2 : g1.length = g2.length
    · by_cases c3 : p1.length = p2.length
      · have c2i : (g1.length : Int) = g2.length := by omega
        have c3i : (p1.length : Int) = p2.length := by omega
        have L := loop_if (s := fun i => { fr := [(2, .box [S 1 (eI s1), S 1 (eR g1), S 1 (eR p1)]), (3, .box [S 1 (eI s2), S 1 (eR g2), S 1 (eR p2)]), (5, I i)], tk := [] }) (f := evC2 R (g1.length + p1.length + 1) b19_0) (n := g1.length) (g := fun i => !decide (g1[i]? = g2[i]?)) (E := fun _ => (.ret, { fr := [(4, B false)], tk := [] })) (X := (.exit 0, { fr := [(2, .box [S 1 (eI s1), S 1 (eR g1), S 1 (eR p1)]), (3, .box [S 1 (eI s2), S 1 (eR g2), S 1 (eR p2)]), (5, I g1.length), (35, B false)], tk := [] }))
          (fun i hi => by
            have h1 : g1[i]? = some g1[i] := List.getElem?_eq_getElem hi
            have h2 : g2[i]? = some (g2[i]'(by omega)) := List.getElem?_eq_getElem (by omega)
            have hm := hgr _ (List.getElem_mem hi)
            rw [h1, h2]
            generalize g1[i] = x at *
            generalize g2[i]'_ = y at *
            have e1 := p63 (xs := x) (ys := y) (by omega)
            by_cases hxy : x = y
            · rw [decide_eq_true hxy] at e1; subst hxy; simp (maxSteps := 2000000) (disch := first | omega | (simp; done) | (simp; omega)) [-getElem?_pos, b19_0, h1, h2, hi, e1, wrap64]
            · rw [decide_eq_false hxy] at e1; simp (maxSteps := 2000000) (disch := first | omega | (simp; done) | (simp; omega)) [-getElem?_pos, b19_0, h1, h2, hi, e1, hxy]) (fun _ => by simp) (by simp (maxSteps := 2000000) (disch := first | omega | (simp; done) | (simp; omega)) [-getElem?_pos, b19_0]) (by simp)
        have L2 := loop_if (s := fun i => { fr := [(2, .box [S 1 (eI s1), S 1 (eR g1), S 1 (eR p1)]), (3, .box [S 1 (eI s2), S 1 (eR g2), S 1 (eR p2)]), (6, I i)], tk := [] }) (f := evC2 R (g1.length + p1.length + 1) b19_1) (n := p1.length) (g := fun i => !decide (p1[i]? = p2[i]?)) (E := fun _ => (.ret, { fr := [(4, B false)], tk := [] })) (X := (.exit 2, { fr := [(2, .box [S 1 (eI s1), S 1 (eR g1), S 1 (eR p1)]), (3, .box [S 1 (eI s2), S 1 (eR g2), S 1 (eR p2)]), (6, I p1.length), (54, B false)], tk := [] }))
          (fun i hi => by
            have h1 : p1[i]? = some p1[i] := List.getElem?_eq_getElem hi
            have h2 : p2[i]? = some (p2[i]'(by omega)) := List.getElem?_eq_getElem (by omega)
            have hm := hpr _ (List.getElem_mem hi)
            rw [h1, h2]
            generalize p1[i] = x at *
            generalize p2[i]'_ = y at *
            have e1 := p63 (xs := x) (ys := y) (by omega)
            by_cases hxy : x = y
            · rw [decide_eq_true hxy] at e1; subst hxy; simp (maxSteps := 2000000) (disch := first | omega | (simp; done) | (simp; omega)) [-getElem?_pos, b19_1, h1, h2, hi, e1, wrap64]
            · rw [decide_eq_false hxy] at e1; simp (maxSteps := 2000000) (disch := first | omega | (simp; done) | (simp; omega)) [-getElem?_pos, b19_1, h1, h2, hi, e1, hxy]) (fun _ => by simp) (by simp (maxSteps := 2000000) (disch := first | omega | (simp; done) | (simp; omega)) [-getElem?_pos, b19_1]) (by simp)
        have L := iter_le (f := evC2 R (g1.length + p1.length + 1) b19_0) (fun _ _ h => h) (show g1.length + 1 ≤ g1.length + p1.length + 1 by omega) L
        have L2 := iter_le (f := evC2 R (g1.length + p1.length + 1) b19_1) (fun _ _ h => h) (show p1.length + 1 ≤ g1.length + p1.length + 1 by omega) L2
        have r1 := rows_all c2
        have r2 := rows_all c3
        refine run2_body (g1.length + p1.length + 1) rfl rfl rfl rfl rfl ?_
        rw [decide_eq_true c1] at e0
        cases hf : (List.range' 0 g1.length).find? (fun i => !decide (g1[i]? = g2[i]?)) with
        | none =>
          rw [hf] at L r1
          have d1 : g1 = g2 := by simpa using r1.symm
          simp at L
          cases hf2 : (List.range' 0 p1.length).find? (fun i => !decide (p1[i]? = p2[i]?)) with
          | none =>
            rw [hf2] at L2 r2
            have d2 : p1 = p2 := by simpa using r2.symm
            rw [decide_eq_true ⟨c1, d1, d2⟩]
            simp at L2
            simp (maxSteps := 2000000) (disch := first | omega | (simp; done) | (simp; omega)) [-getElem?_pos, l19, e0, c2i, c3i, L, L2]
          | some j =>
            rw [hf2] at L2 r2
            have d2 : ¬ p1 = p2 := by simpa using r2.symm
            rw [decide_eq_false (fun h => d2 h.2.2)]
            simp at L2
            simp (maxSteps := 2000000) (disch := first | omega | (simp; done) | (simp; omega)) [-getElem?_pos, l19, e0, c2i, c3i, L, L2]
        | some j =>
          rw [hf] at L r1
          have d1 : ¬ g1 = g2 := by simpa using r1.symm
          rw [decide_eq_false (fun h => d1 h.2.1)]
          simp at L
          simp (maxSteps := 2000000) (disch := first | omega | (simp; done) | (simp; omega)) [-getElem?_pos, l19, e0, c2i, c3i, L]
      · rw [decide_eq_false (fun h => c3 (by rw [h.2.2]))]
        have c2i : (g1.length : Int) = g2.length := by omega
        have c3i : ¬ (p1.length : Int) = p2.length := by omega
        rw [decide_eq_true c1] at e0
        refine run2_body 1 rfl rfl rfl rfl rfl ?_
        simp (maxSteps := 2000000) (disch := first | omega | (simp; done) | (simp; omega)) [-getElem?_pos, l19, e0, c2i, c3i]
    · rw [decide_eq_false (fun h => c2 (by rw [h.2.1]))]
      have c2i : ¬ (g1.length : Int) = g2.length := by omega
      rw [decide_eq_true c1] at e0
      refine run2_body 1 rfl rfl rfl rfl rfl ?_
      simp (maxSteps := 2000000) (disch := first | omega | (simp; done) | (simp; omega)) [-getElem?_pos, l19, e0, c2i]
  · rw [decide_eq_false (fun h => c1 h.1)]
    rw [decide_eq_false c1] at e0
    refine run2_body 1 rfl rfl rfl rfl rfl ?_
    simp (maxSteps := 2000000) (disch := first | omega | (simp; done) | (simp; omega)) [-getElem?_pos, l19, e0]
/-! ### large -/
structure Small (s : List Int) (g p : List (List Int)) (rows : Int) : Prop where
  ls : s.length ≤ 25
  lg : g.length ≤ 15
  lp : p.length ≤ 15
  rg : ∀ r ∈ g, r.length ≤ 25
  rp : ∀ r ∈ p, r.length ≤ 25
  ok : chk s g p = 0 → (g.length : Int) ≤ rows ∧ (p.length : Int) ≤ rows
theorem rows_le {g : List (List Int)} (hl : g.length ≤ 20) {n : Nat} (hn : n = min g.length 20) (h : (List.range' 0 n).find? (prAt (fun r => decide (25 < r.length)) g) = none) : ∀ r ∈ g, r.length ≤ 25 := by
  intro r hr
  obtain ⟨i, hi, rfl⟩ := List.mem_iff_getElem.1 hr
  have := List.find?_eq_none.1 h i (by simp; omega)
  rw [prAt_some (List.getElem?_eq_getElem hi)] at this
  simpa using this
theorem p12 (s : List Int) (g p : List (List Int)) (rows : Int) : ∃ r, R 12 [T s g p, I rows] = some (B r) ∧ (r = false → Small s g p rows) := by
  have e1 := p20 s g p
  have L := loop_if (s := fun i => { fr := [(1, I rows), (2, .box [S 1 (eI s), S 1 (eR g), S 1 (eR p)]), (5, I i)], tk := [] }) (f := evC2 R 21 b12_0) (n := min g.length 20) (g := prAt (fun r => decide (25 < r.length)) g) (E := fun _ => (.ret, { fr := [(4, B true)], tk := [] })) (X := (.exit 0, { fr := [(1, I rows), (2, .box [S 1 (eI s), S 1 (eR g), S 1 (eR p)]), (5, I (min g.length 20 : Nat)), (15, B false)], tk := [] }))
    (fun i hi => by
      have h1 : g[i]? = some g[i] := List.getElem?_eq_getElem (by omega)
      rw [prAt_some h1]
      have h2 : i < g.length := by omega
      have h3 : (i : Int) < 20 := by omega
      generalize g[i]'_ = r at *
      clear hi
      by_cases h4 : (25 : Int) < r.length
      · have h5 : 25 < r.length := by omega
        simp (maxSteps := 2000000) (disch := first | omega | (simp; done) | (simp; omega)) [-getElem?_pos, b12_0, h1, h2, h3, h4, h5]
      · have h5 : ¬ 25 < r.length := by omega
        simp (maxSteps := 2000000) (disch := first | omega | (simp; done) | (simp; omega)) [-getElem?_pos, b12_0, h1, h2, h3, h4, h5, wrap64]) (fun _ => by simp) (by
      by_cases h1 : g.length ≤ 20
      · rw [Nat.min_eq_left h1]; simp (maxSteps := 2000000) (disch := first | omega | (simp; done) | (simp; omega)) [-getElem?_pos, b12_0]
      · rw [Nat.min_eq_right (by omega)]
        by_cases h2 : (20 : Int) < g.length
        · simp (maxSteps := 2000000) (disch := first | omega | (simp; done) | (simp; omega)) [-getElem?_pos, b12_0, h2]
        · omega) (by simp)
  have L2 := loop_if (s := fun i => { fr := [(1, I rows), (2, .box [S 1 (eI s), S 1 (eR g), S 1 (eR p)]), (6, I i)], tk := [] }) (f := evC2 R 21 b12_1) (n := min p.length 20) (g := prAt (fun r => decide (25 < r.length)) p) (E := fun _ => (.ret, { fr := [(4, B true)], tk := [] })) (X := (.exit 2, { fr := [(1, I rows), (2, .box [S 1 (eI s), S 1 (eR g), S 1 (eR p)]), (6, I (min p.length 20 : Nat)), (33, B false)], tk := [] }))
    (fun i hi => by
      have h1 : p[i]? = some p[i] := List.getElem?_eq_getElem (by omega)
      rw [prAt_some h1]
      have h2 : i < p.length := by omega
      have h3 : (i : Int) < 20 := by omega
      generalize p[i]'_ = r at *
      clear hi
      by_cases h4 : (25 : Int) < r.length
      · have h5 : 25 < r.length := by omega
        simp (maxSteps := 2000000) (disch := first | omega | (simp; done) | (simp; omega)) [-getElem?_pos, b12_1, h1, h2, h3, h4, h5]
      · have h5 : ¬ 25 < r.length := by omega
        simp (maxSteps := 2000000) (disch := first | omega | (simp; done) | (simp; omega)) [-getElem?_pos, b12_1, h1, h2, h3, h4, h5, wrap64]) (fun _ => by simp) (by
      by_cases h1 : p.length ≤ 20
      · rw [Nat.min_eq_left h1]; simp (maxSteps := 2000000) (disch := first | omega | (simp; done) | (simp; omega)) [-getElem?_pos, b12_1]
      · rw [Nat.min_eq_right (by omega)]
        by_cases h2 : (20 : Int) < p.length
        · simp (maxSteps := 2000000) (disch := first | omega | (simp; done) | (simp; omega)) [-getElem?_pos, b12_1, h2]
        · omega) (by simp)
  have L := iter_le (f := evC2 R 21 b12_0) (fun _ _ h => h) (show min g.length 20 + 1 ≤ 21 by omega) L
  have L2 := iter_le (f := evC2 R 21 b12_1) (fun _ _ h => h) (show min p.length 20 + 1 ≤ 21 by omega) L2
  cases hf : (List.range' 0 (min g.length 20)).find? (prAt (fun r => decide (25 < r.length)) g) with
  | some j =>
    rw [hf] at L
    simp at L
    refine ⟨true, run2_body 21 rfl rfl rfl rfl rfl ?_, fun x => by cases x⟩
    simp (maxSteps := 2000000) (disch := first | omega | (simp; done) | (simp; omega)) [-getElem?_pos, l12, L]
  | none =>
    rw [hf] at L
    cases hf2 : (List.range' 0 (min p.length 20)).find? (prAt (fun r => decide (25 < r.length)) p) with
    | some j =>
      rw [hf2] at L2
      simp at L L2
      refine ⟨true, run2_body 21 rfl rfl rfl rfl rfl ?_, fun x => by cases x⟩
      simp (maxSteps := 2000000) (disch := first | omega | (simp; done) | (simp; omega)) [-getElem?_pos, l12, L, L2]
    | none =>
      rw [hf2] at L2
      simp at L L2
      by_cases c1 : (25 : Int) < s.length
      · refine ⟨true, run2_body 21 rfl rfl rfl rfl rfl ?_, fun x => by cases x⟩
        simp (maxSteps := 2000000) (disch := first | omega | (simp; done) | (simp; omega)) [-getElem?_pos, l12, L, L2, c1]
      · by_cases c2 : (15 : Int) < g.length
        · refine ⟨true, run2_body 21 rfl rfl rfl rfl rfl ?_, fun x => by cases x⟩
          simp (maxSteps := 2000000) (disch := first | omega | (simp; done) | (simp; omega)) [-getElem?_pos, l12, L, L2, c1, c2]
        · by_cases c3 : (15 : Int) < p.length
          · refine ⟨true, run2_body 21 rfl rfl rfl rfl rfl ?_, fun x => by cases x⟩
            simp (maxSteps := 2000000) (disch := first | omega | (simp; done) | (simp; omega)) [-getElem?_pos, l12, L, L2, c1, c2, c3]
          · have r1 := rows_le (by omega) rfl hf
            have r2 := rows_le (by omega) rfl hf2
            by_cases c4 : chk s g p = 0
            · rw [c4] at e1
              by_cases c5 : rows < g.length
              · refine ⟨true, run2_body 21 rfl rfl rfl rfl rfl ?_, fun x => by cases x⟩
                simp (maxSteps := 2000000) (disch := first | omega | (simp; done) | (simp; omega)) [-getElem?_pos, l12, L, L2, c1, c2, c3, e1, c5]
              · by_cases c6 : rows < p.length
                · refine ⟨true, run2_body 21 rfl rfl rfl rfl rfl ?_, fun x => by cases x⟩
                  simp (maxSteps := 2000000) (disch := first | omega | (simp; done) | (simp; omega)) [-getElem?_pos, l12, L, L2, c1, c2, c3, e1, c5, c6]
                · refine ⟨false, run2_body 21 rfl rfl rfl rfl rfl ?_, fun _ => ⟨by omega, by omega, by omega, r1, r2, fun _ => by omega⟩⟩
                  simp (maxSteps := 2000000) (disch := first | omega | (simp; done) | (simp; omega)) [-getElem?_pos, l12, L, L2, c1, c2, c3, e1, c5, c6]
            · refine ⟨false, run2_body 21 rfl rfl rfl rfl rfl ?_, fun _ => ⟨by omega, by omega, by omega, r1, r2, fun x => absurd x c4⟩⟩
              generalize chk s g p = e at *
              simp (maxSteps := 2000000) (disch := first | omega | (simp; done) | (simp; omega)) [-getElem?_pos, l12, L, L2, c1, c2, c3, e1, c4]
end Go.Lo

/- Zones, their play, and the limits. -/
namespace Go.Lo
open Go.Proofs
set_option linter.unusedSimpArgs false
set_option maxHeartbeats 4000000
/-! ### A copy of a table -/
abbrev TT (s : List Int) (g p : List (List Int)) : V := .agg [.sl (some 0) 1 (eI s), .sl (some 2000001) 1 (eR g), .sl (some 2000002) 1 (eR p)]
theorem take_at {α : Type} {l : List α} {i : Nat} {x : α} (h : l[i]? = some x) : l.take (i + 1) = l.take i ++ [x] := by
  rw [List.take_add_one, h]; rfl
theorem p14 (s : List Int) {g p : List (List Int)} (hs : s.length ≤ 1000000) (hg : g.length ≤ 1000000) (hp : p.length ≤ 1000000) (hgr : ∀ r ∈ g, r.length ≤ 1000000) (hpr : ∀ r ∈ p, r.length ≤ 1000000) :
    R 14 [T s g p] = some (TT s g p) := by
  have e1 := p53 (xs := s) (by omega)
  have L := loop_all (s := fun i => { fr := [(1, .box [S 1 (eI s), S 1 (eR g), S 1 (eR p)]), (2, .box [S 1 [], S 1 [], S 1 []]), (3, .box [.sl (some 800) 1 (eI s), .sl (some 2002600) 1 (eR (g.take i)), .sl (some 2004400) 1 []]), (4, I i)], tk := [] }) (f := evC2 R (g.length + p.length + 1) b14_0) (n := g.length) (X := (.exit 0, { fr := [(1, .box [S 1 (eI s), S 1 (eR g), S 1 (eR p)]), (2, .box [S 1 [], S 1 [], S 1 []]), (3, .box [.sl (some 800) 1 (eI s), .sl (some 2002600) 1 (eR g), .sl (some 2004400) 1 []]), (4, I g.length), (14, B false)], tk := [] }))
    (fun i hi => by
      have h1 : g[i]? = some g[i] := List.getElem?_eq_getElem hi
      have hm := hgr _ (List.getElem_mem hi)
      rw [take_at h1]
      generalize g[i] = r at *
      have e2 := p53 (xs := r) (by omega)
      have hl : (g.take i).length ≤ 1000000 := by rw [List.length_take]; omega
      generalize g.take i = gt at *
      simp (maxSteps := 2000000) (disch := first | omega | (simp; done) | (simp; omega)) [-getElem?_pos, b14_0, h1, hi, e2, wrap64]) (by rw [List.take_length]; simp (maxSteps := 2000000) (disch := first | omega | (simp; done) | (simp; omega)) [-getElem?_pos, b14_0]) (by simp)
  have L2 := loop_all (s := fun i => { fr := [(1, .box [S 1 (eI s), S 1 (eR g), S 1 (eR p)]), (2, .box [S 1 [], S 1 [], S 1 []]), (3, .box [.sl (some 800) 1 (eI s), .sl (some 2002600) 1 (eR g), .sl (some 2004400) 1 (eR (p.take i))]), (5, I i)], tk := [] }) (f := evC2 R (g.length + p.length + 1) b14_1) (n := p.length) (X := (.exit 2, { fr := [(1, .box [S 1 (eI s), S 1 (eR g), S 1 (eR p)]), (2, .box [S 1 [], S 1 [], S 1 []]), (3, .box [.sl (some 800) 1 (eI s), .sl (some 2002600) 1 (eR g), .sl (some 2004400) 1 (eR p)]), (5, I p.length), (32, B false)], tk := [] }))
    (fun i hi => by
      have h1 : p[i]? = some p[i] := List.getElem?_eq_getElem hi
      have hm := hpr _ (List.getElem_mem hi)
      rw [take_at h1]
      generalize p[i] = r at *
      have e2 := p53 (xs := r) (by omega)
      have hl : (p.take i).length ≤ 1000000 := by rw [List.length_take]; omega
      generalize p.take i = gt at *
      simp (maxSteps := 2000000) (disch := first | omega | (simp; done) | (simp; omega)) [-getElem?_pos, b14_1, h1, hi, e2, wrap64]) (by rw [List.take_length]; simp (maxSteps := 2000000) (disch := first | omega | (simp; done) | (simp; omega)) [-getElem?_pos, b14_1]) (by simp)
  have L := iter_le (f := evC2 R (g.length + p.length + 1) b14_0) (fun _ _ h => h) (show g.length + 1 ≤ g.length + p.length + 1 by omega) L
  have L2 := iter_le (f := evC2 R (g.length + p.length + 1) b14_1) (fun _ _ h => h) (show p.length + 1 ≤ g.length + p.length + 1 by omega) L2
  simp at L L2
  refine run2_body (g.length + p.length + 1) rfl rfl rfl rfl rfl ?_
  simp (maxSteps := 2000000) (disch := first | omega | (simp; done) | (simp; omega)) [-getElem?_pos, l14, e1, L, L2]
end Go.Lo

/- Zones, their play, and the limits. -/
namespace Go.Lo
open Go.Proofs
set_option linter.unusedSimpArgs false
set_option maxHeartbeats 4000000
def rowAt (g : List (List Int)) (i k : Nat) : Int := at0 (g.getD i []) k
/-- What is known of a valid table. -/
structure Good (s : List Int) (g p : List (List Int)) : Prop where
  ls : s.length ≤ 20
  lg : g.length ≤ 12
  lp : p.length ≤ 12
  fg : ∀ r ∈ g, r.length = s.length
  fp : ∀ r ∈ p, r.length = s.length
  rg : ∀ r ∈ g, ∀ x ∈ r, 0 ≤ x ∧ x ≤ 100000
  rp : ∀ r ∈ p, ∀ x ∈ r, -100000 ≤ x ∧ x ≤ 100000
  st : ∀ i, i < s.length → stepB s i = true
  ns : s ≠ []
  ng : g ≠ []
  np : p ≠ []
theorem chk_good {s : List Int} {g p : List (List Int)} (h : chk s g p = 0) : Good s g p := by
  unfold chk at h
  split at h
  · simp at h
  · rename_i h1
    split at h
    · simp at h
    · rename_i h2
      split at h
      · rename_i h3
        obtain ⟨c1, c2, c3, c4, c5, c6⟩ := h3
        have k1 : ∀ r ∈ g, r.length = s.length := by
          intro r hr
          apply Decidable.byContradiction
          intro hn
          apply h2
          left
          rw [List.any_eq_true]
          exact ⟨r, hr, by simp [formB]; omega⟩
        have k2 : ∀ r ∈ p, r.length = s.length := by
          intro r hr
          apply Decidable.byContradiction
          intro hn
          apply h2
          right
          rw [List.any_eq_true]
          exact ⟨r, hr, by simp [formB]; omega⟩
        refine ⟨by omega, by omega, by omega, k1, k2, ?_, ?_, ?_, c2, c3, c4⟩
        · intro r hr x hx
          have := List.all_eq_true.1 c5 r hr
          have := List.all_eq_true.1 this x hx
          simpa using this
        · intro r hr x hx
          have := List.all_eq_true.1 c6 r hr
          have := List.all_eq_true.1 this x hx
          simpa using this
        · intro i hi
          exact List.all_eq_true.1 c1 i (List.mem_range.2 hi)
      · simp at h
theorem row_get {g : List (List Int)} {n i k : Nat} (h : ∀ r ∈ g, r.length = n) (hi : i < g.length) (hk : k < n) : ∃ r, g[i]? = some r ∧ r[k]? = some (rowAt g i k) := by
  have h1 : g[i]? = some g[i] := List.getElem?_eq_getElem hi
  have hl := h _ (List.getElem_mem hi)
  refine ⟨g[i], h1, ?_⟩
  unfold rowAt
  rw [List.getD_eq_getElem?_getD, h1, Option.getD_some]
  exact at0_get (by omega)
theorem row_bd {g : List (List Int)} {n i k : Nat} {a b : Int} (hn : ∀ r ∈ g, r.length = n) (h : ∀ r ∈ g, ∀ x ∈ r, a ≤ x ∧ x ≤ b) (hi : i < g.length) (hk : k < n) : a ≤ rowAt g i k ∧ rowAt g i k ≤ b := by
  obtain ⟨r, h1, h2⟩ := row_get hn hi hk
  exact h r (List.mem_of_getElem? h1) _ (List.mem_of_getElem? h2)
theorem good_pos {s : List Int} {g p : List (List Int)} (h : Good s g p) : ∀ i, i < s.length → 1 ≤ at0 s i ∧ at0 s i ≤ 10000000 := by
  intro i
  induction i with
  | zero => intro hi; have := h.st 0 hi; unfold stepB aft at this; rw [decide_eq_true_eq] at this; exact this
  | succ i ih =>
    intro hi
    have h1 := h.st (i + 1) hi
    have h2 := ih (by omega)
    unfold stepB aft at h1
    rw [decide_eq_true_eq, if_neg (by omega)] at h1
    have : at0 s (i + 1 - 1) = at0 s i := rfl
    omega
abbrev eS (x : Int × Int) : V := .agg [I x.1, I x.2]
/-- A zone. -/
def zoneOf (g p : List (List Int)) (pl gr : Nat) (nut : Bool) (size : Int) (step : Nat) : Int × Int :=
  if nut = true then (size + rowAt p pl step, size + rowAt p pl step + rowAt g gr step) else (size - rowAt p pl step - rowAt g gr step, size - rowAt p pl step)
theorem p61_g {s : List Int} {g p : List (List Int)} (h : Good s g p) {pl gr step : Nat} (h1 : pl < p.length) (h2 : gr < g.length) (h3 : step < s.length) (nut : Bool) {size : Int} (hs : 0 ≤ size ∧ size ≤ 100000000) :
    R 61 [T s g p, .agg [I pl, I gr], B nut, I size, I step] = some (eS (zoneOf g p pl gr nut size step)) := by
  obtain ⟨r1, a1, a2⟩ := row_get h.fp h1 h3
  obtain ⟨r2, a3, a4⟩ := row_get h.fg h2 h3
  have b1 := row_bd h.fp h.rp h1 h3
  have b2 := row_bd h.fg h.rg h2 h3
  rw [p61 nut size a1 a3 a2 a4 hs b1 (by omega)]
  unfold zoneOf
  cases nut <;> rfl
theorem p62_g {s : List Int} {g p : List (List Int)} (h : Good s g p) {pl gr step : Nat} (h1 : pl < p.length) (h2 : gr < g.length) (h3 : step < s.length) (nut : Bool) {size : Int} (hs : 0 ≤ size ∧ size ≤ 100000000) :
    R 62 [T s g p, .agg [I pl, I gr], B nut, I size, I step] = some (eS (zoneOf g p pl gr nut size step)) := by
  obtain ⟨r1, a1, a2⟩ := row_get h.fp h1 h3
  obtain ⟨r2, a3, a4⟩ := row_get h.fg h2 h3
  have b1 := row_bd h.fp h.rp h1 h3
  have b2 := row_bd h.fg h.rg h2 h3
  unfold zoneOf
  generalize rowAt p pl step = far at *
  generalize rowAt g gr step = wide at *
  refine run2_body 1 rfl rfl rfl rfl rfl ?_
  cases nut <;> simp (maxSteps := 2000000) (disch := first | omega | (simp; done) | (simp; omega)) [-getElem?_pos, l62, a1, a2, a3, a4, wrap64]
theorem stepOf_lt {s : List Int} {size : Int} {j : Nat} (h : stepOf s size = some j) : j < s.length ∧ 1 ≤ size ∧ size ≤ at0 s j := by
  unfold stepOf at h
  split at h
  · rename_i h1
    obtain ⟨hj, h2, _⟩ := List.findIdx?_eq_some_iff_getElem.1 h
    refine ⟨hj, h1, ?_⟩
    have := at0_get hj
    rw [List.getElem?_eq_getElem hj] at this
    injection this with this
    rw [← this]
    simpa using h2
  · cases h
/-! ### A table is opened -/
theorem p60_0 (s : List Int) (g p : List (List Int)) (hw : ∀ x ∈ s, -9223372036854775808 ≤ x) (size : Int) : R 60 [T s g p, I size, S 2 []] = some (.tup [T s g p, I 0, I (chk s g p)]) := by
  have e1 := p15 s g p hw
  refine run2_body 3 rfl rfl rfl rfl rfl ?_
  by_cases c1 : chk s g p = 0
  · rw [c1] at e1 ⊢
    simp (maxSteps := 2000000) (disch := first | omega | (simp; done) | (simp; omega)) [-getElem?_pos, l60, b60_0, iter_succ, e1]
  · generalize chk s g p = e at *
    simp (maxSteps := 2000000) (disch := first | omega | (simp; done) | (simp; omega)) [-getElem?_pos, l60, e1, c1]
theorem p60_1 (s : List Int) (g p : List (List Int)) (hw : ∀ x ∈ s, -9223372036854775808 ≤ x) (size pl gr : Int) : R 60 [T s g p, I size, S 2 [[I pl, I gr]]] = some (
    if chk s g p ≠ 0 then .tup [T s g p, I 0, I (chk s g p)]
    else if clsB p.length g.length pl gr = false then .tup [T s g p, I 0, I 7]
    else match stepOf s size with
      | some j => .tup [T s g p, I j, I 0]
      | none => .tup [T s g p, I 0, I 3]) := by
  have e1 := p15 s g p hw
  refine run2_body 3 rfl rfl rfl rfl rfl ?_
  by_cases c1 : chk s g p = 0
  · rw [if_neg (fun x => x c1)]
    have hG := chk_good c1
    rw [c1] at e1
    have e2 := p85 s (g := g) (p := p) (by have := hG.lg; omega) (by have := hG.lp; omega) pl gr
    have e3 := p70 s g p (by have := hG.ls; omega) size
    cases c2 : clsB p.length g.length pl gr with
    | false => rw [c2] at e2; simp (maxSteps := 2000000) (disch := first | omega | (simp; done) | (simp; omega)) [-getElem?_pos, l60, b60_0, iter_succ, e1, e2]
    | true =>
      rw [c2] at e2
      cases c3 : stepOf s size with
      | none => rw [c3] at e3; simp only at e3; simp (maxSteps := 2000000) (disch := first | omega | (simp; done) | (simp; omega)) [-getElem?_pos, l60, b60_0, iter_succ, e1, e2, e3]
      | some j => rw [c3] at e3; simp only at e3; simp (maxSteps := 2000000) (disch := first | omega | (simp; done) | (simp; omega)) [-getElem?_pos, l60, b60_0, iter_succ, e1, e2, e3, wrap64]
  · rw [if_pos c1]
    generalize chk s g p = e at *
    simp (maxSteps := 2000000) (disch := first | omega | (simp; done) | (simp; omega)) [-getElem?_pos, l60, e1, c1]
theorem p60_2 (s : List Int) (g p : List (List Int)) (hw : ∀ x ∈ s, -9223372036854775808 ≤ x) (size p1 g1 p2 g2 : Int) : R 60 [T s g p, I size, S 2 [[I p1, I g1], [I p2, I g2]]] = some (
    if chk s g p ≠ 0 then .tup [T s g p, I 0, I (chk s g p)]
    else if clsB p.length g.length p1 g1 = false then .tup [T s g p, I 0, I 7]
    else match stepOf s size with
      | some j => if clsB p.length g.length p2 g2 = false then .tup [T s g p, I 0, I 7] else .tup [T s g p, I j, I 0]
      | none => .tup [T s g p, I 0, I 3]) := by
  have e1 := p15 s g p hw
  refine run2_body 3 rfl rfl rfl rfl rfl ?_
  by_cases c1 : chk s g p = 0
  · rw [if_neg (fun x => x c1)]
    have hG := chk_good c1
    rw [c1] at e1
    have e2 := p85 s (g := g) (p := p) (by have := hG.lg; omega) (by have := hG.lp; omega) p1 g1
    have e4 := p85 s (g := g) (p := p) (by have := hG.lg; omega) (by have := hG.lp; omega) p2 g2
    have e3 := p70 s g p (by have := hG.ls; omega) size
    cases c2 : clsB p.length g.length p1 g1 with
    | false => rw [c2] at e2; simp (maxSteps := 2000000) (disch := first | omega | (simp; done) | (simp; omega)) [-getElem?_pos, l60, b60_0, iter_succ, e1, e2]
    | true =>
      rw [c2] at e2
      cases c3 : stepOf s size with
      | none => rw [c3] at e3; simp only at e3; simp (maxSteps := 2000000) (disch := first | omega | (simp; done) | (simp; omega)) [-getElem?_pos, l60, b60_0, iter_succ, e1, e2, e3]
      | some j =>
        rw [c3] at e3; simp only at e3
        cases c4 : clsB p.length g.length p2 g2 with
        | false => rw [c4] at e4; simp (maxSteps := 2000000) (disch := first | omega | (simp; done) | (simp; omega)) [-getElem?_pos, l60, b60_0, iter_succ, e1, e2, e3, e4, wrap64]
        | true => rw [c4] at e4; simp (maxSteps := 2000000) (disch := first | omega | (simp; done) | (simp; omega)) [-getElem?_pos, l60, b60_0, iter_succ, e1, e2, e3, e4, wrap64]
  · rw [if_pos c1]
    generalize chk s g p = e at *
    simp (maxSteps := 2000000) (disch := first | omega | (simp; done) | (simp; omega)) [-getElem?_pos, l60, e1, c1]
/-! ### Play -/
theorem p73 (a b : Int × Int) : R 73 [eS a, eS b] = some (B (decide (b.1 ≤ a.1 ∧ a.2 ≤ b.2))) := by
  refine run2_body 1 rfl rfl rfl rfl rfl ?_
  by_cases h : b.1 ≤ a.1 <;> simp (maxSteps := 2000000) (disch := first | omega | (simp; done) | (simp; omega)) [-getElem?_pos, l73, h]
theorem p78 (a b : Int × Int) : R 78 [eS a, eS b] = some (B (decide (b.1 ≤ a.1 ∧ a.2 ≤ b.2))) := by
  refine run2_body 1 rfl rfl rfl rfl rfl ?_
  by_cases h : b.1 ≤ a.1 <;> simp (maxSteps := 2000000) (disch := first | omega | (simp; done) | (simp; omega)) [-getElem?_pos, l78, h]
abbrev playOf (a b : Int × Int) : Int × Int := (b.1 - a.2, b.2 - a.1)
def near (x : Int × Int) : Prop := -1000000000000 ≤ x.1 ∧ x.1 ≤ 1000000000000 ∧ -1000000000000 ≤ x.2 ∧ x.2 ≤ 1000000000000
theorem p86 {a b : Int × Int} (ha : near a) (hb : near b) : R 86 [eS a, eS b] = some (eS (playOf a b)) := by
  unfold near at ha hb
  refine run2_body 1 rfl rfl rfl rfl rfl ?_
  simp (maxSteps := 2000000) (disch := first | omega | (simp; done) | (simp; omega)) [-getElem?_pos, l86, wrap64]
theorem p34 {a b : Int × Int} (ha : near a) (hb : near b) : R 34 [eS a, eS b] = some (eS (playOf a b)) := by
  unfold near at ha hb
  refine run2_body 1 rfl rfl rfl rfl rfl ?_
  simp (maxSteps := 2000000) (disch := first | omega | (simp; done) | (simp; omega)) [-getElem?_pos, l34, wrap64]
theorem zone_near {s : List Int} {g p : List (List Int)} (h : Good s g p) {pl gr step : Nat} (h1 : pl < p.length) (h2 : gr < g.length) (h3 : step < s.length) (nut : Bool) {size : Int} (hs : 0 ≤ size ∧ size ≤ 100000000) : near (zoneOf g p pl gr nut size step) := by
  have b1 := row_bd h.fp h.rp h1 h3
  have b2 := row_bd h.fg h.rg h2 h3
  unfold near zoneOf
  cases nut <;> simp only [Bool.false_eq_true, if_false, if_true] <;> omega
theorem p69 {s : List Int} {g p : List (List Int)} (h : Good s g p) {p1 g1 p2 g2 step : Nat} (h1 : p1 < p.length) (h2 : g1 < g.length) (h4 : p2 < p.length) (h5 : g2 < g.length) (h3 : step < s.length) {size : Int} (hs : 0 ≤ size ∧ size ≤ 100000000) :
    R 69 [T s g p, .agg [I p1, I g1, I p2, I g2], I size, I step] = some (eS (playOf (zoneOf g p p1 g1 false size step) (zoneOf g p p2 g2 true size step))) := by
  have e1 := p61_g h h1 h2 h3 false hs
  have e2 := p61_g h h4 h5 h3 true hs
  have e3 := p86 (zone_near h h1 h2 h3 false hs) (zone_near h h4 h5 h3 true hs)
  generalize zoneOf g p p1 g1 false size step = a at *
  generalize zoneOf g p p2 g2 true size step = b at *
  refine run2_body 1 rfl rfl rfl rfl rfl ?_
  simp (maxSteps := 2000000) (disch := first | omega | (simp; done) | (simp; omega)) [-getElem?_pos, l69, e1, e2, e3]
end Go.Lo

/- Limits and play, by the program and by the reference; all classes. -/
namespace Go.Lo
open Go.Proofs
set_option linter.unusedSimpArgs false
set_option maxHeartbeats 4000000
theorem p71 (x : Int × Int) (lo hi : Int) : R 71 [eS x, I lo, I hi] = some (B (decide (lo ≤ x.1 ∧ x.1 ≤ x.2 ∧ x.2 ≤ hi))) := by
  have e1 := p58 lo hi (xs := [x.1, x.2]) (by simp)
  simp only [List.all_cons, List.all_nil, Bool.and_true, List.map_cons, List.map_nil] at e1
  rw [show decide (lo ≤ x.1 ∧ x.1 ≤ x.2 ∧ x.2 ≤ hi) = ((decide (lo ≤ x.1 ∧ x.1 ≤ hi) && decide (lo ≤ x.2 ∧ x.2 ≤ hi)) && decide (x.1 ≤ x.2)) from by rw [Bool.eq_iff_iff]; simp; omega]
  generalize (decide (lo ≤ x.1 ∧ x.1 ≤ hi) && decide (lo ≤ x.2 ∧ x.2 ≤ hi)) = b at *
  refine run2_body 1 rfl rfl rfl rfl rfl ?_
  cases b <;> simp (maxSteps := 2000000) (disch := first | omega | (simp; done) | (simp; omega)) [-getElem?_pos, l71, e1]
theorem p23 (x : Int × Int) (lo hi : Int) : R 23 [eS x, I lo, I hi] = some (B (decide (lo ≤ x.1 ∧ x.1 ≤ x.2 ∧ x.2 ≤ hi))) := by
  have e1 := p65 x.1 lo x.2
  rw [show decide (lo ≤ x.1 ∧ x.1 ≤ x.2 ∧ x.2 ≤ hi) = (decide (lo ≤ x.1 ∧ x.1 ≤ x.2) && decide (x.2 ≤ hi)) from by rw [Bool.eq_iff_iff]; simp; omega]
  generalize decide (lo ≤ x.1 ∧ x.1 ≤ x.2) = b at *
  refine run2_body 1 rfl rfl rfl rfl rfl ?_
  cases b <;> simp (maxSteps := 2000000) (disch := first | omega | (simp; done) | (simp; omega)) [-getElem?_pos, l23, e1]
/-! ### Limits -/
def limE (s : List Int) (g p : List (List Int)) (pl gr : Int) (nut : Bool) (size : Int) : (Int × Int) × Int :=
  if chk s g p ≠ 0 then ((0, 0), chk s g p)
  else if clsB p.length g.length pl gr = false then ((0, 0), 7)
  else match stepOf s size with
    | some j => (zoneOf g p pl.toNat gr.toNat nut size j, 0)
    | none => ((0, 0), 3)
theorem cls_nat {np ng : Nat} {pl gr : Int} (h : clsB np ng pl gr = true) : ∃ a b : Nat, pl = a ∧ gr = b ∧ a < np ∧ b < ng := by
  unfold clsB at h
  rw [decide_eq_true_eq] at h
  exact ⟨pl.toNat, gr.toNat, by omega, by omega, by omega, by omega⟩
abbrev sE (x : (Int × Int) × Int) : V := .tup [eS x.1, I x.2]
theorem p16 (s : List Int) (g p : List (List Int)) (hw : ∀ x ∈ s, -9223372036854775808 ≤ x) (pl gr : Int) (nut : Bool) (size : Int) : R 16 [T s g p, .agg [I pl, I gr], B nut, I size] = some (sE (limE s g p pl gr nut size)) := by
  have e1 := p60_1 s g p hw size pl gr
  unfold limE
  refine run2_body 1 rfl rfl rfl rfl rfl ?_
  by_cases c1 : chk s g p = 0
  · rw [if_neg (fun x => x c1)] at e1 ⊢
    have hG := chk_good c1
    cases c2 : clsB p.length g.length pl gr with
    | false => rw [c2] at e1; simp only [if_true] at e1; simp (maxSteps := 2000000) (disch := first | omega | (simp; done) | (simp; omega)) [-getElem?_pos, l16, e1]
    | true =>
      rw [c2] at e1; simp only [Bool.true_eq_false, if_false] at e1 ⊢
      obtain ⟨a, b, rfl, rfl, ha, hb⟩ := cls_nat c2
      cases c3 : stepOf s size with
      | none => rw [c3] at e1; simp only at e1; simp (maxSteps := 2000000) (disch := first | omega | (simp; done) | (simp; omega)) [-getElem?_pos, l16, e1]
      | some j =>
        rw [c3] at e1; simp only at e1
        obtain ⟨h1, h2, h3⟩ := stepOf_lt c3
        have hp := good_pos hG j h1
        have e2 := p61_g hG ha hb h1 nut (size := size) (by omega)
        simp only [Int.toNat_natCast]
        generalize zoneOf g p a b nut size j = z at *
        simp (maxSteps := 2000000) (disch := first | omega | (simp; done) | (simp; omega)) [-getElem?_pos, l16, e1, e2]
  · rw [if_pos c1] at e1 ⊢
    generalize chk s g p = e at *
    simp (maxSteps := 2000000) (disch := first | omega | (simp; done) | (simp; omega)) [-getElem?_pos, l16, e1, c1]
theorem p18 (s : List Int) (g p : List (List Int)) (pl gr : Int) (nut : Bool) (size : Int) : R 18 [T s g p, .agg [I pl, I gr], B nut, I size] = some (sE (limE s g p pl gr nut size)) := by
  have e1 := p20 s g p
  unfold limE
  refine run2_body 1 rfl rfl rfl rfl rfl ?_
  by_cases c1 : chk s g p = 0
  · rw [if_neg (fun x => x c1)]
    rw [c1] at e1
    have hG := chk_good c1
    have e2 := p38 s (g := g) (p := p) (by have := hG.lg; omega) (by have := hG.lp; omega) pl gr
    have e3 := p35 s g p (by have := hG.ls; omega) size
    cases c2 : clsB p.length g.length pl gr with
    | false => rw [c2] at e2; simp (maxSteps := 2000000) (disch := first | omega | (simp; done) | (simp; omega)) [-getElem?_pos, l18, e1, e2]
    | true =>
      rw [c2] at e2
      simp only [Bool.true_eq_false, if_false]
      obtain ⟨a, b, rfl, rfl, ha, hb⟩ := cls_nat c2
      cases c3 : stepOf s size with
      | none => rw [c3] at e3; simp only at e3; simp (maxSteps := 2000000) (disch := first | omega | (simp; done) | (simp; omega)) [-getElem?_pos, l18, e1, e2, e3]
      | some j =>
        rw [c3] at e3; simp only at e3
        obtain ⟨h1, h2, h3⟩ := stepOf_lt c3
        have hp := good_pos hG j h1
        have e4 := p62_g hG ha hb h1 nut (size := size) (by omega)
        simp only [Int.toNat_natCast]
        generalize zoneOf g p a b nut size j = z at *
        simp (maxSteps := 2000000) (disch := first | omega | (simp; done) | (simp; omega)) [-getElem?_pos, l18, e1, e2, e3, e4]
  · rw [if_pos c1]
    generalize chk s g p = e at *
    simp (maxSteps := 2000000) (disch := first | omega | (simp; done) | (simp; omega)) [-getElem?_pos, l18, e1, c1]
/-! ### Play -/
def playE (s : List Int) (g p : List (List Int)) (p1 g1 p2 g2 size : Int) : (Int × Int) × Int :=
  if chk s g p ≠ 0 then ((0, 0), chk s g p)
  else if clsB p.length g.length p1 g1 = false then ((0, 0), 7)
  else match stepOf s size with
    | some j => if clsB p.length g.length p2 g2 = false then ((0, 0), 7) else (playOf (zoneOf g p p1.toNat g1.toNat false size j) (zoneOf g p p2.toNat g2.toNat true size j), 0)
    | none => ((0, 0), 3)
theorem p31 (s : List Int) (g p : List (List Int)) (hw : ∀ x ∈ s, -9223372036854775808 ≤ x) (p1 g1 p2 g2 size : Int) : R 31 [T s g p, .agg [I p1, I g1, I p2, I g2], I size] = some (sE (playE s g p p1 g1 p2 g2 size)) := by
  have e1 := p60_2 s g p hw size p1 g1 p2 g2
  unfold playE
  refine run2_body 1 rfl rfl rfl rfl rfl ?_
  by_cases c1 : chk s g p = 0
  · rw [if_neg (fun x => x c1)] at e1 ⊢
    have hG := chk_good c1
    cases c2 : clsB p.length g.length p1 g1 with
    | false => rw [c2] at e1; simp only [if_true] at e1; simp (maxSteps := 2000000) (disch := first | omega | (simp; done) | (simp; omega)) [-getElem?_pos, l31, e1]
    | true =>
      rw [c2] at e1; simp only [Bool.true_eq_false, if_false] at e1 ⊢
      obtain ⟨a, b, rfl, rfl, ha, hb⟩ := cls_nat c2
      cases c3 : stepOf s size with
      | none => rw [c3] at e1; simp only at e1; simp (maxSteps := 2000000) (disch := first | omega | (simp; done) | (simp; omega)) [-getElem?_pos, l31, e1]
      | some j =>
        rw [c3] at e1; simp only at e1
        obtain ⟨h1, h2, h3⟩ := stepOf_lt c3
        have hp := good_pos hG j h1
        cases c4 : clsB p.length g.length p2 g2 with
        | false => rw [c4] at e1; simp only [if_true] at e1; simp (maxSteps := 2000000) (disch := first | omega | (simp; done) | (simp; omega)) [-getElem?_pos, l31, e1]
        | true =>
          rw [c4] at e1; simp only [Bool.true_eq_false, if_false] at e1 ⊢
          obtain ⟨c, d, rfl, rfl, hc, hd⟩ := cls_nat c4
          have e2 := p69 hG ha hb hc hd h1 (size := size) (by omega)
          simp only [Int.toNat_natCast]
          generalize playOf (zoneOf g p a b false size j) (zoneOf g p c d true size j) = z at *
          simp (maxSteps := 2000000) (disch := first | omega | (simp; done) | (simp; omega)) [-getElem?_pos, l31, e1, e2]
  · rw [if_pos c1] at e1 ⊢
    generalize chk s g p = e at *
    simp (maxSteps := 2000000) (disch := first | omega | (simp; done) | (simp; omega)) [-getElem?_pos, l31, e1, c1]
/-! ### All classes -/
abbrev eC (c : Nat × Nat) : V := .agg [I c.1, I c.2]
def clsR (ng a : Nat) : List (Nat × Nat) := (List.range ng).map fun b => (a, b)
def clsL (np ng : Nat) : List (Nat × Nat) := (List.range np).flatMap (clsR ng)
theorem clsL_succ (n ng : Nat) : clsL (n + 1) ng = clsL n ng ++ clsR ng n := by simp [clsL, List.range_succ]
theorem p72 (s : List Int) {g p : List (List Int)} (hg : g.length ≤ 1000) (hp : p.length ≤ 1000) : R 72 [T s g p, .fn (.y 0) []] = some (.tup (tupsL ((clsL p.length g.length).map fun c => [eC c]))) := by
  have inner : ∀ a < p.length, ∀ acc : List (List V), iter (evC2 R (g.length + p.length + 1) b72_1) (g.length + 1) { fr := [(1, .fn (.y 0) []), (2, .box [S 1 (eI s), S 1 (eR g), S 1 (eR p)]), (4, I a), (9, I p.length), (10, I a), (16, I g.length), (17, I 0)], tk := [], tr := some acc } =
      some (.exit 2, { fr := [(1, .fn (.y 0) []), (2, .box [S 1 (eI s), S 1 (eR g), S 1 (eR p)]), (4, I a), (9, I p.length), (10, I a), (16, I g.length), (17, I g.length), (18, B false)], tk := [], tr := some (acc ++ (clsR g.length a).map fun c => [eC c]) }) := by
    intro a ha acc
    have L := loop_all (s := fun b => { fr := [(1, .fn (.y 0) []), (2, .box [S 1 (eI s), S 1 (eR g), S 1 (eR p)]), (4, I a), (9, I p.length), (10, I a), (16, I g.length), (17, I b)], tk := [], tr := some (acc ++ (clsR b a).map fun c => [eC c]) }) (f := evC2 R (g.length + p.length + 1) b72_1) (n := g.length) (X := (.exit 2, { fr := [(1, .fn (.y 0) []), (2, .box [S 1 (eI s), S 1 (eR g), S 1 (eR p)]), (4, I a), (9, I p.length), (10, I a), (16, I g.length), (17, I g.length), (18, B false)], tk := [], tr := some (acc ++ (clsR g.length a).map fun c => [eC c]) }))
      (fun b hb => by
        rw [show clsR (b + 1) a = clsR b a ++ [(a, b)] from by simp [clsR, List.range_succ]]
        generalize clsR b a = l at *
        simp (maxSteps := 2000000) (disch := first | omega | (simp; done) | (simp; omega)) [-getElem?_pos, b72_1, hb, wrap64]) (by simp (maxSteps := 2000000) (disch := first | omega | (simp; done) | (simp; omega)) [-getElem?_pos, b72_1]) (by simp)
    simpa [clsR] using L
  have L := loop_all (s := fun a => { fr := [(1, .fn (.y 0) []), (2, .box [S 1 (eI s), S 1 (eR g), S 1 (eR p)]), (9, I p.length), (10, I a)], tk := [], tr := some ((clsL a g.length).map fun c => [eC c]) }) (f := evC2 R (g.length + p.length + 1) b72_0) (n := p.length) (X := (.exit 0, { fr := [(1, .fn (.y 0) []), (2, .box [S 1 (eI s), S 1 (eR g), S 1 (eR p)]), (9, I p.length), (10, I p.length), (11, B false)], tk := [], tr := some ((clsL p.length g.length).map fun c => [eC c]) }))
    (fun a ha => by
      rw [clsL_succ, List.map_append]
      have Li := inner a ha ((clsL a g.length).map fun c => [eC c])
      have Li := iter_le (f := evC2 R (g.length + p.length + 1) b72_1) (fun _ _ h => h) (show g.length + 1 ≤ g.length + p.length + 1 by omega) Li
      generalize ((clsL a g.length).map fun c => [eC c]) = l at *
      generalize ((clsR g.length a).map fun c => [eC c]) = l2 at *
      simp (maxSteps := 2000000) (disch := first | omega | (simp; done) | (simp; omega)) [-getElem?_pos, b72_0, ha, Li, wrap64]) (by
      generalize ((clsL p.length g.length).map fun c => [eC c]) = l at *
      simp (maxSteps := 2000000) (disch := first | omega | (simp; done) | (simp; omega)) [-getElem?_pos, b72_0]) (by simp)
  have L := iter_le (f := evC2 R (g.length + p.length + 1) b72_0) (fun _ _ h => h) (show p.length + 1 ≤ g.length + p.length + 1 by omega) L
  rw [show (clsL 0 g.length) = [] from rfl] at L
  generalize ((clsL p.length g.length).map fun c => [eC c]) = l at *
  simp at L
  refine run2_iter (g.length + p.length + 1) rfl rfl rfl rfl rfl ?_
  simp (maxSteps := 2000000) (disch := first | omega | (simp; done) | (simp; omega)) [-getElem?_pos, l72, L]
end Go.Lo

/- All pairs whose play lies in a span, by the program. -/
namespace Go.Lo
open Go.Proofs
set_option linter.unusedSimpArgs false
set_option maxHeartbeats 4000000
abbrev Cls := Nat × Nat
/-- Does the play of the pair lie in the span? -/
def okP (g p : List (List Int)) (size : Int) (step : Nat) (want : Int × Int) (a b : Cls) : Bool :=
  decide (want.1 ≤ (playOf (zoneOf g p a.1 a.2 false size step) (zoneOf g p b.1 b.2 true size step)).1 ∧ (playOf (zoneOf g p a.1 a.2 false size step) (zoneOf g p b.1 b.2 true size step)).2 ≤ want.2)
def hitP (g p : List (List Int)) (size : Int) (step : Nat) (want : Int × Int) (a b : Cls) : List (Cls × Cls) := if okP g p size step want a b = true then [(a, b)] else []
def pairsOf (g p : List (List Int)) (size : Int) (step : Nat) (want : Int × Int) : List (Cls × Cls) :=
  (clsL p.length g.length).flatMap fun a => (clsL p.length g.length).flatMap (hitP g p size step want a)
abbrev eP (x : Cls × Cls) : List V := [I x.1.1, I x.1.2, I x.2.1, I x.2.2]
theorem cls_mem {np ng : Nat} {c : Cls} (h : c ∈ clsL np ng) : c.1 < np ∧ c.2 < ng := by
  unfold clsL clsR at h
  simp only [List.mem_flatMap, List.mem_range, List.mem_map] at h
  obtain ⟨a, ha, b, hb, rfl⟩ := h
  exact ⟨ha, hb⟩
theorem clsL_len (np ng : Nat) : (clsL np ng).length = np * ng := by
  induction np with
  | zero => simp [clsL]
  | succ n ih => rw [clsL_succ, List.length_append, ih]; simp [clsR, Nat.add_mul]
theorem clsL_ne {np ng : Nat} (h1 : np ≠ 0) (h2 : ng ≠ 0) : clsL np ng ≠ [] := fun e => by
  have : np * ng = 0 := by rw [← clsL_len, e]; rfl
  exact (Nat.mul_eq_zero.1 this).elim h1 h2
/-- The frame between the rounds. -/
def sPairs (s : List Int) (g p : List (List Int)) (size : Int) (step : Nat) (want : Int × Int) (l : List (Cls × Cls)) : St :=
  { fr := [(4, .box [I size]), (5, .box [I want.1, I want.2]), (6, .box [.sl (some 2005800) 4 (l.map eP)]), (8, .box [S 1 (eI s), S 1 (eR g), S 1 (eR p)]), (10, .box [I step])], tk := [] }
def sPairsI (s : List Int) (g p : List (List Int)) (size : Int) (step : Nat) (want : Int × Int) (a : Cls) (l : List (Cls × Cls)) : St :=
  { fr := [(4, .box [I size]), (5, .box [I want.1, I want.2]), (6, .box [.sl (some 2005800) 4 (l.map eP)]), (8, .box [S 1 (eI s), S 1 (eR g), S 1 (eR p)]), (10, .box [I step]), (11, .box [I a.1, I a.2])], tk := [] }
theorem stepI32 {s : List Int} {g p : List (List Int)} (h : Good s g p) {size : Int} {step : Nat} (hs : 0 ≤ size ∧ size ≤ 100000000) (h3 : step < s.length) (want : Int × Int) {a b : Cls} (ha : a ∈ clsL p.length g.length) (hb : b ∈ clsL p.length g.length) {l : List (Cls × Cls)} (hl : l.length ≤ 1000000) (M : Nat) :
    roundE (evC2 R M b32_1a) (evC2 R M b32_1) [44] b32_1w (sPairsI s g p size step want a l) [eC b] = some (.normal, sPairsI s g p size step want a (l ++ hitP g p size step want a b)) := by
  obtain ⟨a1, a2⟩ := cls_mem ha
  obtain ⟨b1, b2⟩ := cls_mem hb
  have e1 := p69 h a1 a2 b1 b2 h3 hs
  unfold hitP okP sPairsI
  generalize playOf (zoneOf g p a.1 a.2 false size step) (zoneOf g p b.1 b.2 true size step) = z at *
  have e2 := p73 z want
  by_cases hc : want.1 ≤ z.1 ∧ z.2 ≤ want.2 <;> simp (maxSteps := 2000000) (disch := first | omega | (simp; done) | (simp; omega)) [-getElem?_pos, b32_1a, b32_1, b32_1w, e1, e2, hc]
theorem hitP_len (g p : List (List Int)) (size : Int) (step : Nat) (want : Int × Int) (a : Cls) (b : Cls) : (hitP g p size step want a b).length ≤ 1 := by
  unfold hitP; split <;> simp
theorem rngI32 {s : List Int} {g p : List (List Int)} (h : Good s g p) {size : Int} {step : Nat} (hs : 0 ≤ size ∧ size ≤ 100000000) (h3 : step < s.length) (want : Int × Int) {a : Cls} (ha : a ∈ clsL p.length g.length) {l : List (Cls × Cls)} (hl : l.length ≤ 500000) (M : Nat) (x : V) :
    rngE (roundE (evC2 R M b32_1a) (evC2 R M b32_1) [44] b32_1w) (fun y => R 72 [T s g p, .fn (.y y) []]) { fr := [(4, .box [I size]), (5, .box [I want.1, I want.2]), (6, .box [.sl (some 2005800) 4 (l.map eP)]), (8, .box [S 1 (eI s), S 1 (eR g), S 1 (eR p)]), (10, .box [I step]), (11, .box [I a.1, I a.2]), (43, x)], tk := [] } =
      some (.normal, sPairsI s g p size step want a (l ++ (clsL p.length g.length).flatMap (hitP g p size step want a))) := by
  have hg := h.lg
  have hp := h.lp
  have e1 := p72 s (g := g) (p := p) (by omega) (by omega)
  have hb : p.length * g.length ≤ 12 * 12 := Nat.mul_le_mul hp hg
  have hne : clsL p.length g.length ≠ [] := clsL_ne (fun e => h.np (List.length_eq_zero_iff.1 e)) (fun e => h.ng (List.length_eq_zero_iff.1 e))
  refine rng_fold (s := sPairsI s g p size step want a) (W := fun c => [eC c]) e1 hne (fun b => ?_) (fun pre b suf e => ?_)
  · unfold sPairsI
    simp (maxSteps := 2000000) (disch := first | omega | (simp; done) | (simp; omega)) [-getElem?_pos, b32_1a, b32_1w]
  · have hlen := len_flatMap (fun x => hitP_len g p size step want a x) pre
    have hc := clsL_len p.length g.length
    rw [e] at hc
    simp only [List.length_append, List.length_cons] at hc
    exact stepI32 h hs h3 want ha (by rw [e]; simp) (by rw [List.length_append]; omega) M
theorem rngO32 {s : List Int} {g p : List (List Int)} (h : Good s g p) {size : Int} {step : Nat} (hs : 0 ≤ size ∧ size ≤ 100000000) (h3 : step < s.length) (want : Int × Int) (M : Nat) {x : V} :
    rngE (roundE (evC2 R M b32_0a) (evC2 R M b32_0) [41] b32_0w) (fun y => R 72 [T s g p, .fn (.y y) []]) { fr := [(4, .box [I size]), (5, .box [I want.1, I want.2]), (6, .box [.sl (some 2005800) 4 []]), (8, .box [S 1 (eI s), S 1 (eR g), S 1 (eR p)]), (10, .box [I step]), (40, x)], tk := [] } =
      some (.normal, sPairs s g p size step want (pairsOf g p size step want)) := by
  have hg := h.lg
  have hp := h.lp
  have e1 := p72 s (g := g) (p := p) (by omega) (by omega)
  have hb : p.length * g.length ≤ 12 * 12 := Nat.mul_le_mul hp hg
  have hne : clsL p.length g.length ≠ [] := clsL_ne (fun e => h.np (List.length_eq_zero_iff.1 e)) (fun e => h.ng (List.length_eq_zero_iff.1 e))
  have hc := clsL_len p.length g.length
  have := rng_fold (f := roundE (evC2 R M b32_0a) (evC2 R M b32_0) [41] b32_0w) (it := fun y => R 72 [T s g p, .fn (.y y) []]) (σ0 := { fr := [(4, .box [I size]), (5, .box [I want.1, I want.2]), (6, .box [.sl (some 2005800) 4 []]), (8, .box [S 1 (eI s), S 1 (eR g), S 1 (eR p)]), (10, .box [I step]), (40, x)], tk := [] }) (s := sPairs s g p size step want) (l0 := []) (W := fun c => [eC c]) (h := fun a => (clsL p.length g.length).flatMap (hitP g p size step want a)) e1 hne (fun b => by
    unfold sPairs
    simp (maxSteps := 2000000) (disch := first | omega | (simp; done) | (simp; omega)) [-getElem?_pos, b32_0a, b32_0w]) (fun pre a suf e => by
    rw [e] at hc
    simp only [List.length_append, List.length_cons] at hc
    have hlen := len_flatMap (h := fun a => (clsL p.length g.length).flatMap (hitP g p size step want a)) (c := 144) (fun a => by
      have := len_flatMap (fun x => hitP_len g p size step want a x) (clsL p.length g.length)
      rw [clsL_len] at this; omega) pre
    have hp144 : pre.length * 144 ≤ 144 * 144 := Nat.mul_le_mul (by omega) (Nat.le_refl _)
    have ha : a ∈ clsL p.length g.length := by rw [e]; simp
    simp only [List.nil_append]
    have hl : (pre.flatMap fun a => (clsL p.length g.length).flatMap (hitP g p size step want a)).length ≤ 500000 := by omega
    generalize (pre.flatMap fun a => (clsL p.length g.length).flatMap (hitP g p size step want a)) = l at *
    have ri := rngI32 h hs h3 want ha hl M
    generalize (clsL p.length g.length).flatMap (hitP g p size step want a) = l2 at *
    unfold sPairsI at ri
    unfold sPairs
    simp only [b32_1w] at ri
    simp (maxSteps := 2000000) (disch := first | omega | (simp; done) | (simp; omega)) [-getElem?_pos, b32_0a, b32_0, b32_0w, b32_1w, ri])
  exact this
end Go.Lo

/- All pairs whose play lies in a span: by the program, and by the reference. -/
namespace Go.Lo
open Go.Proofs
set_option linter.unusedSimpArgs false
set_option maxHeartbeats 4000000
def spanV (want : Int × Int) (m : Int) : Bool := decide (-m ≤ want.1 ∧ want.1 ≤ want.2 ∧ want.2 ≤ m)
def pairsE (s : List Int) (g p : List (List Int)) (size : Int) (want : Int × Int) : List (Cls × Cls) × Int :=
  if chk s g p ≠ 0 then ([], chk s g p)
  else match stepOf s size with
    | some j => if spanV want 400000 = true then (pairsOf g p size j want, 0) else ([], 2)
    | none => ([], 3)
abbrev pE (x : List (Cls × Cls) × Int) : V := .tup [.sl (some 2000000) 4 (x.1.map eP), I x.2]
theorem p32 (s : List Int) (g p : List (List Int)) (hw : ∀ x ∈ s, -9223372036854775808 ≤ x) (size : Int) (want : Int × Int) : R 32 [T s g p, I size, eS want] = some (pE (pairsE s g p size want)) := by
  have e1 := p60_0 s g p hw size
  unfold pairsE
  refine run2_body 1 rfl rfl rfl rfl rfl ?_
  by_cases c1 : chk s g p = 0
  · rw [if_neg (fun x => x c1)]
    rw [c1] at e1
    have hG := chk_good c1
    have e2 := p70 s g p (by have := hG.ls; omega) size
    cases c3 : stepOf s size with
    | none => rw [c3] at e2; simp only at e2; simp (maxSteps := 2000000) (disch := first | omega | (simp; done) | (simp; omega)) [-getElem?_pos, l32, e1, e2]
    | some j =>
      rw [c3] at e2; simp only at e2 ⊢
      obtain ⟨h1, h2, h3⟩ := stepOf_lt c3
      have hp := good_pos hG j h1
      have e3 := p71 want (-400000) 400000
      rw [show decide (-400000 ≤ want.1 ∧ want.1 ≤ want.2 ∧ want.2 ≤ 400000) = spanV want 400000 from rfl] at e3
      cases c4 : spanV want 400000 with
      | false => rw [c4] at e3; simp (maxSteps := 2000000) (disch := first | omega | (simp; done) | (simp; omega)) [-getElem?_pos, l32, e1, e2, e3]
      | true =>
        rw [c4] at e3
        have e4 := fun x => rngO32 hG (size := size) (step := j) (by omega) h1 want 1 (x := x)
        unfold sPairs at e4
        simp only [b32_0w] at e4
        generalize pairsOf g p size j want = l at *
        simp (maxSteps := 2000000) (disch := first | omega | (simp; done) | (simp; omega)) [-getElem?_pos, l32, b32_0w, e1, e2, e3, e4]
  · rw [if_pos c1]
    generalize chk s g p = e at *
    simp (maxSteps := 2000000) (disch := first | omega | (simp; done) | (simp; omega)) [-getElem?_pos, l32, e1, c1]
/-! ### The reference: four loops -/
def sref (s : List Int) (g p : List (List Int)) (size : Int) (step : Nat) (want : Int × Int) (l : List (Cls × Cls)) (r : List (Nat × V)) : St :=
  { fr := [(1, I size), (2, I step), (4, .box [S 1 (eI s), S 1 (eR g), S 1 (eR p)]), (7, .box [I want.1, I want.2]), (9, .sl (some 1500) 4 (l.map eP))] ++ r, tk := [] }
theorem step436 {s : List Int} {g p : List (List Int)} (h : Good s g p) {size : Int} {step : Nat} (hs : 0 ≤ size ∧ size ≤ 100000000) (h3 : step < s.length) (want : Int × Int) {a b c d : Nat} (ha : a < p.length) (hb : b < g.length) (hc : c < p.length) (hd : d < g.length) {l : List (Cls × Cls)} (hl : l.length ≤ 1000000) (M : Nat) :
    evC2 R M b36_3 (sref s g p size step want l [(10, I a), (11, I b), (12, I c), (13, I d)]) = some (.normal, sref s g p size step want (l ++ hitP g p size step want (a, b) (c, d)) [(10, I a), (11, I b), (12, I c), (13, I (d + 1 : Nat))]) := by
  have e1 := p62_g h ha hb h3 false hs
  have e2 := p62_g h hc hd h3 true hs
  have e3 := p34 (zone_near h ha hb h3 false hs) (zone_near h hc hd h3 true hs)
  unfold hitP okP sref
  generalize zoneOf g p a b false size step = z1 at *
  generalize zoneOf g p c d true size step = z2 at *
  have e4 := p78 (playOf z1 z2) want
  generalize playOf z1 z2 = z at *
  have hg := h.lg
  by_cases hq : want.1 ≤ z.1 ∧ z.2 ≤ want.2 <;> simp (maxSteps := 2000000) (disch := first | omega | (simp; done) | (simp; omega)) [-getElem?_pos, b36_3, e1, e2, e3, e4, hq, hd, wrap64]
theorem clsR_succ (b a : Nat) : clsR (b + 1) a = clsR b a ++ [(a, b)] := by simp [clsR, List.range_succ]
theorem clsR_len (b a : Nat) : (clsR b a).length = b := by simp [clsR]
section
variable {s : List Int} {g p : List (List Int)} (h : Good s g p) {size : Int} {step : Nat} (hs : 0 ≤ size ∧ size ≤ 100000000) (h3 : step < s.length) (want : Int × Int)
include h hs h3
theorem loop336 {a b c : Nat} (ha : a < p.length) (hb : b < g.length) (hc : c < p.length) {l : List (Cls × Cls)} (hl : l.length ≤ 900000) :
    iter (evC2 R 13 b36_3) 13 (sref s g p size step want l [(10, I a), (11, I b), (12, I c), (13, I 0)]) = some (.exit 6, sref s g p size step want (l ++ (clsR g.length c).flatMap (hitP g p size step want (a, b))) [(10, I a), (11, I b), (12, I c), (13, I g.length), (41, B false)]) := by
  have hg := h.lg
  have L := loop_all (s := fun d => sref s g p size step want (l ++ (clsR d c).flatMap (hitP g p size step want (a, b))) [(10, I a), (11, I b), (12, I c), (13, I d)]) (f := evC2 R 13 b36_3) (n := g.length) (X := (.exit 6, sref s g p size step want (l ++ (clsR g.length c).flatMap (hitP g p size step want (a, b))) [(10, I a), (11, I b), (12, I c), (13, I g.length), (41, B false)]))
    (fun d hd => by
      have hle := len_flatMap (fun x => hitP_len g p size step want (a, b) x) (clsR d c)
      rw [clsR_len] at hle
      rw [clsR_succ, List.flatMap_append, ← List.append_assoc]
      simp only [List.flatMap_cons, List.flatMap_nil, List.append_nil]
      exact step436 h hs h3 want ha hb hc hd (by rw [List.length_append]; omega) 13) (by
      generalize (clsR g.length c).flatMap (hitP g p size step want (a, b)) = l2
      unfold sref
      simp (maxSteps := 2000000) (disch := first | omega | (simp; done) | (simp; omega)) [-getElem?_pos, b36_3]) (by simp)
  have L := iter_le (f := evC2 R 13 b36_3) (fun _ _ h => h) (show g.length + 1 ≤ 13 by omega) L
  simpa [clsR] using L
theorem loop236 {a b : Nat} (ha : a < p.length) (hb : b < g.length) {l : List (Cls × Cls)} (hl : l.length ≤ 800000) :
    iter (evC2 R 13 b36_2) 13 (sref s g p size step want l [(10, I a), (11, I b), (12, I 0)]) = some (.exit 4, sref s g p size step want (l ++ (clsL p.length g.length).flatMap (hitP g p size step want (a, b))) [(10, I a), (11, I b), (12, I p.length), (34, B false)]) := by
  have hg := h.lg
  have hp := h.lp
  have L := loop_all (s := fun c => sref s g p size step want (l ++ (clsL c g.length).flatMap (hitP g p size step want (a, b))) [(10, I a), (11, I b), (12, I c)]) (f := evC2 R 13 b36_2) (n := p.length) (X := (.exit 4, sref s g p size step want (l ++ (clsL p.length g.length).flatMap (hitP g p size step want (a, b))) [(10, I a), (11, I b), (12, I p.length), (34, B false)]))
    (fun c hc => by
      have hle := len_flatMap (fun x => hitP_len g p size step want (a, b) x) (clsL c g.length)
      rw [clsL_len] at hle
      have hm : c * g.length ≤ 12 * 12 := Nat.mul_le_mul (by omega) hg
      rw [clsL_succ, List.flatMap_append, ← List.append_assoc]
      have L3 := loop336 h hs h3 want ha hb hc (l := l ++ (clsL c g.length).flatMap (hitP g p size step want (a, b))) (by rw [List.length_append]; omega)
      generalize (clsR g.length c).flatMap (hitP g p size step want (a, b)) = l2 at *
      generalize l ++ (clsL c g.length).flatMap (hitP g p size step want (a, b)) = l1 at *
      unfold sref at *
      simp at L3
      simp (maxSteps := 2000000) (disch := first | omega | (simp; done) | (simp; omega)) [-getElem?_pos, b36_2, hc, L3, wrap64]) (by
      generalize (clsL p.length g.length).flatMap (hitP g p size step want (a, b)) = l2
      unfold sref
      simp (maxSteps := 2000000) (disch := first | omega | (simp; done) | (simp; omega)) [-getElem?_pos, b36_2]) (by simp)
  have L := iter_le (f := evC2 R 13 b36_2) (fun _ _ h => h) (show p.length + 1 ≤ 13 by omega) L
  simpa [clsL] using L
theorem loop136 {a : Nat} (ha : a < p.length) {l : List (Cls × Cls)} (hl : l.length ≤ 700000) :
    iter (evC2 R 13 b36_1) 13 (sref s g p size step want l [(10, I a), (11, I 0)]) = some (.exit 2, sref s g p size step want (l ++ (clsR g.length a).flatMap (fun x => (clsL p.length g.length).flatMap (hitP g p size step want x))) [(10, I a), (11, I g.length), (27, B false)]) := by
  have hg := h.lg
  have hp := h.lp
  have hm : p.length * g.length ≤ 12 * 12 := Nat.mul_le_mul hp hg
  have L := loop_all (s := fun b => sref s g p size step want (l ++ (clsR b a).flatMap (fun x => (clsL p.length g.length).flatMap (hitP g p size step want x))) [(10, I a), (11, I b)]) (f := evC2 R 13 b36_1) (n := g.length) (X := (.exit 2, sref s g p size step want (l ++ (clsR g.length a).flatMap (fun x => (clsL p.length g.length).flatMap (hitP g p size step want x))) [(10, I a), (11, I g.length), (27, B false)]))
    (fun b hb => by
      have hle := len_flatMap (h := fun x => (clsL p.length g.length).flatMap (hitP g p size step want x)) (c := 144) (fun a => by
        have := len_flatMap (fun x => hitP_len g p size step want a x) (clsL p.length g.length)
        rw [clsL_len] at this; omega) (clsR b a)
      rw [clsR_len] at hle
      rw [clsR_succ, List.flatMap_append, ← List.append_assoc]
      simp only [List.flatMap_cons, List.flatMap_nil, List.append_nil]
      have L3 := loop236 h hs h3 want ha hb (l := l ++ (clsR b a).flatMap (fun x => (clsL p.length g.length).flatMap (hitP g p size step want x))) (by rw [List.length_append]; omega)
      generalize l ++ (clsR b a).flatMap (fun x => (clsL p.length g.length).flatMap (hitP g p size step want x)) = l1 at *
      generalize (clsL p.length g.length).flatMap (hitP g p size step want (a, b)) = l2 at *
      unfold sref at *
      simp at L3
      simp (maxSteps := 2000000) (disch := first | omega | (simp; done) | (simp; omega)) [-getElem?_pos, b36_1, hb, L3, wrap64]) (by
      generalize (clsR g.length a).flatMap (fun x => (clsL p.length g.length).flatMap (hitP g p size step want x)) = l2
      unfold sref
      simp (maxSteps := 2000000) (disch := first | omega | (simp; done) | (simp; omega)) [-getElem?_pos, b36_1]) (by simp)
  have L := iter_le (f := evC2 R 13 b36_1) (fun _ _ h => h) (show g.length + 1 ≤ 13 by omega) L
  simpa [clsR] using L
theorem p36 : R 36 [T s g p, I size, I step, eS want] = some (.sl (some 0) 4 ((pairsOf g p size step want).map eP)) := by
  have hg := h.lg
  have hp := h.lp
  have hm : p.length * g.length ≤ 12 * 12 := Nat.mul_le_mul hp hg
  have L := loop_all (s := fun a => sref s g p size step want ((clsL a g.length).flatMap (fun x => (clsL p.length g.length).flatMap (hitP g p size step want x))) [(10, I a)]) (f := evC2 R 13 b36_0) (n := p.length) (X := (.exit 0, sref s g p size step want (pairsOf g p size step want) [(10, I p.length), (20, B false)]))
    (fun a ha => by
      have hle := len_flatMap (h := fun x => (clsL p.length g.length).flatMap (hitP g p size step want x)) (c := 144) (fun a => by
        have := len_flatMap (fun x => hitP_len g p size step want a x) (clsL p.length g.length)
        rw [clsL_len] at this; omega) (clsL a g.length)
      rw [clsL_len] at hle
      have hm2 : a * g.length ≤ 12 * 12 := Nat.mul_le_mul (by omega) hg
      rw [clsL_succ, List.flatMap_append]
      have L3 := loop136 h hs h3 want ha (l := (clsL a g.length).flatMap (fun x => (clsL p.length g.length).flatMap (hitP g p size step want x))) (by omega)
      generalize (clsL a g.length).flatMap (fun x => (clsL p.length g.length).flatMap (hitP g p size step want x)) = l1 at *
      generalize (clsR g.length a).flatMap (fun x => (clsL p.length g.length).flatMap (hitP g p size step want x)) = l2 at *
      unfold sref at *
      simp at L3
      simp (maxSteps := 2000000) (disch := first | omega | (simp; done) | (simp; omega)) [-getElem?_pos, b36_0, ha, L3, wrap64]) (by
      rw [show (clsL p.length g.length).flatMap (fun x => (clsL p.length g.length).flatMap (hitP g p size step want x)) = pairsOf g p size step want from rfl]
      generalize pairsOf g p size step want = l2
      unfold sref
      simp (maxSteps := 2000000) (disch := first | omega | (simp; done) | (simp; omega)) [-getElem?_pos, b36_0]) (by simp)
  have L := iter_le (f := evC2 R 13 b36_0) (fun _ _ h => h) (show p.length + 1 ≤ 13 by omega) L
  rw [show (clsL 0 g.length).flatMap (fun x => (clsL p.length g.length).flatMap (hitP g p size step want x)) = [] from rfl] at L
  generalize pairsOf g p size step want = l2 at *
  unfold sref at L
  simp at L
  refine run2_body 13 rfl rfl rfl rfl rfl ?_
  simp (maxSteps := 2000000) (disch := first | omega | (simp; done) | (simp; omega)) [-getElem?_pos, l36, L]
end
end Go.Lo

/- The widest pair, by the program. -/
namespace Go.Lo
open Go.Proofs
set_option linter.unusedSimpArgs false
set_option maxHeartbeats 4000000
theorem p89 (x : Int) : R 89 [I x] = some (B false) := by
  refine run2_body 1 rfl rfl rfl rfl rfl ?_
  simp (maxSteps := 2000000) (disch := first | omega | (simp; done) | (simp; omega)) [-getElem?_pos, l89]
theorem p76 (x y : Int) : R 76 [I x, I y] = some (I (if x < y then -1 else if y < x then 1 else 0)) := by
  have e1 := p89 x
  have e2 := p89 y
  refine run2_body 1 rfl rfl rfl rfl rfl ?_
  by_cases h : x < y
  · simp (maxSteps := 2000000) (disch := first | omega | (simp; done) | (simp; omega)) [-getElem?_pos, l76, e1, e2, h]
  · by_cases h2 : y < x <;> simp (maxSteps := 2000000) (disch := first | omega | (simp; done) | (simp; omega)) [-getElem?_pos, l76, e1, e2, h, h2]
/-- How wide a pair's play is. -/
def wideOf (g : List (List Int)) (j : Nat) (x : Cls × Cls) : Int := rowAt g x.1.2 j + rowAt g x.2.2 j
theorem p77 {s : List Int} {g p : List (List Int)} (h : Good s g p) {j : Nat} (hj : j < s.length) (x : Cls × Cls) (h1 : x.1.2 < g.length) (h2 : x.2.2 < g.length) : R 77 [T s g p, .agg (eP x), I j] = some (I (wideOf g j x)) := by
  obtain ⟨r1, a1, a2⟩ := row_get h.fg h1 hj
  obtain ⟨r2, a3, a4⟩ := row_get h.fg h2 hj
  have b1 := row_bd h.fg h.rg h1 hj
  have b2 := row_bd h.fg h.rg h2 hj
  unfold wideOf
  generalize rowAt g x.1.2 j = w1 at *
  generalize rowAt g x.2.2 j = w2 at *
  refine run2_body 1 rfl rfl rfl rfl rfl ?_
  simp (maxSteps := 2000000) (disch := first | omega | (simp; done) | (simp; omega)) [-getElem?_pos, l77, eP, a1, a2, a3, a4, wrap64]
theorem p75 {s : List Int} {g p : List (List Int)} (h : Good s g p) {j : Nat} (hj : j < s.length) (x y : Cls × Cls) (h1 : x.1.2 < g.length) (h2 : x.2.2 < g.length) (h3 : y.1.2 < g.length) (h4 : y.2.2 < g.length) : R 75 [.agg (eP x), .agg (eP y), .cref [S 1 (eI s), S 1 (eR g), S 1 (eR p)], .cref [I j]] = some (I (if wideOf g j x < wideOf g j y then -1 else if wideOf g j y < wideOf g j x then 1 else 0)) := by
  have e1 := p77 h hj x h1 h2
  have e2 := p77 h hj y h3 h4
  have e3 := p76 (wideOf g j x) (wideOf g j y)
  generalize wideOf g j x = w1 at *
  generalize wideOf g j y = w2 at *
  refine run2_body 1 rfl rfl rfl rfl rfl ?_
  simp (maxSteps := 2000000) (disch := first | omega | (simp; done) | (simp; omega)) [-getElem?_pos, l75, eP, e1, e2, e3]
/-- The first greatest one. -/
def bestF {α : Type} (f : α → Int) (m : α) (l : List α) : α := l.foldl (fun m x => if f m < f x then x else m) m
theorem bestF_mem {α : Type} (f : α → Int) : ∀ (l : List α) (m : α), bestF f m l ∈ m :: l
  | [], m => by simp [bestF]
  | x :: l, m => by
    have : bestF f m (x :: l) = bestF f (if f m < f x then x else m) l := rfl
    rw [this]
    have := bestF_mem f l (if f m < f x then x else m)
    by_cases h : f m < f x
    · rw [if_pos h] at this ⊢; exact List.mem_cons_of_mem _ this
    · rw [if_neg h] at this ⊢
      rcases List.mem_cons.1 this with h | h
      · rw [h]; simp
      · exact List.mem_cons_of_mem _ (List.mem_cons_of_mem _ h)
theorem bestF_snoc {α : Type} (f : α → Int) (m x : α) (l : List α) : bestF f m (l ++ [x]) = if f (bestF f m l) < f x then x else bestF f m l := by unfold bestF; rw [List.foldl_append]; rfl
theorem p74 {s : List Int} {g p : List (List Int)} (h : Good s g p) {j : Nat} (hj : j < s.length) {x : Cls × Cls} {l : List (Cls × Cls)} (hl : l.length ≤ 1000000) (hm : ∀ y ∈ x :: l, y.1.2 < g.length ∧ y.2.2 < g.length) :
    R 74 [S 4 ((x :: l).map eP), .fn (.f 75) [.cref [S 1 (eI s), S 1 (eR g), S 1 (eR p)], .cref [I j]]] = some (.agg (eP (bestF (wideOf g j) x l))) := by
  have L := loop_all (s := fun i => { fr := [(0, S 4 ((x :: l).map eP)), (1, .fn (.f 75) [.cref [S 1 (eI s), S 1 (eR g), S 1 (eR p)], .cref [I j]]), (4, .box [I 0, I 0, I 0, I 0]), (5, .box (eP (bestF (wideOf g j) x (l.take i)))), (6, I (i + 1 : Nat))], tk := [] }) (f := evC2 R (l.length + 1) b74_0) (n := l.length) (X := (.exit 0, { fr := [(0, S 4 ((x :: l).map eP)), (1, .fn (.f 75) [.cref [S 1 (eI s), S 1 (eR g), S 1 (eR p)], .cref [I j]]), (4, .box [I 0, I 0, I 0, I 0]), (5, .box (eP (bestF (wideOf g j) x l))), (6, I (l.length + 1 : Nat)), (17, B false)], tk := [] }))
    (fun i hi => by
      have h1 : l[i]? = some l[i] := List.getElem?_eq_getElem hi
      have hy := hm _ (List.mem_cons_of_mem _ (List.getElem_mem hi))
      rw [take_at h1, bestF_snoc]
      generalize l[i] = y at *
      have hb := hm _ (List.cons_subset_cons x (List.take_subset i l) (bestF_mem (wideOf g j) (l.take i) x))
      generalize bestF (wideOf g j) x (l.take i) = b at *
      have e1 := p75 h hj y b hy.1 hy.2 hb.1 hb.2
      generalize wideOf g j y = w1 at *
      generalize wideOf g j b = w2 at *
      simp only [eP] at *
      by_cases c1 : w1 < w2
      · have c2 : ¬ w2 < w1 := by omega
        simp (maxSteps := 2000000) (disch := first | omega | (simp; done) | (simp; omega)) [-getElem?_pos, b74_0, h1, hi, c1, c2, e1, wrap64]
      · by_cases c2 : w2 < w1 <;> simp (maxSteps := 2000000) (disch := first | omega | (simp; done) | (simp; omega)) [-getElem?_pos, b74_0, h1, hi, c1, c2, e1, wrap64]) (by
      rw [List.take_length]
      generalize bestF (wideOf g j) x l = b at *
      simp (maxSteps := 2000000) (disch := first | omega | (simp; done) | (simp; omega)) [-getElem?_pos, b74_0, eP]) (by simp)
  generalize bestF (wideOf g j) x l = b at *
  refine run2_body (l.length + 1) rfl rfl rfl rfl rfl ?_
  simp [eP, bestF] at L
  have hn : ¬ (l.length : Int) + 1 < 1 := by omega
  simp (maxSteps := 2000000) (disch := first | omega | (simp; done) | (simp; omega)) [-getElem?_pos, l74, eP, L, hn]
def widestE (s : List Int) (g p : List (List Int)) (size : Int) (want : Int × Int) : Option (Cls × Cls) × Int :=
  match pairsE s g p size want, stepOf s size with
  | (x :: l, _), some j => (some (bestF (wideOf g j) x l), 0)
  | ([], e), _ => (none, if e = 0 then 7 else e)
  | _, none => (none, 0)
def ePO : Option (Cls × Cls) → List V
  | some x => eP x
  | none => [I 0, I 0, I 0, I 0]
theorem pairsOf_mem {g p : List (List Int)} {size : Int} {j : Nat} {want : Int × Int} {x : Cls × Cls} (h : x ∈ pairsOf g p size j want) : (x.1.1 < p.length ∧ x.1.2 < g.length) ∧ (x.2.1 < p.length ∧ x.2.2 < g.length) := by
  unfold pairsOf at h
  rw [List.mem_flatMap] at h
  obtain ⟨a, ha, h⟩ := h
  rw [List.mem_flatMap] at h
  obtain ⟨b, hb, h⟩ := h
  unfold hitP at h
  split at h
  · rw [List.mem_singleton] at h; subst h; exact ⟨cls_mem ha, cls_mem hb⟩
  · cases h
theorem p33 (s : List Int) (g p : List (List Int)) (hw : ∀ x ∈ s, -9223372036854775808 ≤ x) (size : Int) (want : Int × Int) : R 33 [T s g p, I size, eS want] = some (.tup [.agg (ePO (widestE s g p size want).1), I (widestE s g p size want).2]) := by
  have e1 := p32 s g p hw size want
  unfold widestE
  unfold pairsE at *
  refine run2_body 1 rfl rfl rfl rfl rfl ?_
  by_cases c1 : chk s g p = 0
  · rw [if_neg (fun x => x c1)] at *
    have hG := chk_good c1
    have e2 := p70 s g p (by have := hG.ls; omega) size
    cases c3 : stepOf s size with
    | none => rw [c3] at e1; simp only at e1; simp (maxSteps := 2000000) (disch := first | omega | (simp; done) | (simp; omega)) [-getElem?_pos, l33, ePO, e1]
    | some j =>
      rw [c3] at e1 e2; simp only at e1 e2 ⊢
      obtain ⟨h1, h2, h3⟩ := stepOf_lt c3
      cases c4 : spanV want 400000 with
      | false => rw [c4] at e1; simp only [Bool.false_eq_true, if_false] at e1; simp (maxSteps := 2000000) (disch := first | omega | (simp; done) | (simp; omega)) [-getElem?_pos, l33, ePO, e1]
      | true =>
        rw [c4] at e1; simp only [if_true] at e1 ⊢
        have hmm := fun x => pairsOf_mem (g := g) (p := p) (size := size) (j := j) (want := want) (x := x)
        have hll : (pairsOf g p size j want).length ≤ 1000000 := by
          have hg := hG.lg
          have hp := hG.lp
          have hb : p.length * g.length ≤ 12 * 12 := Nat.mul_le_mul hp hg
          have hle := len_flatMap (h := fun a => (clsL p.length g.length).flatMap (hitP g p size j want a)) (c := 144) (fun a => by
            have := len_flatMap (fun x => hitP_len g p size j want a x) (clsL p.length g.length)
            rw [clsL_len] at this; omega) (clsL p.length g.length)
          rw [clsL_len] at hle
          unfold pairsOf; omega
        cases c5 : pairsOf g p size j want with
        | nil => rw [c5] at e1; simp (maxSteps := 2000000) (disch := first | omega | (simp; done) | (simp; omega)) [-getElem?_pos, l33, ePO, e1]
        | cons x l =>
          rw [c5] at e1 hmm hll
          have e3 := p74 hG h1 (x := x) (l := l) (by simp at hll; omega) (fun y hy => ⟨(hmm y hy).1.2, (hmm y hy).2.2⟩)
          dsimp only
          generalize bestF (wideOf g j) x l = b at *
          simp only [pE, List.map_cons] at e1 e3 ⊢
          generalize l.map eP = l2 at *
          have hx : ¬ (l2.length : Int) + 1 = 0 := by omega
          simp only [eP] at e1 e3 ⊢
          simp (maxSteps := 2000000) (disch := first | omega | (simp; done) | (simp; omega)) [-getElem?_pos, l33, ePO, eP, e1, e2, e3, hx]
  · rw [if_pos c1] at *
    generalize chk s g p = e at *
    simp (maxSteps := 2000000) (disch := first | omega | (simp; done) | (simp; omega)) [-getElem?_pos, l33, ePO, e1, c1]
end Go.Lo

/- The sizes at which one zone lies within another, by the program and by the reference. -/
namespace Go.Lo
open Go.Proofs
set_option linter.unusedSimpArgs false
set_option maxHeartbeats 4000000
/-- Is the zone of the one class at this step within that of the other? -/
def inB (g p : List (List Int)) (nut : Bool) (p1 g1 p2 g2 i : Nat) : Bool :=
  if nut = true then decide (rowAt p p2 i ≤ rowAt p p1 i ∧ rowAt p p1 i + rowAt g g1 i ≤ rowAt p p2 i + rowAt g g2 i)
  else decide (rowAt p p1 i + rowAt g g1 i ≤ rowAt p p2 i + rowAt g g2 i ∧ rowAt p p2 i ≤ rowAt p p1 i)
theorem inB_zone (g p : List (List Int)) (nut : Bool) (p1 g1 p2 g2 i : Nat) (x : Int) : decide ((zoneOf g p p2 g2 nut x i).1 ≤ (zoneOf g p p1 g1 nut x i).1 ∧ (zoneOf g p p1 g1 nut x i).2 ≤ (zoneOf g p p2 g2 nut x i).2) = inB g p nut p1 g1 p2 g2 i := by
  unfold zoneOf inB
  cases nut <;> rw [Bool.eq_iff_iff] <;> simp <;> omega
/-- One step more. -/
def addS (l : List (Int × Int)) (lo hi : Int) : List (Int × Int) :=
  match l.getLast? with
  | some x => if x.2 + 1 = lo then l.dropLast ++ [(x.1, hi)] else l ++ [(lo, hi)]
  | none => [(lo, hi)]
def spansOf (s : List Int) (ok : Nat → Bool) : Nat → List (Int × Int)
  | 0 => []
  | i + 1 => if ok i = true then addS (spansOf s ok i) (aft s i) (at0 s i) else spansOf s ok i
abbrev eS2 (l : List (Int × Int)) : List (List V) := l.map fun x => [I x.1, I x.2]
theorem spans_bd {s : List Int} {ok : Nat → Bool} (h : ∀ i, i < s.length → stepB s i = true) (h1 : ∀ i, i < s.length → 1 ≤ at0 s i) : ∀ n, n ≤ s.length → ∀ x ∈ spansOf s ok n, 1 ≤ x.2 ∧ x.2 ≤ 10000000
  | 0, _, x, hx => by cases hx
  | n + 1, hn, x, hx => by
    have ih := spans_bd (ok := ok) h h1 n (by omega)
    have hb := h n (by omega)
    have hb1 := h1 n (by omega)
    unfold stepB at hb
    rw [decide_eq_true_eq] at hb
    unfold spansOf at hx
    split at hx
    · unfold addS at hx
      split at hx
      · split at hx
        · rcases List.mem_append.1 hx with hx | hx
          · exact ih x ((List.dropLast_sublist _).subset hx)
          · rw [List.mem_singleton.1 hx]; exact ⟨hb1, hb.2⟩
        · rcases List.mem_append.1 hx with hx | hx
          · exact ih x hx
          · rw [List.mem_singleton.1 hx]; exact ⟨hb1, hb.2⟩
      · rw [List.mem_singleton.1 hx]; exact ⟨hb1, hb.2⟩
    · exact ih x hx
theorem addS_len (l : List (Int × Int)) (lo hi : Int) : (addS l lo hi).length ≤ l.length + 1 := by
  unfold addS
  split
  · split
    · rw [List.length_append, List.length_dropLast, List.length_singleton]; omega
    · simp
  · simp
theorem spans_len (s : List Int) (ok : Nat → Bool) : ∀ n, (spansOf s ok n).length ≤ n
  | 0 => by simp [spansOf]
  | n + 1 => by
    have ih := spans_len s ok n
    unfold spansOf
    split
    · have := addS_len (spansOf s ok n) (aft s n) (at0 s n); omega
    · omega
def s37 (s : List Int) (g p : List (List Int)) (nut : Bool) (p1 g1 p2 g2 : Nat) (l : List (Int × Int)) (i : Nat) : St :=
  { fr := [(3, B nut), (5, .box [I p1, I g1]), (6, .box [I p2, I g2]), (8, .sl (some 2008400) 2 (eS2 l)), (10, .box [S 1 (eI s), S 1 (eR g), S 1 (eR p)]), (12, I (aft s i)), (31, S 1 (eI s)), (32, I s.length), (33, I i)], tk := [] }
theorem step37 {s : List Int} {g p : List (List Int)} (hG : Good s g p) (nut : Bool) {p1 g1 p2 g2 : Nat} (k1 : p1 < p.length) (k2 : g1 < g.length) (k3 : p2 < p.length) (k4 : g2 < g.length)
    {i : Nat} (hi : i < s.length) (l : List (Int × Int)) (hl : ∀ x ∈ l, 1 ≤ x.2 ∧ x.2 ≤ 10000000) (hll : l.length ≤ 20) (M : Nat) :
    evC2 R M b37_0 (s37 s g p nut p1 g1 p2 g2 l i) = some (.normal, s37 s g p nut p1 g1 p2 g2 (if inB g p nut p1 g1 p2 g2 i = true then addS l (aft s i) (at0 s i) else l) (i + 1)) := by
  have e0 := at0_get hi
  have hp := good_pos hG i hi
  have haft : aft s (i + 1) = at0 s i + 1 := by simp [aft]
  have e1 := p61_g hG k1 k2 hi nut (size := at0 s i) (by omega)
  have e2 := p61_g hG k3 k4 hi nut (size := at0 s i) (by omega)
  have e3 := p73 (zoneOf g p p1 g1 nut (at0 s i) i) (zoneOf g p p2 g2 nut (at0 s i) i)
  rw [inB_zone] at e3
  have hls := hG.ls
  unfold s37
  rw [haft]
  generalize aft s i = f at *
  generalize at0 s i = x at *
  generalize zoneOf g p p1 g1 nut x i = z1 at *
  generalize zoneOf g p p2 g2 nut x i = z2 at *
  cases hr : inB g p nut p1 g1 p2 g2 i with
  | false => rw [hr] at e3; simp (maxSteps := 2000000) (disch := first | omega | (simp; done) | (simp; omega)) [-getElem?_pos, b37_0, e0, e1, e2, e3, hi, wrap64]
  | true =>
    rw [hr] at e3
    rcases List.eq_nil_or_concat l with rfl | ⟨l', y, rfl⟩
    · simp (maxSteps := 2000000) (disch := first | omega | (simp; done) | (simp; omega)) [-getElem?_pos, b37_0, e0, e1, e2, e3, hi, addS, wrap64]
    · simp only [List.concat_eq_append] at *
      have hy := hl y (by simp)
      have hn : l'.length + 1 ≤ 20 := by simpa using hll
      have hgl : (l' ++ [y]).getLast? = some y := by simp
      have hdl : (l' ++ [y]).dropLast = l' := by simp
      unfold addS
      rw [hgl, hdl]
      obtain ⟨u, v⟩ := y
      simp only [List.map_append, List.map_cons, List.map_nil, if_true]
      have hm : (l'.map fun x => [I x.1, I x.2]).length = l'.length := by simp
      by_cases hf : v + 1 = f
      · subst hf
        simp only [if_true, List.map_append, List.map_cons, List.map_nil]
        generalize (l'.map fun x => [I x.1, I x.2]) = es at *
        generalize l'.length = n at *
        have hget : (es ++ [[I u, I v]])[n]? = some [I u, I v] := by rw [← hm]; simp
        simp (maxSteps := 2000000) (disch := first | omega | (simp; done) | (simp; omega)) [-getElem?_pos, b37_0, e0, e1, e2, e3, hi, hm, hget, wrap64]
      · simp only [hf, if_false, List.map_append, List.map_cons, List.map_nil]
        generalize (l'.map fun x => [I x.1, I x.2]) = es at *
        generalize l'.length = n at *
        have hget : (es ++ [[I u, I v]])[n]? = some [I u, I v] := by rw [← hm]; simp
        simp (maxSteps := 2000000) (disch := first | omega | (simp; done) | (simp; omega)) [-getElem?_pos, b37_0, e0, e1, e2, e3, hi, hm, hget, hf, wrap64]
end Go.Lo

/- The law of the sizes at which one zone lies within another. -/
namespace Go.Lo
open Go.Proofs
set_option linter.unusedSimpArgs false
set_option maxHeartbeats 4000000
theorem good_at {s : List Int} {g p : List (List Int)} (hG : Good s g p) : ∀ i, i < s.length → 1 ≤ at0 s i := fun i hi => (good_pos hG i hi).1
theorem stepOf_one {s : List Int} {g p : List (List Int)} (hG : Good s g p) : stepOf s 1 = some 0 := by
  have h1 := hG.ns
  unfold stepOf
  rw [if_pos (by omega)]
  cases hs : s with
  | nil => exact (h1 hs).elim
  | cons x r =>
    have := good_at hG 0 (by rw [hs]; simp)
    rw [hs] at this
    have hx : 1 ≤ x := this
    simp [List.findIdx?_cons, hx]
def withinE (s : List Int) (g p : List (List Int)) (p1 g1 p2 g2 : Int) (nut : Bool) : List (Int × Int) × Int :=
  if chk s g p ≠ 0 then ([], chk s g p)
  else if clsB p.length g.length p1 g1 = true ∧ clsB p.length g.length p2 g2 = true then (spansOf s (inB g p nut p1.toNat g1.toNat p2.toNat g2.toNat) s.length, 0)
  else ([], 7)
theorem loop37 {s : List Int} {g p : List (List Int)} (hG : Good s g p) (nut : Bool) {p1 g1 p2 g2 : Nat} (k1 : p1 < p.length) (k2 : g1 < g.length) (k3 : p2 < p.length) (k4 : g2 < g.length) :
    iter (evC2 R (s.length + 1) b37_0) (s.length + 1) (s37 s g p nut p1 g1 p2 g2 [] 0) = some (.exit 0, { (s37 s g p nut p1 g1 p2 g2 (spansOf s (inB g p nut p1 g1 p2 g2) s.length) s.length) with fr := (s37 s g p nut p1 g1 p2 g2 (spansOf s (inB g p nut p1 g1 p2 g2) s.length) s.length).fr ++ [(34, B false)] }) := by
  have hls := hG.ls
  refine loop_all (s := fun i => s37 s g p nut p1 g1 p2 g2 (spansOf s (inB g p nut p1 g1 p2 g2) i) i) (n := s.length) (fun i hi => ?_) ?_ (by simp)
  · have hb := spans_bd (ok := inB g p nut p1 g1 p2 g2) hG.st (good_at hG) i (by omega)
    have hl := spans_len s (inB g p nut p1 g1 p2 g2) i
    have := step37 hG nut k1 k2 k3 k4 hi (spansOf s (inB g p nut p1 g1 p2 g2) i) hb (by omega) (s.length + 1)
    rw [this, spansOf]
  · generalize spansOf s (inB g p nut p1 g1 p2 g2) s.length = l
    unfold s37
    simp (maxSteps := 2000000) (disch := first | omega | (simp; done) | (simp; omega)) [-getElem?_pos, b37_0]
theorem p37 (s : List Int) (g p : List (List Int)) (hw : ∀ x ∈ s, -9223372036854775808 ≤ x) (p1 g1 p2 g2 : Int) (nut : Bool) : R 37 [T s g p, .agg [I p1, I g1], .agg [I p2, I g2], B nut] = some (.tup [.sl (some 2000000) 2 (eS2 (withinE s g p p1 g1 p2 g2 nut).1), I (withinE s g p p1 g1 p2 g2 nut).2]) := by
  have e1 := p60_2 s g p hw 1 p1 g1 p2 g2
  unfold withinE
  by_cases c1 : chk s g p = 0
  · rw [if_neg (fun x => x c1)] at e1 ⊢
    have hG := chk_good c1
    rw [stepOf_one hG] at e1
    simp only at e1
    cases c2 : clsB p.length g.length p1 g1 with
    | false =>
      rw [c2] at e1; simp only [if_true] at e1
      refine run2_body 1 rfl rfl rfl rfl rfl ?_
      simp (maxSteps := 2000000) (disch := first | omega | (simp; done) | (simp; omega)) [-getElem?_pos, l37, e1]
    | true =>
      rw [c2] at e1; simp only [Bool.true_eq_false, if_false] at e1
      cases c4 : clsB p.length g.length p2 g2 with
      | false =>
        rw [c4] at e1; simp only [if_true] at e1
        refine run2_body 1 rfl rfl rfl rfl rfl ?_
        simp (maxSteps := 2000000) (disch := first | omega | (simp; done) | (simp; omega)) [-getElem?_pos, l37, e1]
      | true =>
        rw [c4] at e1; simp only [Bool.true_eq_false, if_false] at e1
        obtain ⟨a, b, rfl, rfl, ha, hb⟩ := cls_nat c2
        obtain ⟨c, d, rfl, rfl, hc, hd⟩ := cls_nat c4
        have L := loop37 hG nut ha hb hc hd
        simp only [Int.toNat_natCast, and_self, if_true]
        generalize spansOf s (inB g p nut a b c d) s.length = l at *
        simp [s37, aft] at L
        refine run2_body (s.length + 1) rfl rfl rfl rfl rfl ?_
        simp (maxSteps := 2000000) (disch := first | omega | (simp; done) | (simp; omega)) [-getElem?_pos, l37, e1, L]
  · rw [if_pos c1] at e1 ⊢
    generalize chk s g p = e at *
    refine run2_body 1 rfl rfl rfl rfl rfl ?_
    simp (maxSteps := 2000000) (disch := first | omega | (simp; done) | (simp; omega)) [-getElem?_pos, l37, e1, c1]
/-! ### The reference -/
def s40 (s : List Int) (g p : List (List Int)) (nut : Bool) (p1 g1 p2 g2 : Nat) (l : List (Int × Int)) (i : Nat) : St :=
  { fr := [(3, B nut), (4, .box [S 1 (eI s), S 1 (eR g), S 1 (eR p)]), (5, .box [I p1, I g1]), (6, .box [I p2, I g2]), (9, .sl (some 1300) 2 (eS2 l)), (10, I (aft s i)), (11, I i)], tk := [] }
theorem aft_bd {s : List Int} {g p : List (List Int)} (hG : Good s g p) {i : Nat} (hi : i < s.length) : 1 ≤ aft s i ∧ aft s i ≤ 10000000 := by
  have h1 := hG.st i hi
  unfold stepB at h1
  rw [decide_eq_true_eq] at h1
  refine ⟨?_, by omega⟩
  unfold aft
  split
  · omega
  · have := good_at hG (i - 1) (by omega); omega
theorem step40 {s : List Int} {g p : List (List Int)} (hG : Good s g p) (nut : Bool) {p1 g1 p2 g2 : Nat} (k1 : p1 < p.length) (k2 : g1 < g.length) (k3 : p2 < p.length) (k4 : g2 < g.length)
    {i : Nat} (hi : i < s.length) (l : List (Int × Int)) (hl : ∀ x ∈ l, 1 ≤ x.2 ∧ x.2 ≤ 10000000) (hll : l.length ≤ 20) (M : Nat) :
    evC2 R M b40_0 (s40 s g p nut p1 g1 p2 g2 l i) = some (.normal, s40 s g p nut p1 g1 p2 g2 (if inB g p nut p1 g1 p2 g2 i = true then addS l (aft s i) (at0 s i) else l) (i + 1)) := by
  have e0 := at0_get hi
  have hp := good_pos hG i hi
  have hb := aft_bd hG hi
  have haft : aft s (i + 1) = at0 s i + 1 := by simp [aft]
  have e1 := p62_g hG k1 k2 hi nut (size := aft s i) (by omega)
  have e2 := p62_g hG k3 k4 hi nut (size := aft s i) (by omega)
  have e3 := p78 (zoneOf g p p1 g1 nut (aft s i) i) (zoneOf g p p2 g2 nut (aft s i) i)
  rw [inB_zone] at e3
  have hls := hG.ls
  unfold s40
  rw [haft]
  generalize aft s i = f at *
  generalize at0 s i = x at *
  generalize zoneOf g p p1 g1 nut f i = z1 at *
  generalize zoneOf g p p2 g2 nut f i = z2 at *
  cases hr : inB g p nut p1 g1 p2 g2 i with
  | false => rw [hr] at e3; simp (maxSteps := 2000000) (disch := first | omega | (simp; done) | (simp; omega)) [-getElem?_pos, b40_0, e0, e1, e2, e3, hi, wrap64]
  | true =>
    rw [hr] at e3
    rcases List.eq_nil_or_concat l with rfl | ⟨l', y, rfl⟩
    · simp (maxSteps := 2000000) (disch := first | omega | (simp; done) | (simp; omega)) [-getElem?_pos, b40_0, e0, e1, e2, e3, hi, addS, wrap64]
    · simp only [List.concat_eq_append] at *
      have hy := hl y (by simp)
      have hn : l'.length + 1 ≤ 20 := by simpa using hll
      have hgl : (l' ++ [y]).getLast? = some y := by simp
      have hdl : (l' ++ [y]).dropLast = l' := by simp
      unfold addS
      rw [hgl, hdl]
      obtain ⟨u, v⟩ := y
      simp only [List.map_append, List.map_cons, List.map_nil, if_true]
      have hm : (l'.map fun x => [I x.1, I x.2]).length = l'.length := by simp
      by_cases hf : v + 1 = f
      · subst hf
        simp only [if_true, List.map_append, List.map_cons, List.map_nil]
        generalize (l'.map fun x => [I x.1, I x.2]) = es at *
        generalize l'.length = n at *
        have hget : (es ++ [[I u, I v]])[n]? = some [I u, I v] := by rw [← hm]; simp
        simp (maxSteps := 2000000) (disch := first | omega | (simp; done) | (simp; omega)) [-getElem?_pos, b40_0, e0, e1, e2, e3, hi, hm, hget, wrap64]
      · simp only [hf, if_false, List.map_append, List.map_cons, List.map_nil]
        generalize (l'.map fun x => [I x.1, I x.2]) = es at *
        generalize l'.length = n at *
        have hget : (es ++ [[I u, I v]])[n]? = some [I u, I v] := by rw [← hm]; simp
        have hf2 : ¬ v = f - 1 := by omega
        simp (maxSteps := 2000000) (disch := first | omega | (simp; done) | (simp; omega)) [-getElem?_pos, b40_0, e0, e1, e2, e3, hi, hm, hget, hf, hf2, wrap64]
theorem p40 {s : List Int} {g p : List (List Int)} (hG : Good s g p) (nut : Bool) {p1 g1 p2 g2 : Nat} (k1 : p1 < p.length) (k2 : g1 < g.length) (k3 : p2 < p.length) (k4 : g2 < g.length) :
    R 40 [T s g p, .agg [I p1, I g1], .agg [I p2, I g2], B nut] = some (.sl (some 0) 2 (eS2 (spansOf s (inB g p nut p1 g1 p2 g2) s.length))) := by
  have hls := hG.ls
  have L := loop_all (s := fun i => s40 s g p nut p1 g1 p2 g2 (spansOf s (inB g p nut p1 g1 p2 g2) i) i) (f := evC2 R (s.length + 1) b40_0) (n := s.length) (X := (.exit 0, { (s40 s g p nut p1 g1 p2 g2 (spansOf s (inB g p nut p1 g1 p2 g2) s.length) s.length) with fr := (s40 s g p nut p1 g1 p2 g2 (spansOf s (inB g p nut p1 g1 p2 g2) s.length) s.length).fr ++ [(18, B false)] }))
    (fun i hi => by
      have hb := spans_bd (ok := inB g p nut p1 g1 p2 g2) hG.st (good_at hG) i (by omega)
      have hl := spans_len s (inB g p nut p1 g1 p2 g2) i
      have := step40 hG nut k1 k2 k3 k4 hi (spansOf s (inB g p nut p1 g1 p2 g2) i) hb (by omega) (s.length + 1)
      rw [this, spansOf]) (by
      generalize spansOf s (inB g p nut p1 g1 p2 g2) s.length = l
      unfold s40
      simp (maxSteps := 2000000) (disch := first | omega | (simp; done) | (simp; omega)) [-getElem?_pos, b40_0]) (by simp)
  rw [show spansOf s (inB g p nut p1 g1 p2 g2) 0 = [] from rfl] at L
  generalize spansOf s (inB g p nut p1 g1 p2 g2) s.length = l at *
  simp [s40, aft] at L
  refine run2_body (s.length + 1) rfl rfl rfl rfl rfl ?_
  simp (maxSteps := 2000000) (disch := first | omega | (simp; done) | (simp; omega)) [-getElem?_pos, l40, L]
theorem p39 {l : List (Int × Int)} (h : l.length ≤ 1000000000) : R 39 [S 2 (eS2 l), S 2 (eS2 l)] = some (B true) := by
  have L := loop_all (s := fun i => { fr := [(0, S 2 (eS2 l)), (1, S 2 (eS2 l)), (5, I i)], tk := [] }) (f := evC2 R (l.length + 1) b39_0) (n := l.length) (X := (.exit 0, { fr := [(0, S 2 (eS2 l)), (1, S 2 (eS2 l)), (5, I l.length), (14, B false)], tk := [] }))
    (fun i hi => by
      have h1 : l[i]? = some l[i] := List.getElem?_eq_getElem hi
      generalize l[i] = x at *
      simp (maxSteps := 2000000) (disch := first | omega | (simp; done) | (simp; omega)) [-getElem?_pos, b39_0, h1, hi, wrap64]) (by simp (maxSteps := 2000000) (disch := first | omega | (simp; done) | (simp; omega)) [-getElem?_pos, b39_0]) (by simp)
  refine run2_body (l.length + 1) rfl rfl rfl rfl rfl ?_
  simp at L
  simp (maxSteps := 2000000) (disch := first | omega | (simp; done) | (simp; omega)) [-getElem?_pos, l39, L]
theorem flat_eS2 (l : List (Int × Int)) : flatE (eS2 l) = true := by simp [flatE, V.flat]
theorem p6 (s : List Int) (g p : List (List Int)) (hw : ∀ x ∈ s, -9223372036854775808 ≤ x) (c0 c1 c2 c3 : Int) (nut : Bool) : R 6 [T s g p, .agg [I c0, I c1, I c2, I c3], B nut] = some (B true) := by
  have hkn := p13
  obtain ⟨r, e12, hr⟩ := p12 s g p 15
  cases r with
  | true =>
    refine run2_body 1 rfl rfl rfl rfl rfl ?_
    simp (maxSteps := 2000000) (disch := first | omega | (simp; done) | (simp; omega)) [-getElem?_pos, l6, e12, hkn]
  | false =>
    have hs := hr rfl
    have e14 := p14 s (g := g) (p := p) (by have := hs.ls; omega) (by have := hs.lg; omega) (by have := hs.lp; omega) (fun r h => by have := hs.rg r h; omega) (fun r h => by have := hs.rp r h; omega)
    have e19 := p19 (s1 := s) (g1 := g) (p1 := p) (s2 := s) (g2 := g) (p2 := p) (by have := hs.ls; omega) (by have := hs.lg; omega) (by have := hs.lp; omega) (fun r h => by have := hs.rg r h; omega) (fun r h => by have := hs.rp r h; omega)
    simp only [and_self, decide_true] at e19
    have e17 := p17 c0 c1
    have e17' := p17 c2 c3
    have e37 := p37 s g p hw c0 c1 c2 c3 nut
    have e20 := p20 s g p
    have e38 := p38 s (g := g) (p := p) (by have := hs.lg; omega) (by have := hs.lp; omega) c0 c1
    have e38' := p38 s (g := g) (p := p) (by have := hs.lg; omega) (by have := hs.lp; omega) c2 c3
    unfold withinE at e37
    refine run2_body 1 rfl rfl rfl rfl rfl ?_
    by_cases k1 : chk s g p = 0
    · have hG := chk_good k1
      rw [if_neg (fun x => x k1)] at e37
      rw [k1] at e20
      cases k2 : clsB p.length g.length c0 c1 with
      | false =>
        rw [k2] at e37 e38
        simp only [Bool.false_eq_true, false_and, if_false] at e37
        cases k3 : clsB p.length g.length c2 c3 <;> rw [k3] at e38' <;> simp (maxSteps := 2000000) (disch := first | omega | (simp; done) | (simp; omega)) [-getElem?_pos, l6, e12, hkn, e14, e19, e17, e17', e37, e20, e38, e38']
      | true =>
        rw [k2] at e37 e38
        cases k3 : clsB p.length g.length c2 c3 with
        | false =>
          rw [k3] at e37 e38'
          simp only [Bool.false_eq_true, and_false, if_false] at e37
          simp (maxSteps := 2000000) (disch := first | omega | (simp; done) | (simp; omega)) [-getElem?_pos, l6, e12, hkn, e14, e19, e17, e17', e37, e20, e38, e38']
        | true =>
          rw [k3] at e37 e38'
          obtain ⟨a, b, rfl, rfl, ha, hb⟩ := cls_nat k2
          obtain ⟨c, d, rfl, rfl, hc, hd⟩ := cls_nat k3
          simp only [Int.toNat_natCast, and_self, if_true] at e37
          have e40 := p40 hG nut ha hb hc hd
          have hl := spans_len s (inB g p nut a b c d) s.length
          generalize spansOf s (inB g p nut a b c d) s.length = l at *
          have hls := hs.ls
          have e39 := p39 (l := l) (by omega)
          have hfl := flat_eS2 l
          simp only [eS2] at *
          generalize (l.map fun x => [I x.1, I x.2]) = es at *
          simp (maxSteps := 2000000) (disch := first | omega | (simp; done) | (simp; omega)) [-getElem?_pos, l6, e12, hkn, e14, e19, e17, e17', e37, e20, e38, e38', e40, e39, hfl]
    · rw [if_pos k1] at e37
      generalize chk s g p = e at *
      simp (maxSteps := 2000000) (disch := first | omega | (simp; done) | (simp; omega)) [-getElem?_pos, l6, e12, hkn, e14, e19, e17, e17', e37, e20, e38, e38', k1]
end Go.Lo

/- A table in small numbers. -/
namespace Go.Lo
open Go.Proofs
set_option linter.unusedSimpArgs false
set_option maxHeartbeats 4000000
abbrev U8 (n : Int) : V := .int .u8 n
abbrev I8 (n : Int) : V := .int .i8 n
abbrev eU (xs : List Int) : List (List V) := xs.map fun x => [U8 x]
abbrev eQ (rs : List (List Int)) : List (List V) := rs.map fun r => r.map I8
def cntM (l m : Nat) : Nat := if l = 0 then 1 else min l m
theorem cnt_in {l m i : Nat} (hm : 0 < m) (hi : i < cntM l m) : i = 0 ∨ (i ≠ 0 ∧ i < l ∧ i < m) := by
  unfold cntM at hi
  split at hi <;> omega
theorem cnt_out {l m : Nat} (hm : 0 < m) : cntM l m ≠ 0 ∧ (l ≤ cntM l m ∨ m ≤ cntM l m) ∧ cntM l m ≤ m := by
  unfold cntM
  split <;> omega
def atS (xs : List Int) : Nat → Int
  | 0 => 0
  | i + 1 => atS xs i + 1000 + (if i < xs.length then 50 * at0 xs i else 0)
def stS (xs : List Int) (n : Nat) : List Int := (List.range n).map fun i => atS xs (i + 1)
theorem stS_succ (xs : List Int) (n : Nat) : stS xs (n + 1) = stS xs n ++ [atS xs (n + 1)] := by simp [stS, List.range_succ]
theorem stS_len (xs : List Int) (n : Nat) : (stS xs n).length = n := by simp [stS]
theorem atS_bd {xs : List Int} (h : ∀ x ∈ xs, 0 ≤ x ∧ x ≤ 255) : ∀ i : Nat, 1000 * (i : Int) ≤ atS xs i ∧ atS xs i ≤ 13750 * i
  | 0 => by simp [atS]
  | i + 1 => by
    have ih := atS_bd h i
    unfold atS
    split
    · rename_i hi
      have hx := h _ (List.mem_of_getElem? (at0_get hi))
      omega
    · omega
theorem loop043 {xs : List Int} {gs ps : List (List Int)} (h : ∀ x ∈ xs, 0 ≤ x ∧ x ≤ 255) :
    iter (evC2 R 5 b43_0) 5 { fr := [(1, .box [S 1 (eU xs), S 4 (eQ gs), S 4 (eQ ps)]), (2, .box [S 1 [], S 1 [], S 1 []]), (3, .box [.sl (some 2005000) 1 [], .sl (some 2010000) 1 [], .sl (some 2014900) 1 []]), (4, I 0), (5, I 0)], tk := [] } =
      some (.exit 0, { fr := [(1, .box [S 1 (eU xs), S 4 (eQ gs), S 4 (eQ ps)]), (2, .box [S 1 [], S 1 [], S 1 []]), (3, .box [.sl (some 2005000) 1 (eI (stS xs (cntM xs.length 4))), .sl (some 2010000) 1 [], .sl (some 2014900) 1 []]), (4, I (atS xs (cntM xs.length 4))), (5, I (cntM xs.length 4)), (27, B false)], tk := [] }) := by
  have L := loop_all (s := fun i => { fr := [(1, .box [S 1 (eU xs), S 4 (eQ gs), S 4 (eQ ps)]), (2, .box [S 1 [], S 1 [], S 1 []]), (3, .box [.sl (some 2005000) 1 (eI (stS xs i)), .sl (some 2010000) 1 [], .sl (some 2014900) 1 []]), (4, I (atS xs i)), (5, I i)], tk := [] }) (f := evC2 R 5 b43_0) (n := cntM xs.length 4)
    (X := (.exit 0, { fr := [(1, .box [S 1 (eU xs), S 4 (eQ gs), S 4 (eQ ps)]), (2, .box [S 1 [], S 1 [], S 1 []]), (3, .box [.sl (some 2005000) 1 (eI (stS xs (cntM xs.length 4))), .sl (some 2010000) 1 [], .sl (some 2014900) 1 []]), (4, I (atS xs (cntM xs.length 4))), (5, I (cntM xs.length 4)), (27, B false)], tk := [] }))
    (fun i hi => by
      have hb := atS_bd h i
      have hl := stS_len xs i
      have h4 := (cnt_out (l := xs.length) (m := 4) (by omega)).2.2
      rw [stS_succ, atS]
      generalize stS xs i = l at *
      generalize atS xs i = a at *
      rcases cnt_in (by omega) hi with rfl | ⟨h0, h1, h2⟩
      · by_cases h1 : 0 < xs.length
        · have hx := h _ (List.mem_of_getElem? (at0_get h1))
          have h3 := at0_get h1
          generalize at0 xs 0 = x at *
          simp (maxSteps := 2000000) (disch := first | omega | (simp; done) | (simp; omega)) [-getElem?_pos, b43_0, h1, h3, wrap64]
        · simp (maxSteps := 2000000) (disch := first | omega | (simp; done) | (simp; omega)) [-getElem?_pos, b43_0, h1, wrap64]
      · have hx := h _ (List.mem_of_getElem? (at0_get h1))
        have h3 := at0_get h1
        generalize at0 xs i = x at *
        have h2' : (i : Int) < 4 := by omega
        simp (maxSteps := 2000000) (disch := first | omega | (simp; done) | (simp; omega)) [-getElem?_pos, b43_0, h0, h1, h2, h2', h3, wrap64]) (by
      obtain ⟨h0, h1, h2⟩ := cnt_out (l := xs.length) (m := 4) (by omega)
      generalize stS xs (cntM xs.length 4) = l
      generalize atS xs (cntM xs.length 4) = a
      generalize cntM xs.length 4 = n at *
      by_cases h3 : n < xs.length
      · have h4 : ¬ (n : Int) < 4 := by omega
        simp (maxSteps := 2000000) (disch := first | omega | (simp; done) | (simp; omega)) [-getElem?_pos, b43_0, h0, h3, h4]
      · simp (maxSteps := 2000000) (disch := first | omega | (simp; done) | (simp; omega)) [-getElem?_pos, b43_0, h0, h3]) (by simp)
  have h2 := (cnt_out (l := xs.length) (m := 4) (by omega)).2.2
  exact iter_le (f := evC2 R 5 b43_0) (fun _ _ h => h) (show cntM xs.length 4 + 1 ≤ 5 by omega) L
theorem tdiv_abs {x d m : Int} (hd : 0 < d) (h1 : -(m * d) ≤ x) (h2 : x ≤ m * d) (hm : 0 ≤ m) : -m ≤ x.tdiv d ∧ x.tdiv d ≤ m := by
  have key : ∀ y : Int, 0 ≤ y → y ≤ m * d → 0 ≤ y.tdiv d ∧ y.tdiv d ≤ m := fun y h0 h1 => by
    rw [Int.tdiv_eq_ediv_of_nonneg h0]
    refine ⟨Int.ediv_nonneg h0 (by omega), ?_⟩
    have := Int.ediv_le_ediv hd h1
    rwa [Int.mul_ediv_cancel _ (by omega)] at this
  by_cases h : 0 ≤ x
  · have := key x h h2; omega
  · have := key (-x) (by omega) (by omega)
    rw [Int.neg_tdiv] at this
    omega
/-- Rows: numbers from one step to the next one. -/
def nG (rs : List (List Int)) (i : Nat) : Nat → Int
  | 0 => 50
  | k + 1 => if i < rs.length then max 0 (nG rs i k + (at0 (rs.getD i []) k).tdiv 2) else nG rs i k
def nP (rs : List (List Int)) (i : Nat) : Nat → Int
  | 0 => 0
  | k + 1 => if i < rs.length then nP rs i k + (at0 (rs.getD i []) k).tdiv 4 else nP rs i k
def rowOf (f : Nat → Int) (n : Nat) : List Int := (List.range n).map fun k => f (k + 1)
def rowsOf (f : Nat → Nat → Int) (n m : Nat) : List (List Int) := (List.range m).map fun i => rowOf (f i) n
theorem rowOf_succ (f : Nat → Int) (n : Nat) : rowOf f (n + 1) = rowOf f n ++ [f (n + 1)] := by simp [rowOf, List.range_succ]
theorem rowOf_len (f : Nat → Int) (n : Nat) : (rowOf f n).length = n := by simp [rowOf]
theorem rowsOf_succ (f : Nat → Nat → Int) (n m : Nat) : rowsOf f n (m + 1) = rowsOf f n m ++ [rowOf (f m) n] := by simp [rowsOf, List.range_succ]
theorem rowsOf_len (f : Nat → Nat → Int) (n m : Nat) : (rowsOf f n m).length = m := by simp [rowsOf]
structure Quad (rs : List (List Int)) : Prop where
  len : ∀ r ∈ rs, r.length = 4
  bd : ∀ r ∈ rs, ∀ x ∈ r, -128 ≤ x ∧ x ≤ 127
theorem Quad.get {rs : List (List Int)} (h : Quad rs) {i k : Nat} (hi : i < rs.length) (hk : k < 4) : ∃ r, rs[i]? = some r ∧ r[k]? = some (at0 (rs.getD i []) k) ∧ r.length = 4 ∧ -128 ≤ at0 (rs.getD i []) k ∧ at0 (rs.getD i []) k ≤ 127 := by
  have h1 : rs[i]? = some rs[i] := List.getElem?_eq_getElem hi
  have hl := h.len _ (List.getElem_mem hi)
  have hg : rs.getD i [] = rs[i] := by rw [List.getD_eq_getElem?_getD, h1, Option.getD_some]
  have h2 := at0_get (s := rs[i]) (i := k) (by omega)
  have hb := h.bd _ (List.getElem_mem hi) _ (List.mem_of_getElem? h2)
  rw [hg]
  exact ⟨rs[i], h1, h2, hl, hb⟩
theorem nG_bd {rs : List (List Int)} (h : Quad rs) (i : Nat) : ∀ k : Nat, k ≤ 4 → 0 ≤ nG rs i k ∧ nG rs i k ≤ 50 + 64 * k
  | 0, _ => by simp [nG]
  | k + 1, hk => by
    have ih := nG_bd h i k (by omega)
    unfold nG
    split
    · rename_i hi
      obtain ⟨r, _, _, _, b1, b2⟩ := h.get hi (k := k) (by omega)
      have := tdiv_abs (x := at0 (rs.getD i []) k) (d := 2) (m := 64) (by omega) (by omega) (by omega) (by omega)
      omega
    · omega
theorem nP_bd {rs : List (List Int)} (h : Quad rs) (i : Nat) : ∀ k : Nat, k ≤ 4 → -(32 * (k : Int)) ≤ nP rs i k ∧ nP rs i k ≤ 32 * k
  | 0, _ => by simp [nP]
  | k + 1, hk => by
    have ih := nP_bd h i k (by omega)
    unfold nP
    split
    · rename_i hi
      obtain ⟨r, _, _, _, b1, b2⟩ := h.get hi (k := k) (by omega)
      have := tdiv_abs (x := at0 (rs.getD i []) k) (d := 4) (m := 32) (by omega) (by omega) (by omega) (by omega)
      omega
    · omega
/-! ### Grades -/
def sG (xs : List Int) (gs ps : List (List Int)) (st : List Int) (rows : List (List Int)) (i : Nat) (r : List (Nat × V)) : St :=
  { fr := [(1, .box [S 1 (eU xs), S 4 (eQ gs), S 4 (eQ ps)]), (2, .box [S 1 [], S 1 [], S 1 []]), (3, .box [.sl (some 2005000) 1 (eI st), .sl (some 2010000) 1 (eR rows), .sl (some 2014900) 1 []]), (6, I i)] ++ r, tk := [] }
theorem loopG43 (xs : List Int) {gs ps : List (List Int)} (h : Quad gs) {st : List Int} (hst : st.length ≤ 4) (rows : List (List Int)) {i : Nat} (hi : i ≤ 3) :
    iter (evC2 R 5 b43_2) 5 (sG xs gs ps st rows i [(7, .sl (some 6700) 1 []), (8, I 50), (9, I 0)]) = some (.exit 4, sG xs gs ps st rows i [(7, .sl (some 6700) 1 (eI (rowOf (nG gs i) st.length))), (8, I (nG gs i st.length)), (9, I st.length), (72, B false)]) := by
  have L := loop_all (s := fun k => sG xs gs ps st rows i [(7, .sl (some 6700) 1 (eI (rowOf (nG gs i) k))), (8, I (nG gs i k)), (9, I k)]) (f := evC2 R 5 b43_2) (n := st.length) (X := (.exit 4, sG xs gs ps st rows i [(7, .sl (some 6700) 1 (eI (rowOf (nG gs i) st.length))), (8, I (nG gs i st.length)), (9, I st.length), (72, B false)]))
    (fun k hk => by
      have hb := nG_bd h i k (by omega)
      have hl := rowOf_len (nG gs i) k
      rw [rowOf_succ, nG]
      generalize rowOf (nG gs i) k = l at *
      generalize nG gs i k = a at *
      unfold sG
      by_cases h1 : i < gs.length
      · obtain ⟨r, h2, h3, h4, b1, b2⟩ := h.get h1 (k := k) (by omega)
        generalize at0 (gs.getD i []) k = x at *
        have hd := tdiv_abs (x := x) (d := 2) (m := 64) (by omega) (by omega) (by omega) (by omega)
        generalize hy : x.tdiv 2 = y at *
        have hk4 : (k : Int) < 4 := by omega
        by_cases h5 : 0 < a + y
        · have hm : max 0 (a + y) = a + y := by omega
          simp (maxSteps := 2000000) (disch := first | omega | (simp; done) | (simp; omega)) [-getElem?_pos, b43_2, h1, h2, h3, hk, hk4, hm, hy, h5, maxL, wrap64]
        · have hm : max 0 (a + y) = 0 := by omega
          simp (maxSteps := 2000000) (disch := first | omega | (simp; done) | (simp; omega)) [-getElem?_pos, b43_2, h1, h2, h3, hk, hk4, hm, hy, h5, maxL, wrap64]
      · simp (maxSteps := 2000000) (disch := first | omega | (simp; done) | (simp; omega)) [-getElem?_pos, b43_2, h1, hk, wrap64]) (by
      generalize rowOf (nG gs i) st.length = l at *
      generalize nG gs i st.length = a at *
      unfold sG
      simp (maxSteps := 2000000) (disch := first | omega | (simp; done) | (simp; omega)) [-getElem?_pos, b43_2]) (by simp)
  exact iter_le (f := evC2 R 5 b43_2) (fun _ _ h => h) (show st.length + 1 ≤ 5 by omega) L
theorem loopGo43 (xs : List Int) {gs ps : List (List Int)} (h : Quad gs) {st : List Int} (hst : st.length ≤ 4) :
    iter (evC2 R 5 b43_1) 5 (sG xs gs ps st [] 0 []) = some (.exit 2, sG xs gs ps st (rowsOf (nG gs) st.length (cntM gs.length 3)) (cntM gs.length 3) [(64, B false)]) := by
  obtain ⟨c0, c1, c2⟩ := cnt_out (l := gs.length) (m := 3) (by omega)
  have L := loop_all (s := fun i => sG xs gs ps st (rowsOf (nG gs) st.length i) i []) (f := evC2 R 5 b43_1) (n := cntM gs.length 3) (X := (.exit 2, sG xs gs ps st (rowsOf (nG gs) st.length (cntM gs.length 3)) (cntM gs.length 3) [(64, B false)]))
    (fun i hi => by
      have Li := loopG43 xs (ps := ps) h hst (rowsOf (nG gs) st.length i) (i := i) (by omega)
      have hl := rowsOf_len (nG gs) st.length i
      have hr := rowOf_len (nG gs i) st.length
      rw [rowsOf_succ]
      generalize rowsOf (nG gs) st.length i = l at *
      generalize rowOf (nG gs i) st.length = ro at *
      generalize nG gs i st.length = a at *
      unfold sG at *
      simp at Li
      rcases cnt_in (by omega) hi with rfl | ⟨h0, h1, h2⟩
      · simp at Li
        simp (maxSteps := 2000000) (disch := first | omega | (simp; done) | (simp; omega)) [-getElem?_pos, b43_1, Li, wrap64]
      · have h2' : (i : Int) < 3 := by omega
        simp (maxSteps := 2000000) (disch := first | omega | (simp; done) | (simp; omega)) [-getElem?_pos, b43_1, Li, h0, h1, h2, h2', wrap64]) (by
      generalize rowsOf (nG gs) st.length (cntM gs.length 3) = l
      generalize cntM gs.length 3 = n at *
      unfold sG
      by_cases h3 : n < gs.length
      · have h4 : ¬ (n : Int) < 3 := by omega
        simp (maxSteps := 2000000) (disch := first | omega | (simp; done) | (simp; omega)) [-getElem?_pos, b43_1, c0, h3, h4]
      · simp (maxSteps := 2000000) (disch := first | omega | (simp; done) | (simp; omega)) [-getElem?_pos, b43_1, c0, h3]) (by simp)
  exact iter_le (f := evC2 R 5 b43_1) (fun _ _ h => h) (show cntM gs.length 3 + 1 ≤ 5 by omega) L
/-! ### Places -/
def sP (xs : List Int) (gs ps : List (List Int)) (st : List Int) (gr rows : List (List Int)) (i : Nat) (r : List (Nat × V)) : St :=
  { fr := [(1, .box [S 1 (eU xs), S 4 (eQ gs), S 4 (eQ ps)]), (2, .box [S 1 [], S 1 [], S 1 []]), (3, .box [.sl (some 2005000) 1 (eI st), .sl (some 2010000) 1 (eR gr), .sl (some 2014900) 1 (eR rows)]), (10, I i)] ++ r, tk := [] }
theorem loopP43 (xs : List Int) {gs ps : List (List Int)} (h : Quad ps) {st : List Int} (hst : st.length ≤ 4) (gr rows : List (List Int)) {i : Nat} (hi : i ≤ 3) :
    iter (evC2 R 5 b43_4) 5 (sP xs gs ps st gr rows i [(11, .sl (some 11700) 1 []), (12, I 0), (13, I 0)]) = some (.exit 8, sP xs gs ps st gr rows i [(11, .sl (some 11700) 1 (eI (rowOf (nP ps i) st.length))), (12, I (nP ps i st.length)), (13, I st.length), (122, B false)]) := by
  have L := loop_all (s := fun k => sP xs gs ps st gr rows i [(11, .sl (some 11700) 1 (eI (rowOf (nP ps i) k))), (12, I (nP ps i k)), (13, I k)]) (f := evC2 R 5 b43_4) (n := st.length) (X := (.exit 8, sP xs gs ps st gr rows i [(11, .sl (some 11700) 1 (eI (rowOf (nP ps i) st.length))), (12, I (nP ps i st.length)), (13, I st.length), (122, B false)]))
    (fun k hk => by
      have hb := nP_bd h i k (by omega)
      have hl := rowOf_len (nP ps i) k
      rw [rowOf_succ, nP]
      generalize rowOf (nP ps i) k = l at *
      generalize nP ps i k = a at *
      unfold sP
      by_cases h1 : i < ps.length
      · obtain ⟨r, h2, h3, h4, b1, b2⟩ := h.get h1 (k := k) (by omega)
        generalize at0 (ps.getD i []) k = x at *
        have hd := tdiv_abs (x := x) (d := 4) (m := 32) (by omega) (by omega) (by omega) (by omega)
        generalize hy : x.tdiv 4 = y at *
        have hk4 : (k : Int) < 4 := by omega
        simp (maxSteps := 2000000) (disch := first | omega | (simp; done) | (simp; omega)) [-getElem?_pos, b43_4, h1, h2, h3, hk, hk4, hy, wrap64]
      · simp (maxSteps := 2000000) (disch := first | omega | (simp; done) | (simp; omega)) [-getElem?_pos, b43_4, h1, hk, wrap64]) (by
      generalize rowOf (nP ps i) st.length = l at *
      generalize nP ps i st.length = a at *
      unfold sP
      simp (maxSteps := 2000000) (disch := first | omega | (simp; done) | (simp; omega)) [-getElem?_pos, b43_4]) (by simp)
  exact iter_le (f := evC2 R 5 b43_4) (fun _ _ h => h) (show st.length + 1 ≤ 5 by omega) L
theorem loopPo43 (xs : List Int) {gs ps : List (List Int)} (h : Quad ps) {st : List Int} (hst : st.length ≤ 4) (gr : List (List Int)) :
    iter (evC2 R 5 b43_3) 5 (sP xs gs ps st gr [] 0 []) = some (.exit 6, sP xs gs ps st gr (rowsOf (nP ps) st.length (cntM ps.length 3)) (cntM ps.length 3) [(114, B false)]) := by
  obtain ⟨c0, c1, c2⟩ := cnt_out (l := ps.length) (m := 3) (by omega)
  have L := loop_all (s := fun i => sP xs gs ps st gr (rowsOf (nP ps) st.length i) i []) (f := evC2 R 5 b43_3) (n := cntM ps.length 3) (X := (.exit 6, sP xs gs ps st gr (rowsOf (nP ps) st.length (cntM ps.length 3)) (cntM ps.length 3) [(114, B false)]))
    (fun i hi => by
      have Li := loopP43 xs (gs := gs) h hst gr (rowsOf (nP ps) st.length i) (i := i) (by omega)
      have hl := rowsOf_len (nP ps) st.length i
      have hr := rowOf_len (nP ps i) st.length
      rw [rowsOf_succ]
      generalize rowsOf (nP ps) st.length i = l at *
      generalize rowOf (nP ps i) st.length = ro at *
      generalize nP ps i st.length = a at *
      unfold sP at *
      simp at Li
      rcases cnt_in (by omega) hi with rfl | ⟨h0, h1, h2⟩
      · simp at Li
        simp (maxSteps := 2000000) (disch := first | omega | (simp; done) | (simp; omega)) [-getElem?_pos, b43_3, Li, wrap64]
      · have h2' : (i : Int) < 3 := by omega
        simp (maxSteps := 2000000) (disch := first | omega | (simp; done) | (simp; omega)) [-getElem?_pos, b43_3, Li, h0, h1, h2, h2', wrap64]) (by
      generalize rowsOf (nP ps) st.length (cntM ps.length 3) = l
      generalize cntM ps.length 3 = n at *
      unfold sP
      by_cases h3 : n < ps.length
      · have h4 : ¬ (n : Int) < 3 := by omega
        simp (maxSteps := 2000000) (disch := first | omega | (simp; done) | (simp; omega)) [-getElem?_pos, b43_3, c0, h3, h4]
      · simp (maxSteps := 2000000) (disch := first | omega | (simp; done) | (simp; omega)) [-getElem?_pos, b43_3, c0, h3]) (by simp)
  exact iter_le (f := evC2 R 5 b43_3) (fun _ _ h => h) (show cntM ps.length 3 + 1 ≤ 5 by omega) L
/-! ### The table -/
def mkS (xs : List Int) : List Int := stS xs (cntM xs.length 4)
def mkG (xs : List Int) (gs : List (List Int)) : List (List Int) := rowsOf (nG gs) (cntM xs.length 4) (cntM gs.length 3)
def mkP (xs : List Int) (ps : List (List Int)) : List (List Int) := rowsOf (nP ps) (cntM xs.length 4) (cntM ps.length 3)
theorem p43 {xs : List Int} {gs ps : List (List Int)} (hx : ∀ x ∈ xs, 0 ≤ x ∧ x ≤ 255) (hg : Quad gs) (hp : Quad ps) :
    R 43 [.agg [S 1 (eU xs), S 4 (eQ gs), S 4 (eQ ps)]] = some (.agg [.sl (some 2000000) 1 (eI (mkS xs)), .sl (some 2000001) 1 (eR (mkG xs gs)), .sl (some 2000002) 1 (eR (mkP xs ps))]) := by
  have h4 := (cnt_out (l := xs.length) (m := 4) (by omega)).2.2
  have L0 := loop043 (gs := gs) (ps := ps) hx
  have hl := stS_len xs (cntM xs.length 4)
  have L1 := loopGo43 xs (ps := ps) hg (st := mkS xs) (by rw [mkS, hl]; exact h4)
  have L2 := loopPo43 xs (gs := gs) hp (st := mkS xs) (by rw [mkS, hl]; exact h4) (mkG xs gs)
  unfold mkS at *
  rw [hl] at L1 L2
  rw [show rowsOf (nG gs) (cntM xs.length 4) (cntM gs.length 3) = mkG xs gs from rfl] at L1
  rw [show rowsOf (nP ps) (cntM xs.length 4) (cntM ps.length 3) = mkP xs ps from rfl] at L2
  generalize mkG xs gs = G at *
  generalize mkP xs ps = P at *
  generalize stS xs (cntM xs.length 4) = st at *
  unfold sG at L1
  unfold sP at L2
  simp at L0 L1 L2
  refine run2_body 5 rfl rfl rfl rfl rfl ?_
  simp (maxSteps := 2000000) (disch := first | omega | (simp; done) | (simp; omega)) [-getElem?_pos, l43, L0, L1, L2]
theorem tmod_bd0 {n x : Int} (hn : 0 ≤ n) (hx : 0 < x) : 0 ≤ n.tmod x ∧ n.tmod x ≤ n ∧ n.tmod x < x := by
  rw [Int.tmod_eq_emod_of_nonneg hn]
  have h1 := Int.emod_add_mul_ediv n x
  have h2 := Int.ediv_nonneg hn (by omega : 0 ≤ x)
  have h3 := Int.mul_nonneg (by omega : 0 ≤ x) h2
  have h4 := Int.emod_nonneg n (by omega : x ≠ 0)
  have h5 := Int.emod_lt_of_pos n hx
  omega
theorem p44 {s : List Int} (g p : List (List Int)) (hl : s.length ≤ 1000) {n x : Int} (hn : 0 ≤ n ∧ n ≤ 65535) (hx : s[s.length - 1]? = some x) (hb : 1 ≤ x ∧ x ≤ 10000000) : R 44 [T s g p, .int .u16 n] = some (I (1 + n.tmod x)) := by
  have hs : 0 < s.length := by
    apply Decidable.byContradiction
    intro h
    rw [List.getElem?_eq_none (by omega)] at hx; cases hx
  have h1 : ((s.length : Int) - 1).toNat = s.length - 1 := by omega
  have h2 := tmod_bd0 hn.1 (by omega : 0 < x)
  have h0 : ¬ x = 0 := by omega
  have w0 := wrap64 (n := n) (by omega) (by omega)
  generalize hm : n.tmod x = m at *
  refine run2_body 1 rfl rfl rfl rfl rfl ?_
  simp (maxSteps := 2000000) (disch := first | omega | (simp; done) | (simp; omega)) [-getElem?_pos, l44, hs, h1, hx, h0, w0, hm, wrap64]
theorem p45 (s : List Int) {g p : List (List Int)} (hg : g.length ≤ 1000 ∧ g ≠ []) (hp : p.length ≤ 1000 ∧ p ≠ []) {a b : Int} (ha : 0 ≤ a ∧ a ≤ 255) (hb : 0 ≤ b ∧ b ≤ 255) : R 45 [T s g p, U8 a, U8 b] = some (.agg [I (a.tmod p.length), I (b.tmod g.length)]) := by
  have h1 : ¬ (p.length : Int) = 0 := by have := mt List.length_eq_zero_iff.1 hp.2; omega
  have h2 : ¬ (g.length : Int) = 0 := by have := mt List.length_eq_zero_iff.1 hg.2; omega
  have h3 := tmod_bd0 ha.1 (by omega : (0:Int) < p.length)
  have h4 := tmod_bd0 hb.1 (by omega : (0:Int) < g.length)
  have w1 := wrap64 (n := a) (by omega) (by omega)
  have w2 := wrap64 (n := b) (by omega) (by omega)
  have e1 := p17 (a.tmod p.length) (b.tmod g.length)
  generalize hm1 : a.tmod p.length = m1 at *
  generalize hm2 : b.tmod g.length = m2 at *
  refine run2_body 1 rfl rfl rfl rfl rfl ?_
  simp (maxSteps := 2000000) (disch := first | omega | (simp; done) | (simp; omega)) [-getElem?_pos, l45, h1, h2, hg.2, hp.2, e1, w1, w2, hm1, hm2, wrap64]
theorem p46 (n : Int) (x : Int × Int) : R 46 [I n, eS x] = some (B (decide (x.1 ≤ n ∧ n ≤ x.2))) := by
  refine run2_body 1 rfl rfl rfl rfl rfl ?_
  by_cases h : x.1 ≤ n <;> simp (maxSteps := 2000000) (disch := first | omega | (simp; done) | (simp; omega)) [-getElem?_pos, l46, h]
theorem p47 {x : Int × Int} (hx : near x) (h : x.1 ≤ x.2) {n : Int} (hn : 0 ≤ n ∧ n ≤ 1000000) : R 47 [eS x, I n] = some (I (x.1 + n.tmod (x.2 - x.1 + 1))) := by
  unfold near at hx
  have h0 : ¬ x.2 - x.1 + 1 = 0 := by omega
  have h2 := tmod_bd0 hn.1 (by omega : 0 < x.2 - x.1 + 1)
  refine run2_body 1 rfl rfl rfl rfl rfl ?_
  have w1 := wrap64 (n := x.2 - x.1) (by omega) (by omega)
  have w2 := wrap64 (n := x.2 - x.1 + 1) (by omega) (by omega)
  generalize hd : x.2 - x.1 + 1 = d at *
  generalize hm : n.tmod d = m at *
  simp (maxSteps := 2000000) (disch := first | omega | (simp; done) | (simp; omega)) [-getElem?_pos, l47, w1, w2, hd, h0, hm, wrap64]
end Go.Lo

/- The plain law of spans, and of tables in small numbers. -/
namespace Go.Lo
open Go.Proofs
set_option linter.unusedSimpArgs false
set_option maxHeartbeats 4000000
/-! ### A table in small numbers is a good one -/
theorem at0_stS (xs : List Int) {n i : Nat} (h : i < n) : at0 (stS xs n) i = atS xs (i + 1) := by
  unfold at0 stS
  rw [List.getD_eq_getElem?_getD, List.getElem?_map, List.getElem?_range h]
  rfl
theorem rowAt_rowsOf (f : Nat → Nat → Int) {n m i k : Nat} (hi : i < m) (hk : k < n) : rowAt (rowsOf f n m) i k = f i (k + 1) := by
  unfold rowAt
  have : (rowsOf f n m).getD i [] = rowOf (f i) n := by
    unfold rowsOf
    rw [List.getD_eq_getElem?_getD, List.getElem?_map, List.getElem?_range hi]
    rfl
  rw [this]
  unfold at0 rowOf
  rw [List.getD_eq_getElem?_getD, List.getElem?_map, List.getElem?_range hk]
  rfl
theorem mem_rowsOf {f : Nat → Nat → Int} {n m : Nat} {r : List Int} (h : r ∈ rowsOf f n m) : r.length = n ∧ ∀ x ∈ r, ∃ i k, i < m ∧ k < n ∧ x = f i (k + 1) := by
  unfold rowsOf at h
  obtain ⟨i, hi, rfl⟩ := List.mem_map.1 h
  refine ⟨rowOf_len _ _, fun x hx => ?_⟩
  obtain ⟨k, hk, rfl⟩ := List.mem_map.1 hx
  exact ⟨i, k, List.mem_range.1 hi, List.mem_range.1 hk, rfl⟩
theorem mk_chk {xs : List Int} {gs ps : List (List Int)} (hx : ∀ x ∈ xs, 0 ≤ x ∧ x ≤ 255) (hg : Quad gs) (hp : Quad ps) : chk (mkS xs) (mkG xs gs) (mkP xs ps) = 0 := by
  obtain ⟨a0, _, a2⟩ := cnt_out (l := xs.length) (m := 4) (by omega)
  obtain ⟨b0, _, b2⟩ := cnt_out (l := gs.length) (m := 3) (by omega)
  obtain ⟨c0, _, c2⟩ := cnt_out (l := ps.length) (m := 3) (by omega)
  have ls : (mkS xs).length = cntM xs.length 4 := stS_len _ _
  have lg : (mkG xs gs).length = cntM gs.length 3 := rowsOf_len _ _ _
  have lp : (mkP xs ps).length = cntM ps.length 3 := rowsOf_len _ _ _
  have fg : ∀ r ∈ mkG xs gs, r.length = cntM xs.length 4 ∧ ∀ x ∈ r, 0 ≤ x ∧ x ≤ 100000 := fun r hr => by
    obtain ⟨h1, h2⟩ := mem_rowsOf hr
    refine ⟨h1, fun x hx => ?_⟩
    obtain ⟨i, k, hi, hk, rfl⟩ := h2 x hx
    have := nG_bd hg i (k + 1) (by omega)
    omega
  have fp : ∀ r ∈ mkP xs ps, r.length = cntM xs.length 4 ∧ ∀ x ∈ r, -100000 ≤ x ∧ x ≤ 100000 := fun r hr => by
    obtain ⟨h1, h2⟩ := mem_rowsOf hr
    refine ⟨h1, fun x hx => ?_⟩
    obtain ⟨i, k, hi, hk, rfl⟩ := h2 x hx
    have := nP_bd hp i (k + 1) (by omega)
    omega
  unfold chk
  rw [if_neg (by omega), if_neg, if_pos]
  · refine ⟨?_, fun h => ?_, fun h => ?_, fun h => ?_, ?_, ?_⟩
    · rw [List.all_eq_true]
      intro i hi
      rw [List.mem_range, ls] at hi
      unfold stepB
      rw [decide_eq_true_eq]
      have h1 : at0 (mkS xs) i = atS xs (i + 1) := at0_stS xs hi
      have hb := atS_bd hx (i + 1)
      have hi4 : i + 1 ≤ 4 := by omega
      have h2 : aft (mkS xs) i = atS xs i + 1 := by
        unfold aft
        by_cases h0 : i = 0
        · subst h0; rw [if_pos rfl]; rfl
        · rw [if_neg h0, show at0 (mkS xs) (i - 1) = atS xs (i - 1 + 1) from at0_stS xs (by omega), show i - 1 + 1 = i by omega]
      rw [h1, h2]
      refine ⟨?_, by omega⟩
      rw [atS]
      split
      · rename_i hl
        have := hx _ (List.mem_of_getElem? (at0_get hl)); omega
      · omega
    · rw [h] at ls; simp at ls; omega
    · rw [h] at lg; simp at lg; omega
    · rw [h] at lp; simp at lp; omega
    · rw [List.all_eq_true]
      intro r hr
      unfold inR
      rw [List.all_eq_true]
      intro x hx
      rw [decide_eq_true_eq]
      exact (fg r hr).2 x hx
    · rw [List.all_eq_true]
      intro r hr
      unfold inR
      rw [List.all_eq_true]
      intro x hx
      rw [decide_eq_true_eq]
      exact (fp r hr).2 x hx
  · rintro (h | h) <;> rw [List.any_eq_true] at h <;> obtain ⟨r, hr, h⟩ := h <;> unfold formB at h <;> rw [decide_eq_true_eq, ls] at h
    · exact h (fg r hr).1
    · exact h (fp r hr).1
/-! ### Spans -/
theorem aft_succ (s : List Int) (i : Nat) : aft s (i + 1) = at0 s i + 1 := by simp [aft]
structure SpInv (s : List Int) (ok : Nat → Bool) (n : Nat) (l : List (Int × Int)) : Prop where
  bd : ∀ x ∈ l, 1 ≤ x.1 ∧ x.1 ≤ x.2 ∧ x.2 < aft s n
  gap : ∀ i x y, l[i]? = some x → l[i + 1]? = some y → x.2 + 1 < y.1
  cov : ∀ m, (∃ x ∈ l, x.1 ≤ m ∧ m ≤ x.2) ↔ ∃ i, i < n ∧ ok i = true ∧ aft s i ≤ m ∧ m ≤ at0 s i
theorem sp_inv {s : List Int} {g p : List (List Int)} (hG : Good s g p) (ok : Nat → Bool) : ∀ n, n ≤ s.length → SpInv s ok n (spansOf s ok n)
  | 0, _ => ⟨fun x hx => (by cases hx), fun i x y h => (by simp [spansOf] at h), fun m => by simp [spansOf]⟩
  | n + 1, hn => by
    have ih := sp_inv hG ok n (by omega)
    have h1 := aft_bd hG (i := n) (by omega)
    have h2 := hG.st n (by omega)
    unfold stepB at h2
    rw [decide_eq_true_eq] at h2
    have h3 := aft_succ s n
    unfold spansOf
    generalize spansOf s ok n = l at *
    cases hok : ok n with
    | false =>
      rw [if_neg (by simp)]
      refine ⟨fun x hx => ?_, ih.gap, fun m => ?_⟩
      · have := ih.bd x hx; omega
      · rw [ih.cov m]
        constructor
        · rintro ⟨i, hi, h⟩; exact ⟨i, by omega, h⟩
        · rintro ⟨i, hi, h⟩
          by_cases he : i = n
          · subst he; rw [hok] at h; simp at h
          · exact ⟨i, by omega, h⟩
    | true =>
      rw [if_pos rfl]
      have cov : ∀ (l2 : List (Int × Int)), (∀ m, (∃ x ∈ l2, x.1 ≤ m ∧ m ≤ x.2) ↔ (∃ x ∈ l, x.1 ≤ m ∧ m ≤ x.2) ∨ (aft s n ≤ m ∧ m ≤ at0 s n)) → ∀ m, (∃ x ∈ l2, x.1 ≤ m ∧ m ≤ x.2) ↔ ∃ i, i < n + 1 ∧ ok i = true ∧ aft s i ≤ m ∧ m ≤ at0 s i := fun l2 h m => by
        rw [h m, ih.cov m]
        constructor
        · rintro (⟨i, hi, h⟩ | h)
          · exact ⟨i, by omega, h⟩
          · exact ⟨n, by omega, hok, h⟩
        · rintro ⟨i, hi, h4⟩
          by_cases he : i = n
          · subst he; exact .inr h4.2
          · exact .inl ⟨i, by omega, h4⟩
      rcases List.eq_nil_or_concat l with rfl | ⟨l', y, rfl⟩
      · have e : addS [] (aft s n) (at0 s n) = [(aft s n, at0 s n)] := rfl
        rw [e]
        refine ⟨fun x hx => ?_, fun i x y h1 h2 => ?_, cov _ fun m => by simp⟩
        · rw [List.mem_singleton.1 hx]; exact ⟨h1.1, h2.1, by simp only [h3]; omega⟩
        · simp at h2
      · rw [List.concat_eq_append] at *
        have hy := ih.bd y (by simp)
        have e : addS (l' ++ [y]) (aft s n) (at0 s n) = if y.2 + 1 = aft s n then l' ++ [(y.1, at0 s n)] else l' ++ [y] ++ [(aft s n, at0 s n)] := by
          unfold addS
          simp
        rw [e]
        by_cases hf : y.2 + 1 = aft s n
        · rw [if_pos hf]
          refine ⟨fun x hx => ?_, fun i x z h4 h5 => ?_, cov _ fun m => ?_⟩
          · rcases List.mem_append.1 hx with hx | hx
            · have := ih.bd x (by simp [hx]); omega
            · rw [List.mem_singleton.1 hx]; exact ⟨hy.1, by simp only; omega, by simp only [h3]; omega⟩
          · by_cases hi : i + 1 < l'.length
            · rw [List.getElem?_append_left (by omega)] at h4
              rw [List.getElem?_append_left hi] at h5
              exact ih.gap i x z (by rw [List.getElem?_append_left (by omega)]; exact h4) (by rw [List.getElem?_append_left hi]; exact h5)
            · by_cases hi2 : i + 1 = l'.length
              · rw [List.getElem?_append_left (by omega)] at h4
                rw [List.getElem?_append_right (by omega), hi2] at h5
                simp at h5
                have := ih.gap i x y (by rw [List.getElem?_append_left (by omega)]; exact h4) (by rw [List.getElem?_append_right (by omega), hi2]; simp)
                rw [← h5]; exact this
              · rw [List.getElem?_append_right (by omega), List.getElem?_eq_none (by simp; omega)] at h5
                cases h5
          · constructor
            · rintro ⟨x, hx, h⟩
              rcases List.mem_append.1 hx with hx | hx
              · exact .inl ⟨x, by simp [hx], h⟩
              · rw [List.mem_singleton.1 hx] at h
                simp only at h
                by_cases hm : m ≤ y.2
                · exact .inl ⟨y, by simp, h.1, hm⟩
                · exact .inr ⟨by omega, h.2⟩
            · rintro (⟨x, hx, h⟩ | h)
              · rcases List.mem_append.1 hx with hx | hx
                · exact ⟨x, by simp [hx], h⟩
                · rw [List.mem_singleton.1 hx] at h
                  exact ⟨(y.1, at0 s n), by simp, h.1, by simp only; omega⟩
              · exact ⟨(y.1, at0 s n), by simp, by simp only; omega, h.2⟩
        · rw [if_neg hf]
          refine ⟨fun x hx => ?_, fun i x z h4 h5 => ?_, cov _ fun m => ?_⟩
          · rcases List.mem_append.1 hx with hx | hx
            · have := ih.bd x hx; omega
            · rw [List.mem_singleton.1 hx]; exact ⟨h1.1, h2.1, by simp only [h3]; omega⟩
          · by_cases hi : i + 1 < (l' ++ [y]).length
            · rw [List.getElem?_append_left (by omega)] at h4
              rw [List.getElem?_append_left hi] at h5
              exact ih.gap i x z h4 h5
            · by_cases hi2 : i + 1 = (l' ++ [y]).length
              · rw [List.getElem?_append_left (by omega)] at h4
                rw [List.getElem?_append_right (by omega), hi2] at h5
                simp at h5
                have : i = l'.length := by simp at hi2; omega
                subst this
                rw [List.getElem?_append_right (by omega)] at h4
                simp at h4
                rw [← h5, ← h4]
                simp only
                omega
              · rw [List.getElem?_append_right (by omega), List.getElem?_eq_none (by simp only [List.length_singleton]; omega)] at h5
                cases h5
          · constructor
            · rintro ⟨x, hx, h⟩
              rcases List.mem_append.1 hx with hx | hx
              · exact .inl ⟨x, hx, h⟩
              · rw [List.mem_singleton.1 hx] at h; exact .inr h
            · rintro (⟨x, hx, h⟩ | h)
              · exact ⟨x, List.mem_append.2 (.inl hx), h⟩
              · exact ⟨(aft s n, at0 s n), by simp, h⟩
theorem spans_all (s : List Int) {ok : Nat → Bool} : ∀ n, (∀ i, i < n + 1 → ok i = true) → spansOf s ok (n + 1) = [(1, at0 s n)]
  | 0, h => by
    unfold spansOf
    rw [if_pos (h 0 (by omega))]
    rfl
  | n + 1, h => by
    rw [spansOf, if_pos (h (n + 1) (by omega)), spans_all s n fun i hi => h i (by omega), aft_succ]
    simp [addS]
/-- The steps grow. -/
theorem at_mono {s : List Int} {g p : List (List Int)} (hG : Good s g p) : ∀ i j, i < j → j < s.length → at0 s i < aft s j
  | i, 0, h, _ => by omega
  | i, j + 1, h, hj => by
    rw [aft_succ]
    by_cases he : i = j
    · subst he; omega
    · have := at_mono hG i j (by omega) (by omega)
      have h2 := hG.st j (by omega)
      unfold stepB at h2
      rw [decide_eq_true_eq] at h2
      omega
/-- The step of a size. -/
theorem stepOf_at {s : List Int} {g p : List (List Int)} (hG : Good s g p) {n : Int} (h1 : 1 ≤ n) (h2 : n ≤ at0 s (s.length - 1)) : ∃ j, stepOf s n = some j ∧ j < s.length ∧ aft s j ≤ n ∧ n ≤ at0 s j := by
  have hs : s.length ≠ 0 := fun e => hG.ns (List.length_eq_zero_iff.1 e)
  unfold stepOf
  rw [if_pos h1]
  cases hf : s.findIdx? (fun x => decide (n ≤ x)) with
  | none =>
    rw [List.findIdx?_eq_none_iff] at hf
    have := hf _ (List.mem_of_getElem? (at0_get (s := s) (i := s.length - 1) (by omega)))
    simp at this
    omega
  | some j =>
    obtain ⟨hj, h3, h4⟩ := List.findIdx?_eq_some_iff_getElem.1 hf
    have hg : ∀ i (hi : i < s.length), s[i] = at0 s i := fun i hi => by
      have := at0_get hi
      rw [List.getElem?_eq_getElem hi] at this
      exact Option.some.inj this
    rw [hg j hj] at h3
    refine ⟨j, rfl, hj, ?_, by simpa using h3⟩
    unfold aft
    split
    · exact h1
    · rename_i h0
      have := h4 (j - 1) (by omega)
      rw [hg (j - 1) (by omega)] at this
      simp at this
      omega
theorem cov_step {s : List Int} {g p : List (List Int)} (hG : Good s g p) (ok : Nat → Bool) {n : Int} {j : Nat} (hj : j < s.length) (h1 : aft s j ≤ n) (h2 : n ≤ at0 s j) : (∃ x ∈ spansOf s ok s.length, x.1 ≤ n ∧ n ≤ x.2) ↔ ok j = true := by
  rw [(sp_inv hG ok s.length (by omega)).cov n]
  constructor
  · rintro ⟨i, hi, h3, h4, h5⟩
    by_cases hij : i = j
    · subst hij; exact h3
    · by_cases hlt : i < j
      · have := at_mono hG i j hlt hj; omega
      · have := at_mono hG j i (by omega) hi; omega
  · intro h
    exact ⟨j, hj, h, h1, h2⟩
end Go.Lo

/- The loops of the law of fits. -/
namespace Go.Lo
open Go.Proofs
set_option linter.unusedSimpArgs false
set_option maxHeartbeats 8000000
theorem tmod_nat {a : Int} {n : Nat} (ha : 0 ≤ a) (hn : n ≠ 0) : ∃ k : Nat, a.tmod n = k ∧ k < n := by
  rw [Int.tmod_eq_emod_of_nonneg ha]
  have h1 := Int.emod_nonneg a (b := n) (by omega)
  have h2 := Int.emod_lt_of_pos a (b := n) (by omega)
  exact ⟨(a % n).toNat, by omega, by omega⟩
theorem cls_of {np ng a b : Nat} (h1 : a < np) (h2 : b < ng) : clsB np ng a b = true := by
  unfold clsB
  rw [decide_eq_true_eq]
  omega
theorem good_w {s : List Int} {g p : List (List Int)} (hG : Good s g p) : ∀ x ∈ s, -9223372036854775808 ≤ x := fun x hx => by
  obtain ⟨i, hi, rfl⟩ := List.mem_iff_getElem.1 hx
  have := good_pos hG i hi
  have h2 := at0_get hi
  rw [List.getElem?_eq_getElem hi] at h2
  injection h2 with h2
  omega
theorem pairsOf_len {s : List Int} {g p : List (List Int)} (hG : Good s g p) (size : Int) (j : Nat) (want : Int × Int) : (pairsOf g p size j want).length ≤ 1000000 := by
  have hg := hG.lg
  have hp := hG.lp
  have hb : p.length * g.length ≤ 12 * 12 := Nat.mul_le_mul hp hg
  have hle := len_flatMap (h := fun a => (clsL p.length g.length).flatMap (hitP g p size j want a)) (c := 144) (fun a => by
    have := len_flatMap (fun x => hitP_len g p size j want a x) (clsL p.length g.length)
    rw [clsL_len] at this; omega) (clsL p.length g.length)
  rw [clsL_len] at hle
  unfold pairsOf; omega
theorem eq_pairs (x y : Cls × Cls) : eqSh [some .i64, some .i64, some .i64, some .i64] (eP x) (eP y) = some (decide (x = y)) := by
  obtain ⟨⟨a, b⟩, c, d⟩ := x
  obtain ⟨⟨a', b'⟩, c', d'⟩ := y
  simp [eP]
  rw [Bool.eq_iff_iff]
  simp
  omega
def sW (s : List Int) (g p : List (List Int)) (N : Int) (pr : Cls × Cls) (z want : Int × Int) (l : List (Cls × Cls)) (u : Nat) (w : Cls × Cls) (th : Bool) (wd : Int) (r : List (Nat × V)) : St :=
  { fr := [(7, .box [.sl (some 3003200) 1 (eI s), .sl (some 3003201) 1 (eR g), .sl (some 3003202) 1 (eR p)]), (8, I N), (9, .box (eP pr)), (14, .box [I z.1, I z.2]), (16, .box [I want.1, I want.2]), (17, .sl (some u) 4 (l.map eP)), (18, .box (eP w)), (19, B th), (20, I wd)] ++ r, tk := [] }
def sX (s : List Int) (g p : List (List Int)) (N : Int) (z want : Int × Int) (l : List (Cls × Cls)) (u : Nat) (th : Bool) (wd : Int) (r : List (Nat × V)) : St :=
  { fr := [(7, .box [.sl (some 3003200) 1 (eI s), .sl (some 3003201) 1 (eR g), .sl (some 3003202) 1 (eR p)]), (8, I N), (14, .box [I z.1, I z.2]), (16, .box [I want.1, I want.2]), (17, .sl (some u) 4 (l.map eP)), (19, B th), (20, I wd)] ++ r, tk := [] }
def thW (pr : Cls × Cls) (l : List (Cls × Cls)) : Bool := l.any fun x => decide (x = pr)
def wdW (g : List (List Int)) (j : Nat) (w : Cls × Cls) (l : List (Cls × Cls)) : Int := l.foldl (fun a x => if x = w then wideOf g j x else a) 0
theorem thW_snoc (pr : Cls × Cls) (l : List (Cls × Cls)) (x : Cls × Cls) : thW pr (l ++ [x]) = (thW pr l || decide (x = pr)) := by simp [thW]
theorem wdW_snoc (g : List (List Int)) (j : Nat) (w : Cls × Cls) (l : List (Cls × Cls)) (x : Cls × Cls) : wdW g j w (l ++ [x]) = if x = w then wideOf g j x else wdW g j w l := by simp [wdW]
theorem wdW_all (g : List (List Int)) (j : Nat) (w : Cls × Cls) : ∀ l, w ∈ l → wdW g j w l = wideOf g j w := by
  intro l h
  have key : ∀ (l : List (Cls × Cls)) (a : Int), (a = wideOf g j w ∨ w ∈ l) → l.foldl (fun a x => if x = w then wideOf g j x else a) a = wideOf g j w := by
    intro l
    induction l with
    | nil => intro a h; simpa using h
    | cons x l ih =>
      intro a h
      rw [List.foldl_cons]
      refine ih _ ?_
      by_cases hx : x = w
      · left; rw [if_pos hx, hx]
      · rw [if_neg hx]
        rcases h with h | h
        · exact .inl h
        · rcases List.mem_cons.1 h with h | h
          · exact absurd h.symm hx
          · exact .inr h
  exact key l 0 (.inr h)
theorem zone_bd2 {s : List Int} {g p : List (List Int)} (h : Good s g p) {pl gr step : Nat} (h1 : pl < p.length) (h2 : gr < g.length) (h3 : step < s.length) (nut : Bool) {N : Int} (hs : 0 ≤ N ∧ N ≤ 100000000) :
    -200000000 ≤ (zoneOf g p pl gr nut N step).1 ∧ (zoneOf g p pl gr nut N step).1 ≤ (zoneOf g p pl gr nut N step).2 ∧ (zoneOf g p pl gr nut N step).2 ≤ 200000000 := by
  have b1 := row_bd h.fp h.rp h1 h3
  have b2 := row_bd h.fg h.rg h2 h3
  unfold zoneOf
  cases nut <;> simp <;> omega
section
variable {s : List Int} {g p : List (List Int)} (hc : chk s g p = 0) {N : Int} {j : Nat} (hN : 0 ≤ N ∧ N ≤ 100000000) (ej : stepOf s N = some j) (hj : j < s.length)
include hc hN ej hj
set_option linter.unusedSectionVars false
theorem lim_at {c : Cls} (h1 : c.1 < p.length) (h2 : c.2 < g.length) (nut : Bool) : R 16 [T s g p, .agg [I c.1, I c.2], B nut, I N] = some (sE (zoneOf g p c.1 c.2 nut N j, 0)) := by
  have e := p16 s g p (good_w (chk_good hc)) c.1 c.2 nut N
  unfold limE at e
  rw [if_neg (fun h => h hc), if_neg (by rw [cls_of h1 h2]; simp), ej] at e
  simpa only [Int.toNat_natCast] using e
theorem tab_at : R 14 [T s g p] = some (TT s g p) := by
  have hG := chk_good hc
  have ls := hG.ls
  have lg := hG.lg
  have lp := hG.lp
  exact p14 s (g := g) (p := p) (by omega) (by omega) (by omega) (fun r h => by rw [hG.fg r h]; omega) (fun r h => by rw [hG.fp r h]; omega)
set_option maxRecDepth 4000 in
theorem loop08 {want : Int × Int} (pr w : Cls × Cls) (z : Int × Int) {l : List (Cls × Cls)} (hl : l.length ≤ 1000000) (hm : ∀ x ∈ l, ((x.1.1 < p.length ∧ x.1.2 < g.length) ∧ (x.2.1 < p.length ∧ x.2.2 < g.length)) ∧ okP g p N j want x.1 x.2 = true)
    (q1 : keepN roT 3003200 (eI s) = 3003200) (q2 : keepN roT 3003201 (eR g) = 3003201) (q3 : keepN roT 3003202 (eR p) = 3003202) :
    iter (evC2 R (l.length + 1) b8_0) (l.length + 1) (sW s g p N pr z want l 3015000 w false 0 [(21, I 0)]) = some (.exit 0, sW s g p N pr z want l 3015000 w (thW pr l) (wdW g j w l) [(21, I l.length), (182, B false)]) := by
  refine loop_all (s := fun i => sW s g p N pr z want l 3015000 w (thW pr (l.take i)) (wdW g j w (l.take i)) [(21, I i)]) (n := l.length) (fun i hi => ?_) ?_ (by simp)
  · have h1 : l[i]? = some l[i] := List.getElem?_eq_getElem hi
    have hx := hm _ (List.getElem_mem hi)
    rw [take_at h1, thW_snoc, wdW_snoc]
    generalize l[i] = x at *
    have e1 := lim_at hc hN ej hj hx.1.1.1 hx.1.1.2 false
    have e2 := lim_at hc hN ej hj hx.1.2.1 hx.1.2.2 true
    have et := tab_at hc hN ej hj
    have k1 := zone_bd2 (chk_good hc) hx.1.1.1 hx.1.1.2 hj false hN
    have k2 := zone_bd2 (chk_good hc) hx.1.2.1 hx.1.2.2 hj true hN
    have hok := hx.2
    have hwd : wideOf g j x = (zoneOf g p x.1.1 x.1.2 false N j).2 - (zoneOf g p x.1.1 x.1.2 false N j).1 + (zoneOf g p x.2.1 x.2.2 true N j).2 - (zoneOf g p x.2.1 x.2.2 true N j).1 := by
      unfold zoneOf wideOf; simp; omega
    unfold okP at hok
    rw [decide_eq_true_eq] at hok
    rw [hwd]
    generalize zoneOf g p x.1.1 x.1.2 false N j = zA at *
    generalize zoneOf g p x.2.1 x.2.2 true N j = zB at *
    simp only [playOf] at hok
    have c1 : ¬ zB.1 - zA.2 < want.1 := by omega
    have c2 : ¬ zB.2 - zA.1 > want.2 := by omega
    generalize thW pr (l.take i) = th at *
    generalize wdW g j w (l.take i) = wd at *
    have eq1 := eq_pairs x pr
    have eq2 := eq_pairs x w
    have hu1 : keepN roT 3015000 (l.map eP) = 3015000 := by
      cases l with
      | nil => cases hi
      | cons y l => rfl
    unfold sW
    have hml : (l.map eP)[i]? = some (eP x) := by rw [List.getElem?_map, h1]; rfl
    have hll : (l.map eP).length = l.length := by simp
    have hki : (i : Int) < (l.length : Int) := by omega
    generalize l.map eP = es at *
    generalize l.length = n at *
    generalize decide (x = pr) = d1 at *
    rw [show (if x = w then zA.2 - zA.1 + zB.2 - zB.1 else wd) = if decide (x = w) = true then zA.2 - zA.1 + zB.2 - zB.1 else wd from by simp]
    generalize decide (x = w) = d2 at *
    cases d2 <;> cases th <;> simp (maxSteps := 2000000) (disch := first | omega | (simp; done) | (simp; omega)) [-getElem?_pos, -eqSh, b8_0, eP, hi, hml, hll, hki, e1, e2, et, c1, c2, eq1, eq2, q1, q2, q3, hu1, wrap64]
  · rw [List.take_length]
    generalize thW pr l = th at *
    generalize wdW g j w l = wd at *
    unfold sW
    simp (maxSteps := 2000000) (disch := first | omega | (simp; done) | (simp; omega)) [-getElem?_pos, b8_0]
set_option maxRecDepth 4000 in
theorem loop18 (want z : Int × Int) {l : List (Cls × Cls)} (th : Bool) {wd : Int} (hl : l.length ≤ 1000000) (hm : ∀ x ∈ l, ((x.1.1 < p.length ∧ x.1.2 < g.length) ∧ (x.2.1 < p.length ∧ x.2.2 < g.length)) ∧ wideOf g j x ≤ wd)
    (q1 : keepN roT 3003200 (eI s) = 3003200) (q2 : keepN roT 3003201 (eR g) = 3003201) (q3 : keepN roT 3003202 (eR p) = 3003202) :
    iter (evC2 R (l.length + 1) b8_1) (l.length + 1) (sX s g p N z want l 3015000 th wd [(26, I 0)]) = some (.exit 2, sX s g p N z want l 3015000 th wd [(26, I l.length), (264, B false)]) := by
  refine loop_all (s := fun i => sX s g p N z want l 3015000 th wd [(26, I i)]) (n := l.length) (fun i hi => ?_) ?_ (by simp)
  · have h1 : l[i]? = some l[i] := List.getElem?_eq_getElem hi
    have hx := hm _ (List.getElem_mem hi)
    generalize l[i] = x at *
    have e1 := lim_at hc hN ej hj hx.1.1.1 hx.1.1.2 false
    have e2 := lim_at hc hN ej hj hx.1.2.1 hx.1.2.2 true
    have et := tab_at hc hN ej hj
    have k1 := zone_bd2 (chk_good hc) hx.1.1.1 hx.1.1.2 hj false hN
    have k2 := zone_bd2 (chk_good hc) hx.1.2.1 hx.1.2.2 hj true hN
    have hwd : wideOf g j x = (zoneOf g p x.1.1 x.1.2 false N j).2 - (zoneOf g p x.1.1 x.1.2 false N j).1 + (zoneOf g p x.2.1 x.2.2 true N j).2 - (zoneOf g p x.2.1 x.2.2 true N j).1 := by
      unfold zoneOf wideOf; simp; omega
    have hle := hx.2
    rw [hwd] at hle
    generalize zoneOf g p x.1.1 x.1.2 false N j = zA at *
    generalize zoneOf g p x.2.1 x.2.2 true N j = zB at *
    have c1 : ¬ zA.2 - zA.1 + zB.2 - zB.1 > wd := by omega
    have hu1 : keepN roT 3015000 (l.map eP) = 3015000 := by
      cases l with
      | nil => cases hi
      | cons y l => rfl
    unfold sX
    have hml : (l.map eP)[i]? = some (eP x) := by rw [List.getElem?_map, h1]; rfl
    have hll : (l.map eP).length = l.length := by simp
    have hki : (i : Int) < (l.length : Int) := by omega
    generalize l.map eP = es at *
    generalize l.length = n at *
    simp (maxSteps := 2000000) (disch := first | omega | (simp; done) | (simp; omega)) [-getElem?_pos, b8_1, eP, hi, hml, hll, hki, e1, e2, et, c1, q1, q2, q3, hu1, wrap64]
  · unfold sX
    simp (maxSteps := 2000000) (disch := first | omega | (simp; done) | (simp; omega)) [-getElem?_pos, b8_1]
end
end Go.Lo

/- The law of fits. -/
namespace Go.Lo
open Go.Proofs
set_option linter.unusedSimpArgs false
set_option maxHeartbeats 16000000
theorem mem_cls {np ng : Nat} {c : Cls} (h1 : c.1 < np) (h2 : c.2 < ng) : c ∈ clsL np ng := by
  unfold clsL clsR
  simp only [List.mem_flatMap, List.mem_range, List.mem_map]
  exact ⟨c.1, h1, c.2, h2, rfl⟩
theorem mem_pairs {g p : List (List Int)} {size : Int} {j : Nat} {want : Int × Int} {x : Cls × Cls} (h1 : x.1.1 < p.length) (h2 : x.1.2 < g.length) (h3 : x.2.1 < p.length) (h4 : x.2.2 < g.length) : x ∈ pairsOf g p size j want ↔ okP g p size j want x.1 x.2 = true := by
  unfold pairsOf
  rw [List.mem_flatMap]
  constructor
  · rintro ⟨a, ha, h⟩
    rw [List.mem_flatMap] at h
    obtain ⟨b, hb, h⟩ := h
    unfold hitP at h
    split at h
    · rename_i ho
      rw [List.mem_singleton] at h; subst h; exact ho
    · cases h
  · intro h
    refine ⟨x.1, mem_cls h1 h2, ?_⟩
    rw [List.mem_flatMap]
    refine ⟨x.2, mem_cls h3 h4, ?_⟩
    unfold hitP
    rw [if_pos h]
    simp
theorem pairs_ok {g p : List (List Int)} {size : Int} {j : Nat} {want : Int × Int} {x : Cls × Cls} (h : x ∈ pairsOf g p size j want) : okP g p size j want x.1 x.2 = true := by
  obtain ⟨⟨h1, h2⟩, h3, h4⟩ := pairsOf_mem h
  exact (mem_pairs h1 h2 h3 h4).1 h
theorem thW_mem (pr : Cls × Cls) (l : List (Cls × Cls)) : thW pr l = decide (pr ∈ l) := by
  unfold thW
  rw [Bool.eq_iff_iff, List.any_eq_true]
  simp
theorem bestF_ge {α : Type} (f : α → Int) : ∀ (l : List α) (m : α), ∀ y ∈ m :: l, f y ≤ f (bestF f m l)
  | [], m, y, h => by simp at h; rw [h]; exact Int.le_refl _
  | x :: l, m, y, h => by
    have e : bestF f m (x :: l) = bestF f (if f m < f x then x else m) l := rfl
    rw [e]
    have ih := bestF_ge f l (if f m < f x then x else m)
    rcases List.mem_cons.1 h with rfl | h
    · have := ih _ List.mem_cons_self
      by_cases c : f y < f x
      · rw [if_pos c] at this ⊢; omega
      · rw [if_neg c] at this ⊢; omega
    · rcases List.mem_cons.1 h with rfl | h
      · have := ih _ List.mem_cons_self
        by_cases c : f m < f y
        · rw [if_pos c] at this ⊢; omega
        · rw [if_neg c] at this ⊢; omega
      · exact ih y (List.mem_cons_of_mem _ h)
theorem loop0nil8 (s : List Int) (g p : List (List Int)) (N : Int) (pr : Cls × Cls) (z want : Int × Int) (u : Nat) (w : Cls × Cls) (M : Nat) :
    iter (evC2 R (M + 1) b8_0) (M + 1) (sW s g p N pr z want [] u w false 0 [(21, I 0)]) = some (.exit 0, sW s g p N pr z want [] u w false 0 [(21, I 0), (182, B false)]) := by
  rw [iter_succ]
  unfold sW
  simp (maxSteps := 2000000) (disch := first | omega | (simp; done) | (simp; omega)) [-getElem?_pos, b8_0]
theorem loop1nil8 (s : List Int) (g p : List (List Int)) (N : Int) (z want : Int × Int) (u : Nat) (M : Nat) :
    iter (evC2 R (M + 1) b8_1) (M + 1) (sX s g p N z want [] u false 0 [(26, I 0)]) = some (.exit 2, sX s g p N z want [] u false 0 [(26, I 0), (264, B false)]) := by
  rw [iter_succ]
  unfold sX
  simp (maxSteps := 2000000) (disch := first | omega | (simp; done) | (simp; omega)) [-getElem?_pos, b8_1]
set_option maxRecDepth 4000 in
theorem p8 {xs : List Int} {gs ps : List (List Int)} (hx : ∀ x ∈ xs, 0 ≤ x ∧ x ≤ 255) (hg : Quad gs) (hp : Quad ps) {v0 v1 v2 v3 n0 n1 n2 n3 : Int} (h0 : 0 ≤ v0 ∧ v0 ≤ 255) (h1 : 0 ≤ v1 ∧ v1 ≤ 255) (h2 : 0 ≤ v2 ∧ v2 ≤ 255) (h3 : 0 ≤ v3 ∧ v3 ≤ 255)
    (k0 : 0 ≤ n0 ∧ n0 ≤ 65535) (k1 : 0 ≤ n1 ∧ n1 ≤ 65535) (k2 : 0 ≤ n2 ∧ n2 ≤ 65535) (k3 : 0 ≤ n3 ∧ n3 ≤ 65535) :
    R 8 [.agg [S 1 (eU xs), S 4 (eQ gs), S 4 (eQ ps)], .agg [U8 v0, U8 v1, U8 v2, U8 v3], .agg [.int .u16 n0, .int .u16 n1, .int .u16 n2, .int .u16 n3]] = some (B true) := by
  have hc := mk_chk hx hg hp
  have hG := chk_good hc
  have emk := p43 hx hg hp
  generalize mkS xs = s at *
  generalize mkG xs gs = g at *
  generalize mkP xs ps = p at *
  clear hx hg hp
  have hw := good_w hG
  have ls := hG.ls
  have lg := hG.lg
  have lp := hG.lp
  have hs0 : s.length ≠ 0 := fun e => hG.ns (List.length_eq_zero_iff.1 e)
  have hg0 : g.length ≠ 0 := fun e => hG.ng (List.length_eq_zero_iff.1 e)
  have hp0 : p.length ≠ 0 := fun e => hG.np (List.length_eq_zero_iff.1 e)
  have hL := at0_get (s := s) (i := s.length - 1) (by omega)
  have hLb := good_pos hG (s.length - 1) (by omega)
  obtain ⟨a1, ea1, ka1⟩ := tmod_nat h0.1 hp0
  obtain ⟨a2, ea2, ka2⟩ := tmod_nat h1.1 hg0
  obtain ⟨b1, eb1, kb1⟩ := tmod_nat h2.1 hp0
  obtain ⟨b2, eb2, kb2⟩ := tmod_nat h3.1 hg0
  have eof1 := p45 s (g := g) (p := p) ⟨by omega, hG.ng⟩ ⟨by omega, hG.np⟩ h0 h1
  have eof2 := p45 s (g := g) (p := p) ⟨by omega, hG.ng⟩ ⟨by omega, hG.np⟩ h2 h3
  rw [ea1, ea2] at eof1
  rw [eb1, eb2] at eof2
  have epr := p30 a1 a2 b1 b2
  have hsz := p44 g p (by omega) k0 hL hLb
  have hN := tmod_bd0 k0.1 (by omega : 0 < at0 s (s.length - 1))
  obtain ⟨N, eN⟩ : ∃ N, N = 1 + n0.tmod (at0 s (s.length - 1)) := ⟨_, rfl⟩
  rw [← eN] at hsz
  have hNb : 0 ≤ N ∧ N ≤ 100000000 := by omega
  obtain ⟨j, ej, hj, j1, j2⟩ := stepOf_at hG (n := N) (by omega) (by omega)
  have etab := tab_at hc hNb ej hj
  have el1 := lim_at hc hNb ej hj (c := (a1, a2)) ka1 ka2 false
  have el2 := lim_at hc hNb ej hj (c := (b1, b2)) kb1 kb2 true
  have epl := p31 s g p hw a1 a2 b1 b2 N
  unfold playE at epl
  rw [if_neg (fun h => h hc), if_neg (by rw [cls_of ka1 ka2]; simp), ej] at epl
  simp only [Int.toNat_natCast] at epl el1 el2
  rw [if_neg (by rw [cls_of kb1 kb2]; simp)] at epl
  obtain ⟨want, hwant⟩ : ∃ want : Int × Int, want = (n3.tmod 400 - 200, n3.tmod 400 - 200 + n1.tmod 600) := ⟨_, rfl⟩
  have m3 := tmod_bd0 k3.1 (by omega : (0 : Int) < 400)
  have m1 := tmod_bd0 k1.1 (by omega : (0 : Int) < 600)
  have ew1 : want.1 = n3.tmod 400 - 200 := by rw [hwant]
  have ew2 : want.2 = n3.tmod 400 - 200 + n1.tmod 600 := by rw [hwant]
  have esw := p26 want.1 want.2
  have epa := p32 s g p hw N want
  have ewi := p33 s g p hw N want
  unfold widestE at ewi
  unfold pairsE at epa ewi
  have hsp : spanV want 400000 = true := by unfold spanV; rw [decide_eq_true_eq]; omega
  rw [if_neg (fun h => h hc), ej] at epa ewi
  simp only [hsp, if_true] at epa ewi
  have hmem := mem_pairs (g := g) (p := p) (size := N) (j := j) (want := want) (x := ((a1, a2), (b1, b2))) ka1 ka2 kb1 kb2
  have hok0 : okP g p N j want (a1, a2) (b1, b2) = decide (want.1 ≤ (playOf (zoneOf g p a1 a2 false N j) (zoneOf g p b1 b2 true N j)).1 ∧ (playOf (zoneOf g p a1 a2 false N j) (zoneOf g p b1 b2 true N j)).2 ≤ want.2) := rfl
  have hz1 := zone_bd2 hG ka1 ka2 hj false hNb
  have hz2 := zone_bd2 hG kb1 kb2 hj true hNb
  have hlen := pairsOf_len hG N j want
  have hall : ∀ x ∈ pairsOf g p N j want, ((x.1.1 < p.length ∧ x.1.2 < g.length) ∧ (x.2.1 < p.length ∧ x.2.2 < g.length)) ∧ okP g p N j want x.1 x.2 = true := fun x hx => ⟨pairsOf_mem hx, pairs_ok hx⟩
  simp only at hmem
  rw [hok0] at hmem
  clear hok0 hsp
  generalize zoneOf g p a1 a2 false N j = zS at *
  generalize zoneOf g p b1 b2 true N j = zN at *
  have ei1 := p47 (x := zN) (by unfold near; omega) hz2.2.1 (n := n1) (by omega)
  have ei2 := p47 (x := zS) (by unfold near; omega) hz1.2.1 (n := n2) (by omega)
  have t1 := tmod_bd0 k1.1 (by omega : 0 < zN.2 - zN.1 + 1)
  have t2 := tmod_bd0 k2.1 (by omega : 0 < zS.2 - zS.1 + 1)
  have esp := p26 (zN.1 - zS.2) (zN.2 - zS.1)
  obtain ⟨z, hz⟩ : ∃ z, z = playOf zS zN := ⟨_, rfl⟩
  have z1 : z.1 = zN.1 - zS.2 := by rw [hz]
  have z2 : z.2 = zN.2 - zS.1 := by rw [hz]
  have ein := p46 ((zN.1 + n1.tmod (zN.2 - zN.1 + 1)) - (zS.1 + n2.tmod (zS.2 - zS.1 + 1))) z
  rw [show decide (z.1 ≤ zN.1 + n1.tmod (zN.2 - zN.1 + 1) - (zS.1 + n2.tmod (zS.2 - zS.1 + 1)) ∧ zN.1 + n1.tmod (zN.2 - zN.1 + 1) - (zS.1 + n2.tmod (zS.2 - zS.1 + 1)) ≤ z.2) = true from by rw [decide_eq_true_eq]; omega] at ein
  rw [← hz] at epl hmem
  rw [← z1, ← z2] at esp
  have w12 := wrap64 (n := (zN.1 + n1.tmod (zN.2 - zN.1 + 1)) - (zS.1 + n2.tmod (zS.2 - zS.1 + 1))) (by omega) (by omega)
  generalize zN.1 + n1.tmod (zN.2 - zN.1 + 1) = d1 at *
  generalize zS.1 + n2.tmod (zS.2 - zS.1 + 1) = d2 at *
  have hkn := p13
  have kp : ∀ {u : Nat} {es : List (List V)}, es.length ≠ 0 → keepN roT u es = roT u := fun {u es} h => by
    cases es with
    | nil => exact absurd rfl h
    | cons e es => simp [keepN]
  have q1 : keepN roT 2003200 (eI s) = 3003200 := by rw [kp (by simpa using hs0)]; rfl
  have q2 : keepN roT 3003200 (eI s) = 3003200 := by rw [kp (by simpa using hs0)]; rfl
  have q3 : keepN roT 2003201 (eR g) = 3003201 := by rw [kp (by simpa using hg0)]; rfl
  have q4 : keepN roT 3003201 (eR g) = 3003201 := by rw [kp (by simpa using hg0)]; rfl
  have q5 : keepN roT 2003202 (eR p) = 3003202 := by rw [kp (by simpa using hp0)]; rfl
  have q6 : keepN roT 3003202 (eR p) = 3003202 := by rw [kp (by simpa using hp0)]; rfl
  have w1 := wrap64 (n := n1) (by omega) (by omega)
  have w2 := wrap64 (n := n2) (by omega) (by omega)
  have w3 := wrap64 (n := n3) (by omega) (by omega)
  have o1 : ¬ zS.1 > zS.2 := by omega
  have o2 : ¬ zN.1 > zN.2 := by omega
  have x1 : zN.1 - zS.2 = z.1 := z1.symm
  have x2 : zN.2 - zS.1 = z.2 := z2.symm
  have y1 : n3.tmod 400 - 200 = want.1 := ew1.symm
  have y2 : want.1 + n1.tmod 600 = want.2 := by omega
  generalize hr3 : n3.tmod 400 = r3 at *
  generalize hr1 : n1.tmod 600 = r1 at *
  have hbw : -1000 ≤ want.1 ∧ want.2 ≤ 1000 := by omega
  cases hl : pairsOf g p N j want with
  | nil =>
    rw [hl] at epa ewi hmem hall hlen
    simp only at epa ewi
    have hno : ¬ (want.1 ≤ z.1 ∧ z.2 ≤ want.2) := fun h => by simp [h] at hmem
    have L0 := loop0nil8 s g p N ((a1, a2), (b1, b2)) z want 2015000 ((0, 0), (0, 0)) 1
    have L1 := loop1nil8 s g p N z want 2015000 1
    unfold sW at L0
    unfold sX at L1
    simp [eP] at L0 L1
    simp [pE, ePO] at epa ewi
    refine run2_body 2 rfl rfl rfl rfl rfl ?_
    by_cases c : want.1 ≤ z.1
    · have c2 : ¬ z.2 ≤ want.2 := fun h => hno ⟨c, h⟩
      simp (maxSteps := 2000000) (disch := first | omega | (simp; done) | (simp; omega)) [-getElem?_pos, l8, emk, hsz, eof1, eof2, epr, etab, el1, el2, epl, esp, ei1, ei2, ein, esw, epa, ewi, hkn, L0, L1, q1, q2, q3, q4, q5, q6, w1, w2, w3, o1, o2, x1, x2, y1, y2, w12, hr3, hr1, c, c2, wrap64]
    · simp (maxSteps := 2000000) (disch := first | omega | (simp; done) | (simp; omega)) [-getElem?_pos, l8, emk, hsz, eof1, eof2, epr, etab, el1, el2, epl, esp, ei1, ei2, ein, esw, epa, ewi, hkn, L0, L1, q1, q2, q3, q4, q5, q6, w1, w2, w3, o1, o2, x1, x2, y1, y2, w12, hr3, hr1, c, wrap64]
  | cons x l =>
    rw [hl] at epa ewi hmem hall hlen
    simp only at epa ewi
    have hbm := bestF_mem (wideOf g j) l x
    have hbg := bestF_ge (wideOf g j) l x
    have L0 := loop08 hc hNb ej hj (want := want) ((a1, a2), (b1, b2)) (bestF (wideOf g j) x l) z (l := x :: l) hlen hall q2 q4 q6
    rw [thW_mem, wdW_all _ _ _ _ hbm, show decide ((((a1, a2), (b1, b2)) : Cls × Cls) ∈ x :: l) = decide (want.1 ≤ z.1 ∧ z.2 ≤ want.2) from by rw [Bool.eq_iff_iff, decide_eq_true_eq, hmem]] at L0
    have L1 := loop18 hc hNb ej hj want z (l := x :: l) (decide (want.1 ≤ z.1 ∧ z.2 ≤ want.2)) (wd := wideOf g j (bestF (wideOf g j) x l)) hlen (fun y hy => ⟨(hall y hy).1, hbg y hy⟩) q2 q4 q6
    generalize wideOf g j (bestF (wideOf g j) x l) = wd at *
    generalize bestF (wideOf g j) x l = w at *
    have hu0 : keepN roT 2015000 ((x :: l).map eP) = 3015000 := rfl
    have hn0 : 0 < (x :: l).length := by simp
    have hml : ((x :: l).map eP).length = (x :: l).length := by simp
    clear hall hbm hbg hmem hl
    unfold sW at L0
    unfold sX at L1
    simp only [pE, ePO] at epa ewi
    have hfl : flatE ((x :: l).map eP) = true := by simp [flatE, V.flat, eP]
    generalize (x :: l).map eP = es at *
    generalize (x :: l).length = m at *
    simp [eP] at L0 L1
    simp only [eP] at ewi
    refine run2_body (m + 1) rfl rfl rfl rfl rfl ?_
    by_cases c : want.1 ≤ z.1
    · by_cases c2 : z.2 ≤ want.2
      · simp only [c, c2, decide_true, Bool.and_self] at L0 L1
        simp (maxSteps := 2000000) (disch := first | omega | (simp; done) | (simp; omega)) [-getElem?_pos, l8, emk, hsz, eof1, eof2, epr, etab, el1, el2, epl, esp, ei1, ei2, ein, esw, epa, ewi, hkn, L0, L1, q1, q2, q3, q4, q5, q6, w1, w2, w3, o1, o2, x1, x2, y1, y2, w12, hr3, hr1, c, c2, hu0, hn0, hml, hfl, wrap64]
      · simp only [c, c2, decide_true, decide_false, Bool.and_false] at L0 L1
        simp (maxSteps := 2000000) (disch := first | omega | (simp; done) | (simp; omega)) [-getElem?_pos, l8, emk, hsz, eof1, eof2, epr, etab, el1, el2, epl, esp, ei1, ei2, ein, esw, epa, ewi, hkn, L0, L1, q1, q2, q3, q4, q5, q6, w1, w2, w3, o1, o2, x1, x2, y1, y2, w12, hr3, hr1, c, c2, hu0, hn0, hml, hfl, wrap64]
    · simp only [c, decide_false, Bool.false_and] at L0 L1
      simp (maxSteps := 2000000) (disch := first | omega | (simp; done) | (simp; omega)) [-getElem?_pos, l8, emk, hsz, eof1, eof2, epr, etab, el1, el2, epl, esp, ei1, ei2, ein, esw, epa, ewi, hkn, L0, L1, q1, q2, q3, q4, q5, q6, w1, w2, w3, o1, o2, x1, x2, y1, y2, w12, hr3, hr1, c, hu0, hn0, hml, hfl, wrap64]
end Go.Lo

namespace Go.Lo
theorem laidOutZoneFits : laidOutB Go.Proofs.Try.prog = true := by kernel_rfl
abbrev rowsTy : Ty := .st [.sl (.int .u8), .sl (.arr 4 (.int .i8)), .sl (.arr 4 (.int .i8))]
theorem can_rows4 {v : V} (h : HasV rowsTy v) : ∃ (xs : List Int) (gs ps : List (List Int)), Rel (.agg [S 1 (eU xs), S 4 (eQ gs), S 4 (eQ ps)]) noT v ∧ (∀ x ∈ xs, 0 ≤ x ∧ x ≤ 255) ∧ Quad gs ∧ Quad ps := by
  simp only [HasV] at h
  obtain ⟨cs, rfl, h⟩ := h
  obtain ⟨x1, r1, rfl, h1, h⟩ := h.inv
  obtain ⟨x2, r2, rfl, h2, h⟩ := h.inv
  obtain ⟨x3, r3, rfl, h3, h⟩ := h.inv
  rw [HasCs] at h
  subst h
  obtain ⟨a, rfl⟩ := h1.sl1
  obtain ⟨b, rfl⟩ := h2.sl1
  obtain ⟨c, rfl⟩ := h3.sl1
  obtain ⟨xs, k1, w1⟩ := can_intsK h1
  obtain ⟨gs, k2, w2⟩ := can_arrs h2
  obtain ⟨ps, k3, w3⟩ := can_arrs h3
  refine ⟨xs, gs, ps, ?_, fun x hx => wf_u8 (w1 x hx), ⟨fun r hr => (w2 r hr).1, fun r hr x hx => wf_i8 ((w2 r hr).2 x hx)⟩, ⟨fun r hr => (w3 r hr).1, fun r hr x hx => wf_i8 ((w3 r hr).2 x hx)⟩⟩
  rw [Rel]
  exact ⟨_, rfl, RelL.cons k1 (RelL.cons k2 (RelL.one k3))⟩
end Go.Lo
namespace Go.Proofs.Ytifanigkolnedaa
open Go.Lo Go.ChangeShapes
set_option maxRecDepth 100000 in
theorem zoneFits_lifted (os : Os) (started : os.Started) (H : Type) (enc : TypeId × Value → H) :
    ReturnsInHanded {} Try.checked os 8 .any (Rows.zoneFitsSpec.pre6 enc Try.prog Try.f8 Rows.zoneFitsRow.domain false) (Rows.zoneFitsSpec.post enc Try.prog Try.f8 false true false false) := by
  refine returnsInHanded_of_change (C := Try.checked) (by kernel_rfl) started (by kernel_rfl) Try.func8
    (ChangeSpec.witness6 (enc := enc) (C := Try.checked) false ⟨#[], #[.agg #[.slice none 0 0, .slice none 0 0, .slice none 0 0], .agg #[.int .u8 0, .int .u8 0, .int .u8 0, .int .u8 0], .agg #[.int .u16 0, .int .u16 0, .int .u16 0, .int .u16 0]], []⟩ 8 (by kernel_rfl) (by kernel_rfl) (by kernel_rfl) (by kernel_rfl)) ?_
  intro W base args ds gs before hval hW _ _
  refine law_contract laidOutZoneFits rfl (tb := 4) (by kernel_rfl) (by kernel_rfl) (d := 6) (tys := [rowsTy, .arr 4 (.int .u8), .arr 4 (.int .u16)]) (by kernel_rfl) (fun t ht => ?_) (fun ds hds => ?_) (fun vs hvs => ?_) W base args ds gs before hval hW
  · have h : ∀ t ∈ Try.f8.params.toList, decide (Try.prog.readableRec t = true ∧ t < Try.prog.types.size) = true := by
      have : Try.f8.params.toList.all (fun t => decide (Try.prog.readableRec t = true ∧ t < Try.prog.types.size)) = true := by kernel_rfl
      exact List.all_eq_true.1 this
    exact of_decide_eq_true (h t ht)
  · have hp : Try.f8.params.size = 3 := by kernel_rfl
    rw [hp] at hds
    match ds, hds with
    | [d1, d2, d3], _ => exact ⟨rfl, rfl, rfl⟩
  · simp only [HasVs] at hvs
    obtain ⟨v1, u1, rfl, h1, v2, u2, rfl, h2, v3, u3, rfl, h3, rfl⟩ := hvs
    obtain ⟨xs, g, p, hT, b1, b2, b3⟩ := can_rows4 h1
    obtain ⟨ys, l1, rfl, w1⟩ := can_arr h2
    obtain ⟨zs, l2, rfl, w2⟩ := can_arr h3
    match ys, l1, zs, l2 with
    | [c0, c1, c2, c3], _, [n0, n1, n2, n3], _ => exact (run_sound tabOk 8 _ _ (run2_true tabR (p8 b1 b2 b3 (wf_u8 (w1 c0 (by simp))) (wf_u8 (w1 c1 (by simp))) (wf_u8 (w1 c2 (by simp))) (wf_u8 (w1 c3 (by simp))) (wf_u16 (w2 n0 (by simp))) (wf_u16 (w2 n1 (by simp))) (wf_u16 (w2 n2 (by simp))) (wf_u16 (w2 n3 (by simp)))) (RelL.cons hT (RelL.cons (rel_aggK .u8 [c0, c1, c2, c3]) (RelL.one (rel_aggK .u16 [n0, n1, n2, n3])))))).2
theorem zoneFits_holds : Rows.ZoneFitsSaid :=
  OpenClaim.holds_of_wide 8 Try.f8 rfl rfl rfl rfl rfl rfl rfl ⟨rfl, rfl, rfl, rfl, rfl⟩ rfl rfl rfl rfl rfl (by kernel_rfl) Try.func8 (by kernel_rfl)
    (of_decide_eq_true (by kernel_rfl)) (by unfold Func.isWrapper; rw [if_neg (by decide +kernel)]; exact ⟨rfl, rfl⟩)
    (fun os started H enc _ => zoneFits_lifted os started H enc)
end Go.Proofs.Ytifanigkolnedaa
#print axioms Go.Proofs.Ytifanigkolnedaa.zoneFits_holds
