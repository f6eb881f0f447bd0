/- The statement about limits is proved: the error of any table, and the zone of any class and size, or the error, are what the document says; the table is not changed; whatever the input. No condition. -/
import Derived.Test.YtifanigkolnedaaUd
import Derived.Test.YtifanigkolnedaaRows
import Derived.JoinedOf
import Derived.Seven
namespace Go.Lo
theorem laidOutZoneLimits : laidOutB Go.Proofs.Try.prog = true := by kernel_rfl
theorem arr_ints3 {k : IntKind} {n : Nat} {v : V} (h : HasV (.arr n (.int k)) v) : ∃ xs : List Int, xs.length = n ∧ v = .agg (xs.map fun x => .int k x) ∧ ∀ x ∈ xs, (Lit.int k x).wf = true := by
  simp only [HasV, HasC] at h
  obtain ⟨cs, rfl, es, rfl, rfl, he⟩ := h
  have key : ∀ es : List (List V), (∀ x ∈ es, ∃ n, x = [V.int k n] ∧ (Lit.int k n).wf = true) → ∃ xs : List Int, xs.length = es.length ∧ es.flatten = xs.map (fun x => .int k x) ∧ ∀ x ∈ xs, (Lit.int k x).wf = true := by
    intro es
    induction es with
    | nil => exact fun _ => ⟨[], rfl, rfl, fun x hx => by cases hx⟩
    | cons e es ih =>
      intro h
      obtain ⟨n, h1, h2⟩ := h e (by simp)
      obtain ⟨xs, g1, g2, g3⟩ := ih fun x hx => h x (by simp [hx])
      subst h1
      refine ⟨n :: xs, by simp [g1], by simp [g2], fun x hx => ?_⟩
      rcases List.mem_cons.1 hx with rfl | hx
      · exact h2
      · exact g3 x hx
  obtain ⟨xs, g1, g2, g3⟩ := key es he
  exact ⟨xs, g1, by rw [g2], g3⟩
theorem wf_i64 {n : Int} (h : (Lit.int .i64 n).wf = true) : i64 n := by
  simp [Lit.wf, IntKind.min, IntKind.max, IntKind.bits, IntKind.signed] at h
  unfold i64
  omega
theorem hasC_ints {v : V} (h : HasC (.sl (.int .i64)) [v]) : ∃ xs, Ints v xs ∧ ∀ x ∈ xs, i64 x := by
  simp only [HasC] at h
  rcases h with h | ⟨es, h, _, he⟩
  · injection h with h _
    subst h
    exact ⟨[], ⟨.inl rfl, rfl⟩, fun x hx => by cases hx⟩
  · injection h with h _
    subst h
    have key : ∀ es : List (List V), (∀ x ∈ es, ∃ n, x = [V.int .i64 n] ∧ (Lit.int .i64 n).wf = true) → ∃ xs : List Int, es = eI xs ∧ ∀ x ∈ xs, i64 x := by
      intro es
      induction es with
      | nil => exact fun _ => ⟨[], rfl, fun x hx => by cases hx⟩
      | cons e es ih =>
        intro h
        obtain ⟨n, h1, h2⟩ := h e (by simp)
        obtain ⟨xs, g1, g2⟩ := ih fun x hx => h x (by simp [hx])
        subst h1
        refine ⟨n :: xs, by simp [eI, g1], fun x hx => ?_⟩
        rcases List.mem_cons.1 hx with rfl | hx
        · exact wf_i64 h2
        · exact g2 x hx
    obtain ⟨xs, rfl, hx⟩ := key es he
    exact ⟨xs, ⟨.inr ⟨_, rfl⟩, rfl⟩, hx⟩
theorem hasC_rows {v : V} (h : HasC (.sl (.sl (.int .i64))) [v]) : ∃ rs, RowsV v rs := by
  rw [HasC] at h
  rcases h with h | ⟨es, h, _, he⟩
  · injection h with h _
    subst h
    exact ⟨[], .inl rfl, rfl, fun r hr => by cases hr⟩
  · injection h with h _
    subst h
    have key : ∀ es : List (List V), (∀ x ∈ es, HasC (.sl (.int .i64)) x) → ∃ rs : List (V × List Int), es = rs.map (fun r => [r.1]) ∧ ∀ r ∈ rs, Ints r.1 r.2 := by
      intro es
      induction es with
      | nil => exact fun _ => ⟨[], rfl, fun x hx => by cases hx⟩
      | cons e es ih =>
        intro h
        have h1 := h e (by simp)
        obtain ⟨v, rfl⟩ : ∃ v, e = [v] := by
          simp only [HasC] at h1
          rcases h1 with h1 | ⟨_, h1, _⟩ <;> exact ⟨_, h1⟩
        obtain ⟨xs, hx, _⟩ := hasC_ints h1
        obtain ⟨rs, g1, g2⟩ := ih fun x hx => h x (by simp [hx])
        refine ⟨(v, xs) :: rs, by simp [g1], fun r hr => ?_⟩
        rcases List.mem_cons.1 hr with rfl | hr
        · exact hx
        · exact g2 r hr
    obtain ⟨rs, rfl, hr⟩ := key es he
    exact ⟨rs, .inr ⟨_, rfl⟩, rfl, hr⟩
/-- A table, as an argument. -/
abbrev tabTy : Ty := .st [.sl (.int .i64), .sl (.sl (.int .i64)), .sl (.sl (.int .i64))]
theorem hasV_tab {v : V} (h : HasV tabTy v) : ∃ a b c s g p, v = .agg [a, b, c] ∧ Tab a b c s g p := by
  simp only [HasV] at h
  obtain ⟨cs, rfl, h⟩ := h
  rw [HasCs] at h
  obtain ⟨x1, r1, rfl, h1, h⟩ := h
  rw [HasCs] at h
  obtain ⟨x2, r2, rfl, h2, h⟩ := h
  rw [HasCs] at h
  obtain ⟨x3, r3, rfl, h3, h⟩ := h
  rw [HasCs] at h
  subst h
  have one : ∀ {t : Ty} {x : List V}, HasC (.sl t) x → ∃ v, x = [v] := by
    intro t x hx
    rw [HasC] at hx
    rcases hx with hx | ⟨_, hx, _⟩ <;> exact ⟨_, hx⟩
  obtain ⟨a, rfl⟩ := one h1
  obtain ⟨b, rfl⟩ := one h2
  obtain ⟨c, rfl⟩ := one h3
  obtain ⟨s, hs, hw⟩ := hasC_ints h1
  obtain ⟨g, hg⟩ := hasC_rows h2
  obtain ⟨p, hp⟩ := hasC_rows h3
  exact ⟨a, b, c, s, g, p, rfl, hs, hg, hp, hw⟩
end Go.Lo
namespace Go.Proofs.Ytifanigkolnedaa
open Go.Lo Go.ChangeShapes
set_option maxRecDepth 100000 in
theorem zoneLimits_lifted (os : Os) (started : os.Started) (H : Type) (enc : TypeId × Value → H) :
    ReturnsInHanded {} Try.checked os 3 .any (Rows.zoneLimitsSpec.pre6 enc Try.prog Try.f3 Rows.zoneLimitsRow.domain false) (Rows.zoneLimitsSpec.post enc Try.prog Try.f3 false true false false) := by
  refine returnsInHanded_of_change (C := Try.checked) (by kernel_rfl) started (by kernel_rfl) Try.func3
    (ChangeSpec.witness6 (enc := enc) (C := Try.checked) false ⟨#[], #[.agg #[.slice none 0 0, .slice none 0 0, .slice none 0 0], .agg #[.int .i64 0, .int .i64 0, .int .i64 0], .bool false], []⟩ 8 (by kernel_rfl) (by kernel_rfl) (by kernel_rfl) (by kernel_rfl)) ?_
  intro W base args ds gs before hval hW _ _
  refine law_contract laidOutZoneLimits rfl (tb := 4) (by kernel_rfl) (by kernel_rfl) (d := 6) (tys := [tabTy, .arr 3 (.int .i64), .bool]) (by kernel_rfl) (fun t ht => ?_) (fun ds hds => ?_) (fun vs hvs => ?_) W base args ds gs before hval hW
  · have h : ∀ t ∈ Try.f3.params.toList, decide (Try.prog.readableRec t = true ∧ t < Try.prog.types.size) = true := by
      have : Try.f3.params.toList.all (fun t => decide (Try.prog.readableRec t = true ∧ t < Try.prog.types.size)) = true := by kernel_rfl
      exact List.all_eq_true.1 this
    exact of_decide_eq_true (h t ht)
  · have hp : Try.f3.params.size = 3 := by kernel_rfl
    rw [hp] at hds
    match ds, hds with
    | [d1, d2, d3], _ => exact ⟨rfl, rfl, rfl⟩
  · simp only [HasVs] at hvs
    obtain ⟨v1, u1, rfl, h1, v2, u2, rfl, h2, v3, u3, rfl, h3, rfl⟩ := hvs
    obtain ⟨a, b, c, s, g, p, rfl, hT⟩ := hasV_tab h1
    obtain ⟨xs, l1, rfl, w1⟩ := arr_ints3 h2
    simp only [HasV, HasC] at h3
    obtain ⟨nut, h3⟩ := h3
    injection h3 with h3 _
    subst h3
    match xs, l1 with
    | [c0, c1, c2], _ => exact (run_sound tabOk 3 _ _ (run3 hT c0 c1 c2 nut)).2
theorem zoneLimits_holds : Rows.ZoneLimitsSaid :=
  OpenClaim.holds_of_wide 3 Try.f3 rfl rfl rfl rfl rfl rfl rfl ⟨rfl, rfl, rfl, rfl, rfl⟩ rfl rfl rfl rfl rfl (by kernel_rfl) Try.func3 (by kernel_rfl)
    (of_decide_eq_true (by kernel_rfl)) (by unfold Func.isWrapper; rw [if_neg (by decide +kernel)]; exact ⟨rfl, rfl⟩)
    (fun os started H enc _ => zoneLimits_lifted os started H enc)
end Go.Proofs.Ytifanigkolnedaa
#print axioms Go.Proofs.Ytifanigkolnedaa.zoneLimits_holds
