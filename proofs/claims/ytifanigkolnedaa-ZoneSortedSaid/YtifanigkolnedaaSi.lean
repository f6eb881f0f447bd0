/- The statement 'right after plating' is proved: each diameter within Before is in the zone after plating, whatever the thickness is; one just outside is not; whatever the input. No condition. -/
import Derived.Test.YtifanigkolnedaaSh
import Derived.Test.YtifanigkolnedaaRows
import Derived.JoinedOf
import Derived.Seven
namespace Go.Lo
theorem laidOut3 : laidOutB Go.Proofs.Try.prog = true := by kernel_rfl
theorem arr_ints {k : IntKind} {n : Nat} {v : V} (h : HasV (.arr n (.int k)) v) : ∃ xs : List Int, xs.length = n ∧ v = .agg (xs.map fun x => .int k x) ∧ ∀ x ∈ xs, (Lit.int k x).wf = true := by
  simp only [HasV, HasC] at h
  obtain ⟨cs, rfl, es, rfl, rfl, he⟩ := h
  have key : ∀ es : List (List V), (∀ x ∈ es, ∃ n, x = [V.int k n] ∧ (Lit.int k n).wf = true) → ∃ xs : List Int, xs.length = es.length ∧ es.flatten = xs.map (fun x => .int k x) ∧ ∀ x ∈ xs, (Lit.int k x).wf = true := by
    intro es
    induction es with
    | nil => exact fun _ => ⟨[], rfl, rfl, fun x hx => by cases hx⟩
    | cons e es ih =>
      intro h
      obtain ⟨n, h1, h2⟩ := h e (by simp)
      obtain ⟨xs, g1, g2, g3⟩ := ih fun x hx => h x (by simp [hx])
      subst h1
      refine ⟨n :: xs, by simp [g1], by simp [g2], fun x hx => ?_⟩
      rcases List.mem_cons.1 hx with rfl | hx
      · exact h2
      · exact g3 x hx
  obtain ⟨xs, g1, g2, g3⟩ := key es he
  exact ⟨xs, g1, by rw [g2], g3⟩
theorem wf_u16 {n : Int} (h : (Lit.int .u16 n).wf = true) : 0 ≤ n ∧ n < 65536 := by
  simp [Lit.wf, IntKind.min, IntKind.max, IntKind.bits, IntKind.signed] at h
  omega
theorem wf_u8 {n : Int} (h : (Lit.int .u8 n).wf = true) : 0 ≤ n ∧ n < 256 := by
  simp [Lit.wf, IntKind.min, IntKind.max, IntKind.bits, IntKind.signed] at h
  omega
end Go.Lo
namespace Go.Proofs.Ytifanigkolnedaa
open Go.Lo Go.ChangeShapes
set_option maxRecDepth 100000 in
theorem zonePlated_lifted (os : Os) (started : os.Started) (H : Type) (enc : TypeId × Value → H) :
    ReturnsInHanded {} Try.checked os 9 .any (Rows.zonePlatedSpec.pre6 enc Try.prog Try.f9 Rows.zonePlatedRow.domain false) (Rows.zonePlatedSpec.post enc Try.prog Try.f9 false true false false) := by
  refine returnsInHanded_of_change (C := Try.checked) (by kernel_rfl) started (by kernel_rfl) Try.func9
    (ChangeSpec.witness6 (enc := enc) (C := Try.checked) false ⟨#[], #[.agg #[.int .u16 0, .int .u16 0], .agg #[.int .u8 0, .int .u8 0], .agg #[.int .u8 0, .int .u8 0, .int .u8 0, .int .u8 0]], []⟩ 8 (by kernel_rfl) (by kernel_rfl) (by kernel_rfl) (by kernel_rfl)) ?_
  intro W base args ds gs before hval hW _ _
  refine law_contract laidOut3 rfl (tb := 4) (by kernel_rfl) (by kernel_rfl) (d := 6) (tys := [.arr 2 (.int .u16), .arr 2 (.int .u8), .arr 4 (.int .u8)]) (by kernel_rfl) (fun t ht => ?_) (fun ds hds => ?_) (fun vs hvs => ?_) W base args ds gs before hval hW
  · have h : ∀ t ∈ Try.f9.params.toList, decide (Try.prog.readableRec t = true ∧ t < Try.prog.types.size) = true := by
      have : Try.f9.params.toList.all (fun t => decide (Try.prog.readableRec t = true ∧ t < Try.prog.types.size)) = true := by kernel_rfl
      exact List.all_eq_true.1 this
    exact of_decide_eq_true (h t ht)
  · have hp : Try.f9.params.size = 3 := by kernel_rfl
    rw [hp] at hds
    match ds, hds with
    | [d1, d2, d3], _ => exact ⟨rfl, rfl, rfl⟩
  · simp only [HasVs] at hvs
    obtain ⟨v1, u1, rfl, h1, v2, u2, rfl, h2, v3, u3, rfl, h3, rfl⟩ := hvs
    obtain ⟨xs, l1, rfl, w1⟩ := arr_ints h1
    obtain ⟨ys, l2, rfl, w2⟩ := arr_ints h2
    obtain ⟨zs, l3, rfl, w3⟩ := arr_ints h3
    match xs, l1, ys, l2, zs, l3, w1, w2, w3 with
    | [a0, a1], _, [t0, t1], _, [v0, v1, v2, v3], _, w1, w2, w3 =>
      exact (run_sound tabOk 9 _ _ (run9 a0 a1 t0 t1 v0 v1 v2 v3 (wf_u16 (w1 a0 (by simp))) (wf_u16 (w1 a1 (by simp))) (wf_u8 (w2 t0 (by simp))) (wf_u8 (w2 t1 (by simp))) (wf_u8 (w3 v1 (by simp))) (wf_u8 (w3 v2 (by simp))) (wf_u8 (w3 v3 (by simp))))).2
theorem zonePlated_holds : Rows.ZonePlatedSaid :=
  OpenClaim.holds_of_wide 9 Try.f9 rfl rfl rfl rfl rfl rfl rfl ⟨rfl, rfl, rfl, rfl, rfl⟩ rfl rfl rfl rfl rfl (by kernel_rfl) Try.func9 (by kernel_rfl)
    (of_decide_eq_true (by kernel_rfl)) (by unfold Func.isWrapper; rw [if_neg (by decide +kernel)]; exact ⟨rfl, rfl⟩)
    (fun os started H enc _ => zonePlated_lifted os started H enc)
end Go.Proofs.Ytifanigkolnedaa
#print axioms Go.Proofs.Ytifanigkolnedaa.zonePlated_holds
