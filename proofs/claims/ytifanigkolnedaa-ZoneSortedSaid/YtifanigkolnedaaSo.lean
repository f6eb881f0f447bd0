/- The statement about sorted groups is proved: no fewer groups do, and a diameter meets just its own group, whatever the input. No condition. -/
import Derived.Test.YtifanigkolnedaaSn
import Derived.Test.YtifanigkolnedaaSi
import Derived.Test.YtifanigkolnedaaRows
import Derived.JoinedOf
import Derived.Seven
namespace Go.Lo
theorem laidOutZoneSorted : laidOutB Go.Proofs.Try.prog = true := by kernel_rfl

end Go.Lo
namespace Go.Proofs.Ytifanigkolnedaa
open Go.Lo Go.ChangeShapes
set_option maxRecDepth 100000 in
theorem zoneSorted_lifted (os : Os) (started : os.Started) (H : Type) (enc : TypeId × Value → H) :
    ReturnsInHanded {} Try.checked os 11 .any (Rows.zoneSortedSpec.pre6 enc Try.prog Try.f11 Rows.zoneSortedRow.domain false) (Rows.zoneSortedSpec.post enc Try.prog Try.f11 false true false false) := by
  refine returnsInHanded_of_change (C := Try.checked) (by kernel_rfl) started (by kernel_rfl) Try.func11
    (ChangeSpec.witness6 (enc := enc) (C := Try.checked) false ⟨#[], #[.agg #[.int .u8 0, .int .u8 0], .agg #[.int .u16 0, .int .u16 0], .agg #[.int .u8 0, .int .u8 0, .int .u8 0, .int .u8 0]], []⟩ 8 (by kernel_rfl) (by kernel_rfl) (by kernel_rfl) (by kernel_rfl)) ?_
  intro W base args ds gs before hval hW _ _
  refine law_contract laidOutZoneSorted rfl (tb := 4) (by kernel_rfl) (by kernel_rfl) (d := 6) (tys := [.arr 2 (.int .u8), .arr 2 (.int .u16), .arr 4 (.int .u8)]) (by kernel_rfl) (fun t ht => ?_) (fun ds hds => ?_) (fun vs hvs => ?_) W base args ds gs before hval hW
  · have h : ∀ t ∈ Try.f11.params.toList, decide (Try.prog.readableRec t = true ∧ t < Try.prog.types.size) = true := by
      have : Try.f11.params.toList.all (fun t => decide (Try.prog.readableRec t = true ∧ t < Try.prog.types.size)) = true := by kernel_rfl
      exact List.all_eq_true.1 this
    exact of_decide_eq_true (h t ht)
  · have hp : Try.f11.params.size = 3 := by kernel_rfl
    rw [hp] at hds
    match ds, hds with
    | [d1, d2, d3], _ => exact ⟨rfl, rfl, rfl⟩
  · simp only [HasVs] at hvs
    obtain ⟨v1, u1, rfl, h1, v2, u2, rfl, h2, v3, u3, rfl, h3, rfl⟩ := hvs
    obtain ⟨xs, l1, rfl, w1⟩ := arr_ints h1
    obtain ⟨ys, l2, rfl, w2⟩ := arr_ints h2
    obtain ⟨zs, l3, rfl, w3⟩ := arr_ints h3
    match xs, l1, ys, l2, zs, l3, w1, w2, w3 with
    | [a0, a1], _, [t0, t1], _, [v0, v1, v2, v3], _, w1, w2, w3 =>
      exact (run_sound tabOk 11 _ _ (run11 a0 a1 t0 t1 v0 v1 v2 v3 (wf_u8 (w1 a0 (by simp))) (wf_u8 (w1 a1 (by simp))) (wf_u16 (w2 t0 (by simp))) (wf_u16 (w2 t1 (by simp))) (wf_u8 (w3 v0 (by simp))) (wf_u8 (w3 v1 (by simp))) (wf_u8 (w3 v2 (by simp))) (wf_u8 (w3 v3 (by simp))))).2
theorem zoneSorted_holds : Rows.ZoneSortedSaid :=
  OpenClaim.holds_of_wide 11 Try.f11 rfl rfl rfl rfl rfl rfl rfl ⟨rfl, rfl, rfl, rfl, rfl⟩ rfl rfl rfl rfl rfl (by kernel_rfl) Try.func11 (by kernel_rfl)
    (of_decide_eq_true (by kernel_rfl)) (by unfold Func.isWrapper; rw [if_neg (by decide +kernel)]; exact ⟨rfl, rfl⟩)
    (fun os started H enc _ => zoneSorted_lifted os started H enc)
end Go.Proofs.Ytifanigkolnedaa
#print axioms Go.Proofs.Ytifanigkolnedaa.zoneSorted_holds
