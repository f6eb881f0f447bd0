/- Texts put together. -/
import Derived.Test.YtlohnophnggpaaaPh
import Derived.Test.YtlohnophnggpaaaRows
import Derived.JoinedOf
import Derived.Seven
/- The statement, lifted. -/
namespace Go.Lo
theorem laidOutTopGaugeSwap : laidOutB Go.Proofs.Try.prog = true := by kernel_rfl

end Go.Lo
namespace Go.Proofs.Ytlohnophnggpaaa
open Go.Lo Go.ChangeShapes
set_option maxRecDepth 100000 in
theorem topGaugeSwap_lifted (os : Os) (started : os.Started) (H : Type) (enc : TypeId × Value → H) :
    ReturnsInHanded {} Try.checked os 4 .any (Rows.topGaugeSwapSpec.pre6 enc Try.prog Try.f4 Rows.topGaugeSwapRow.domain false) (Rows.topGaugeSwapSpec.post enc Try.prog Try.f4 false true false false) := by
  refine returnsInHanded_of_change (C := Try.checked) (by kernel_rfl) started (by kernel_rfl) Try.func4
    (ChangeSpec.witness6 (enc := enc) (C := Try.checked) false ⟨#[], #[.agg #[.int .u8 0, .int .u8 0, .int .u8 0, .int .u8 0], .agg #[.int .u8 0, .int .u8 0, .int .u8 0], .agg #[.int .u8 0, .int .u8 0]], []⟩ 8 (by kernel_rfl) (by kernel_rfl) (by kernel_rfl) (by kernel_rfl)) ?_
  intro W base args ds gs before hval hW _ _
  refine law_contract laidOutTopGaugeSwap rfl (tb := 4) (by kernel_rfl) (by kernel_rfl) (d := 6) (tys := [.arr 4 (.int .u8), .arr 3 (.int .u8), .arr 2 (.int .u8)]) (by kernel_rfl) (fun t ht => ?_) (fun ds hds => ?_) (fun vs hvs => ?_) W base args ds gs before hval hW
  · have h : ∀ t ∈ Try.f4.params.toList, decide (Try.prog.readableRec t = true ∧ t < Try.prog.types.size) = true := by
      have : Try.f4.params.toList.all (fun t => decide (Try.prog.readableRec t = true ∧ t < Try.prog.types.size)) = true := by kernel_rfl
      exact List.all_eq_true.1 this
    exact of_decide_eq_true (h t ht)
  · have hp : Try.f4.params.size = 3 := by kernel_rfl
    rw [hp] at hds
    match ds, hds with
    | [d1, d2, d3], _ => exact ⟨rfl, rfl, rfl⟩
  · simp only [HasVs] at hvs
    obtain ⟨v1, u1, rfl, h1, v2, u2, rfl, h2, v3, u3, rfl, h3, rfl⟩ := hvs
    exact (run_sound G1.tab1 4 _ _ (gaugeSwap_true h1 h2 h3)).2
end Go.Proofs.Ytlohnophnggpaaa
