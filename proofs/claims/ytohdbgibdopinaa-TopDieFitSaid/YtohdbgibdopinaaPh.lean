/- Texts put together. -/
import Derived.Test.YtohdbgibdopinaaPg
import Derived.Test.YtohdbgibdopinaaRows
import Derived.JoinedOf
import Derived.Seven
/- The statement, lifted. -/
namespace Go.Lo
theorem laidOutTopDieFit : laidOutB Go.Proofs.Try.prog = true := by kernel_rfl

end Go.Lo
namespace Go.Proofs.Ytohdbgibdopinaa
open Go.Lo Go.ChangeShapes
set_option maxRecDepth 100000 in
theorem topDieFit_lifted (os : Os) (started : os.Started) (H : Type) (enc : TypeId × Value → H) :
    ReturnsInHanded {} Try.checked os 5 .any (Rows.topDieFitSpec.pre6 enc Try.prog Try.f5 Rows.topDieFitRow.domain false) (Rows.topDieFitSpec.post enc Try.prog Try.f5 false true false false) := by
  refine returnsInHanded_of_change (C := Try.checked) (by kernel_rfl) started (by kernel_rfl) Try.func5
    (ChangeSpec.witness6 (enc := enc) (C := Try.checked) false ⟨#[], #[.agg #[.int .u8 0, .int .u8 0, .int .u8 0, .int .u8 0, .int .u8 0, .int .u8 0, .int .u8 0, .slice none 0 0], .agg #[.int .u8 0, .int .u8 0, .int .u8 0]], []⟩ 8 (by kernel_rfl) (by kernel_rfl) (by kernel_rfl) (by kernel_rfl)) ?_
  intro W base args ds gs before hval hW _ _
  refine law_contract laidOutTopDieFit rfl (tb := 4) (by kernel_rfl) (by kernel_rfl) (d := 6) (tys := [adTy, arTy 3 .u8]) (by kernel_rfl) (fun t ht => ?_) (fun ds hds => ?_) (fun vs hvs => ?_) W base args ds gs before hval hW
  · have h : ∀ t ∈ Try.f5.params.toList, decide (Try.prog.readableRec t = true ∧ t < Try.prog.types.size) = true := by
      have : Try.f5.params.toList.all (fun t => decide (Try.prog.readableRec t = true ∧ t < Try.prog.types.size)) = true := by kernel_rfl
      exact List.all_eq_true.1 this
    exact of_decide_eq_true (h t ht)
  · have hp : Try.f5.params.size = 2 := by kernel_rfl
    rw [hp] at hds
    match ds, hds with
    | [d1, d2], _ => exact ⟨rfl, rfl, rfl⟩
  · simp only [HasVs] at hvs
    obtain ⟨v1, u1, rfl, h1, v2, u2, rfl, h2, rfl⟩ := hvs
    obtain ⟨x, hx, wx⟩ := can_ad h1
    obtain ⟨ys, hm, rfl, hu⟩ := can_arV h2
    match ys, hm with
    | [y0, y1, y2], _ =>
      exact (run_sound tabOk 5 _ _ (run2_true tabR (p5_diefit p18 p11 wx (wf_u8 (hu y0 (by simp))) (wf_u8 (hu y1 (by simp))) (wf_u8 (hu y2 (by simp)))) (RelL.cons hx (RelL.one (rel_ar .u8 [y0, y1, y2]))))).2
end Go.Proofs.Ytohdbgibdopinaa
