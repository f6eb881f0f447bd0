/- The statement about the range of costs is proved: each screw within rules has a size in the span of Cost, and both ends are reached; whatever the input. No condition. -/
import Derived.Test.YtgmgjibmjdhkhaaPf
import Derived.Test.YtgmgjibmjdhkhaaRows
import Derived.JoinedOf
import Derived.Seven
namespace Go.Lo
theorem laidOutFitRange : laidOutB Go.Proofs.Try.prog = true := by kernel_rfl

end Go.Lo
namespace Go.Proofs.Ytgmgjibmjdhkhaa
open Go.Lo Go.ChangeShapes
set_option maxRecDepth 100000 in
theorem fitRange_lifted (os : Os) (started : os.Started) (H : Type) (enc : TypeId × Value → H) :
    ReturnsInHanded {} Try.checked os 10 .any (Rows.fitRangeSpec.pre6 enc Try.prog Try.f10 Rows.fitRangeRow.domain false) (Rows.fitRangeSpec.post enc Try.prog Try.f10 false true false false) := by
  refine returnsInHanded_of_change (C := Try.checked) (by kernel_rfl) started (by kernel_rfl) Try.func10
    (ChangeSpec.witness6 (enc := enc) (C := Try.checked) false ⟨#[], #[.agg #[.int .u16 0, .int .u16 0, .int .u16 0, .slice none 0 0, .int .i8 0, .int .i8 0], .agg #[.int .i8 0, .int .i8 0, .int .i8 0, .int .i8 0, .int .i8 0, .int .i8 0, .int .i8 0, .int .i8 0, .int .u8 0, .slice none 0 0], .agg #[.int .i8 0, .int .i8 0]], []⟩ 8 (by kernel_rfl) (by kernel_rfl) (by kernel_rfl) (by kernel_rfl)) ?_
  intro W base args ds gs before hval hW _ _
  refine law_contract laidOutFitRange rfl (tb := 4) (by kernel_rfl) (by kernel_rfl) (d := 6) (tys := [madTy, rmTy, arTy 2 .i8]) (by kernel_rfl) (fun t ht => ?_) (fun ds hds => ?_) (fun vs hvs => ?_) W base args ds gs before hval hW
  · have h : ∀ t ∈ Try.f10.params.toList, decide (Try.prog.readableRec t = true ∧ t < Try.prog.types.size) = true := by
      have : Try.f10.params.toList.all (fun t => decide (Try.prog.readableRec t = true ∧ t < Try.prog.types.size)) = true := by kernel_rfl
      exact List.all_eq_true.1 this
    exact of_decide_eq_true (h t ht)
  · have hp : Try.f10.params.size = 3 := by kernel_rfl
    rw [hp] at hds
    match ds, hds with
    | [d1, d2, d3], _ => exact ⟨rfl, rfl, rfl⟩
  · simp only [HasVs] at hvs
    obtain ⟨v1, u1, rfl, h1, v2, u2, rfl, h2, v3, u3, rfl, h3, rfl⟩ := hvs
    obtain ⟨a, r1, ha⟩ := can_mad h1
    obtain ⟨x, r2, hx⟩ := can_rm h2
    obtain ⟨s, t, rfl, ws, wt⟩ := can_arV2 h3
    exact (run_sound tabOk 10 _ _ (run2_true tabR (p10_range p14 ha hx (at_ := (s, t)) ⟨wf_i8 ws, wf_i8 wt⟩) (RelL.cons r1 (RelL.cons r2 (RelL.one (rel_ar .i8 [s, t])))))).2
theorem fitRange_holds : Rows.FitRangeSaid :=
  OpenClaim.holds_of_wide 10 Try.f10 rfl rfl rfl rfl rfl rfl rfl ⟨rfl, rfl, rfl, rfl, rfl⟩ rfl rfl rfl rfl rfl (by kernel_rfl) Try.func10 (by kernel_rfl)
    (of_decide_eq_true (by kernel_rfl)) (by unfold Func.isWrapper; rw [if_neg (by decide +kernel)]; exact ⟨rfl, rfl⟩)
    (fun os started H enc _ => fitRange_lifted os started H enc)
end Go.Proofs.Ytgmgjibmjdhkhaa
#print axioms Go.Proofs.Ytgmgjibmjdhkhaa.fitRange_holds
