/- The statement tooth by tooth is proved: a screw of one standard goes into a nut of another one just if it has no more turns than Turns says; both are as great as their sizes; whatever the input. No condition. -/
import Derived.Test.YtfjoinchnnabiaaPg
import Derived.Test.YtfjoinchnnabiaaRows
import Derived.JoinedOf
import Derived.Seven
namespace Go.Lo
theorem laidOutTopTurnsFit : laidOutB Go.Proofs.Try.prog = true := by kernel_rfl

end Go.Lo
namespace Go.Proofs.Ytfjoinchnnabiaa
open Go.Lo Go.ChangeShapes
set_option maxRecDepth 100000 in
theorem topTurnsFit_lifted (os : Os) (started : os.Started) (H : Type) (enc : TypeId × Value → H) :
    ReturnsInHanded {} Try.checked os 3 .any (Rows.topTurnsFitSpec.pre6 enc Try.prog Try.f3 Rows.topTurnsFitRow.domain false) (Rows.topTurnsFitSpec.post enc Try.prog Try.f3 false true false false) := by
  refine returnsInHanded_of_change (C := Try.checked) (by kernel_rfl) started (by kernel_rfl) Try.func3
    (ChangeSpec.witness6 (enc := enc) (C := Try.checked) false ⟨#[], #[.agg #[.int .u8 0, .int .u8 0, .int .u8 0, .int .u8 0], .int .u8 0, .agg #[.int .u8 0, .int .u8 0]], []⟩ 8 (by kernel_rfl) (by kernel_rfl) (by kernel_rfl) (by kernel_rfl)) ?_
  intro W base args ds gs before hval hW _ _
  refine law_contract laidOutTopTurnsFit rfl (tb := 4) (by kernel_rfl) (by kernel_rfl) (d := 6) (tys := [arTy 4 .u8, .int .u8, arTy 2 .u8]) (by kernel_rfl) (fun t ht => ?_) (fun ds hds => ?_) (fun vs hvs => ?_) W base args ds gs before hval hW
  · have h : ∀ t ∈ Try.f3.params.toList, decide (Try.prog.readableRec t = true ∧ t < Try.prog.types.size) = true := by
      have : Try.f3.params.toList.all (fun t => decide (Try.prog.readableRec t = true ∧ t < Try.prog.types.size)) = true := by kernel_rfl
      exact List.all_eq_true.1 this
    exact of_decide_eq_true (h t ht)
  · have hp : Try.f3.params.size = 3 := by kernel_rfl
    rw [hp] at hds
    match ds, hds with
    | [d1, d2, d3], _ => exact ⟨rfl, rfl, rfl⟩
  · simp only [HasVs] at hvs
    obtain ⟨v1, u1, rfl, h1, v2, u2, rfl, h2, v3, u3, rfl, h3, rfl⟩ := hvs
    obtain ⟨xs, hl, rfl, hw⟩ := can_arV h1
    obtain ⟨n, rfl, wn⟩ := can_int h2
    obtain ⟨a, b, rfl, wa, wb⟩ := can_arV2 h3
    match xs, hl with
    | [x0, x1, x2, x3], _ =>
      exact (run_sound tabOk 3 _ _ (run2_true tabR (p3_turns p25 p26 (wf_u8 (hw x0 (by simp))) (wf_u8 (hw x1 (by simp))) (wf_u8 (hw x2 (by simp))) (wf_u8 (hw x3 (by simp))) (wf_u8 wn) (wf_u8 wa) (wf_u8 wb)) (RelL.cons (rel_ar .u8 [x0, x1, x2, x3]) (RelL.cons (rel_int .u8 n) (RelL.one (rel_ar .u8 [a, b])))))).2
theorem topTurnsFit_holds : Rows.TopTurnsFitSaid :=
  OpenClaim.holds_of_wide 3 Try.f3 rfl rfl rfl rfl rfl rfl rfl ⟨rfl, rfl, rfl, rfl, rfl⟩ rfl rfl rfl rfl rfl (by kernel_rfl) Try.func3 (by kernel_rfl)
    (of_decide_eq_true (by kernel_rfl)) (by unfold Func.isWrapper; rw [if_neg (by decide +kernel)]; exact ⟨rfl, rfl⟩)
    (fun os started H enc _ => topTurnsFit_lifted os started H enc)
end Go.Proofs.Ytfjoinchnnabiaa
#print axioms Go.Proofs.Ytfjoinchnnabiaa.topTurnsFit_holds
