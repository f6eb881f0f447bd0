/- The statement about the pair that need not go together is proved: the screw of Show is at most as great as its ring, and the nut at least as great as its plug; whatever the input. No condition. -/
import Derived.Test.YtgmgjibmjdhkhaaPh
import Derived.Test.YtgmgjibmjdhkhaaRows
import Derived.JoinedOf
import Derived.Seven
namespace Go.Lo
theorem laidOutFitWitness : laidOutB Go.Proofs.Try.prog = true := by kernel_rfl

end Go.Lo
namespace Go.Proofs.Ytgmgjibmjdhkhaa
open Go.Lo Go.ChangeShapes
set_option maxRecDepth 100000 in
theorem fitWitness_lifted (os : Os) (started : os.Started) (H : Type) (enc : TypeId × Value → H) :
    ReturnsInHanded {} Try.checked os 9 .any (Rows.fitWitnessSpec.pre6 enc Try.prog Try.f9 Rows.fitWitnessRow.domain false) (Rows.fitWitnessSpec.post enc Try.prog Try.f9 false true false false) := by
  refine returnsInHanded_of_change (C := Try.checked) (by kernel_rfl) started (by kernel_rfl) Try.func9
    (ChangeSpec.witness6 (enc := enc) (C := Try.checked) false ⟨#[], #[.agg #[.int .u16 0, .int .u16 0, .int .u16 0, .slice none 0 0, .int .i8 0, .int .i8 0], .agg #[.int .i16 0, .int .i16 0], .agg #[.int .i8 0, .int .i8 0]], []⟩ 8 (by kernel_rfl) (by kernel_rfl) (by kernel_rfl) (by kernel_rfl)) ?_
  intro W base args ds gs before hval hW _ _
  refine law_contract laidOutFitWitness rfl (tb := 4) (by kernel_rfl) (by kernel_rfl) (d := 6) (tys := [madTy, arTy 2 .i16, arTy 2 .i8]) (by kernel_rfl) (fun t ht => ?_) (fun ds hds => ?_) (fun vs hvs => ?_) W base args ds gs before hval hW
  · have h : ∀ t ∈ Try.f9.params.toList, decide (Try.prog.readableRec t = true ∧ t < Try.prog.types.size) = true := by
      have : Try.f9.params.toList.all (fun t => decide (Try.prog.readableRec t = true ∧ t < Try.prog.types.size)) = true := by kernel_rfl
      exact List.all_eq_true.1 this
    exact of_decide_eq_true (h t ht)
  · have hp : Try.f9.params.size = 3 := by kernel_rfl
    rw [hp] at hds
    match ds, hds with
    | [d1, d2, d3], _ => exact ⟨rfl, rfl, rfl⟩
  · simp only [HasVs] at hvs
    obtain ⟨v1, u1, rfl, h1, v2, u2, rfl, h2, v3, u3, rfl, h3, rfl⟩ := hvs
    obtain ⟨a, r1, ha⟩ := can_mad h1
    obtain ⟨x, y, rfl, wx, wy⟩ := can_arV2 h2
    obtain ⟨s, t, rfl, ws, wt⟩ := can_arV2 h3
    exact (run_sound tabOk 9 _ _ (run2_true tabR (p9_witness p14 ha (wf_i16 wx) (wf_i16 wy) (at_ := (s, t)) ⟨wf_i8 ws, wf_i8 wt⟩) (RelL.cons r1 (RelL.cons (rel_ar .i16 [x, y]) (RelL.one (rel_ar .i8 [s, t])))))).2
theorem fitWitness_holds : Rows.FitWitnessSaid :=
  OpenClaim.holds_of_wide 9 Try.f9 rfl rfl rfl rfl rfl rfl rfl ⟨rfl, rfl, rfl, rfl, rfl⟩ rfl rfl rfl rfl rfl (by kernel_rfl) Try.func9 (by kernel_rfl)
    (of_decide_eq_true (by kernel_rfl)) (by unfold Func.isWrapper; rw [if_neg (by decide +kernel)]; exact ⟨rfl, rfl⟩)
    (fun os started H enc _ => fitWitness_lifted os started H enc)
end Go.Proofs.Ytgmgjibmjdhkhaa
#print axioms Go.Proofs.Ytgmgjibmjdhkhaa.fitWitness_holds
