/- The statement about a die and a ring is proved: what a die cuts by a plan is no greater than its ring, and each screw of perfect form goes into each nut that a plug as great passes; whatever the input. No condition. -/
import Derived.Test.YtohdbgibdopinaaPh
namespace Go.Proofs.Ytohdbgibdopinaa
open Go.Lo Go.ChangeShapes
theorem topDieFit_holds : Rows.TopDieFitSaid :=
  OpenClaim.holds_of_wide 5 Try.f5 rfl rfl rfl rfl rfl rfl rfl ⟨rfl, rfl, rfl, rfl, rfl⟩ rfl rfl rfl rfl rfl (by kernel_rfl) Try.func5 (by kernel_rfl)
    (of_decide_eq_true (by kernel_rfl)) (by unfold Func.isWrapper; rw [if_neg (by decide +kernel)]; exact ⟨rfl, rfl⟩)
    (fun os started H enc _ => topDieFit_lifted os started H enc)
end Go.Proofs.Ytohdbgibdopinaa
#print axioms Go.Proofs.Ytohdbgibdopinaa.topDieFit_holds
