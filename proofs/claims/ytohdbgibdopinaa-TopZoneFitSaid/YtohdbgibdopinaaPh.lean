/- The statement about zones and sizes is proved: a screw and a nut whose pitch diameters lie in their zones, with a play that is never below 0, go together; whatever the input. No condition. -/
import Derived.Test.YtohdbgibdopinaaPg
namespace Go.Proofs.Ytohdbgibdopinaa
open Go.Lo Go.ChangeShapes
theorem topZoneFit_holds : Rows.TopZoneFitSaid :=
  OpenClaim.holds_of_wide 4 Try.f4 rfl rfl rfl rfl rfl rfl rfl ⟨rfl, rfl, rfl, rfl, rfl⟩ rfl rfl rfl rfl rfl (by kernel_rfl) Try.func4 (by kernel_rfl)
    (of_decide_eq_true (by kernel_rfl)) (by unfold Func.isWrapper; rw [if_neg (by decide +kernel)]; exact ⟨rfl, rfl⟩)
    (fun os started H enc _ => topZoneFit_lifted os started H enc)
end Go.Proofs.Ytohdbgibdopinaa
#print axioms Go.Proofs.Ytohdbgibdopinaa.topZoneFit_holds
