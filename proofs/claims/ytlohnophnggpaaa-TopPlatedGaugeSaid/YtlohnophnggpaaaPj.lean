/- The statement about a ring and plating is proved: a screw over which a ring of that limit goes is not too great after plating, as long as the ring is not beyond; whatever the input. No condition. -/
import Derived.Test.YtlohnophnggpaaaPi
namespace Go.Proofs.Ytlohnophnggpaaa
open Go.Lo Go.ChangeShapes
theorem topPlatedGauge_holds : Rows.TopPlatedGaugeSaid :=
  OpenClaim.holds_of_wide 3 Try.f3 rfl rfl rfl rfl rfl rfl rfl ⟨rfl, rfl, rfl, rfl, rfl⟩ rfl rfl rfl rfl rfl (by kernel_rfl) Try.func3 (by kernel_rfl)
    (of_decide_eq_true (by kernel_rfl)) (by unfold Func.isWrapper; rw [if_neg (by decide +kernel)]; exact ⟨rfl, rfl⟩)
    (fun os started H enc _ => topPlatedGauge_lifted os started H enc)
end Go.Proofs.Ytlohnophnggpaaa
#print axioms Go.Proofs.Ytlohnophnggpaaa.topPlatedGauge_holds
