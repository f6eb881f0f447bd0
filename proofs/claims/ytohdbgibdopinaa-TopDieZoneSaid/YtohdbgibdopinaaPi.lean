/- The statement about a die and zones is proved: screws that are cut by a plan, for the zone of their class before plating, lie in their zone after it, and their play with each nut of a class lies in Play; whatever the input. No condition. -/
import Derived.Test.YtohdbgibdopinaaPh
namespace Go.Proofs.Ytohdbgibdopinaa
open Go.Lo Go.ChangeShapes
theorem topDieZone_holds : Rows.TopDieZoneSaid :=
  OpenClaim.holds_of_wide 3 Try.f3 rfl rfl rfl rfl rfl rfl rfl ⟨rfl, rfl, rfl, rfl, rfl⟩ rfl rfl rfl rfl rfl (by kernel_rfl) Try.func3 (by kernel_rfl)
    (of_decide_eq_true (by kernel_rfl)) (by unfold Func.isWrapper; rw [if_neg (by decide +kernel)]; exact ⟨rfl, rfl⟩)
    (fun os started H enc _ => topDieZone_lifted os started H enc)
end Go.Proofs.Ytohdbgibdopinaa
#print axioms Go.Proofs.Ytohdbgibdopinaa.topDieZone_holds
