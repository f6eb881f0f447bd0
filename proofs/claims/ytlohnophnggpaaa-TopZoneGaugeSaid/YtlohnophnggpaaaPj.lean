/- The statement about a gauge for a zone is proved: a plug that is planned for the least hole of a zone lasts as it should, for every input. No condition. -/
import Derived.Test.YtlohnophnggpaaaPi
namespace Go.Proofs.Ytlohnophnggpaaa
open Go.Lo Go.ChangeShapes
theorem topZoneGauge_holds : Rows.TopZoneGaugeSaid :=
  OpenClaim.holds_of_wide 6 Try.f6 rfl rfl rfl rfl rfl rfl rfl ⟨rfl, rfl, rfl, rfl, rfl⟩ rfl rfl rfl rfl rfl (by kernel_rfl) Try.func6 (by kernel_rfl)
    (of_decide_eq_true (by kernel_rfl)) (by unfold Func.isWrapper; rw [if_neg (by decide +kernel)]; exact ⟨rfl, rfl⟩)
    (fun os started H enc _ => topZoneGauge_lifted os started H enc)
end Go.Proofs.Ytlohnophnggpaaa
#print axioms Go.Proofs.Ytlohnophnggpaaa.topZoneGauge_holds
