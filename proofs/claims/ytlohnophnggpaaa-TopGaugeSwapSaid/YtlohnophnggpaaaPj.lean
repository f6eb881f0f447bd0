/- The statement about a ring for a standard is proved: as long as Lasts says, each screw over which it goes then goes into each nut; on one piece more it can be too great; whatever the input. No condition. -/
import Derived.Test.YtlohnophnggpaaaPi
namespace Go.Proofs.Ytlohnophnggpaaa
open Go.Lo Go.ChangeShapes
theorem topGaugeSwap_holds : Rows.TopGaugeSwapSaid :=
  OpenClaim.holds_of_wide 4 Try.f4 rfl rfl rfl rfl rfl rfl rfl ⟨rfl, rfl, rfl, rfl, rfl⟩ rfl rfl rfl rfl rfl (by kernel_rfl) Try.func4 (by kernel_rfl)
    (of_decide_eq_true (by kernel_rfl)) (by unfold Func.isWrapper; rw [if_neg (by decide +kernel)]; exact ⟨rfl, rfl⟩)
    (fun os started H enc _ => topGaugeSwap_lifted os started H enc)
end Go.Proofs.Ytlohnophnggpaaa
#print axioms Go.Proofs.Ytlohnophnggpaaa.topGaugeSwap_holds
