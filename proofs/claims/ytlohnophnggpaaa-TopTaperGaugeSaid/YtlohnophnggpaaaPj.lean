/- The statement about a tapered plug is proved: its turns are those of Meets for its size, and they fall by what the difference of its sizes makes; a new one takes the fewest; whatever the input. No condition. -/
import Derived.Test.YtlohnophnggpaaaPi
namespace Go.Proofs.Ytlohnophnggpaaa
open Go.Lo Go.ChangeShapes
theorem topTaperGauge_holds : Rows.TopTaperGaugeSaid :=
  OpenClaim.holds_of_wide 5 Try.f5 rfl rfl rfl rfl rfl rfl rfl ⟨rfl, rfl, rfl, rfl, rfl⟩ rfl rfl rfl rfl rfl (by kernel_rfl) Try.func5 (by kernel_rfl)
    (of_decide_eq_true (by kernel_rfl)) (by unfold Func.isWrapper; rw [if_neg (by decide +kernel)]; exact ⟨rfl, rfl⟩)
    (fun os started H enc _ => topTaperGauge_lifted os started H enc)
end Go.Proofs.Ytlohnophnggpaaa
#print axioms Go.Proofs.Ytlohnophnggpaaa.topTaperGauge_holds
