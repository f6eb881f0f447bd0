/- The statement about errors is proved: the error of any screw at any step, or the error, are what the document says, as a sum over all turns; nothing is changed in the arguments; whatever the input. No condition. -/
import Derived.Test.YtcihkhhkppjcmaaPi
namespace Go.Proofs.Ytcihkhhkppjcmaa
open Go.Lo Go.ChangeShapes
theorem leadErrors_holds : Rows.LeadErrorsSaid :=
  OpenClaim.holds_of_wide 3 Try.f3 rfl rfl rfl rfl rfl rfl rfl ⟨rfl, rfl, rfl, rfl, rfl⟩ rfl rfl rfl rfl rfl (by kernel_rfl) Try.func3 (by kernel_rfl)
    (of_decide_eq_true (by kernel_rfl)) (by unfold Func.isWrapper; rw [if_neg (by decide +kernel)]; exact ⟨rfl, rfl⟩)
    (fun os started H enc _ => leadErrors_lifted os started H enc)
end Go.Proofs.Ytcihkhhkppjcmaa
#print axioms Go.Proofs.Ytcihkhhkppjcmaa.leadErrors_holds
