/- The statement about backlashes is proved: what the backlash can be after any reads, or the error, is what the document says; nothing is changed in the arguments; whatever the input. No condition. -/
import Derived.Test.YtcihkhhkppjcmaaPi
namespace Go.Proofs.Ytcihkhhkppjcmaa
open Go.Lo Go.ChangeShapes
theorem leadLashes_holds : Rows.LeadLashesSaid :=
  OpenClaim.holds_of_wide 9 Try.f9 rfl rfl rfl rfl rfl rfl rfl ⟨rfl, rfl, rfl, rfl, rfl⟩ rfl rfl rfl rfl rfl (by kernel_rfl) Try.func9 (by kernel_rfl)
    (of_decide_eq_true (by kernel_rfl)) (by unfold Func.isWrapper; rw [if_neg (by decide +kernel)]; exact ⟨rfl, rfl⟩)
    (fun os started H enc _ => leadLashes_lifted os started H enc)
end Go.Proofs.Ytcihkhhkppjcmaa
#print axioms Go.Proofs.Ytcihkhhkppjcmaa.leadLashes_holds
