/- Texts put together. -/
import Derived.Test.YtcihkhhkppjcmaaPh
import Derived.Test.YtcihkhhkppjcmaaRows
import Derived.JoinedOf
import Derived.Seven
/- The statement, lifted. -/
namespace Go.Lo
theorem laidOutLeadLashes : laidOutB Go.Proofs.Try.prog = true := by kernel_rfl

end Go.Lo
namespace Go.Proofs.Ytcihkhhkppjcmaa
open Go.Lo Go.ChangeShapes
set_option maxRecDepth 100000 in
theorem leadLashes_lifted (os : Os) (started : os.Started) (H : Type) (enc : TypeId × Value → H) :
    ReturnsInHanded {} Try.checked os 9 .any (Rows.leadLashesSpec.pre6 enc Try.prog Try.f9 Rows.leadLashesRow.domain false) (Rows.leadLashesSpec.post enc Try.prog Try.f9 false true false false) := by
  refine returnsInHanded_of_change (C := Try.checked) (by kernel_rfl) started (by kernel_rfl) Try.func9
    (ChangeSpec.witness6 (enc := enc) (C := Try.checked) false ⟨#[], #[.agg #[.slice none 0 0, .slice none 0 0, .int .i64 0, .int .i64 0], .slice none 0 0], []⟩ 8 (by kernel_rfl) (by kernel_rfl) (by kernel_rfl) (by kernel_rfl)) ?_
  intro W base args ds gs before hval hW _ _
  refine law_contract laidOutLeadLashes rfl (tb := 4) (by kernel_rfl) (by kernel_rfl) (d := 6) (tys := [lsTy, .sl rdTy]) (by kernel_rfl) (fun t ht => ?_) (fun ds hds => ?_) (fun vs hvs => ?_) W base args ds gs before hval hW
  · have h : ∀ t ∈ Try.f9.params.toList, decide (Try.prog.readableRec t = true ∧ t < Try.prog.types.size) = true := by
      have : Try.f9.params.toList.all (fun t => decide (Try.prog.readableRec t = true ∧ t < Try.prog.types.size)) = true := by kernel_rfl
      exact List.all_eq_true.1 this
    exact of_decide_eq_true (h t ht)
  · have hp : Try.f9.params.size = 2 := by kernel_rfl
    rw [hp] at hds
    match ds, hds with
    | [d1, d2], _ => exact ⟨rfl, rfl, rfl⟩
  · simp only [HasVs] at hvs
    obtain ⟨v1, u1, rfl, h1, v2, u2, rfl, h2, rfl⟩ := hvs
    obtain ⟨s, hs⟩ := can_ls h1
    obtain ⟨rs, hr⟩ := can_rs h2
    exact (run_sound tab1 9 _ _ (run2_true tabR (p9 s rs) (RelL.cons hs (RelL.one hr)))).2
end Go.Proofs.Ytcihkhhkppjcmaa
