/- Texts put together. -/
import Derived.Test.YtohdbgibdopinaaPg
import Derived.Test.YtohdbgibdopinaaRows
import Derived.JoinedOf
import Derived.Seven
/- The statement, lifted. -/
namespace Go.Lo
theorem laidOutTopDieZone : laidOutB Go.Proofs.Try.prog = true := by kernel_rfl

end Go.Lo
namespace Go.Proofs.Ytohdbgibdopinaa
open Go.Lo Go.ChangeShapes
set_option maxRecDepth 100000 in
theorem topDieZone_lifted (os : Os) (started : os.Started) (H : Type) (enc : TypeId × Value → H) :
    ReturnsInHanded {} Try.checked os 3 .any (Rows.topDieZoneSpec.pre6 enc Try.prog Try.f3 Rows.topDieZoneRow.domain false) (Rows.topDieZoneSpec.post enc Try.prog Try.f3 false true false false) := by
  refine returnsInHanded_of_change (C := Try.checked) (by kernel_rfl) started (by kernel_rfl) Try.func3
    (ChangeSpec.witness6 (enc := enc) (C := Try.checked) false ⟨#[], #[.agg #[.int .u8 0, .int .u8 0, .int .u8 0, .int .u8 0, .int .u8 0, .int .u8 0, .int .u8 0, .slice none 0 0], .agg #[.int .u8 0, .int .u8 0, .int .u8 0], .agg #[.int .u8 0, .int .u8 0]], []⟩ 8 (by kernel_rfl) (by kernel_rfl) (by kernel_rfl) (by kernel_rfl)) ?_
  intro W base args ds gs before hval hW _ _
  refine law_contract laidOutTopDieZone rfl (tb := 4) (by kernel_rfl) (by kernel_rfl) (d := 6) (tys := [adTy, arTy 3 .u8, arTy 2 .u8]) (by kernel_rfl) (fun t ht => ?_) (fun ds hds => ?_) (fun vs hvs => ?_) W base args ds gs before hval hW
  · have h : ∀ t ∈ Try.f3.params.toList, decide (Try.prog.readableRec t = true ∧ t < Try.prog.types.size) = true := by
      have : Try.f3.params.toList.all (fun t => decide (Try.prog.readableRec t = true ∧ t < Try.prog.types.size)) = true := by kernel_rfl
      exact List.all_eq_true.1 this
    exact of_decide_eq_true (h t ht)
  · have hp : Try.f3.params.size = 3 := by kernel_rfl
    rw [hp] at hds
    match ds, hds with
    | [d1, d2, d3], _ => exact ⟨rfl, rfl, rfl⟩
  · simp only [HasVs] at hvs
    obtain ⟨v1, u1, rfl, h1, v2, u2, rfl, h2, v3, u3, rfl, h3, rfl⟩ := hvs
    obtain ⟨x, hx, wx⟩ := can_ad h1
    obtain ⟨ys, hm, rfl, hu⟩ := can_arV h2
    obtain ⟨zs, hn, rfl, hv⟩ := can_arV h3
    match ys, hm, zs, hn with
    | [y0, y1, y2], _, [z0, z1], _ =>
      exact (run_sound tabOk 3 _ _ (run2_true tabR (p3_diezone p10 p11 wx (wf_u8 (hu y0 (by simp))) (wf_u8 (hu y1 (by simp))) (wf_u8 (hu y2 (by simp))) (wf_u8 (hv z0 (by simp))) (wf_u8 (hv z1 (by simp)))) (RelL.cons hx (RelL.cons (rel_ar .u8 [y0, y1, y2]) (RelL.one (rel_ar .u8 [z0, z1])))))).2
end Go.Proofs.Ytohdbgibdopinaa
