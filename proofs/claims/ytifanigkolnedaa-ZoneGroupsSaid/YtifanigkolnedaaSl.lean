/- The statement about groups is proved: the fewest groups, at most fifty, or the errors, are what the document says, whatever the input. No condition. -/
import Derived.Test.YtifanigkolnedaaSk
import Derived.Test.YtifanigkolnedaaRows
import Derived.JoinedOf
import Derived.Seven
namespace Go.Lo
theorem laidOutZoneGroups : laidOutB Go.Proofs.Try.prog = true := by kernel_rfl
/-- What the arguments are. -/
theorem vs3 {vs : List V} (h : HasVs [.st [.int .i64, .int .i64], .st [.int .i64, .int .i64], .st [.int .i64, .int .i64]] vs) :
    ∃ sl sh nl nh wl wh, vs = [.agg [I sl, I sh], .agg [I nl, I nh], .agg [I wl, I wh]] := by
  simp only [HasVs, HasV, HasCs, HasC] at h
  obtain ⟨v1, u1, rfl, ⟨c1, rfl, a1, b1, rfl, ⟨n1, rfl, _⟩, a2, b2, rfl, ⟨n2, rfl, _⟩, rfl⟩, v2, u2, rfl, ⟨c2, rfl, a3, b3, rfl, ⟨n3, rfl, _⟩, a4, b4, rfl, ⟨n4, rfl, _⟩, rfl⟩, v3, u3, rfl, ⟨c3, rfl, a5, b5, rfl, ⟨n5, rfl, _⟩, a6, b6, rfl, ⟨n6, rfl, _⟩, rfl⟩, rfl⟩ := h
  exact ⟨n1, n2, n3, n4, n5, n6, rfl⟩
end Go.Lo
namespace Go.Proofs.Ytifanigkolnedaa
open Go.Lo Go.ChangeShapes
set_option maxRecDepth 100000 in
theorem zoneGroups_lifted (os : Os) (started : os.Started) (H : Type) (enc : TypeId × Value → H) :
    ReturnsInHanded {} Try.checked os 7 .any (Rows.zoneGroupsSpec.pre6 enc Try.prog Try.f7 Rows.zoneGroupsRow.domain false) (Rows.zoneGroupsSpec.post enc Try.prog Try.f7 false true false false) := by
  refine returnsInHanded_of_change (C := Try.checked) (by kernel_rfl) started (by kernel_rfl) Try.func7
    (ChangeSpec.witness6 (enc := enc) (C := Try.checked) false ⟨#[], #[.agg #[.int .i64 0, .int .i64 0], .agg #[.int .i64 0, .int .i64 0], .agg #[.int .i64 0, .int .i64 0]], []⟩ 8 (by kernel_rfl) (by kernel_rfl) (by kernel_rfl) (by kernel_rfl)) ?_
  intro W base args ds gs before hval hW _ _
  refine law_contract laidOutZoneGroups rfl (tb := 4) (by kernel_rfl) (by kernel_rfl) (d := 6) (tys := [.st [.int .i64, .int .i64], .st [.int .i64, .int .i64], .st [.int .i64, .int .i64]]) (by kernel_rfl) (fun t ht => ?_) (fun ds hds => ?_) (fun vs hvs => ?_) W base args ds gs before hval hW
  · have h : ∀ t ∈ Try.f7.params.toList, decide (Try.prog.readableRec t = true ∧ t < Try.prog.types.size) = true := by
      have : Try.f7.params.toList.all (fun t => decide (Try.prog.readableRec t = true ∧ t < Try.prog.types.size)) = true := by kernel_rfl
      exact List.all_eq_true.1 this
    exact of_decide_eq_true (h t ht)
  · have hp : Try.f7.params.size = 3 := by kernel_rfl
    rw [hp] at hds
    match ds, hds with
    | [d1, d2, d3], _ => exact ⟨rfl, rfl, rfl⟩
  · obtain ⟨sl, sh, nl, nh, wl, wh, rfl⟩ := vs3 hvs
    exact (run_sound tabOk 7 _ _ (run7 sl sh nl nh wl wh)).2
theorem zoneGroups_holds : Rows.ZoneGroupsSaid :=
  OpenClaim.holds_of_wide 7 Try.f7 rfl rfl rfl rfl rfl rfl rfl ⟨rfl, rfl, rfl, rfl, rfl⟩ rfl rfl rfl rfl rfl (by kernel_rfl) Try.func7 (by kernel_rfl)
    (of_decide_eq_true (by kernel_rfl)) (by unfold Func.isWrapper; rw [if_neg (by decide +kernel)]; exact ⟨rfl, rfl⟩)
    (fun os started H enc _ => zoneGroups_lifted os started H enc)
end Go.Proofs.Ytifanigkolnedaa
#print axioms Go.Proofs.Ytifanigkolnedaa.zoneGroups_holds
