/- The statement about plating is proved: the limits before any plating, and what can be after it, or the errors, are what the document says, whatever the input. No condition. -/
import Derived.Test.YtifanigkolnedaaSe
import Derived.Test.YtifanigkolnedaaRows
import Derived.JoinedOf
import Derived.Seven
namespace Go.Lo
theorem laidOut2 : laidOutB Go.Proofs.Try.prog = true := by kernel_rfl
/-- What the arguments are. -/
theorem vs4 {vs : List V} (h : HasVs [.st [.int .i64, .int .i64], .st [.st [.int .i64, .int .i64], .st [.int .i64, .int .i64]], .bool] vs) :
    ∃ lo hi tl th p q nut, vs = [.agg [I lo, I hi], .agg [I tl, I th, I p, I q], B nut] := by
  simp only [HasVs, HasV, HasCs, HasC] at h
  obtain ⟨v1, u1, rfl, ⟨c1, rfl, a1, b1, rfl, ⟨n1, rfl, _⟩, a2, b2, rfl, ⟨n2, rfl, _⟩, rfl⟩, v2, u2, rfl, ⟨c2, rfl, a3, b3, rfl, ⟨a4, b4, rfl, ⟨n3, rfl, _⟩, a5, b5, rfl, ⟨n4, rfl, _⟩, rfl⟩, a6, b6, rfl, ⟨a7, b7, rfl, ⟨n5, rfl, _⟩, a8, b8, rfl, ⟨n6, rfl, _⟩, rfl⟩, rfl⟩, v3, u3, rfl, ⟨nut, h3⟩, rfl⟩ := h
  injection h3 with h3 _
  subst h3
  exact ⟨n1, n2, n3, n4, n5, n6, nut, rfl⟩
end Go.Lo
namespace Go.Proofs.Ytifanigkolnedaa
open Go.Lo Go.ChangeShapes
set_option maxRecDepth 100000 in
theorem zoneCoats_lifted (os : Os) (started : os.Started) (H : Type) (enc : TypeId × Value → H) :
    ReturnsInHanded {} Try.checked os 4 .any (Rows.zoneCoatsSpec.pre6 enc Try.prog Try.f4 Rows.zoneCoatsRow.domain false) (Rows.zoneCoatsSpec.post enc Try.prog Try.f4 false true false false) := by
  refine returnsInHanded_of_change (C := Try.checked) (by kernel_rfl) started (by kernel_rfl) Try.func4
    (ChangeSpec.witness6 (enc := enc) (C := Try.checked) false ⟨#[], #[.agg #[.int .i64 0, .int .i64 0], .agg #[.int .i64 0, .int .i64 0, .int .i64 0, .int .i64 0], .bool false], []⟩ 8 (by kernel_rfl) (by kernel_rfl) (by kernel_rfl) (by kernel_rfl)) ?_
  intro W base args ds gs before hval hW _ _
  refine law_contract laidOut2 rfl (tb := 4) (by kernel_rfl) (by kernel_rfl) (d := 6) (tys := [.st [.int .i64, .int .i64], .st [.st [.int .i64, .int .i64], .st [.int .i64, .int .i64]], .bool]) (by kernel_rfl) (fun t ht => ?_) (fun ds hds => ?_) (fun vs hvs => ?_) W base args ds gs before hval hW
  · have h : ∀ t ∈ Try.f4.params.toList, decide (Try.prog.readableRec t = true ∧ t < Try.prog.types.size) = true := by
      have : Try.f4.params.toList.all (fun t => decide (Try.prog.readableRec t = true ∧ t < Try.prog.types.size)) = true := by kernel_rfl
      exact List.all_eq_true.1 this
    exact of_decide_eq_true (h t ht)
  · have hp : Try.f4.params.size = 3 := by kernel_rfl
    rw [hp] at hds
    match ds, hds with
    | [d1, d2, d3], _ => exact ⟨rfl, rfl, rfl⟩
  · obtain ⟨lo, hi, tl, th, p, q, nut, rfl⟩ := vs4 hvs
    exact (run_sound tabOk 4 _ _ (run4 lo hi tl th p q nut)).2
theorem zoneCoats_holds : Rows.ZoneCoatsSaid :=
  OpenClaim.holds_of_wide 4 Try.f4 rfl rfl rfl rfl rfl rfl rfl ⟨rfl, rfl, rfl, rfl, rfl⟩ rfl rfl rfl rfl rfl (by kernel_rfl) Try.func4 (by kernel_rfl)
    (of_decide_eq_true (by kernel_rfl)) (by unfold Func.isWrapper; rw [if_neg (by decide +kernel)]; exact ⟨rfl, rfl⟩)
    (fun os started H enc _ => zoneCoats_lifted os started H enc)
end Go.Proofs.Ytifanigkolnedaa
#print axioms Go.Proofs.Ytifanigkolnedaa.zoneCoats_holds
