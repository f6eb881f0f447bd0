/- Texts put together. -/
import Derived.Test.YtohdbgibdopinaaPf
import Derived.Test.YtohdbgibdopinaaRows
import Derived.JoinedOf
import Derived.Seven
/- The statement, lifted. -/
namespace Go.Lo
theorem laidOutTopZoneFit : laidOutB Go.Proofs.Try.prog = true := by kernel_rfl
abbrev afTy : Ty := .st [.int .u16, .int .u16, .int .u16, arTy 2 .i8]
theorem can_af {v : V} (h : HasV afTy v) : ∃ p l r x y : Int, v = .agg [.int .u16 p, .int .u16 l, .int .u16 r, .int .i8 x, .int .i8 y] ∧ u16r p ∧ u16r l ∧ u16r r ∧ i8r x ∧ i8r y := by
  simp only [HasV] at h
  obtain ⟨cs, rfl, h⟩ := h
  obtain ⟨x1, r1, rfl, h1, h⟩ := h.inv
  obtain ⟨x2, r2, rfl, h2, h⟩ := h.inv
  obtain ⟨x3, r3, rfl, h3, h⟩ := h.inv
  obtain ⟨x4, r4, rfl, h4, h⟩ := h.inv
  rw [HasCs] at h
  subst h
  obtain ⟨p, rfl, wp⟩ := can_k h1
  obtain ⟨l, rfl, wl⟩ := can_k h2
  obtain ⟨r, rfl, wr⟩ := can_k h3
  obtain ⟨a, b, rfl, wa, wb⟩ := can_ar2 h4
  exact ⟨p, l, r, a, b, rfl, wf_u16 wp, wf_u16 wl, wf_u16 wr, wf_i8 wa, wf_i8 wb⟩
end Go.Lo
namespace Go.Proofs.Ytohdbgibdopinaa
open Go.Lo Go.ChangeShapes
set_option maxRecDepth 100000 in
theorem topZoneFit_lifted (os : Os) (started : os.Started) (H : Type) (enc : TypeId × Value → H) :
    ReturnsInHanded {} Try.checked os 4 .any (Rows.topZoneFitSpec.pre6 enc Try.prog Try.f4 Rows.topZoneFitRow.domain false) (Rows.topZoneFitSpec.post enc Try.prog Try.f4 false true false false) := by
  refine returnsInHanded_of_change (C := Try.checked) (by kernel_rfl) started (by kernel_rfl) Try.func4
    (ChangeSpec.witness6 (enc := enc) (C := Try.checked) false ⟨#[], #[.agg #[.int .u16 0, .int .u16 0, .int .u16 0, .int .i8 0, .int .i8 0], .agg #[.int .u8 0, .int .u8 0, .int .u8 0, .int .u8 0], .agg #[.int .u8 0, .int .u8 0, .int .u8 0]], []⟩ 8 (by kernel_rfl) (by kernel_rfl) (by kernel_rfl) (by kernel_rfl)) ?_
  intro W base args ds gs before hval hW _ _
  refine law_contract laidOutTopZoneFit rfl (tb := 4) (by kernel_rfl) (by kernel_rfl) (d := 6) (tys := [afTy, arTy 4 .u8, arTy 3 .u8]) (by kernel_rfl) (fun t ht => ?_) (fun ds hds => ?_) (fun vs hvs => ?_) W base args ds gs before hval hW
  · have h : ∀ t ∈ Try.f4.params.toList, decide (Try.prog.readableRec t = true ∧ t < Try.prog.types.size) = true := by
      have : Try.f4.params.toList.all (fun t => decide (Try.prog.readableRec t = true ∧ t < Try.prog.types.size)) = true := by kernel_rfl
      exact List.all_eq_true.1 this
    exact of_decide_eq_true (h t ht)
  · have hp : Try.f4.params.size = 3 := by kernel_rfl
    rw [hp] at hds
    match ds, hds with
    | [d1, d2, d3], _ => exact ⟨rfl, rfl, rfl⟩
  · simp only [HasVs] at hvs
    obtain ⟨v1, u1, rfl, h1, v2, u2, rfl, h2, v3, u3, rfl, h3, rfl⟩ := hvs
    obtain ⟨p, l, r, x, y, rfl, wp, wl, wr, wx, wy⟩ := can_af h1
    obtain ⟨xs, hl, rfl, hw⟩ := can_arV h2
    obtain ⟨ys, hm, rfl, hu⟩ := can_arV h3
    match xs, hl, ys, hm with
    | [x0, x1, x2, x3], _, [y0, y1, y2], _ =>
      refine (run_sound tabOk 4 _ _ (run2_true tabR (p4_zonefit p10 p18 wp wl wr wx wy (wf_u8 (hw x0 (by simp))) (wf_u8 (hw x1 (by simp))) (wf_u8 (hw x2 (by simp))) (wf_u8 (hw x3 (by simp))) (wf_u8 (hu y0 (by simp))) (wf_u8 (hu y1 (by simp))) (wf_u8 (hu y2 (by simp)))) (RelL.cons ?_ (RelL.cons (rel_ar .u8 [x0, x1, x2, x3]) (RelL.one (rel_ar .u8 [y0, y1, y2])))))).2
      rw [Rel]
      exact ⟨_, rfl, RelL.cons (rel_int _ _) (RelL.cons (rel_int _ _) (RelL.cons (rel_int _ _) (RelL.cons (rel_int _ _) (RelL.one (rel_int _ _)))))⟩
end Go.Proofs.Ytohdbgibdopinaa
