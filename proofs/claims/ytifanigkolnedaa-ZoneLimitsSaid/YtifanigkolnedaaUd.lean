/- Large tables, same tables, copies; the law of limits. -/
import Derived.Test.YtifanigkolnedaaUc
/-! Large tables; copies of tables; same tables. -/
namespace Go.Lo
open Go.Proofs
set_option linter.unusedSimpArgs false
/-! ### large -/
def rl (rs : List (V × List Int)) (i : Nat) : Nat := ((lst2 rs).getD i []).length
def s12a (a b c : V) (rows : Int) (i : Nat) : St := { fr := [(1, I rows), (2, .box [a, b, c]), (5, I i)], tk := [] }
def s12b (a b c : V) (rows : Int) (i : Nat) : St := { fr := [(1, I rows), (2, .box [a, b, c]), (6, I i)], tk := [] }
theorem row_rl {v : V} {rs : List (V × List Int)} (hv : RowsV v rs) {i : Nat} (hi : i < rs.length) : ∃ r, (els v)[i]? = some [r] ∧ isSl r ∧ (els r).length = rl rs i := by
  obtain ⟨h1, h2⟩ := hv.get hi
  exact ⟨_, h1, h2.sl, by rw [h2.len]; unfold rl; rw [lst2_getD hi]⟩
theorem loop12a {a b c : V} {s : List Int} {g p : List (V × List Int)} (h : Tab a b c s g p) (rows : Int) (M : Nat) :
    iter (evC (run Ft Ct) M b12_0) 21 (s12a a b c rows 0) = some (match (List.range (min g.length 20)).find? (fun i => decide (25 < rl g i)) with
      | some _ => (.ret, { fr := [(4, B true)], tk := [] })
      | none => (.exit 0, { fr := [(1, I rows), (2, .box [a, b, c]), (5, I (min g.length 20 : Nat)), (15, B false)], tk := [] })) := by
  have ha := h.a.sl
  have hb := h.b.sl
  have hc := h.c.sl
  have hbl := h.b.len
  have L := loop_find (s := s12a a b c rows) (f := evC (run Ft Ct) M b12_0) (n := min g.length 20) (g := fun i => decide (25 < rl g i)) (E := fun _ => (.ret, { fr := [(4, B true)], tk := [] })) (X := (.exit 0, { fr := [(1, I rows), (2, .box [a, b, c]), (5, I (min g.length 20 : Nat)), (15, B false)], tk := [] }))
    (fun i hi => by
      have hi1 : i < g.length := by omega
      obtain ⟨r, e1, e2, e3⟩ := row_rl h.b hi1
      have hlt : (i : Int) < g.length := by omega
      have h20 : (i : Int) < 20 := by omega
      have hw : IntKind.i64.wrap ((i : Int) + 1) = ((i + 1 : Nat) : Int) := wrap_succ (n := 20) (by omega) (by omega)
      unfold s12a
      generalize ((i + 1 : Nat) : Int) = m at *
      by_cases c1 : 25 < rl g i
      · have c1i : (25 : Int) < rl g i := by omega
        simp [b12_0, evBody, params, deadL, evC, prep, prepF, prepT, V.prep, prepL, stepL, stepI, wanted, opds, get, put, putO, callE, loadV, partV, valO, binV, binI, binS, unV, nilCmp, apply, keepL, memN, bxOf, tkOf, bxF, frzL, V.frz, frzEL, V.frzE, V.pureR, pureRL, V.tks, tksL, V.al, alL, V.rn, rnL, addT, protT, protAll, distinctN, fill, splice, fillE, eqSh, intsOf, maxL, minL, bounds, ranged, finish, result, rvs, finL, V.fin, one, goesOn, opd_t, opd_c, opd_f, opdV_box, opdV_int, opdV_bool, opdV_agg, opdV_tup, opdV_nil, opdV_sl, opdV_fn, opdV_ref, opdV_cref, opdV_eref, opdV_isSl, frz_isSl, frzE_isSl, cells_isSl, cellOk_isSl, pm_isSl, prep_isSl, fin_isSl, ranged_isSl, pureR_isSl, sem_len_isSl, sem_ixs_isSl, sem_len_sl, sem_len_nil, sem_ixs_none, sem_ixs_some, semR, semx_mv, semx_pick, semx_box, semx_alloc, semx_build, semx_bsl, semx_load, semx_store, semx_bin, semx_eqs, semx_un, semx_conv, semx_mkf, semx_mkm, semx_fa, semx_fld, semx_ixa, semx_idx, semx_mks, semx_sls, semx_ext, semx_call, semx_append, semx_appz, semx_trunc, semx_cap, semx_min, semx_max, semx_nilc, opdV_und, opdV_dead, opdV_none, cellOk_bool, cells_bool, cellOk_int, cells_int, cellOk_nil, cells_nil, cellOk_sl, cells_sl, cellOk_fn, cells_fn, cellOk_ref, cells_ref, cellOk_cref, cells_cref, cellOk_eref, cells_eref, cells_agg, pm_bool, pm_int, pm_nil, pm_slN, pm_slS, pm_fn, ha, hb, hc, hbl, hlt, h20, hw, e1, e2, e3, c1, c1i]
      · have c1i : ¬ (25 : Int) < rl g i := by omega
        simp [b12_0, evBody, params, deadL, evC, prep, prepF, prepT, V.prep, prepL, stepL, stepI, wanted, opds, get, put, putO, callE, loadV, partV, valO, binV, binI, binS, unV, nilCmp, apply, keepL, memN, bxOf, tkOf, bxF, frzL, V.frz, frzEL, V.frzE, V.pureR, pureRL, V.tks, tksL, V.al, alL, V.rn, rnL, addT, protT, protAll, distinctN, fill, splice, fillE, eqSh, intsOf, maxL, minL, bounds, ranged, finish, result, rvs, finL, V.fin, one, goesOn, opd_t, opd_c, opd_f, opdV_box, opdV_int, opdV_bool, opdV_agg, opdV_tup, opdV_nil, opdV_sl, opdV_fn, opdV_ref, opdV_cref, opdV_eref, opdV_isSl, frz_isSl, frzE_isSl, cells_isSl, cellOk_isSl, pm_isSl, prep_isSl, fin_isSl, ranged_isSl, pureR_isSl, sem_len_isSl, sem_ixs_isSl, sem_len_sl, sem_len_nil, sem_ixs_none, sem_ixs_some, semR, semx_mv, semx_pick, semx_box, semx_alloc, semx_build, semx_bsl, semx_load, semx_store, semx_bin, semx_eqs, semx_un, semx_conv, semx_mkf, semx_mkm, semx_fa, semx_fld, semx_ixa, semx_idx, semx_mks, semx_sls, semx_ext, semx_call, semx_append, semx_appz, semx_trunc, semx_cap, semx_min, semx_max, semx_nilc, opdV_und, opdV_dead, opdV_none, cellOk_bool, cells_bool, cellOk_int, cells_int, cellOk_nil, cells_nil, cellOk_sl, cells_sl, cellOk_fn, cells_fn, cellOk_ref, cells_ref, cellOk_cref, cells_cref, cellOk_eref, cells_eref, cells_agg, pm_bool, pm_int, pm_nil, pm_slN, pm_slS, pm_fn, ha, hb, hc, hbl, hlt, h20, hw, e1, e2, e3, c1, c1i]) (fun _ => by simp) (by
      unfold s12a
      obtain ⟨n, hn⟩ : ∃ n, min g.length 20 = n := ⟨_, rfl⟩
      rw [hn]
      by_cases c1 : (n : Int) < g.length
      · have c2 : ¬ (n : Int) < 20 := by omega
        simp [b12_0, evBody, params, deadL, evC, prep, prepF, prepT, V.prep, prepL, stepL, stepI, wanted, opds, get, put, putO, callE, loadV, partV, valO, binV, binI, binS, unV, nilCmp, apply, keepL, memN, bxOf, tkOf, bxF, frzL, V.frz, frzEL, V.frzE, V.pureR, pureRL, V.tks, tksL, V.al, alL, V.rn, rnL, addT, protT, protAll, distinctN, fill, splice, fillE, eqSh, intsOf, maxL, minL, bounds, ranged, finish, result, rvs, finL, V.fin, one, goesOn, opd_t, opd_c, opd_f, opdV_box, opdV_int, opdV_bool, opdV_agg, opdV_tup, opdV_nil, opdV_sl, opdV_fn, opdV_ref, opdV_cref, opdV_eref, opdV_isSl, frz_isSl, frzE_isSl, cells_isSl, cellOk_isSl, pm_isSl, prep_isSl, fin_isSl, ranged_isSl, pureR_isSl, sem_len_isSl, sem_ixs_isSl, sem_len_sl, sem_len_nil, sem_ixs_none, sem_ixs_some, semR, semx_mv, semx_pick, semx_box, semx_alloc, semx_build, semx_bsl, semx_load, semx_store, semx_bin, semx_eqs, semx_un, semx_conv, semx_mkf, semx_mkm, semx_fa, semx_fld, semx_ixa, semx_idx, semx_mks, semx_sls, semx_ext, semx_call, semx_append, semx_appz, semx_trunc, semx_cap, semx_min, semx_max, semx_nilc, opdV_und, opdV_dead, opdV_none, cellOk_bool, cells_bool, cellOk_int, cells_int, cellOk_nil, cells_nil, cellOk_sl, cells_sl, cellOk_fn, cells_fn, cellOk_ref, cells_ref, cellOk_cref, cells_cref, cellOk_eref, cells_eref, cells_agg, pm_bool, pm_int, pm_nil, pm_slN, pm_slS, pm_fn, ha, hb, hc, hbl, c1, c2]
      · simp [b12_0, evBody, params, deadL, evC, prep, prepF, prepT, V.prep, prepL, stepL, stepI, wanted, opds, get, put, putO, callE, loadV, partV, valO, binV, binI, binS, unV, nilCmp, apply, keepL, memN, bxOf, tkOf, bxF, frzL, V.frz, frzEL, V.frzE, V.pureR, pureRL, V.tks, tksL, V.al, alL, V.rn, rnL, addT, protT, protAll, distinctN, fill, splice, fillE, eqSh, intsOf, maxL, minL, bounds, ranged, finish, result, rvs, finL, V.fin, one, goesOn, opd_t, opd_c, opd_f, opdV_box, opdV_int, opdV_bool, opdV_agg, opdV_tup, opdV_nil, opdV_sl, opdV_fn, opdV_ref, opdV_cref, opdV_eref, opdV_isSl, frz_isSl, frzE_isSl, cells_isSl, cellOk_isSl, pm_isSl, prep_isSl, fin_isSl, ranged_isSl, pureR_isSl, sem_len_isSl, sem_ixs_isSl, sem_len_sl, sem_len_nil, sem_ixs_none, sem_ixs_some, semR, semx_mv, semx_pick, semx_box, semx_alloc, semx_build, semx_bsl, semx_load, semx_store, semx_bin, semx_eqs, semx_un, semx_conv, semx_mkf, semx_mkm, semx_fa, semx_fld, semx_ixa, semx_idx, semx_mks, semx_sls, semx_ext, semx_call, semx_append, semx_appz, semx_trunc, semx_cap, semx_min, semx_max, semx_nilc, opdV_und, opdV_dead, opdV_none, cellOk_bool, cells_bool, cellOk_int, cells_int, cellOk_nil, cells_nil, cellOk_sl, cells_sl, cellOk_fn, cells_fn, cellOk_ref, cells_ref, cellOk_cref, cells_cref, cellOk_eref, cells_eref, cells_agg, pm_bool, pm_int, pm_nil, pm_slN, pm_slS, pm_fn, ha, hb, hc, hbl, c1]) (by simp) (min g.length 20) 0 (by omega)
  have L := iter_le (f := evC (run Ft Ct) M b12_0) (fun _ _ h => h) (show min g.length 20 + 1 ≤ 21 by omega) L
  rw [← List.range_eq_range'] at L
  exact L
theorem loop12b {a b c : V} {s : List Int} {g p : List (V × List Int)} (h : Tab a b c s g p) (rows : Int) (M : Nat) :
    iter (evC (run Ft Ct) M b12_1) 21 (s12b a b c rows 0) = some (match (List.range (min p.length 20)).find? (fun i => decide (25 < rl p i)) with
      | some _ => (.ret, { fr := [(4, B true)], tk := [] })
      | none => (.exit 2, { fr := [(1, I rows), (2, .box [a, b, c]), (6, I (min p.length 20 : Nat)), (33, B false)], tk := [] })) := by
  have ha := h.a.sl
  have hb := h.b.sl
  have hc := h.c.sl
  have hbl := h.c.len
  have L := loop_find (s := s12b a b c rows) (f := evC (run Ft Ct) M b12_1) (n := min p.length 20) (g := fun i => decide (25 < rl p i)) (E := fun _ => (.ret, { fr := [(4, B true)], tk := [] })) (X := (.exit 2, { fr := [(1, I rows), (2, .box [a, b, c]), (6, I (min p.length 20 : Nat)), (33, B false)], tk := [] }))
    (fun i hi => by
      have hi1 : i < p.length := by omega
      obtain ⟨r, e1, e2, e3⟩ := row_rl h.c hi1
      have hlt : (i : Int) < p.length := by omega
      have h20 : (i : Int) < 20 := by omega
      have hw : IntKind.i64.wrap ((i : Int) + 1) = ((i + 1 : Nat) : Int) := wrap_succ (n := 20) (by omega) (by omega)
      unfold s12b
      generalize ((i + 1 : Nat) : Int) = m at *
      by_cases c1 : 25 < rl p i
      · have c1i : (25 : Int) < rl p i := by omega
        simp [b12_1, evBody, params, deadL, evC, prep, prepF, prepT, V.prep, prepL, stepL, stepI, wanted, opds, get, put, putO, callE, loadV, partV, valO, binV, binI, binS, unV, nilCmp, apply, keepL, memN, bxOf, tkOf, bxF, frzL, V.frz, frzEL, V.frzE, V.pureR, pureRL, V.tks, tksL, V.al, alL, V.rn, rnL, addT, protT, protAll, distinctN, fill, splice, fillE, eqSh, intsOf, maxL, minL, bounds, ranged, finish, result, rvs, finL, V.fin, one, goesOn, opd_t, opd_c, opd_f, opdV_box, opdV_int, opdV_bool, opdV_agg, opdV_tup, opdV_nil, opdV_sl, opdV_fn, opdV_ref, opdV_cref, opdV_eref, opdV_isSl, frz_isSl, frzE_isSl, cells_isSl, cellOk_isSl, pm_isSl, prep_isSl, fin_isSl, ranged_isSl, pureR_isSl, sem_len_isSl, sem_ixs_isSl, sem_len_sl, sem_len_nil, sem_ixs_none, sem_ixs_some, semR, semx_mv, semx_pick, semx_box, semx_alloc, semx_build, semx_bsl, semx_load, semx_store, semx_bin, semx_eqs, semx_un, semx_conv, semx_mkf, semx_mkm, semx_fa, semx_fld, semx_ixa, semx_idx, semx_mks, semx_sls, semx_ext, semx_call, semx_append, semx_appz, semx_trunc, semx_cap, semx_min, semx_max, semx_nilc, opdV_und, opdV_dead, opdV_none, cellOk_bool, cells_bool, cellOk_int, cells_int, cellOk_nil, cells_nil, cellOk_sl, cells_sl, cellOk_fn, cells_fn, cellOk_ref, cells_ref, cellOk_cref, cells_cref, cellOk_eref, cells_eref, cells_agg, pm_bool, pm_int, pm_nil, pm_slN, pm_slS, pm_fn, ha, hb, hc, hbl, hlt, h20, hw, e1, e2, e3, c1, c1i]
      · have c1i : ¬ (25 : Int) < rl p i := by omega
        simp [b12_1, evBody, params, deadL, evC, prep, prepF, prepT, V.prep, prepL, stepL, stepI, wanted, opds, get, put, putO, callE, loadV, partV, valO, binV, binI, binS, unV, nilCmp, apply, keepL, memN, bxOf, tkOf, bxF, frzL, V.frz, frzEL, V.frzE, V.pureR, pureRL, V.tks, tksL, V.al, alL, V.rn, rnL, addT, protT, protAll, distinctN, fill, splice, fillE, eqSh, intsOf, maxL, minL, bounds, ranged, finish, result, rvs, finL, V.fin, one, goesOn, opd_t, opd_c, opd_f, opdV_box, opdV_int, opdV_bool, opdV_agg, opdV_tup, opdV_nil, opdV_sl, opdV_fn, opdV_ref, opdV_cref, opdV_eref, opdV_isSl, frz_isSl, frzE_isSl, cells_isSl, cellOk_isSl, pm_isSl, prep_isSl, fin_isSl, ranged_isSl, pureR_isSl, sem_len_isSl, sem_ixs_isSl, sem_len_sl, sem_len_nil, sem_ixs_none, sem_ixs_some, semR, semx_mv, semx_pick, semx_box, semx_alloc, semx_build, semx_bsl, semx_load, semx_store, semx_bin, semx_eqs, semx_un, semx_conv, semx_mkf, semx_mkm, semx_fa, semx_fld, semx_ixa, semx_idx, semx_mks, semx_sls, semx_ext, semx_call, semx_append, semx_appz, semx_trunc, semx_cap, semx_min, semx_max, semx_nilc, opdV_und, opdV_dead, opdV_none, cellOk_bool, cells_bool, cellOk_int, cells_int, cellOk_nil, cells_nil, cellOk_sl, cells_sl, cellOk_fn, cells_fn, cellOk_ref, cells_ref, cellOk_cref, cells_cref, cellOk_eref, cells_eref, cells_agg, pm_bool, pm_int, pm_nil, pm_slN, pm_slS, pm_fn, ha, hb, hc, hbl, hlt, h20, hw, e1, e2, e3, c1, c1i]) (fun _ => by simp) (by
      unfold s12b
      obtain ⟨n, hn⟩ : ∃ n, min p.length 20 = n := ⟨_, rfl⟩
      rw [hn]
      by_cases c1 : (n : Int) < p.length
      · have c2 : ¬ (n : Int) < 20 := by omega
        simp [b12_1, evBody, params, deadL, evC, prep, prepF, prepT, V.prep, prepL, stepL, stepI, wanted, opds, get, put, putO, callE, loadV, partV, valO, binV, binI, binS, unV, nilCmp, apply, keepL, memN, bxOf, tkOf, bxF, frzL, V.frz, frzEL, V.frzE, V.pureR, pureRL, V.tks, tksL, V.al, alL, V.rn, rnL, addT, protT, protAll, distinctN, fill, splice, fillE, eqSh, intsOf, maxL, minL, bounds, ranged, finish, result, rvs, finL, V.fin, one, goesOn, opd_t, opd_c, opd_f, opdV_box, opdV_int, opdV_bool, opdV_agg, opdV_tup, opdV_nil, opdV_sl, opdV_fn, opdV_ref, opdV_cref, opdV_eref, opdV_isSl, frz_isSl, frzE_isSl, cells_isSl, cellOk_isSl, pm_isSl, prep_isSl, fin_isSl, ranged_isSl, pureR_isSl, sem_len_isSl, sem_ixs_isSl, sem_len_sl, sem_len_nil, sem_ixs_none, sem_ixs_some, semR, semx_mv, semx_pick, semx_box, semx_alloc, semx_build, semx_bsl, semx_load, semx_store, semx_bin, semx_eqs, semx_un, semx_conv, semx_mkf, semx_mkm, semx_fa, semx_fld, semx_ixa, semx_idx, semx_mks, semx_sls, semx_ext, semx_call, semx_append, semx_appz, semx_trunc, semx_cap, semx_min, semx_max, semx_nilc, opdV_und, opdV_dead, opdV_none, cellOk_bool, cells_bool, cellOk_int, cells_int, cellOk_nil, cells_nil, cellOk_sl, cells_sl, cellOk_fn, cells_fn, cellOk_ref, cells_ref, cellOk_cref, cells_cref, cellOk_eref, cells_eref, cells_agg, pm_bool, pm_int, pm_nil, pm_slN, pm_slS, pm_fn, ha, hb, hc, hbl, c1, c2]
      · simp [b12_1, evBody, params, deadL, evC, prep, prepF, prepT, V.prep, prepL, stepL, stepI, wanted, opds, get, put, putO, callE, loadV, partV, valO, binV, binI, binS, unV, nilCmp, apply, keepL, memN, bxOf, tkOf, bxF, frzL, V.frz, frzEL, V.frzE, V.pureR, pureRL, V.tks, tksL, V.al, alL, V.rn, rnL, addT, protT, protAll, distinctN, fill, splice, fillE, eqSh, intsOf, maxL, minL, bounds, ranged, finish, result, rvs, finL, V.fin, one, goesOn, opd_t, opd_c, opd_f, opdV_box, opdV_int, opdV_bool, opdV_agg, opdV_tup, opdV_nil, opdV_sl, opdV_fn, opdV_ref, opdV_cref, opdV_eref, opdV_isSl, frz_isSl, frzE_isSl, cells_isSl, cellOk_isSl, pm_isSl, prep_isSl, fin_isSl, ranged_isSl, pureR_isSl, sem_len_isSl, sem_ixs_isSl, sem_len_sl, sem_len_nil, sem_ixs_none, sem_ixs_some, semR, semx_mv, semx_pick, semx_box, semx_alloc, semx_build, semx_bsl, semx_load, semx_store, semx_bin, semx_eqs, semx_un, semx_conv, semx_mkf, semx_mkm, semx_fa, semx_fld, semx_ixa, semx_idx, semx_mks, semx_sls, semx_ext, semx_call, semx_append, semx_appz, semx_trunc, semx_cap, semx_min, semx_max, semx_nilc, opdV_und, opdV_dead, opdV_none, cellOk_bool, cells_bool, cellOk_int, cells_int, cellOk_nil, cells_nil, cellOk_sl, cells_sl, cellOk_fn, cells_fn, cellOk_ref, cells_ref, cellOk_cref, cells_cref, cellOk_eref, cells_eref, cells_agg, pm_bool, pm_int, pm_nil, pm_slN, pm_slS, pm_fn, ha, hb, hc, hbl, c1]) (by simp) (min p.length 20) 0 (by omega)
  have L := iter_le (f := evC (run Ft Ct) M b12_1) (fun _ _ h => h) (show min p.length 20 + 1 ≤ 21 by omega) L
  rw [← List.range_eq_range'] at L
  exact L
/-- What a table that is not large is. -/
structure Small (s : List Int) (g p : List (V × List Int)) (rows : Int) : Prop where
  ls : s.length ≤ 25
  lg : g.length ≤ 15
  lp : p.length ≤ 15
  rg : ∀ r ∈ g, r.2.length ≤ 25
  rp : ∀ r ∈ p, r.2.length ≤ 25
  ok : chk s (lst2 g) (lst2 p) = 0 → (g.length : Int) ≤ rows ∧ (p.length : Int) ≤ rows
theorem rows_le {g : List (V × List Int)} (hl : g.length ≤ 15) (h : (List.range (min g.length 20)).find? (fun i => decide (25 < rl g i)) = none) : ∀ r ∈ g, r.2.length ≤ 25 := by
  intro r hr
  obtain ⟨i, hi, rfl⟩ := List.mem_iff_getElem.1 hr
  have := List.find?_eq_none.1 h i (List.mem_range.2 (by omega))
  unfold rl at this
  rw [lst2_getD hi] at this
  simpa using this
set_option maxHeartbeats 8000000 in
theorem run12 {a b c : V} {s : List Int} {g p : List (V × List Int)} (h : Tab a b c s g p) (rows : Int) : ∃ r, run Ft Ct 12 [.agg [a, b, c], I rows] = some (B r) ∧ (r = false → Small s g p rows) := by
  have ha := h.a.sl
  have hb := h.b.sl
  have hc := h.c.sl
  have hal := h.a.len
  have hbl := h.b.len
  have hcl := h.c.len
  have e1 := run20 h
  have A := loop12a h rows 21
  have A2 := loop12b h rows 21
  obtain ⟨F, hF⟩ : ∃ F, evC (run Ft Ct) 21 b12_0 = F := ⟨_, rfl⟩
  obtain ⟨G, hG⟩ : ∃ G, evC (run Ft Ct) 21 b12_1 = G := ⟨_, rfl⟩
  rw [hF] at A
  rw [hG] at A2
  cases f1 : (List.range (min g.length 20)).find? (fun i => decide (25 < rl g i)) with
  | some j =>
    rw [f1] at A
    simp [s12a] at A
    refine ⟨true, run_of_body (N := 21) rfl rfl ?_, fun x => by cases x⟩
    simp [l12, evBody, params, deadL, evC, prep, prepF, prepT, V.prep, prepL, stepL, stepI, wanted, opds, get, put, putO, callE, loadV, partV, valO, binV, binI, binS, unV, nilCmp, apply, keepL, memN, bxOf, tkOf, bxF, frzL, V.frz, frzEL, V.frzE, V.pureR, pureRL, V.tks, tksL, V.al, alL, V.rn, rnL, addT, protT, protAll, distinctN, fill, splice, fillE, eqSh, intsOf, maxL, minL, bounds, ranged, finish, result, rvs, finL, V.fin, one, goesOn, opd_t, opd_c, opd_f, opdV_box, opdV_int, opdV_bool, opdV_agg, opdV_tup, opdV_nil, opdV_sl, opdV_fn, opdV_ref, opdV_cref, opdV_eref, opdV_isSl, frz_isSl, frzE_isSl, cells_isSl, cellOk_isSl, pm_isSl, prep_isSl, fin_isSl, ranged_isSl, pureR_isSl, sem_len_isSl, sem_ixs_isSl, sem_len_sl, sem_len_nil, sem_ixs_none, sem_ixs_some, semR, semx_mv, semx_pick, semx_box, semx_alloc, semx_build, semx_bsl, semx_load, semx_store, semx_bin, semx_eqs, semx_un, semx_conv, semx_mkf, semx_mkm, semx_fa, semx_fld, semx_ixa, semx_idx, semx_mks, semx_sls, semx_ext, semx_call, semx_append, semx_appz, semx_trunc, semx_cap, semx_min, semx_max, semx_nilc, opdV_und, opdV_dead, opdV_none, cellOk_bool, cells_bool, cellOk_int, cells_int, cellOk_nil, cells_nil, cellOk_sl, cells_sl, cellOk_fn, cells_fn, cellOk_ref, cells_ref, cellOk_cref, cells_cref, cellOk_eref, cells_eref, cells_agg, pm_bool, pm_int, pm_nil, pm_slN, pm_slS, pm_fn, ha, hb, hc, hF, A]
  | none =>
    rw [f1] at A
    simp [s12a] at A
    cases f2 : (List.range (min p.length 20)).find? (fun i => decide (25 < rl p i)) with
    | some j =>
      rw [f2] at A2
      simp [s12b] at A2
      refine ⟨true, run_of_body (N := 21) rfl rfl ?_, fun x => by cases x⟩
      simp [l12, evBody, params, deadL, evC, prep, prepF, prepT, V.prep, prepL, stepL, stepI, wanted, opds, get, put, putO, callE, loadV, partV, valO, binV, binI, binS, unV, nilCmp, apply, keepL, memN, bxOf, tkOf, bxF, frzL, V.frz, frzEL, V.frzE, V.pureR, pureRL, V.tks, tksL, V.al, alL, V.rn, rnL, addT, protT, protAll, distinctN, fill, splice, fillE, eqSh, intsOf, maxL, minL, bounds, ranged, finish, result, rvs, finL, V.fin, one, goesOn, opd_t, opd_c, opd_f, opdV_box, opdV_int, opdV_bool, opdV_agg, opdV_tup, opdV_nil, opdV_sl, opdV_fn, opdV_ref, opdV_cref, opdV_eref, opdV_isSl, frz_isSl, frzE_isSl, cells_isSl, cellOk_isSl, pm_isSl, prep_isSl, fin_isSl, ranged_isSl, pureR_isSl, sem_len_isSl, sem_ixs_isSl, sem_len_sl, sem_len_nil, sem_ixs_none, sem_ixs_some, semR, semx_mv, semx_pick, semx_box, semx_alloc, semx_build, semx_bsl, semx_load, semx_store, semx_bin, semx_eqs, semx_un, semx_conv, semx_mkf, semx_mkm, semx_fa, semx_fld, semx_ixa, semx_idx, semx_mks, semx_sls, semx_ext, semx_call, semx_append, semx_appz, semx_trunc, semx_cap, semx_min, semx_max, semx_nilc, opdV_und, opdV_dead, opdV_none, cellOk_bool, cells_bool, cellOk_int, cells_int, cellOk_nil, cells_nil, cellOk_sl, cells_sl, cellOk_fn, cells_fn, cellOk_ref, cells_ref, cellOk_cref, cells_cref, cellOk_eref, cells_eref, cells_agg, pm_bool, pm_int, pm_nil, pm_slN, pm_slS, pm_fn, ha, hb, hc, hF, A, hG, A2]
    | none =>
      rw [f2] at A2
      simp [s12b] at A2
      by_cases c1 : (25 : Int) < s.length
      · refine ⟨true, run_of_body (N := 21) rfl rfl ?_, fun x => by cases x⟩
        simp [l12, evBody, params, deadL, evC, prep, prepF, prepT, V.prep, prepL, stepL, stepI, wanted, opds, get, put, putO, callE, loadV, partV, valO, binV, binI, binS, unV, nilCmp, apply, keepL, memN, bxOf, tkOf, bxF, frzL, V.frz, frzEL, V.frzE, V.pureR, pureRL, V.tks, tksL, V.al, alL, V.rn, rnL, addT, protT, protAll, distinctN, fill, splice, fillE, eqSh, intsOf, maxL, minL, bounds, ranged, finish, result, rvs, finL, V.fin, one, goesOn, opd_t, opd_c, opd_f, opdV_box, opdV_int, opdV_bool, opdV_agg, opdV_tup, opdV_nil, opdV_sl, opdV_fn, opdV_ref, opdV_cref, opdV_eref, opdV_isSl, frz_isSl, frzE_isSl, cells_isSl, cellOk_isSl, pm_isSl, prep_isSl, fin_isSl, ranged_isSl, pureR_isSl, sem_len_isSl, sem_ixs_isSl, sem_len_sl, sem_len_nil, sem_ixs_none, sem_ixs_some, semR, semx_mv, semx_pick, semx_box, semx_alloc, semx_build, semx_bsl, semx_load, semx_store, semx_bin, semx_eqs, semx_un, semx_conv, semx_mkf, semx_mkm, semx_fa, semx_fld, semx_ixa, semx_idx, semx_mks, semx_sls, semx_ext, semx_call, semx_append, semx_appz, semx_trunc, semx_cap, semx_min, semx_max, semx_nilc, opdV_und, opdV_dead, opdV_none, cellOk_bool, cells_bool, cellOk_int, cells_int, cellOk_nil, cells_nil, cellOk_sl, cells_sl, cellOk_fn, cells_fn, cellOk_ref, cells_ref, cellOk_cref, cells_cref, cellOk_eref, cells_eref, cells_agg, pm_bool, pm_int, pm_nil, pm_slN, pm_slS, pm_fn, ha, hb, hc, hal, hbl, hcl, hF, A, hG, A2, c1]
      · by_cases c2 : (15 : Int) < g.length
        · refine ⟨true, run_of_body (N := 21) rfl rfl ?_, fun x => by cases x⟩
          simp [l12, evBody, params, deadL, evC, prep, prepF, prepT, V.prep, prepL, stepL, stepI, wanted, opds, get, put, putO, callE, loadV, partV, valO, binV, binI, binS, unV, nilCmp, apply, keepL, memN, bxOf, tkOf, bxF, frzL, V.frz, frzEL, V.frzE, V.pureR, pureRL, V.tks, tksL, V.al, alL, V.rn, rnL, addT, protT, protAll, distinctN, fill, splice, fillE, eqSh, intsOf, maxL, minL, bounds, ranged, finish, result, rvs, finL, V.fin, one, goesOn, opd_t, opd_c, opd_f, opdV_box, opdV_int, opdV_bool, opdV_agg, opdV_tup, opdV_nil, opdV_sl, opdV_fn, opdV_ref, opdV_cref, opdV_eref, opdV_isSl, frz_isSl, frzE_isSl, cells_isSl, cellOk_isSl, pm_isSl, prep_isSl, fin_isSl, ranged_isSl, pureR_isSl, sem_len_isSl, sem_ixs_isSl, sem_len_sl, sem_len_nil, sem_ixs_none, sem_ixs_some, semR, semx_mv, semx_pick, semx_box, semx_alloc, semx_build, semx_bsl, semx_load, semx_store, semx_bin, semx_eqs, semx_un, semx_conv, semx_mkf, semx_mkm, semx_fa, semx_fld, semx_ixa, semx_idx, semx_mks, semx_sls, semx_ext, semx_call, semx_append, semx_appz, semx_trunc, semx_cap, semx_min, semx_max, semx_nilc, opdV_und, opdV_dead, opdV_none, cellOk_bool, cells_bool, cellOk_int, cells_int, cellOk_nil, cells_nil, cellOk_sl, cells_sl, cellOk_fn, cells_fn, cellOk_ref, cells_ref, cellOk_cref, cells_cref, cellOk_eref, cells_eref, cells_agg, pm_bool, pm_int, pm_nil, pm_slN, pm_slS, pm_fn, ha, hb, hc, hal, hbl, hcl, hF, A, hG, A2, c1, c2]
        · by_cases c3 : (15 : Int) < p.length
          · refine ⟨true, run_of_body (N := 21) rfl rfl ?_, fun x => by cases x⟩
            simp [l12, evBody, params, deadL, evC, prep, prepF, prepT, V.prep, prepL, stepL, stepI, wanted, opds, get, put, putO, callE, loadV, partV, valO, binV, binI, binS, unV, nilCmp, apply, keepL, memN, bxOf, tkOf, bxF, frzL, V.frz, frzEL, V.frzE, V.pureR, pureRL, V.tks, tksL, V.al, alL, V.rn, rnL, addT, protT, protAll, distinctN, fill, splice, fillE, eqSh, intsOf, maxL, minL, bounds, ranged, finish, result, rvs, finL, V.fin, one, goesOn, opd_t, opd_c, opd_f, opdV_box, opdV_int, opdV_bool, opdV_agg, opdV_tup, opdV_nil, opdV_sl, opdV_fn, opdV_ref, opdV_cref, opdV_eref, opdV_isSl, frz_isSl, frzE_isSl, cells_isSl, cellOk_isSl, pm_isSl, prep_isSl, fin_isSl, ranged_isSl, pureR_isSl, sem_len_isSl, sem_ixs_isSl, sem_len_sl, sem_len_nil, sem_ixs_none, sem_ixs_some, semR, semx_mv, semx_pick, semx_box, semx_alloc, semx_build, semx_bsl, semx_load, semx_store, semx_bin, semx_eqs, semx_un, semx_conv, semx_mkf, semx_mkm, semx_fa, semx_fld, semx_ixa, semx_idx, semx_mks, semx_sls, semx_ext, semx_call, semx_append, semx_appz, semx_trunc, semx_cap, semx_min, semx_max, semx_nilc, opdV_und, opdV_dead, opdV_none, cellOk_bool, cells_bool, cellOk_int, cells_int, cellOk_nil, cells_nil, cellOk_sl, cells_sl, cellOk_fn, cells_fn, cellOk_ref, cells_ref, cellOk_cref, cells_cref, cellOk_eref, cells_eref, cells_agg, pm_bool, pm_int, pm_nil, pm_slN, pm_slS, pm_fn, ha, hb, hc, hal, hbl, hcl, hF, A, hG, A2, c1, c2, c3]
          · have r1 := rows_le (g := g) (by omega) f1
            have r2 := rows_le (g := p) (by omega) f2
            by_cases c4 : chk s (lst2 g) (lst2 p) = 0
            · rw [c4] at e1
              by_cases c5 : rows < g.length
              · refine ⟨true, run_of_body (N := 21) rfl rfl ?_, fun x => by cases x⟩
                simp [l12, evBody, params, deadL, evC, prep, prepF, prepT, V.prep, prepL, stepL, stepI, wanted, opds, get, put, putO, callE, loadV, partV, valO, binV, binI, binS, unV, nilCmp, apply, keepL, memN, bxOf, tkOf, bxF, frzL, V.frz, frzEL, V.frzE, V.pureR, pureRL, V.tks, tksL, V.al, alL, V.rn, rnL, addT, protT, protAll, distinctN, fill, splice, fillE, eqSh, intsOf, maxL, minL, bounds, ranged, finish, result, rvs, finL, V.fin, one, goesOn, opd_t, opd_c, opd_f, opdV_box, opdV_int, opdV_bool, opdV_agg, opdV_tup, opdV_nil, opdV_sl, opdV_fn, opdV_ref, opdV_cref, opdV_eref, opdV_isSl, frz_isSl, frzE_isSl, cells_isSl, cellOk_isSl, pm_isSl, prep_isSl, fin_isSl, ranged_isSl, pureR_isSl, sem_len_isSl, sem_ixs_isSl, sem_len_sl, sem_len_nil, sem_ixs_none, sem_ixs_some, semR, semx_mv, semx_pick, semx_box, semx_alloc, semx_build, semx_bsl, semx_load, semx_store, semx_bin, semx_eqs, semx_un, semx_conv, semx_mkf, semx_mkm, semx_fa, semx_fld, semx_ixa, semx_idx, semx_mks, semx_sls, semx_ext, semx_call, semx_append, semx_appz, semx_trunc, semx_cap, semx_min, semx_max, semx_nilc, opdV_und, opdV_dead, opdV_none, cellOk_bool, cells_bool, cellOk_int, cells_int, cellOk_nil, cells_nil, cellOk_sl, cells_sl, cellOk_fn, cells_fn, cellOk_ref, cells_ref, cellOk_cref, cells_cref, cellOk_eref, cells_eref, cells_agg, pm_bool, pm_int, pm_nil, pm_slN, pm_slS, pm_fn, ha, hb, hc, hal, hbl, hcl, hF, A, hG, A2, c1, c2, c3, e1, c5]
              · by_cases c6 : rows < p.length
                · refine ⟨true, run_of_body (N := 21) rfl rfl ?_, fun x => by cases x⟩
                  simp [l12, evBody, params, deadL, evC, prep, prepF, prepT, V.prep, prepL, stepL, stepI, wanted, opds, get, put, putO, callE, loadV, partV, valO, binV, binI, binS, unV, nilCmp, apply, keepL, memN, bxOf, tkOf, bxF, frzL, V.frz, frzEL, V.frzE, V.pureR, pureRL, V.tks, tksL, V.al, alL, V.rn, rnL, addT, protT, protAll, distinctN, fill, splice, fillE, eqSh, intsOf, maxL, minL, bounds, ranged, finish, result, rvs, finL, V.fin, one, goesOn, opd_t, opd_c, opd_f, opdV_box, opdV_int, opdV_bool, opdV_agg, opdV_tup, opdV_nil, opdV_sl, opdV_fn, opdV_ref, opdV_cref, opdV_eref, opdV_isSl, frz_isSl, frzE_isSl, cells_isSl, cellOk_isSl, pm_isSl, prep_isSl, fin_isSl, ranged_isSl, pureR_isSl, sem_len_isSl, sem_ixs_isSl, sem_len_sl, sem_len_nil, sem_ixs_none, sem_ixs_some, semR, semx_mv, semx_pick, semx_box, semx_alloc, semx_build, semx_bsl, semx_load, semx_store, semx_bin, semx_eqs, semx_un, semx_conv, semx_mkf, semx_mkm, semx_fa, semx_fld, semx_ixa, semx_idx, semx_mks, semx_sls, semx_ext, semx_call, semx_append, semx_appz, semx_trunc, semx_cap, semx_min, semx_max, semx_nilc, opdV_und, opdV_dead, opdV_none, cellOk_bool, cells_bool, cellOk_int, cells_int, cellOk_nil, cells_nil, cellOk_sl, cells_sl, cellOk_fn, cells_fn, cellOk_ref, cells_ref, cellOk_cref, cells_cref, cellOk_eref, cells_eref, cells_agg, pm_bool, pm_int, pm_nil, pm_slN, pm_slS, pm_fn, ha, hb, hc, hal, hbl, hcl, hF, A, hG, A2, c1, c2, c3, e1, c5, c6]
                · refine ⟨false, run_of_body (N := 21) rfl rfl ?_, fun _ => ⟨by omega, by omega, by omega, r1, r2, fun _ => by omega⟩⟩
                  simp [l12, evBody, params, deadL, evC, prep, prepF, prepT, V.prep, prepL, stepL, stepI, wanted, opds, get, put, putO, callE, loadV, partV, valO, binV, binI, binS, unV, nilCmp, apply, keepL, memN, bxOf, tkOf, bxF, frzL, V.frz, frzEL, V.frzE, V.pureR, pureRL, V.tks, tksL, V.al, alL, V.rn, rnL, addT, protT, protAll, distinctN, fill, splice, fillE, eqSh, intsOf, maxL, minL, bounds, ranged, finish, result, rvs, finL, V.fin, one, goesOn, opd_t, opd_c, opd_f, opdV_box, opdV_int, opdV_bool, opdV_agg, opdV_tup, opdV_nil, opdV_sl, opdV_fn, opdV_ref, opdV_cref, opdV_eref, opdV_isSl, frz_isSl, frzE_isSl, cells_isSl, cellOk_isSl, pm_isSl, prep_isSl, fin_isSl, ranged_isSl, pureR_isSl, sem_len_isSl, sem_ixs_isSl, sem_len_sl, sem_len_nil, sem_ixs_none, sem_ixs_some, semR, semx_mv, semx_pick, semx_box, semx_alloc, semx_build, semx_bsl, semx_load, semx_store, semx_bin, semx_eqs, semx_un, semx_conv, semx_mkf, semx_mkm, semx_fa, semx_fld, semx_ixa, semx_idx, semx_mks, semx_sls, semx_ext, semx_call, semx_append, semx_appz, semx_trunc, semx_cap, semx_min, semx_max, semx_nilc, opdV_und, opdV_dead, opdV_none, cellOk_bool, cells_bool, cellOk_int, cells_int, cellOk_nil, cells_nil, cellOk_sl, cells_sl, cellOk_fn, cells_fn, cellOk_ref, cells_ref, cellOk_cref, cells_cref, cellOk_eref, cells_eref, cells_agg, pm_bool, pm_int, pm_nil, pm_slN, pm_slS, pm_fn, ha, hb, hc, hal, hbl, hcl, hF, A, hG, A2, c1, c2, c3, e1, c5, c6]
            · refine ⟨false, run_of_body (N := 21) rfl rfl ?_, fun _ => ⟨by omega, by omega, by omega, r1, r2, fun x => absurd x c4⟩⟩
              generalize chk s (lst2 g) (lst2 p) = e at *
              simp [l12, evBody, params, deadL, evC, prep, prepF, prepT, V.prep, prepL, stepL, stepI, wanted, opds, get, put, putO, callE, loadV, partV, valO, binV, binI, binS, unV, nilCmp, apply, keepL, memN, bxOf, tkOf, bxF, frzL, V.frz, frzEL, V.frzE, V.pureR, pureRL, V.tks, tksL, V.al, alL, V.rn, rnL, addT, protT, protAll, distinctN, fill, splice, fillE, eqSh, intsOf, maxL, minL, bounds, ranged, finish, result, rvs, finL, V.fin, one, goesOn, opd_t, opd_c, opd_f, opdV_box, opdV_int, opdV_bool, opdV_agg, opdV_tup, opdV_nil, opdV_sl, opdV_fn, opdV_ref, opdV_cref, opdV_eref, opdV_isSl, frz_isSl, frzE_isSl, cells_isSl, cellOk_isSl, pm_isSl, prep_isSl, fin_isSl, ranged_isSl, pureR_isSl, sem_len_isSl, sem_ixs_isSl, sem_len_sl, sem_len_nil, sem_ixs_none, sem_ixs_some, semR, semx_mv, semx_pick, semx_box, semx_alloc, semx_build, semx_bsl, semx_load, semx_store, semx_bin, semx_eqs, semx_un, semx_conv, semx_mkf, semx_mkm, semx_fa, semx_fld, semx_ixa, semx_idx, semx_mks, semx_sls, semx_ext, semx_call, semx_append, semx_appz, semx_trunc, semx_cap, semx_min, semx_max, semx_nilc, opdV_und, opdV_dead, opdV_none, cellOk_bool, cells_bool, cellOk_int, cells_int, cellOk_nil, cells_nil, cellOk_sl, cells_sl, cellOk_fn, cells_fn, cellOk_ref, cells_ref, cellOk_cref, cells_cref, cellOk_eref, cells_eref, cells_agg, pm_bool, pm_int, pm_nil, pm_slN, pm_slS, pm_fn, ha, hb, hc, hal, hbl, hcl, hF, A, hG, A2, c1, c2, c3, e1, c4]
end Go.Lo
/-! Copies of tables; same tables. -/
namespace Go.Lo
open Go.Proofs
set_option linter.unusedSimpArgs false
/-! ### same -/
theorem same_rows {b1 b2 : V} {g1 g2 : List (V × List Int)} (h1 : RowsV b1 g1) (h2 : RowsV b2 g2) (he : lst2 g1 = lst2 g2) {i : Nat} (hi : i < g1.length) (hl : ∀ r ∈ g1, r.2.length ≤ 1000) :
    ∃ r1 r2, (els b1)[i]? = some [r1] ∧ (els b2)[i]? = some [r2] ∧ isSl r1 ∧ isSl r2 ∧ run Ft Ct 63 [r1, r2] = some (B true) := by
  have hn : g1.length = g2.length := by rw [← lst2_len g1, he, lst2_len]
  obtain ⟨e1, e2⟩ := h1.get hi
  obtain ⟨e3, e4⟩ := h2.get (i := i) (by omega)
  have hx : g1[i].2 = (g2[i]'(by omega)).2 := by
    rw [← lst2_getD hi, ← lst2_getD (rs := g2) (i := i) (by omega), he]
  have := run63 e2 e4 (by have := hl _ (List.getElem_mem hi); omega)
  rw [decide_eq_true hx] at this
  exact ⟨_, _, e1, e3, e2.sl, e4.sl, this⟩
def s19a (a1 b1 c1 a2 b2 c2 : V) (i : Nat) : St := { fr := [(2, .box [a1, b1, c1]), (3, .box [a2, b2, c2]), (5, I i)], tk := [] }
def s19b (a1 b1 c1 a2 b2 c2 : V) (i : Nat) : St := { fr := [(2, .box [a1, b1, c1]), (3, .box [a2, b2, c2]), (6, I i)], tk := [] }
set_option maxHeartbeats 8000000 in
theorem run19 {a1 b1 c1 a2 b2 c2 : V} {s : List Int} {g1 p1 g2 p2 : List (V × List Int)} (h1 : Tab a1 b1 c1 s g1 p1) (h2 : Tab a2 b2 c2 s g2 p2) (hg : lst2 g1 = lst2 g2) (hp : lst2 p1 = lst2 p2)
    (hs : s.length ≤ 1000) (hgl : g1.length ≤ 1000) (hpl : p1.length ≤ 1000) (hgr : ∀ r ∈ g1, r.2.length ≤ 1000) (hpr : ∀ r ∈ p1, r.2.length ≤ 1000) :
    run Ft Ct 19 [.agg [a1, b1, c1], .agg [a2, b2, c2]] = some (B true) := by
  have ha1 := h1.a.sl
  have hb1 := h1.b.sl
  have hc1 := h1.c.sl
  have ha2 := h2.a.sl
  have hb2 := h2.b.sl
  have hc2 := h2.c.sl
  have lg : g2.length = g1.length := by rw [← lst2_len g1, hg, lst2_len]
  have lp : p2.length = p1.length := by rw [← lst2_len p1, hp, lst2_len]
  have l1 := h1.b.len
  have l2 := h2.b.len
  have l3 := h1.c.len
  have l4 := h2.c.len
  rw [lg] at l2
  rw [lp] at l4
  have e0 := run63 h1.a h2.a (by omega)
  rw [decide_eq_true rfl] at e0
  have A := loop_all (s := s19a a1 b1 c1 a2 b2 c2) (f := evC (run Ft Ct) 1001 b19_0) (n := g1.length) (X := (.exit 0, { fr := [(2, .box [a1, b1, c1]), (3, .box [a2, b2, c2]), (5, I g1.length), (35, B false)], tk := [] }))
    (fun i hi => by
      obtain ⟨r1, r2, e1, e2, e3, e4, e5⟩ := same_rows h1.b h2.b hg hi hgr
      have hlt : (i : Int) < g1.length := by omega
      have hw : IntKind.i64.wrap ((i : Int) + 1) = ((i + 1 : Nat) : Int) := wrap_succ hi (by omega)
      unfold s19a
      generalize ((i + 1 : Nat) : Int) = m at *
      simp [b19_0, evBody, params, deadL, evC, prep, prepF, prepT, V.prep, prepL, stepL, stepI, wanted, opds, get, put, putO, callE, loadV, partV, valO, binV, binI, binS, unV, nilCmp, apply, keepL, memN, bxOf, tkOf, bxF, frzL, V.frz, frzEL, V.frzE, V.pureR, pureRL, V.tks, tksL, V.al, alL, V.rn, rnL, addT, protT, protAll, distinctN, fill, splice, fillE, eqSh, intsOf, maxL, minL, bounds, ranged, finish, result, rvs, finL, V.fin, one, goesOn, opd_t, opd_c, opd_f, opdV_box, opdV_int, opdV_bool, opdV_agg, opdV_tup, opdV_nil, opdV_sl, opdV_fn, opdV_ref, opdV_cref, opdV_eref, opdV_isSl, frz_isSl, frzE_isSl, cells_isSl, cellOk_isSl, pm_isSl, prep_isSl, fin_isSl, ranged_isSl, pureR_isSl, sem_len_isSl, sem_ixs_isSl, sem_len_sl, sem_len_nil, sem_ixs_none, sem_ixs_some, semR, semx_mv, semx_pick, semx_box, semx_alloc, semx_build, semx_bsl, semx_load, semx_store, semx_bin, semx_eqs, semx_un, semx_conv, semx_mkf, semx_mkm, semx_fa, semx_fld, semx_ixa, semx_idx, semx_mks, semx_sls, semx_ext, semx_call, semx_append, semx_appz, semx_trunc, semx_cap, semx_min, semx_max, semx_nilc, opdV_und, opdV_dead, opdV_none, cellOk_bool, cells_bool, cellOk_int, cells_int, cellOk_nil, cells_nil, cellOk_sl, cells_sl, cellOk_fn, cells_fn, cellOk_ref, cells_ref, cellOk_cref, cells_cref, cellOk_eref, cells_eref, cells_agg, pm_bool, pm_int, pm_nil, pm_slN, pm_slS, pm_fn, ha1, hb1, hc1, ha2, hb2, hc2, l1, l2, hlt, hw, e1, e2, e3, e4, e5]) (by simp [b19_0, s19a, evBody, params, deadL, evC, prep, prepF, prepT, V.prep, prepL, stepL, stepI, wanted, opds, get, put, putO, callE, loadV, partV, valO, binV, binI, binS, unV, nilCmp, apply, keepL, memN, bxOf, tkOf, bxF, frzL, V.frz, frzEL, V.frzE, V.pureR, pureRL, V.tks, tksL, V.al, alL, V.rn, rnL, addT, protT, protAll, distinctN, fill, splice, fillE, eqSh, intsOf, maxL, minL, bounds, ranged, finish, result, rvs, finL, V.fin, one, goesOn, opd_t, opd_c, opd_f, opdV_box, opdV_int, opdV_bool, opdV_agg, opdV_tup, opdV_nil, opdV_sl, opdV_fn, opdV_ref, opdV_cref, opdV_eref, opdV_isSl, frz_isSl, frzE_isSl, cells_isSl, cellOk_isSl, pm_isSl, prep_isSl, fin_isSl, ranged_isSl, pureR_isSl, sem_len_isSl, sem_ixs_isSl, sem_len_sl, sem_len_nil, sem_ixs_none, sem_ixs_some, semR, semx_mv, semx_pick, semx_box, semx_alloc, semx_build, semx_bsl, semx_load, semx_store, semx_bin, semx_eqs, semx_un, semx_conv, semx_mkf, semx_mkm, semx_fa, semx_fld, semx_ixa, semx_idx, semx_mks, semx_sls, semx_ext, semx_call, semx_append, semx_appz, semx_trunc, semx_cap, semx_min, semx_max, semx_nilc, opdV_und, opdV_dead, opdV_none, cellOk_bool, cells_bool, cellOk_int, cells_int, cellOk_nil, cells_nil, cellOk_sl, cells_sl, cellOk_fn, cells_fn, cellOk_ref, cells_ref, cellOk_cref, cells_cref, cellOk_eref, cells_eref, cells_agg, pm_bool, pm_int, pm_nil, pm_slN, pm_slS, pm_fn, ha1, hb1, hc1, ha2, hb2, hc2, l1]) (by simp)
  have A2 := loop_all (s := s19b a1 b1 c1 a2 b2 c2) (f := evC (run Ft Ct) 1001 b19_1) (n := p1.length) (X := (.exit 2, { fr := [(2, .box [a1, b1, c1]), (3, .box [a2, b2, c2]), (6, I p1.length), (54, B false)], tk := [] }))
    (fun i hi => by
      obtain ⟨r1, r2, e1, e2, e3, e4, e5⟩ := same_rows h1.c h2.c hp hi hpr
      have hlt : (i : Int) < p1.length := by omega
      have hw : IntKind.i64.wrap ((i : Int) + 1) = ((i + 1 : Nat) : Int) := wrap_succ hi (by omega)
      unfold s19b
      generalize ((i + 1 : Nat) : Int) = m at *
      simp [b19_1, evBody, params, deadL, evC, prep, prepF, prepT, V.prep, prepL, stepL, stepI, wanted, opds, get, put, putO, callE, loadV, partV, valO, binV, binI, binS, unV, nilCmp, apply, keepL, memN, bxOf, tkOf, bxF, frzL, V.frz, frzEL, V.frzE, V.pureR, pureRL, V.tks, tksL, V.al, alL, V.rn, rnL, addT, protT, protAll, distinctN, fill, splice, fillE, eqSh, intsOf, maxL, minL, bounds, ranged, finish, result, rvs, finL, V.fin, one, goesOn, opd_t, opd_c, opd_f, opdV_box, opdV_int, opdV_bool, opdV_agg, opdV_tup, opdV_nil, opdV_sl, opdV_fn, opdV_ref, opdV_cref, opdV_eref, opdV_isSl, frz_isSl, frzE_isSl, cells_isSl, cellOk_isSl, pm_isSl, prep_isSl, fin_isSl, ranged_isSl, pureR_isSl, sem_len_isSl, sem_ixs_isSl, sem_len_sl, sem_len_nil, sem_ixs_none, sem_ixs_some, semR, semx_mv, semx_pick, semx_box, semx_alloc, semx_build, semx_bsl, semx_load, semx_store, semx_bin, semx_eqs, semx_un, semx_conv, semx_mkf, semx_mkm, semx_fa, semx_fld, semx_ixa, semx_idx, semx_mks, semx_sls, semx_ext, semx_call, semx_append, semx_appz, semx_trunc, semx_cap, semx_min, semx_max, semx_nilc, opdV_und, opdV_dead, opdV_none, cellOk_bool, cells_bool, cellOk_int, cells_int, cellOk_nil, cells_nil, cellOk_sl, cells_sl, cellOk_fn, cells_fn, cellOk_ref, cells_ref, cellOk_cref, cells_cref, cellOk_eref, cells_eref, cells_agg, pm_bool, pm_int, pm_nil, pm_slN, pm_slS, pm_fn, ha1, hb1, hc1, ha2, hb2, hc2, l3, l4, hlt, hw, e1, e2, e3, e4, e5]) (by simp [b19_1, s19b, evBody, params, deadL, evC, prep, prepF, prepT, V.prep, prepL, stepL, stepI, wanted, opds, get, put, putO, callE, loadV, partV, valO, binV, binI, binS, unV, nilCmp, apply, keepL, memN, bxOf, tkOf, bxF, frzL, V.frz, frzEL, V.frzE, V.pureR, pureRL, V.tks, tksL, V.al, alL, V.rn, rnL, addT, protT, protAll, distinctN, fill, splice, fillE, eqSh, intsOf, maxL, minL, bounds, ranged, finish, result, rvs, finL, V.fin, one, goesOn, opd_t, opd_c, opd_f, opdV_box, opdV_int, opdV_bool, opdV_agg, opdV_tup, opdV_nil, opdV_sl, opdV_fn, opdV_ref, opdV_cref, opdV_eref, opdV_isSl, frz_isSl, frzE_isSl, cells_isSl, cellOk_isSl, pm_isSl, prep_isSl, fin_isSl, ranged_isSl, pureR_isSl, sem_len_isSl, sem_ixs_isSl, sem_len_sl, sem_len_nil, sem_ixs_none, sem_ixs_some, semR, semx_mv, semx_pick, semx_box, semx_alloc, semx_build, semx_bsl, semx_load, semx_store, semx_bin, semx_eqs, semx_un, semx_conv, semx_mkf, semx_mkm, semx_fa, semx_fld, semx_ixa, semx_idx, semx_mks, semx_sls, semx_ext, semx_call, semx_append, semx_appz, semx_trunc, semx_cap, semx_min, semx_max, semx_nilc, opdV_und, opdV_dead, opdV_none, cellOk_bool, cells_bool, cellOk_int, cells_int, cellOk_nil, cells_nil, cellOk_sl, cells_sl, cellOk_fn, cells_fn, cellOk_ref, cells_ref, cellOk_cref, cells_cref, cellOk_eref, cells_eref, cells_agg, pm_bool, pm_int, pm_nil, pm_slN, pm_slS, pm_fn, ha1, hb1, hc1, ha2, hb2, hc2, l3]) (by simp)
  have A := iter_le (f := evC (run Ft Ct) 1001 b19_0) (fun _ _ h => h) (show g1.length + 1 ≤ 1001 by omega) A
  have A2 := iter_le (f := evC (run Ft Ct) 1001 b19_1) (fun _ _ h => h) (show p1.length + 1 ≤ 1001 by omega) A2
  refine run_of_body (N := 1001) rfl rfl ?_
  generalize hF : evC (run Ft Ct) 1001 b19_0 = F at A
  generalize hG : evC (run Ft Ct) 1001 b19_1 = G at A2
  simp [s19a] at A
  simp [s19b] at A2
  simp [l19, evBody, params, deadL, evC, prep, prepF, prepT, V.prep, prepL, stepL, stepI, wanted, opds, get, put, putO, callE, loadV, partV, valO, binV, binI, binS, unV, nilCmp, apply, keepL, memN, bxOf, tkOf, bxF, frzL, V.frz, frzEL, V.frzE, V.pureR, pureRL, V.tks, tksL, V.al, alL, V.rn, rnL, addT, protT, protAll, distinctN, fill, splice, fillE, eqSh, intsOf, maxL, minL, bounds, ranged, finish, result, rvs, finL, V.fin, one, goesOn, opd_t, opd_c, opd_f, opdV_box, opdV_int, opdV_bool, opdV_agg, opdV_tup, opdV_nil, opdV_sl, opdV_fn, opdV_ref, opdV_cref, opdV_eref, opdV_isSl, frz_isSl, frzE_isSl, cells_isSl, cellOk_isSl, pm_isSl, prep_isSl, fin_isSl, ranged_isSl, pureR_isSl, sem_len_isSl, sem_ixs_isSl, sem_len_sl, sem_len_nil, sem_ixs_none, sem_ixs_some, semR, semx_mv, semx_pick, semx_box, semx_alloc, semx_build, semx_bsl, semx_load, semx_store, semx_bin, semx_eqs, semx_un, semx_conv, semx_mkf, semx_mkm, semx_fa, semx_fld, semx_ixa, semx_idx, semx_mks, semx_sls, semx_ext, semx_call, semx_append, semx_appz, semx_trunc, semx_cap, semx_min, semx_max, semx_nilc, opdV_und, opdV_dead, opdV_none, cellOk_bool, cells_bool, cellOk_int, cells_int, cellOk_nil, cells_nil, cellOk_sl, cells_sl, cellOk_fn, cells_fn, cellOk_ref, cells_ref, cellOk_cref, cells_cref, cellOk_eref, cells_eref, cells_agg, pm_bool, pm_int, pm_nil, pm_slN, pm_slS, pm_fn, ha1, hb1, hc1, ha2, hb2, hc2, l1, l2, l3, l4, e0, hF, A, hG, A2]
/-! ### A copy of a table -/
def cpyE (rs : List (V × List Int)) : List (List V) := rs.map fun r => [.sl none 1 (eI r.2)]
theorem cpyE_len (rs : List (V × List Int)) : (cpyE rs).length = rs.length := by simp [cpyE]
theorem cpyE_take {rs : List (V × List Int)} {i : Nat} (hi : i < rs.length) : cpyE (rs.take (i + 1)) = cpyE (rs.take i) ++ [[.sl none 1 (eI rs[i].2)]] := by
  unfold cpyE
  rw [List.take_add_one, List.map_append]
  simp [hi]
def gv (t : Nat) (n : Nat) (rs : List (V × List Int)) (i : Nat) : V := if i = 0 then .nil else .sl (some t) 1 (cpyE (rs.take i))
def tkA (s : List Int) (k : Nat) (i : Nat) : List (Nat × Nat × Bool) := if i = 0 then [(800, s.length, true)] else [(800, s.length, true), (2400, k, false), (2500, 1, true), (2600, i, true)]
def s14a (a b c : V) (s : List Int) (g : List (V × List Int)) (i : Nat) : St := { fr := [(1, .box [a, b, c]), (2, .box [.nil, .nil, .nil]), (3, .box [.sl (some 800) 1 (eI s), gv 2600 0 g i, .nil]), (4, I i)], tk := tkA s (rl g (i - 1)) i }
set_option maxHeartbeats 8000000 in
theorem step14a {a b c : V} {s : List Int} {g p : List (V × List Int)} (h : Tab a b c s g p) (hl : g.length ≤ 15) (hr : ∀ r ∈ g, r.2.length ≤ 25) {i : Nat} (hi : i < g.length) (M : Nat) :
    evC (run Ft Ct) M b14_0 (s14a a b c s g i) = some (.normal, s14a a b c s g (i + 1)) := by
  have ha := h.a.sl
  have hb := h.b.sl
  have hc := h.c.sl
  have hbl := h.b.len
  obtain ⟨e1, e2⟩ := h.b.get hi
  have e3 := e2.sl
  have e53 := run53 e2 (by have := hr _ (List.getElem_mem hi); omega)
  have hlt : (i : Int) < g.length := by omega
  have hw : IntKind.i64.wrap ((i : Int) + 1) = ((i + 1 : Nat) : Int) := wrap_succ hi (by omega)
  have hk : rl g i = g[i].2.length := by unfold rl; rw [lst2_getD hi]
  have hct := cpyE_take hi
  have hcl := cpyE_len (g.take i)
  rw [List.length_take, Nat.min_eq_left (by omega)] at hcl
  unfold s14a gv tkA
  simp only [Nat.add_sub_cancel, hk, show ¬ (i + 1 = 0) by omega, if_false]
  rw [hct]
  generalize g[i].2 = xs at *
  generalize g[i].1 = r at *
  by_cases h0 : i = 0
  · subst h0
    simp only [if_true]
    have hc0 : cpyE (g.take 0) = [] := rfl
    rw [hc0]
    simp at hw
    obtain ⟨rest, hels⟩ : ∃ rest, els b = [r] :: rest := by
      cases hx : els b with
      | nil => rw [hx] at e1; simp at e1
      | cons y ys => rw [hx] at e1; simp at e1; exact ⟨ys, by rw [e1]⟩
    simp [b14_0, evBody, params, deadL, evC, prep, prepF, prepT, V.prep, prepL, stepL, stepI, wanted, opds, get, put, putO, callE, loadV, partV, valO, binV, binI, binS, unV, nilCmp, apply, keepL, memN, bxOf, tkOf, bxF, frzL, V.frz, frzEL, V.frzE, V.pureR, pureRL, V.tks, tksL, V.al, alL, V.rn, rnL, addT, protT, protAll, distinctN, fill, splice, fillE, eqSh, intsOf, maxL, minL, bounds, ranged, finish, result, rvs, finL, V.fin, one, goesOn, opd_t, opd_c, opd_f, opdV_box, opdV_int, opdV_bool, opdV_agg, opdV_tup, opdV_nil, opdV_sl, opdV_fn, opdV_ref, opdV_cref, opdV_eref, opdV_isSl, frz_isSl, frzE_isSl, cells_isSl, cellOk_isSl, pm_isSl, prep_isSl, fin_isSl, ranged_isSl, pureR_isSl, sem_len_isSl, sem_ixs_isSl, sem_len_sl, sem_len_nil, sem_ixs_none, sem_ixs_some, semR, semx_mv, semx_pick, semx_box, semx_alloc, semx_build, semx_bsl, semx_load, semx_store, semx_bin, semx_eqs, semx_un, semx_conv, semx_mkf, semx_mkm, semx_fa, semx_fld, semx_ixa, semx_idx, semx_mks, semx_sls, semx_ext, semx_call, semx_append, semx_appz, semx_trunc, semx_cap, semx_min, semx_max, semx_nilc, opdV_und, opdV_dead, opdV_none, cellOk_bool, cells_bool, cellOk_int, cells_int, cellOk_nil, cells_nil, cellOk_sl, cells_sl, cellOk_fn, cells_fn, cellOk_ref, cells_ref, cellOk_cref, cells_cref, cellOk_eref, cells_eref, cells_agg, pm_bool, pm_int, pm_nil, pm_slN, pm_slS, pm_fn, ha, hb, hc, hels, hw, e3, e53, flatE_eI, eI_len]
  · simp only [h0, if_false]
    generalize cpyE (g.take i) = es at *
    generalize ((i + 1 : Nat) : Int) = m at *
    have hb24 : (i + 1) * 24 ≤ 140737488355328 := by omega
    simp [b14_0, evBody, params, deadL, evC, prep, prepF, prepT, V.prep, prepL, stepL, stepI, wanted, opds, get, put, putO, callE, loadV, partV, valO, binV, binI, binS, unV, nilCmp, apply, keepL, memN, bxOf, tkOf, bxF, frzL, V.frz, frzEL, V.frzE, V.pureR, pureRL, V.tks, tksL, V.al, alL, V.rn, rnL, addT, protT, protAll, distinctN, fill, splice, fillE, eqSh, intsOf, maxL, minL, bounds, ranged, finish, result, rvs, finL, V.fin, one, goesOn, opd_t, opd_c, opd_f, opdV_box, opdV_int, opdV_bool, opdV_agg, opdV_tup, opdV_nil, opdV_sl, opdV_fn, opdV_ref, opdV_cref, opdV_eref, opdV_isSl, frz_isSl, frzE_isSl, cells_isSl, cellOk_isSl, pm_isSl, prep_isSl, fin_isSl, ranged_isSl, pureR_isSl, sem_len_isSl, sem_ixs_isSl, sem_len_sl, sem_len_nil, sem_ixs_none, sem_ixs_some, semR, semx_mv, semx_pick, semx_box, semx_alloc, semx_build, semx_bsl, semx_load, semx_store, semx_bin, semx_eqs, semx_un, semx_conv, semx_mkf, semx_mkm, semx_fa, semx_fld, semx_ixa, semx_idx, semx_mks, semx_sls, semx_ext, semx_call, semx_append, semx_appz, semx_trunc, semx_cap, semx_min, semx_max, semx_nilc, opdV_und, opdV_dead, opdV_none, cellOk_bool, cells_bool, cellOk_int, cells_int, cellOk_nil, cells_nil, cellOk_sl, cells_sl, cellOk_fn, cells_fn, cellOk_ref, cells_ref, cellOk_cref, cells_cref, cellOk_eref, cells_eref, cells_agg, pm_bool, pm_int, pm_nil, pm_slN, pm_slS, pm_fn, ha, hb, hc, hbl, hlt, hw, e1, e3, e53, flatE_eI, eI_len, lenT, hcl, hb24]
end Go.Lo
/-! A copy of a table, whole. -/
namespace Go.Lo
open Go.Proofs
set_option linter.unusedSimpArgs false
def tkB (s : List Int) (kg n k : Nat) (i : Nat) : List (Nat × Nat × Bool) := tkA s kg n ++ (if i = 0 then [] else [(4200, k, false), (4300, 1, true), (4400, i, true)])
def s14b (a b c : V) (s : List Int) (g p : List (V × List Int)) (n i : Nat) : St := { fr := [(1, .box [a, b, c]), (2, .box [.nil, .nil, .nil]), (3, .box [.sl (some 800) 1 (eI s), gv 2600 0 g n, gv 4400 0 p i]), (5, I i)], tk := tkB s (rl g (n - 1)) n (rl p (i - 1)) i }
set_option maxHeartbeats 8000000 in
theorem step14b {a b c : V} {s : List Int} {g p : List (V × List Int)} (h : Tab a b c s g p) (hl : p.length ≤ 15) (hr : ∀ r ∈ p, r.2.length ≤ 25) (n : Nat) {i : Nat} (hi : i < p.length) (M : Nat) :
    evC (run Ft Ct) M b14_1 (s14b a b c s g p n i) = some (.normal, s14b a b c s g p n (i + 1)) := by
  have ha := h.a.sl
  have hb := h.b.sl
  have hc := h.c.sl
  have hbl := h.c.len
  obtain ⟨e1, e2⟩ := h.c.get hi
  have e3 := e2.sl
  have e53 := run53 e2 (by have := hr _ (List.getElem_mem hi); omega)
  have hlt : (i : Int) < p.length := by omega
  have hw : IntKind.i64.wrap ((i : Int) + 1) = ((i + 1 : Nat) : Int) := wrap_succ hi (by omega)
  have hk : rl p i = p[i].2.length := by unfold rl; rw [lst2_getD hi]
  have hct := cpyE_take hi
  have hcl := cpyE_len (p.take i)
  rw [List.length_take, Nat.min_eq_left (by omega)] at hcl
  unfold s14b gv tkB tkA
  simp only [Nat.add_sub_cancel, hk, show ¬ (i + 1 = 0) by omega, if_false]
  rw [hct]
  generalize p[i].2 = xs at *
  generalize p[i].1 = r at *
  generalize cpyE (g.take n) = gs at *
  generalize rl g (n - 1) = kg at *
  by_cases h0 : i = 0
  · subst h0
    simp only [if_true]
    have hc0 : cpyE (p.take 0) = [] := rfl
    rw [hc0]
    simp at hw
    obtain ⟨rest, hels⟩ : ∃ rest, els c = [r] :: rest := by
      cases hx : els c with
      | nil => rw [hx] at e1; simp at e1
      | cons y ys => rw [hx] at e1; simp at e1; exact ⟨ys, by rw [e1]⟩
    cases n with
    | zero => simp [b14_1, evBody, params, deadL, evC, prep, prepF, prepT, V.prep, prepL, stepL, stepI, wanted, opds, get, put, putO, callE, loadV, partV, valO, binV, binI, binS, unV, nilCmp, apply, keepL, memN, bxOf, tkOf, bxF, frzL, V.frz, frzEL, V.frzE, V.pureR, pureRL, V.tks, tksL, V.al, alL, V.rn, rnL, addT, protT, protAll, distinctN, fill, splice, fillE, eqSh, intsOf, maxL, minL, bounds, ranged, finish, result, rvs, finL, V.fin, one, goesOn, opd_t, opd_c, opd_f, opdV_box, opdV_int, opdV_bool, opdV_agg, opdV_tup, opdV_nil, opdV_sl, opdV_fn, opdV_ref, opdV_cref, opdV_eref, opdV_isSl, frz_isSl, frzE_isSl, cells_isSl, cellOk_isSl, pm_isSl, prep_isSl, fin_isSl, ranged_isSl, pureR_isSl, sem_len_isSl, sem_ixs_isSl, sem_len_sl, sem_len_nil, sem_ixs_none, sem_ixs_some, semR, semx_mv, semx_pick, semx_box, semx_alloc, semx_build, semx_bsl, semx_load, semx_store, semx_bin, semx_eqs, semx_un, semx_conv, semx_mkf, semx_mkm, semx_fa, semx_fld, semx_ixa, semx_idx, semx_mks, semx_sls, semx_ext, semx_call, semx_append, semx_appz, semx_trunc, semx_cap, semx_min, semx_max, semx_nilc, opdV_und, opdV_dead, opdV_none, cellOk_bool, cells_bool, cellOk_int, cells_int, cellOk_nil, cells_nil, cellOk_sl, cells_sl, cellOk_fn, cells_fn, cellOk_ref, cells_ref, cellOk_cref, cells_cref, cellOk_eref, cells_eref, cells_agg, pm_bool, pm_int, pm_nil, pm_slN, pm_slS, pm_fn, ha, hb, hc, hels, hw, e3, e53, flatE_eI, eI_len]
    | succ m => simp [b14_1, evBody, params, deadL, evC, prep, prepF, prepT, V.prep, prepL, stepL, stepI, wanted, opds, get, put, putO, callE, loadV, partV, valO, binV, binI, binS, unV, nilCmp, apply, keepL, memN, bxOf, tkOf, bxF, frzL, V.frz, frzEL, V.frzE, V.pureR, pureRL, V.tks, tksL, V.al, alL, V.rn, rnL, addT, protT, protAll, distinctN, fill, splice, fillE, eqSh, intsOf, maxL, minL, bounds, ranged, finish, result, rvs, finL, V.fin, one, goesOn, opd_t, opd_c, opd_f, opdV_box, opdV_int, opdV_bool, opdV_agg, opdV_tup, opdV_nil, opdV_sl, opdV_fn, opdV_ref, opdV_cref, opdV_eref, opdV_isSl, frz_isSl, frzE_isSl, cells_isSl, cellOk_isSl, pm_isSl, prep_isSl, fin_isSl, ranged_isSl, pureR_isSl, sem_len_isSl, sem_ixs_isSl, sem_len_sl, sem_len_nil, sem_ixs_none, sem_ixs_some, semR, semx_mv, semx_pick, semx_box, semx_alloc, semx_build, semx_bsl, semx_load, semx_store, semx_bin, semx_eqs, semx_un, semx_conv, semx_mkf, semx_mkm, semx_fa, semx_fld, semx_ixa, semx_idx, semx_mks, semx_sls, semx_ext, semx_call, semx_append, semx_appz, semx_trunc, semx_cap, semx_min, semx_max, semx_nilc, opdV_und, opdV_dead, opdV_none, cellOk_bool, cells_bool, cellOk_int, cells_int, cellOk_nil, cells_nil, cellOk_sl, cells_sl, cellOk_fn, cells_fn, cellOk_ref, cells_ref, cellOk_cref, cells_cref, cellOk_eref, cells_eref, cells_agg, pm_bool, pm_int, pm_nil, pm_slN, pm_slS, pm_fn, ha, hb, hc, hels, hw, e3, e53, flatE_eI, eI_len]
  · simp only [h0, if_false]
    generalize cpyE (p.take i) = es at *
    generalize ((i + 1 : Nat) : Int) = m at *
    have hb24 : (i + 1) * 24 ≤ 140737488355328 := by omega
    cases n with
    | zero => simp [b14_1, evBody, params, deadL, evC, prep, prepF, prepT, V.prep, prepL, stepL, stepI, wanted, opds, get, put, putO, callE, loadV, partV, valO, binV, binI, binS, unV, nilCmp, apply, keepL, memN, bxOf, tkOf, bxF, frzL, V.frz, frzEL, V.frzE, V.pureR, pureRL, V.tks, tksL, V.al, alL, V.rn, rnL, addT, protT, protAll, distinctN, fill, splice, fillE, eqSh, intsOf, maxL, minL, bounds, ranged, finish, result, rvs, finL, V.fin, one, goesOn, opd_t, opd_c, opd_f, opdV_box, opdV_int, opdV_bool, opdV_agg, opdV_tup, opdV_nil, opdV_sl, opdV_fn, opdV_ref, opdV_cref, opdV_eref, opdV_isSl, frz_isSl, frzE_isSl, cells_isSl, cellOk_isSl, pm_isSl, prep_isSl, fin_isSl, ranged_isSl, pureR_isSl, sem_len_isSl, sem_ixs_isSl, sem_len_sl, sem_len_nil, sem_ixs_none, sem_ixs_some, semR, semx_mv, semx_pick, semx_box, semx_alloc, semx_build, semx_bsl, semx_load, semx_store, semx_bin, semx_eqs, semx_un, semx_conv, semx_mkf, semx_mkm, semx_fa, semx_fld, semx_ixa, semx_idx, semx_mks, semx_sls, semx_ext, semx_call, semx_append, semx_appz, semx_trunc, semx_cap, semx_min, semx_max, semx_nilc, opdV_und, opdV_dead, opdV_none, cellOk_bool, cells_bool, cellOk_int, cells_int, cellOk_nil, cells_nil, cellOk_sl, cells_sl, cellOk_fn, cells_fn, cellOk_ref, cells_ref, cellOk_cref, cells_cref, cellOk_eref, cells_eref, cells_agg, pm_bool, pm_int, pm_nil, pm_slN, pm_slS, pm_fn, ha, hb, hc, hbl, hlt, hw, e1, e3, e53, flatE_eI, eI_len, lenT, hcl, hb24]
    | succ m => simp [b14_1, evBody, params, deadL, evC, prep, prepF, prepT, V.prep, prepL, stepL, stepI, wanted, opds, get, put, putO, callE, loadV, partV, valO, binV, binI, binS, unV, nilCmp, apply, keepL, memN, bxOf, tkOf, bxF, frzL, V.frz, frzEL, V.frzE, V.pureR, pureRL, V.tks, tksL, V.al, alL, V.rn, rnL, addT, protT, protAll, distinctN, fill, splice, fillE, eqSh, intsOf, maxL, minL, bounds, ranged, finish, result, rvs, finL, V.fin, one, goesOn, opd_t, opd_c, opd_f, opdV_box, opdV_int, opdV_bool, opdV_agg, opdV_tup, opdV_nil, opdV_sl, opdV_fn, opdV_ref, opdV_cref, opdV_eref, opdV_isSl, frz_isSl, frzE_isSl, cells_isSl, cellOk_isSl, pm_isSl, prep_isSl, fin_isSl, ranged_isSl, pureR_isSl, sem_len_isSl, sem_ixs_isSl, sem_len_sl, sem_len_nil, sem_ixs_none, sem_ixs_some, semR, semx_mv, semx_pick, semx_box, semx_alloc, semx_build, semx_bsl, semx_load, semx_store, semx_bin, semx_eqs, semx_un, semx_conv, semx_mkf, semx_mkm, semx_fa, semx_fld, semx_ixa, semx_idx, semx_mks, semx_sls, semx_ext, semx_call, semx_append, semx_appz, semx_trunc, semx_cap, semx_min, semx_max, semx_nilc, opdV_und, opdV_dead, opdV_none, cellOk_bool, cells_bool, cellOk_int, cells_int, cellOk_nil, cells_nil, cellOk_sl, cells_sl, cellOk_fn, cells_fn, cellOk_ref, cells_ref, cellOk_cref, cells_cref, cellOk_eref, cells_eref, cells_agg, pm_bool, pm_int, pm_nil, pm_slN, pm_slS, pm_fn, ha, hb, hc, hbl, hlt, hw, e1, e3, e53, flatE_eI, eI_len, lenT, hcl, hb24]
/-- The copy. -/
def cpV (s : List Int) (g p : List (V × List Int)) : V :=
  .agg [.sl (some 0) 1 (eI s), if g.length = 0 then .nil else .sl (some 1) 1 (cpyE g), if p.length = 0 then .nil else .sl (some (if g.length = 0 then 1 else 2)) 1 (cpyE p)]
set_option maxHeartbeats 8000000 in
theorem run14 {a b c : V} {s : List Int} {g p : List (V × List Int)} (h : Tab a b c s g p) (hs : s.length ≤ 25) (hg : g.length ≤ 15) (hp : p.length ≤ 15) (hgr : ∀ r ∈ g, r.2.length ≤ 25) (hpr : ∀ r ∈ p, r.2.length ≤ 25) :
    run Ft Ct 14 [.agg [a, b, c]] = some (cpV s g p) := by
  have ha := h.a.sl
  have hb := h.b.sl
  have hc := h.c.sl
  have hbl := h.b.len
  have hcl := h.c.len
  have e53 := run53 h.a (by omega)
  have A := loop_all (s := s14a a b c s g) (f := evC (run Ft Ct) 16 b14_0) (n := g.length) (X := (.exit 0, { s14a a b c s g g.length with fr := (s14a a b c s g g.length).fr ++ [(14, B false)] }))
    (fun i hi => step14a h hg hgr hi _) (by
      unfold s14a gv tkA
      generalize cpyE (g.take g.length) = gs
      generalize rl g (g.length - 1) = kg
      cases hn : g.length with
      | zero => rw [hn] at hbl; simp [b14_0, evBody, params, deadL, evC, prep, prepF, prepT, V.prep, prepL, stepL, stepI, wanted, opds, get, put, putO, callE, loadV, partV, valO, binV, binI, binS, unV, nilCmp, apply, keepL, memN, bxOf, tkOf, bxF, frzL, V.frz, frzEL, V.frzE, V.pureR, pureRL, V.tks, tksL, V.al, alL, V.rn, rnL, addT, protT, protAll, distinctN, fill, splice, fillE, eqSh, intsOf, maxL, minL, bounds, ranged, finish, result, rvs, finL, V.fin, one, goesOn, opd_t, opd_c, opd_f, opdV_box, opdV_int, opdV_bool, opdV_agg, opdV_tup, opdV_nil, opdV_sl, opdV_fn, opdV_ref, opdV_cref, opdV_eref, opdV_isSl, frz_isSl, frzE_isSl, cells_isSl, cellOk_isSl, pm_isSl, prep_isSl, fin_isSl, ranged_isSl, pureR_isSl, sem_len_isSl, sem_ixs_isSl, sem_len_sl, sem_len_nil, sem_ixs_none, sem_ixs_some, semR, semx_mv, semx_pick, semx_box, semx_alloc, semx_build, semx_bsl, semx_load, semx_store, semx_bin, semx_eqs, semx_un, semx_conv, semx_mkf, semx_mkm, semx_fa, semx_fld, semx_ixa, semx_idx, semx_mks, semx_sls, semx_ext, semx_call, semx_append, semx_appz, semx_trunc, semx_cap, semx_min, semx_max, semx_nilc, opdV_und, opdV_dead, opdV_none, cellOk_bool, cells_bool, cellOk_int, cells_int, cellOk_nil, cells_nil, cellOk_sl, cells_sl, cellOk_fn, cells_fn, cellOk_ref, cells_ref, cellOk_cref, cells_cref, cellOk_eref, cells_eref, cells_agg, pm_bool, pm_int, pm_nil, pm_slN, pm_slS, pm_fn, ha, hb, hc, hbl]
      | succ m => rw [hn] at hbl; simp [b14_0, evBody, params, deadL, evC, prep, prepF, prepT, V.prep, prepL, stepL, stepI, wanted, opds, get, put, putO, callE, loadV, partV, valO, binV, binI, binS, unV, nilCmp, apply, keepL, memN, bxOf, tkOf, bxF, frzL, V.frz, frzEL, V.frzE, V.pureR, pureRL, V.tks, tksL, V.al, alL, V.rn, rnL, addT, protT, protAll, distinctN, fill, splice, fillE, eqSh, intsOf, maxL, minL, bounds, ranged, finish, result, rvs, finL, V.fin, one, goesOn, opd_t, opd_c, opd_f, opdV_box, opdV_int, opdV_bool, opdV_agg, opdV_tup, opdV_nil, opdV_sl, opdV_fn, opdV_ref, opdV_cref, opdV_eref, opdV_isSl, frz_isSl, frzE_isSl, cells_isSl, cellOk_isSl, pm_isSl, prep_isSl, fin_isSl, ranged_isSl, pureR_isSl, sem_len_isSl, sem_ixs_isSl, sem_len_sl, sem_len_nil, sem_ixs_none, sem_ixs_some, semR, semx_mv, semx_pick, semx_box, semx_alloc, semx_build, semx_bsl, semx_load, semx_store, semx_bin, semx_eqs, semx_un, semx_conv, semx_mkf, semx_mkm, semx_fa, semx_fld, semx_ixa, semx_idx, semx_mks, semx_sls, semx_ext, semx_call, semx_append, semx_appz, semx_trunc, semx_cap, semx_min, semx_max, semx_nilc, opdV_und, opdV_dead, opdV_none, cellOk_bool, cells_bool, cellOk_int, cells_int, cellOk_nil, cells_nil, cellOk_sl, cells_sl, cellOk_fn, cells_fn, cellOk_ref, cells_ref, cellOk_cref, cells_cref, cellOk_eref, cells_eref, cells_agg, pm_bool, pm_int, pm_nil, pm_slN, pm_slS, pm_fn, ha, hb, hc, hbl]) (by simp)
  have A2 := loop_all (s := s14b a b c s g p g.length) (f := evC (run Ft Ct) 16 b14_1) (n := p.length) (X := (.exit 2, { s14b a b c s g p g.length p.length with fr := (s14b a b c s g p g.length p.length).fr ++ [(32, B false)] }))
    (fun i hi => step14b h hp hpr _ hi _) (by
      unfold s14b gv tkB tkA
      generalize cpyE (g.take g.length) = gs
      generalize rl g (g.length - 1) = kg
      generalize cpyE (p.take p.length) = ps
      generalize rl p (p.length - 1) = kp
      cases hn : g.length with
      | zero =>
        cases hm : p.length with
        | zero => rw [hm] at hcl; simp [b14_1, evBody, params, deadL, evC, prep, prepF, prepT, V.prep, prepL, stepL, stepI, wanted, opds, get, put, putO, callE, loadV, partV, valO, binV, binI, binS, unV, nilCmp, apply, keepL, memN, bxOf, tkOf, bxF, frzL, V.frz, frzEL, V.frzE, V.pureR, pureRL, V.tks, tksL, V.al, alL, V.rn, rnL, addT, protT, protAll, distinctN, fill, splice, fillE, eqSh, intsOf, maxL, minL, bounds, ranged, finish, result, rvs, finL, V.fin, one, goesOn, opd_t, opd_c, opd_f, opdV_box, opdV_int, opdV_bool, opdV_agg, opdV_tup, opdV_nil, opdV_sl, opdV_fn, opdV_ref, opdV_cref, opdV_eref, opdV_isSl, frz_isSl, frzE_isSl, cells_isSl, cellOk_isSl, pm_isSl, prep_isSl, fin_isSl, ranged_isSl, pureR_isSl, sem_len_isSl, sem_ixs_isSl, sem_len_sl, sem_len_nil, sem_ixs_none, sem_ixs_some, semR, semx_mv, semx_pick, semx_box, semx_alloc, semx_build, semx_bsl, semx_load, semx_store, semx_bin, semx_eqs, semx_un, semx_conv, semx_mkf, semx_mkm, semx_fa, semx_fld, semx_ixa, semx_idx, semx_mks, semx_sls, semx_ext, semx_call, semx_append, semx_appz, semx_trunc, semx_cap, semx_min, semx_max, semx_nilc, opdV_und, opdV_dead, opdV_none, cellOk_bool, cells_bool, cellOk_int, cells_int, cellOk_nil, cells_nil, cellOk_sl, cells_sl, cellOk_fn, cells_fn, cellOk_ref, cells_ref, cellOk_cref, cells_cref, cellOk_eref, cells_eref, cells_agg, pm_bool, pm_int, pm_nil, pm_slN, pm_slS, pm_fn, ha, hb, hc, hcl]
        | succ m => rw [hm] at hcl; simp [b14_1, evBody, params, deadL, evC, prep, prepF, prepT, V.prep, prepL, stepL, stepI, wanted, opds, get, put, putO, callE, loadV, partV, valO, binV, binI, binS, unV, nilCmp, apply, keepL, memN, bxOf, tkOf, bxF, frzL, V.frz, frzEL, V.frzE, V.pureR, pureRL, V.tks, tksL, V.al, alL, V.rn, rnL, addT, protT, protAll, distinctN, fill, splice, fillE, eqSh, intsOf, maxL, minL, bounds, ranged, finish, result, rvs, finL, V.fin, one, goesOn, opd_t, opd_c, opd_f, opdV_box, opdV_int, opdV_bool, opdV_agg, opdV_tup, opdV_nil, opdV_sl, opdV_fn, opdV_ref, opdV_cref, opdV_eref, opdV_isSl, frz_isSl, frzE_isSl, cells_isSl, cellOk_isSl, pm_isSl, prep_isSl, fin_isSl, ranged_isSl, pureR_isSl, sem_len_isSl, sem_ixs_isSl, sem_len_sl, sem_len_nil, sem_ixs_none, sem_ixs_some, semR, semx_mv, semx_pick, semx_box, semx_alloc, semx_build, semx_bsl, semx_load, semx_store, semx_bin, semx_eqs, semx_un, semx_conv, semx_mkf, semx_mkm, semx_fa, semx_fld, semx_ixa, semx_idx, semx_mks, semx_sls, semx_ext, semx_call, semx_append, semx_appz, semx_trunc, semx_cap, semx_min, semx_max, semx_nilc, opdV_und, opdV_dead, opdV_none, cellOk_bool, cells_bool, cellOk_int, cells_int, cellOk_nil, cells_nil, cellOk_sl, cells_sl, cellOk_fn, cells_fn, cellOk_ref, cells_ref, cellOk_cref, cells_cref, cellOk_eref, cells_eref, cells_agg, pm_bool, pm_int, pm_nil, pm_slN, pm_slS, pm_fn, ha, hb, hc, hcl]
      | succ m1 =>
        cases hm : p.length with
        | zero => rw [hm] at hcl; simp [b14_1, evBody, params, deadL, evC, prep, prepF, prepT, V.prep, prepL, stepL, stepI, wanted, opds, get, put, putO, callE, loadV, partV, valO, binV, binI, binS, unV, nilCmp, apply, keepL, memN, bxOf, tkOf, bxF, frzL, V.frz, frzEL, V.frzE, V.pureR, pureRL, V.tks, tksL, V.al, alL, V.rn, rnL, addT, protT, protAll, distinctN, fill, splice, fillE, eqSh, intsOf, maxL, minL, bounds, ranged, finish, result, rvs, finL, V.fin, one, goesOn, opd_t, opd_c, opd_f, opdV_box, opdV_int, opdV_bool, opdV_agg, opdV_tup, opdV_nil, opdV_sl, opdV_fn, opdV_ref, opdV_cref, opdV_eref, opdV_isSl, frz_isSl, frzE_isSl, cells_isSl, cellOk_isSl, pm_isSl, prep_isSl, fin_isSl, ranged_isSl, pureR_isSl, sem_len_isSl, sem_ixs_isSl, sem_len_sl, sem_len_nil, sem_ixs_none, sem_ixs_some, semR, semx_mv, semx_pick, semx_box, semx_alloc, semx_build, semx_bsl, semx_load, semx_store, semx_bin, semx_eqs, semx_un, semx_conv, semx_mkf, semx_mkm, semx_fa, semx_fld, semx_ixa, semx_idx, semx_mks, semx_sls, semx_ext, semx_call, semx_append, semx_appz, semx_trunc, semx_cap, semx_min, semx_max, semx_nilc, opdV_und, opdV_dead, opdV_none, cellOk_bool, cells_bool, cellOk_int, cells_int, cellOk_nil, cells_nil, cellOk_sl, cells_sl, cellOk_fn, cells_fn, cellOk_ref, cells_ref, cellOk_cref, cells_cref, cellOk_eref, cells_eref, cells_agg, pm_bool, pm_int, pm_nil, pm_slN, pm_slS, pm_fn, ha, hb, hc, hcl]
        | succ m => rw [hm] at hcl; simp [b14_1, evBody, params, deadL, evC, prep, prepF, prepT, V.prep, prepL, stepL, stepI, wanted, opds, get, put, putO, callE, loadV, partV, valO, binV, binI, binS, unV, nilCmp, apply, keepL, memN, bxOf, tkOf, bxF, frzL, V.frz, frzEL, V.frzE, V.pureR, pureRL, V.tks, tksL, V.al, alL, V.rn, rnL, addT, protT, protAll, distinctN, fill, splice, fillE, eqSh, intsOf, maxL, minL, bounds, ranged, finish, result, rvs, finL, V.fin, one, goesOn, opd_t, opd_c, opd_f, opdV_box, opdV_int, opdV_bool, opdV_agg, opdV_tup, opdV_nil, opdV_sl, opdV_fn, opdV_ref, opdV_cref, opdV_eref, opdV_isSl, frz_isSl, frzE_isSl, cells_isSl, cellOk_isSl, pm_isSl, prep_isSl, fin_isSl, ranged_isSl, pureR_isSl, sem_len_isSl, sem_ixs_isSl, sem_len_sl, sem_len_nil, sem_ixs_none, sem_ixs_some, semR, semx_mv, semx_pick, semx_box, semx_alloc, semx_build, semx_bsl, semx_load, semx_store, semx_bin, semx_eqs, semx_un, semx_conv, semx_mkf, semx_mkm, semx_fa, semx_fld, semx_ixa, semx_idx, semx_mks, semx_sls, semx_ext, semx_call, semx_append, semx_appz, semx_trunc, semx_cap, semx_min, semx_max, semx_nilc, opdV_und, opdV_dead, opdV_none, cellOk_bool, cells_bool, cellOk_int, cells_int, cellOk_nil, cells_nil, cellOk_sl, cells_sl, cellOk_fn, cells_fn, cellOk_ref, cells_ref, cellOk_cref, cells_cref, cellOk_eref, cells_eref, cells_agg, pm_bool, pm_int, pm_nil, pm_slN, pm_slS, pm_fn, ha, hb, hc, hcl]) (by simp)
  have A := iter_le (f := evC (run Ft Ct) 16 b14_0) (fun _ _ h => h) (show g.length + 1 ≤ 16 by omega) A
  have A2 := iter_le (f := evC (run Ft Ct) 16 b14_1) (fun _ _ h => h) (show p.length + 1 ≤ 16 by omega) A2
  have lg := cpyE_len g
  have lp := cpyE_len p
  unfold cpV
  refine run_of_body (N := 16) rfl rfl ?_
  generalize hF : evC (run Ft Ct) 16 b14_0 = F at A
  generalize hG : evC (run Ft Ct) 16 b14_1 = G at A2
  unfold s14a gv tkA at A
  unfold s14b gv tkB tkA at A2
  rw [List.take_length] at A A2
  rw [List.take_length] at A2
  generalize rl g (g.length - 1) = kg at *
  generalize rl p (p.length - 1) = kp at *
  generalize cpyE g = gs at *
  generalize cpyE p = ps at *
  cases hn : g.length with
  | zero =>
    rw [hn] at A A2 lg
    simp at A
    cases hm : p.length with
    | zero =>
      rw [hm] at A2
      simp at A2
      simp [l14, evBody, params, deadL, evC, prep, prepF, prepT, V.prep, prepL, stepL, stepI, wanted, opds, get, put, putO, callE, loadV, partV, valO, binV, binI, binS, unV, nilCmp, apply, keepL, memN, bxOf, tkOf, bxF, frzL, V.frz, frzEL, V.frzE, V.pureR, pureRL, V.tks, tksL, V.al, alL, V.rn, rnL, addT, protT, protAll, distinctN, fill, splice, fillE, eqSh, intsOf, maxL, minL, bounds, ranged, finish, result, rvs, finL, V.fin, one, goesOn, opd_t, opd_c, opd_f, opdV_box, opdV_int, opdV_bool, opdV_agg, opdV_tup, opdV_nil, opdV_sl, opdV_fn, opdV_ref, opdV_cref, opdV_eref, opdV_isSl, frz_isSl, frzE_isSl, cells_isSl, cellOk_isSl, pm_isSl, prep_isSl, fin_isSl, ranged_isSl, pureR_isSl, sem_len_isSl, sem_ixs_isSl, sem_len_sl, sem_len_nil, sem_ixs_none, sem_ixs_some, semR, semx_mv, semx_pick, semx_box, semx_alloc, semx_build, semx_bsl, semx_load, semx_store, semx_bin, semx_eqs, semx_un, semx_conv, semx_mkf, semx_mkm, semx_fa, semx_fld, semx_ixa, semx_idx, semx_mks, semx_sls, semx_ext, semx_call, semx_append, semx_appz, semx_trunc, semx_cap, semx_min, semx_max, semx_nilc, opdV_und, opdV_dead, opdV_none, cellOk_bool, cells_bool, cellOk_int, cells_int, cellOk_nil, cells_nil, cellOk_sl, cells_sl, cellOk_fn, cells_fn, cellOk_ref, cells_ref, cellOk_cref, cells_cref, cellOk_eref, cells_eref, cells_agg, pm_bool, pm_int, pm_nil, pm_slN, pm_slS, pm_fn, ha, hb, hc, e53, flatE_eI, eI_len, hF, A, hG, A2]
    | succ m =>
      rw [hm] at A2 lp
      simp at A2
      simp [l14, evBody, params, deadL, evC, prep, prepF, prepT, V.prep, prepL, stepL, stepI, wanted, opds, get, put, putO, callE, loadV, partV, valO, binV, binI, binS, unV, nilCmp, apply, keepL, memN, bxOf, tkOf, bxF, frzL, V.frz, frzEL, V.frzE, V.pureR, pureRL, V.tks, tksL, V.al, alL, V.rn, rnL, addT, protT, protAll, distinctN, fill, splice, fillE, eqSh, intsOf, maxL, minL, bounds, ranged, finish, result, rvs, finL, V.fin, one, goesOn, opd_t, opd_c, opd_f, opdV_box, opdV_int, opdV_bool, opdV_agg, opdV_tup, opdV_nil, opdV_sl, opdV_fn, opdV_ref, opdV_cref, opdV_eref, opdV_isSl, frz_isSl, frzE_isSl, cells_isSl, cellOk_isSl, pm_isSl, prep_isSl, fin_isSl, ranged_isSl, pureR_isSl, sem_len_isSl, sem_ixs_isSl, sem_len_sl, sem_len_nil, sem_ixs_none, sem_ixs_some, semR, semx_mv, semx_pick, semx_box, semx_alloc, semx_build, semx_bsl, semx_load, semx_store, semx_bin, semx_eqs, semx_un, semx_conv, semx_mkf, semx_mkm, semx_fa, semx_fld, semx_ixa, semx_idx, semx_mks, semx_sls, semx_ext, semx_call, semx_append, semx_appz, semx_trunc, semx_cap, semx_min, semx_max, semx_nilc, opdV_und, opdV_dead, opdV_none, cellOk_bool, cells_bool, cellOk_int, cells_int, cellOk_nil, cells_nil, cellOk_sl, cells_sl, cellOk_fn, cells_fn, cellOk_ref, cells_ref, cellOk_cref, cells_cref, cellOk_eref, cells_eref, cells_agg, pm_bool, pm_int, pm_nil, pm_slN, pm_slS, pm_fn, ha, hb, hc, e53, flatE_eI, eI_len, hF, A, hG, A2, lp]
  | succ k =>
    rw [hn] at A A2 lg
    simp at A
    cases hm : p.length with
    | zero =>
      rw [hm] at A2
      simp at A2
      simp [l14, evBody, params, deadL, evC, prep, prepF, prepT, V.prep, prepL, stepL, stepI, wanted, opds, get, put, putO, callE, loadV, partV, valO, binV, binI, binS, unV, nilCmp, apply, keepL, memN, bxOf, tkOf, bxF, frzL, V.frz, frzEL, V.frzE, V.pureR, pureRL, V.tks, tksL, V.al, alL, V.rn, rnL, addT, protT, protAll, distinctN, fill, splice, fillE, eqSh, intsOf, maxL, minL, bounds, ranged, finish, result, rvs, finL, V.fin, one, goesOn, opd_t, opd_c, opd_f, opdV_box, opdV_int, opdV_bool, opdV_agg, opdV_tup, opdV_nil, opdV_sl, opdV_fn, opdV_ref, opdV_cref, opdV_eref, opdV_isSl, frz_isSl, frzE_isSl, cells_isSl, cellOk_isSl, pm_isSl, prep_isSl, fin_isSl, ranged_isSl, pureR_isSl, sem_len_isSl, sem_ixs_isSl, sem_len_sl, sem_len_nil, sem_ixs_none, sem_ixs_some, semR, semx_mv, semx_pick, semx_box, semx_alloc, semx_build, semx_bsl, semx_load, semx_store, semx_bin, semx_eqs, semx_un, semx_conv, semx_mkf, semx_mkm, semx_fa, semx_fld, semx_ixa, semx_idx, semx_mks, semx_sls, semx_ext, semx_call, semx_append, semx_appz, semx_trunc, semx_cap, semx_min, semx_max, semx_nilc, opdV_und, opdV_dead, opdV_none, cellOk_bool, cells_bool, cellOk_int, cells_int, cellOk_nil, cells_nil, cellOk_sl, cells_sl, cellOk_fn, cells_fn, cellOk_ref, cells_ref, cellOk_cref, cells_cref, cellOk_eref, cells_eref, cells_agg, pm_bool, pm_int, pm_nil, pm_slN, pm_slS, pm_fn, ha, hb, hc, e53, flatE_eI, eI_len, hF, A, hG, A2, lg]
    | succ m =>
      rw [hm] at A2 lp
      simp at A2
      simp [l14, evBody, params, deadL, evC, prep, prepF, prepT, V.prep, prepL, stepL, stepI, wanted, opds, get, put, putO, callE, loadV, partV, valO, binV, binI, binS, unV, nilCmp, apply, keepL, memN, bxOf, tkOf, bxF, frzL, V.frz, frzEL, V.frzE, V.pureR, pureRL, V.tks, tksL, V.al, alL, V.rn, rnL, addT, protT, protAll, distinctN, fill, splice, fillE, eqSh, intsOf, maxL, minL, bounds, ranged, finish, result, rvs, finL, V.fin, one, goesOn, opd_t, opd_c, opd_f, opdV_box, opdV_int, opdV_bool, opdV_agg, opdV_tup, opdV_nil, opdV_sl, opdV_fn, opdV_ref, opdV_cref, opdV_eref, opdV_isSl, frz_isSl, frzE_isSl, cells_isSl, cellOk_isSl, pm_isSl, prep_isSl, fin_isSl, ranged_isSl, pureR_isSl, sem_len_isSl, sem_ixs_isSl, sem_len_sl, sem_len_nil, sem_ixs_none, sem_ixs_some, semR, semx_mv, semx_pick, semx_box, semx_alloc, semx_build, semx_bsl, semx_load, semx_store, semx_bin, semx_eqs, semx_un, semx_conv, semx_mkf, semx_mkm, semx_fa, semx_fld, semx_ixa, semx_idx, semx_mks, semx_sls, semx_ext, semx_call, semx_append, semx_appz, semx_trunc, semx_cap, semx_min, semx_max, semx_nilc, opdV_und, opdV_dead, opdV_none, cellOk_bool, cells_bool, cellOk_int, cells_int, cellOk_nil, cells_nil, cellOk_sl, cells_sl, cellOk_fn, cells_fn, cellOk_ref, cells_ref, cellOk_cref, cells_cref, cellOk_eref, cells_eref, cells_agg, pm_bool, pm_int, pm_nil, pm_slN, pm_slS, pm_fn, ha, hb, hc, e53, flatE_eI, eI_len, hF, A, hG, A2, lp, lg]
/-! ### What others see of the copy -/
def cpG (g : List (V × List Int)) : List (V × List Int) := g.map fun r => (.sl none 1 (eI r.2), r.2)
def cpR (g : List (V × List Int)) : V := if g.length = 0 then .nil else .sl none 1 (cpyE g)
theorem lst2_cpG (g : List (V × List Int)) : lst2 (cpG g) = lst2 g := by simp [cpG, lst2]
theorem cpG_len (g : List (V × List Int)) : (cpG g).length = g.length := by simp [cpG]
theorem rows_cp (g : List (V × List Int)) : RowsV (cpR g) (cpG g) where
  sl := by
    unfold cpR
    split
    · exact .inl rfl
    · exact .inr ⟨_, rfl⟩
  el := by
    unfold cpR
    split
    · rename_i h
      rw [List.length_eq_zero_iff.1 h]; rfl
    · simp [els, cpyE, cpG]
  row := by
    intro r hr
    simp only [cpG, List.mem_map] at hr
    obtain ⟨x, _, rfl⟩ := hr
    exact ⟨.inr ⟨_, rfl⟩, rfl⟩
theorem tab_cp {a b c : V} {s : List Int} {g p : List (V × List Int)} (h : Tab a b c s g p) : Tab (.sl none 1 (eI s)) (cpR g) (cpR p) s (cpG g) (cpG p) :=
  ⟨⟨.inr ⟨_, rfl⟩, rfl⟩, rows_cp g, rows_cp p, h.w⟩
end Go.Lo
/-! The law of limits answers true. -/
namespace Go.Lo
open Go.Proofs
set_option linter.unusedSimpArgs false
theorem run17 (a b : Int) : run Ft Ct 17 [I a, I b] = some (.agg [I a, I b]) := by
  refine run_of_body (N := 1) rfl rfl ?_
  simp [l17, evBody, params, deadL, evC, prep, prepF, prepT, V.prep, prepL, stepL, stepI, wanted, opds, get, put, putO, callE, loadV, partV, valO, binV, binI, binS, unV, nilCmp, apply, keepL, memN, bxOf, tkOf, bxF, frzL, V.frz, frzEL, V.frzE, V.pureR, pureRL, V.tks, tksL, V.al, alL, V.rn, rnL, addT, protT, protAll, distinctN, fill, splice, fillE, eqSh, intsOf, maxL, minL, bounds, ranged, finish, result, rvs, finL, V.fin, one, goesOn, opd_t, opd_c, opd_f, opdV_box, opdV_int, opdV_bool, opdV_agg, opdV_tup, opdV_nil, opdV_sl, opdV_fn, opdV_ref, opdV_cref, opdV_eref, opdV_isSl, frz_isSl, frzE_isSl, cells_isSl, cellOk_isSl, pm_isSl, prep_isSl, fin_isSl, ranged_isSl, pureR_isSl, sem_len_isSl, sem_ixs_isSl, sem_len_sl, sem_len_nil, sem_ixs_none, sem_ixs_some, semR, semx_mv, semx_pick, semx_box, semx_alloc, semx_build, semx_bsl, semx_load, semx_store, semx_bin, semx_eqs, semx_un, semx_conv, semx_mkf, semx_mkm, semx_fa, semx_fld, semx_ixa, semx_idx, semx_mks, semx_sls, semx_ext, semx_call, semx_append, semx_appz, semx_trunc, semx_cap, semx_min, semx_max, semx_nilc, opdV_und, opdV_dead, opdV_none, cellOk_bool, cells_bool, cellOk_int, cells_int, cellOk_nil, cells_nil, cellOk_sl, cells_sl, cellOk_fn, cells_fn, cellOk_ref, cells_ref, cellOk_cref, cells_cref, cellOk_eref, cells_eref, cells_agg, pm_bool, pm_int, pm_nil, pm_slN, pm_slS, pm_fn]
theorem limV_shape (s : List Int) (g p : List (List Int)) (pl gr : Int) (nut : Bool) (size : Int) : ∃ x y e, limV s g p pl gr nut size = .tup [.agg [I x, I y], I e] := by
  unfold limV
  split
  · exact ⟨_, _, _, rfl⟩
  · split
    · exact ⟨_, _, _, rfl⟩
    · split
      · unfold zoneV
        split
        · exact ⟨_, _, _, rfl⟩
        · exact ⟨_, _, _, rfl⟩
      · exact ⟨_, _, _, rfl⟩
set_option maxHeartbeats 16000000 in
theorem run3 {a b c : V} {s : List Int} {g p : List (V × List Int)} (h : Tab a b c s g p) (c0 c1 c2 : Int) (nut : Bool) : run Ft Ct 3 [.agg [a, b, c], .agg [I c0, I c1, I c2], B nut] = some (B true) := by
  have hkn := run13
  have ha := h.a.sl
  have hb := h.b.sl
  have hc := h.c.sl
  obtain ⟨r, e12, hr⟩ := run12 h 15
  cases r with
  | true =>
    refine run_of_body (N := 1) rfl rfl ?_
    simp [l3, evBody, params, deadL, evC, prep, prepF, prepT, V.prep, prepL, stepL, stepI, wanted, opds, get, put, putO, callE, loadV, partV, valO, binV, binI, binS, unV, nilCmp, apply, keepL, memN, bxOf, tkOf, bxF, frzL, V.frz, frzEL, V.frzE, V.pureR, pureRL, V.tks, tksL, V.al, alL, V.rn, rnL, addT, protT, protAll, distinctN, fill, splice, fillE, eqSh, intsOf, maxL, minL, bounds, ranged, finish, result, rvs, finL, V.fin, one, goesOn, opd_t, opd_c, opd_f, opdV_box, opdV_int, opdV_bool, opdV_agg, opdV_tup, opdV_nil, opdV_sl, opdV_fn, opdV_ref, opdV_cref, opdV_eref, opdV_isSl, frz_isSl, frzE_isSl, cells_isSl, cellOk_isSl, pm_isSl, prep_isSl, fin_isSl, ranged_isSl, pureR_isSl, sem_len_isSl, sem_ixs_isSl, sem_len_sl, sem_len_nil, sem_ixs_none, sem_ixs_some, semR, semx_mv, semx_pick, semx_box, semx_alloc, semx_build, semx_bsl, semx_load, semx_store, semx_bin, semx_eqs, semx_un, semx_conv, semx_mkf, semx_mkm, semx_fa, semx_fld, semx_ixa, semx_idx, semx_mks, semx_sls, semx_ext, semx_call, semx_append, semx_appz, semx_trunc, semx_cap, semx_min, semx_max, semx_nilc, opdV_und, opdV_dead, opdV_none, cellOk_bool, cells_bool, cellOk_int, cells_int, cellOk_nil, cells_nil, cellOk_sl, cells_sl, cellOk_fn, cells_fn, cellOk_ref, cells_ref, cellOk_cref, cells_cref, cellOk_eref, cells_eref, cells_agg, pm_bool, pm_int, pm_nil, pm_slN, pm_slS, pm_fn, ha, hb, hc, e12, hkn]
  | false =>
    have hs := hr rfl
    have e14 := run14 h hs.ls hs.lg hs.lp hs.rg hs.rp
    have hT := tab_cp h
    have e15 := run15 hT
    have e16 := run16 hT c0 c1 nut c2
    have e18 := run18 h c0 c1 nut c2
    have e20 := run20 h
    have e17 := run17 c0 c1
    have e19 := run19 hT h (lst2_cpG g) (lst2_cpG p) (by have := hs.ls; omega) (by rw [cpG_len]; have := hs.lg; omega) (by rw [cpG_len]; have := hs.lp; omega)
      (by intro x hx; simp only [cpG, List.mem_map] at hx; obtain ⟨y, hy, rfl⟩ := hx; have := hs.rg y hy; simp only; omega) (by intro x hx; simp only [cpG, List.mem_map] at hx; obtain ⟨y, hy, rfl⟩ := hx; have := hs.rp y hy; simp only; omega)
    rw [lst2_cpG, lst2_cpG] at e15 e16
    obtain ⟨x, y, e, hlim⟩ := limV_shape s (lst2 g) (lst2 p) c0 c1 nut c2
    rw [hlim] at e16 e18
    generalize chk s (lst2 g) (lst2 p) = ck at *
    unfold cpV at e14
    unfold cpR at e15 e16 e19
    generalize cpyE g = gs at *
    generalize cpyE p = ps at *
    refine run_of_body (N := 1) rfl rfl ?_
    by_cases d1 : g.length = 0
    · by_cases d2 : p.length = 0
      · simp only [d1, d2, if_true] at e14 e15 e16 e19
        simp [l3, evBody, params, deadL, evC, prep, prepF, prepT, V.prep, prepL, stepL, stepI, wanted, opds, get, put, putO, callE, loadV, partV, valO, binV, binI, binS, unV, nilCmp, apply, keepL, memN, bxOf, tkOf, bxF, frzL, V.frz, frzEL, V.frzE, V.pureR, pureRL, V.tks, tksL, V.al, alL, V.rn, rnL, addT, protT, protAll, distinctN, fill, splice, fillE, eqSh, intsOf, maxL, minL, bounds, ranged, finish, result, rvs, finL, V.fin, one, goesOn, opd_t, opd_c, opd_f, opdV_box, opdV_int, opdV_bool, opdV_agg, opdV_tup, opdV_nil, opdV_sl, opdV_fn, opdV_ref, opdV_cref, opdV_eref, opdV_isSl, frz_isSl, frzE_isSl, cells_isSl, cellOk_isSl, pm_isSl, prep_isSl, fin_isSl, ranged_isSl, pureR_isSl, sem_len_isSl, sem_ixs_isSl, sem_len_sl, sem_len_nil, sem_ixs_none, sem_ixs_some, semR, semx_mv, semx_pick, semx_box, semx_alloc, semx_build, semx_bsl, semx_load, semx_store, semx_bin, semx_eqs, semx_un, semx_conv, semx_mkf, semx_mkm, semx_fa, semx_fld, semx_ixa, semx_idx, semx_mks, semx_sls, semx_ext, semx_call, semx_append, semx_appz, semx_trunc, semx_cap, semx_min, semx_max, semx_nilc, opdV_und, opdV_dead, opdV_none, cellOk_bool, cells_bool, cellOk_int, cells_int, cellOk_nil, cells_nil, cellOk_sl, cells_sl, cellOk_fn, cells_fn, cellOk_ref, cells_ref, cellOk_cref, cells_cref, cellOk_eref, cells_eref, cells_agg, pm_bool, pm_int, pm_nil, pm_slN, pm_slS, pm_fn, ha, hb, hc, e12, e14, e15, e16, e17, e18, e19, e20, hkn]
      · simp only [d1, d2, if_true, if_false] at e14 e15 e16 e19
        simp [l3, evBody, params, deadL, evC, prep, prepF, prepT, V.prep, prepL, stepL, stepI, wanted, opds, get, put, putO, callE, loadV, partV, valO, binV, binI, binS, unV, nilCmp, apply, keepL, memN, bxOf, tkOf, bxF, frzL, V.frz, frzEL, V.frzE, V.pureR, pureRL, V.tks, tksL, V.al, alL, V.rn, rnL, addT, protT, protAll, distinctN, fill, splice, fillE, eqSh, intsOf, maxL, minL, bounds, ranged, finish, result, rvs, finL, V.fin, one, goesOn, opd_t, opd_c, opd_f, opdV_box, opdV_int, opdV_bool, opdV_agg, opdV_tup, opdV_nil, opdV_sl, opdV_fn, opdV_ref, opdV_cref, opdV_eref, opdV_isSl, frz_isSl, frzE_isSl, cells_isSl, cellOk_isSl, pm_isSl, prep_isSl, fin_isSl, ranged_isSl, pureR_isSl, sem_len_isSl, sem_ixs_isSl, sem_len_sl, sem_len_nil, sem_ixs_none, sem_ixs_some, semR, semx_mv, semx_pick, semx_box, semx_alloc, semx_build, semx_bsl, semx_load, semx_store, semx_bin, semx_eqs, semx_un, semx_conv, semx_mkf, semx_mkm, semx_fa, semx_fld, semx_ixa, semx_idx, semx_mks, semx_sls, semx_ext, semx_call, semx_append, semx_appz, semx_trunc, semx_cap, semx_min, semx_max, semx_nilc, opdV_und, opdV_dead, opdV_none, cellOk_bool, cells_bool, cellOk_int, cells_int, cellOk_nil, cells_nil, cellOk_sl, cells_sl, cellOk_fn, cells_fn, cellOk_ref, cells_ref, cellOk_cref, cells_cref, cellOk_eref, cells_eref, cells_agg, pm_bool, pm_int, pm_nil, pm_slN, pm_slS, pm_fn, ha, hb, hc, e12, e14, e15, e16, e17, e18, e19, e20, hkn]
    · by_cases d2 : p.length = 0
      · simp only [d1, d2, if_true, if_false] at e14 e15 e16 e19
        simp [l3, evBody, params, deadL, evC, prep, prepF, prepT, V.prep, prepL, stepL, stepI, wanted, opds, get, put, putO, callE, loadV, partV, valO, binV, binI, binS, unV, nilCmp, apply, keepL, memN, bxOf, tkOf, bxF, frzL, V.frz, frzEL, V.frzE, V.pureR, pureRL, V.tks, tksL, V.al, alL, V.rn, rnL, addT, protT, protAll, distinctN, fill, splice, fillE, eqSh, intsOf, maxL, minL, bounds, ranged, finish, result, rvs, finL, V.fin, one, goesOn, opd_t, opd_c, opd_f, opdV_box, opdV_int, opdV_bool, opdV_agg, opdV_tup, opdV_nil, opdV_sl, opdV_fn, opdV_ref, opdV_cref, opdV_eref, opdV_isSl, frz_isSl, frzE_isSl, cells_isSl, cellOk_isSl, pm_isSl, prep_isSl, fin_isSl, ranged_isSl, pureR_isSl, sem_len_isSl, sem_ixs_isSl, sem_len_sl, sem_len_nil, sem_ixs_none, sem_ixs_some, semR, semx_mv, semx_pick, semx_box, semx_alloc, semx_build, semx_bsl, semx_load, semx_store, semx_bin, semx_eqs, semx_un, semx_conv, semx_mkf, semx_mkm, semx_fa, semx_fld, semx_ixa, semx_idx, semx_mks, semx_sls, semx_ext, semx_call, semx_append, semx_appz, semx_trunc, semx_cap, semx_min, semx_max, semx_nilc, opdV_und, opdV_dead, opdV_none, cellOk_bool, cells_bool, cellOk_int, cells_int, cellOk_nil, cells_nil, cellOk_sl, cells_sl, cellOk_fn, cells_fn, cellOk_ref, cells_ref, cellOk_cref, cells_cref, cellOk_eref, cells_eref, cells_agg, pm_bool, pm_int, pm_nil, pm_slN, pm_slS, pm_fn, ha, hb, hc, e12, e14, e15, e16, e17, e18, e19, e20, hkn]
      · simp only [d1, d2, if_false] at e14 e15 e16 e19
        simp [l3, evBody, params, deadL, evC, prep, prepF, prepT, V.prep, prepL, stepL, stepI, wanted, opds, get, put, putO, callE, loadV, partV, valO, binV, binI, binS, unV, nilCmp, apply, keepL, memN, bxOf, tkOf, bxF, frzL, V.frz, frzEL, V.frzE, V.pureR, pureRL, V.tks, tksL, V.al, alL, V.rn, rnL, addT, protT, protAll, distinctN, fill, splice, fillE, eqSh, intsOf, maxL, minL, bounds, ranged, finish, result, rvs, finL, V.fin, one, goesOn, opd_t, opd_c, opd_f, opdV_box, opdV_int, opdV_bool, opdV_agg, opdV_tup, opdV_nil, opdV_sl, opdV_fn, opdV_ref, opdV_cref, opdV_eref, opdV_isSl, frz_isSl, frzE_isSl, cells_isSl, cellOk_isSl, pm_isSl, prep_isSl, fin_isSl, ranged_isSl, pureR_isSl, sem_len_isSl, sem_ixs_isSl, sem_len_sl, sem_len_nil, sem_ixs_none, sem_ixs_some, semR, semx_mv, semx_pick, semx_box, semx_alloc, semx_build, semx_bsl, semx_load, semx_store, semx_bin, semx_eqs, semx_un, semx_conv, semx_mkf, semx_mkm, semx_fa, semx_fld, semx_ixa, semx_idx, semx_mks, semx_sls, semx_ext, semx_call, semx_append, semx_appz, semx_trunc, semx_cap, semx_min, semx_max, semx_nilc, opdV_und, opdV_dead, opdV_none, cellOk_bool, cells_bool, cellOk_int, cells_int, cellOk_nil, cells_nil, cellOk_sl, cells_sl, cellOk_fn, cells_fn, cellOk_ref, cells_ref, cellOk_cref, cells_cref, cellOk_eref, cells_eref, cells_agg, pm_bool, pm_int, pm_nil, pm_slN, pm_slS, pm_fn, ha, hb, hc, e12, e14, e15, e16, e17, e18, e19, e20, hkn]
end Go.Lo
