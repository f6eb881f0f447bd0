/- Steps, classes, zones; a table is opened; limits. -/
import Derived.Test.YtifanigkolnedaaUb
/-! Steps, classes, zones. -/
namespace Go.Lo
open Go.Proofs
set_option linter.unusedSimpArgs false
/-! ### Which step -/
theorem step87 {g : Nat} {caps : List V} {p : Int → Bool} {v : V} {xs : List Int} (hv : Ints v xs) (hc : ∀ rd, frzL rd caps = some caps) (hp : ∀ x, run Ft Ct g (I x :: caps) = some (B (p x))) (hl : xs.length < 9223372036854775807) {i : Nat} (hi : i < xs.length) (M : Nat) :
    evC (run Ft Ct) M b87_0 (s87 v (.fn (.f g) caps) xs.length i) = some (if p (at0 xs i) = true then (.ret, { fr := [(4, I i)], tk := [] }) else (.normal, s87 v (.fn (.f g) caps) xs.length ((i + 1 : Nat) : Int))) := by
  have h1 := hv.at hi
  have h4 := hv.sl
  have h3 := hp (at0 xs i)
  have hlt : (i : Int) < xs.length := by omega
  have hw := wrap_succ hi hl
  unfold s87
  generalize ((i + 1 : Nat) : Int) = m at *
  generalize at0 xs i = x at *
  cases hpr : p x <;> rw [hpr] at h3 <;> simp [b87_0, evBody, params, deadL, evC, prep, prepF, prepT, V.prep, prepL, stepL, stepI, wanted, opds, get, put, putO, callE, loadV, partV, valO, binV, binI, binS, unV, nilCmp, apply, keepL, memN, bxOf, tkOf, bxF, frzL, V.frz, frzEL, V.frzE, V.pureR, pureRL, V.tks, tksL, V.al, alL, V.rn, rnL, addT, protT, protAll, distinctN, fill, splice, fillE, eqSh, intsOf, maxL, minL, bounds, ranged, finish, result, rvs, finL, V.fin, one, goesOn, opd_t, opd_c, opd_f, opdV_box, opdV_int, opdV_bool, opdV_agg, opdV_tup, opdV_nil, opdV_sl, opdV_fn, opdV_ref, opdV_cref, opdV_eref, opdV_isSl, frz_isSl, frzE_isSl, cells_isSl, cellOk_isSl, pm_isSl, prep_isSl, fin_isSl, ranged_isSl, pureR_isSl, sem_len_isSl, sem_ixs_isSl, sem_len_sl, sem_len_nil, sem_ixs_none, sem_ixs_some, semR, semx_mv, semx_pick, semx_box, semx_alloc, semx_build, semx_bsl, semx_load, semx_store, semx_bin, semx_eqs, semx_un, semx_conv, semx_mkf, semx_mkm, semx_fa, semx_fld, semx_ixa, semx_idx, semx_mks, semx_sls, semx_ext, semx_call, semx_append, semx_appz, semx_trunc, semx_cap, semx_min, semx_max, semx_nilc, opdV_und, opdV_dead, opdV_none, cellOk_bool, cells_bool, cellOk_int, cells_int, cellOk_nil, cells_nil, cellOk_sl, cells_sl, cellOk_fn, cells_fn, cellOk_ref, cells_ref, cellOk_cref, cells_cref, cellOk_eref, cells_eref, cells_agg, pm_bool, pm_int, pm_nil, pm_slN, pm_slS, pm_fn, hlt, h1, h3, h4, hc, hw]
theorem run87' {g : Nat} {caps : List V} {p : Int → Bool} {v : V} {xs : List Int} (hv : Ints v xs) (hc : ∀ rd, frzL rd caps = some caps) (hp : ∀ x, run Ft Ct g (I x :: caps) = some (B (p x))) (hl : xs.length < 9223372036854775807) :
    run Ft Ct 87 [v, .fn (.f g) caps] = some (I (match (List.range xs.length).find? (fun i => p (at0 xs i)) with | some j => j | none => -1)) := by
  have h4 := hv.sl
  have h6 := hv.len
  have L := loop_find (s := fun i => s87 v (.fn (.f g) caps) xs.length ((i : Nat) : Int)) (f := evC (run Ft Ct) (xs.length + 1) b87_0) (n := xs.length) (g := fun i => p (at0 xs i)) (E := fun i => (.ret, { fr := [(4, I i)], tk := [] })) (X := (.exit 0, { fr := [(0, v), (1, .fn (.f g) caps), (7, I xs.length), (8, I xs.length), (9, B false)], tk := [] }))
    (fun i hi => step87 hv hc hp hl hi _) (fun _ => by simp) (by simp [b87_0, s87, evBody, params, deadL, evC, prep, prepF, prepT, V.prep, prepL, stepL, stepI, wanted, opds, get, put, putO, callE, loadV, partV, valO, binV, binI, binS, unV, nilCmp, apply, keepL, memN, bxOf, tkOf, bxF, frzL, V.frz, frzEL, V.frzE, V.pureR, pureRL, V.tks, tksL, V.al, alL, V.rn, rnL, addT, protT, protAll, distinctN, fill, splice, fillE, eqSh, intsOf, maxL, minL, bounds, ranged, finish, result, rvs, finL, V.fin, one, goesOn, opd_t, opd_c, opd_f, opdV_box, opdV_int, opdV_bool, opdV_agg, opdV_tup, opdV_nil, opdV_sl, opdV_fn, opdV_ref, opdV_cref, opdV_eref, opdV_isSl, frz_isSl, frzE_isSl, cells_isSl, cellOk_isSl, pm_isSl, prep_isSl, fin_isSl, ranged_isSl, pureR_isSl, sem_len_isSl, sem_ixs_isSl, sem_len_sl, sem_len_nil, sem_ixs_none, sem_ixs_some, semR, semx_mv, semx_pick, semx_box, semx_alloc, semx_build, semx_bsl, semx_load, semx_store, semx_bin, semx_eqs, semx_un, semx_conv, semx_mkf, semx_mkm, semx_fa, semx_fld, semx_ixa, semx_idx, semx_mks, semx_sls, semx_ext, semx_call, semx_append, semx_appz, semx_trunc, semx_cap, semx_min, semx_max, semx_nilc, opdV_und, opdV_dead, opdV_none, cellOk_bool, cells_bool, cellOk_int, cells_int, cellOk_nil, cells_nil, cellOk_sl, cells_sl, cellOk_fn, cells_fn, cellOk_ref, cells_ref, cellOk_cref, cells_cref, cellOk_eref, cells_eref, cells_agg, pm_bool, pm_int, pm_nil, pm_slN, pm_slS, pm_fn, h4]) (by simp) xs.length 0 (by omega)
  rw [← List.range_eq_range'] at L
  refine run_of_body (N := xs.length + 1) rfl rfl ?_
  generalize hF : evC (run Ft Ct) (xs.length + 1) b87_0 = F at L
  generalize (List.range xs.length).find? (fun i => p (at0 xs i)) = o at L
  unfold s87 at L
  cases o with
  | none => simp at L; simp [l87, evBody, params, deadL, evC, prep, prepF, prepT, V.prep, prepL, stepL, stepI, wanted, opds, get, put, putO, callE, loadV, partV, valO, binV, binI, binS, unV, nilCmp, apply, keepL, memN, bxOf, tkOf, bxF, frzL, V.frz, frzEL, V.frzE, V.pureR, pureRL, V.tks, tksL, V.al, alL, V.rn, rnL, addT, protT, protAll, distinctN, fill, splice, fillE, eqSh, intsOf, maxL, minL, bounds, ranged, finish, result, rvs, finL, V.fin, one, goesOn, opd_t, opd_c, opd_f, opdV_box, opdV_int, opdV_bool, opdV_agg, opdV_tup, opdV_nil, opdV_sl, opdV_fn, opdV_ref, opdV_cref, opdV_eref, opdV_isSl, frz_isSl, frzE_isSl, cells_isSl, cellOk_isSl, pm_isSl, prep_isSl, fin_isSl, ranged_isSl, pureR_isSl, sem_len_isSl, sem_ixs_isSl, sem_len_sl, sem_len_nil, sem_ixs_none, sem_ixs_some, semR, semx_mv, semx_pick, semx_box, semx_alloc, semx_build, semx_bsl, semx_load, semx_store, semx_bin, semx_eqs, semx_un, semx_conv, semx_mkf, semx_mkm, semx_fa, semx_fld, semx_ixa, semx_idx, semx_mks, semx_sls, semx_ext, semx_call, semx_append, semx_appz, semx_trunc, semx_cap, semx_min, semx_max, semx_nilc, opdV_und, opdV_dead, opdV_none, cellOk_bool, cells_bool, cellOk_int, cells_int, cellOk_nil, cells_nil, cellOk_sl, cells_sl, cellOk_fn, cells_fn, cellOk_ref, cells_ref, cellOk_cref, cells_cref, cellOk_eref, cells_eref, cells_agg, pm_bool, pm_int, pm_nil, pm_slN, pm_slS, pm_fn, h4, h6, hc, hF, L]
  | some j => simp at L; simp [l87, evBody, params, deadL, evC, prep, prepF, prepT, V.prep, prepL, stepL, stepI, wanted, opds, get, put, putO, callE, loadV, partV, valO, binV, binI, binS, unV, nilCmp, apply, keepL, memN, bxOf, tkOf, bxF, frzL, V.frz, frzEL, V.frzE, V.pureR, pureRL, V.tks, tksL, V.al, alL, V.rn, rnL, addT, protT, protAll, distinctN, fill, splice, fillE, eqSh, intsOf, maxL, minL, bounds, ranged, finish, result, rvs, finL, V.fin, one, goesOn, opd_t, opd_c, opd_f, opdV_box, opdV_int, opdV_bool, opdV_agg, opdV_tup, opdV_nil, opdV_sl, opdV_fn, opdV_ref, opdV_cref, opdV_eref, opdV_isSl, frz_isSl, frzE_isSl, cells_isSl, cellOk_isSl, pm_isSl, prep_isSl, fin_isSl, ranged_isSl, pureR_isSl, sem_len_isSl, sem_ixs_isSl, sem_len_sl, sem_len_nil, sem_ixs_none, sem_ixs_some, semR, semx_mv, semx_pick, semx_box, semx_alloc, semx_build, semx_bsl, semx_load, semx_store, semx_bin, semx_eqs, semx_un, semx_conv, semx_mkf, semx_mkm, semx_fa, semx_fld, semx_ixa, semx_idx, semx_mks, semx_sls, semx_ext, semx_call, semx_append, semx_appz, semx_trunc, semx_cap, semx_min, semx_max, semx_nilc, opdV_und, opdV_dead, opdV_none, cellOk_bool, cells_bool, cellOk_int, cells_int, cellOk_nil, cells_nil, cellOk_sl, cells_sl, cellOk_fn, cells_fn, cellOk_ref, cells_ref, cellOk_cref, cells_cref, cellOk_eref, cells_eref, cells_agg, pm_bool, pm_int, pm_nil, pm_slN, pm_slS, pm_fn, h4, h6, hc, hF, L]
theorem run88 (n size : Int) : run Ft Ct 88 [I n, .cref [I size]] = some (B (decide (size ≤ n))) := by
  refine run_of_body (N := 1) rfl rfl ?_
  simp [l88, evBody, params, deadL, evC, prep, prepF, prepT, V.prep, prepL, stepL, stepI, wanted, opds, get, put, putO, callE, loadV, partV, valO, binV, binI, binS, unV, nilCmp, apply, keepL, memN, bxOf, tkOf, bxF, frzL, V.frz, frzEL, V.frzE, V.pureR, pureRL, V.tks, tksL, V.al, alL, V.rn, rnL, addT, protT, protAll, distinctN, fill, splice, fillE, eqSh, intsOf, maxL, minL, bounds, ranged, finish, result, rvs, finL, V.fin, one, goesOn, opd_t, opd_c, opd_f, opdV_box, opdV_int, opdV_bool, opdV_agg, opdV_tup, opdV_nil, opdV_sl, opdV_fn, opdV_ref, opdV_cref, opdV_eref, opdV_isSl, frz_isSl, frzE_isSl, cells_isSl, cellOk_isSl, pm_isSl, prep_isSl, fin_isSl, ranged_isSl, pureR_isSl, sem_len_isSl, sem_ixs_isSl, sem_len_sl, sem_len_nil, sem_ixs_none, sem_ixs_some, semR, semx_mv, semx_pick, semx_box, semx_alloc, semx_build, semx_bsl, semx_load, semx_store, semx_bin, semx_eqs, semx_un, semx_conv, semx_mkf, semx_mkm, semx_fa, semx_fld, semx_ixa, semx_idx, semx_mks, semx_sls, semx_ext, semx_call, semx_append, semx_appz, semx_trunc, semx_cap, semx_min, semx_max, semx_nilc, opdV_und, opdV_dead, opdV_none, cellOk_bool, cells_bool, cellOk_int, cells_int, cellOk_nil, cells_nil, cellOk_sl, cells_sl, cellOk_fn, cells_fn, cellOk_ref, cells_ref, cellOk_cref, cells_cref, cellOk_eref, cells_eref, cells_agg, pm_bool, pm_int, pm_nil, pm_slN, pm_slS, pm_fn]
/-- The step of a size. -/
def stepOf (s : List Int) (size : Int) : Option Nat := if 1 ≤ size then (List.range s.length).find? (fun i => decide (size ≤ at0 s i)) else none
theorem run70 {a b c : V} {s : List Int} {g p : List (V × List Int)} (h : Tab a b c s g p) (hl : s.length ≤ 20) (size : Int) : run Ft Ct 70 [.agg [a, b, c], I size] = some (match stepOf s size with | some j => .tup [I j, I 0] | none => .tup [I 0, I 3]) := by
  have ha := h.a.sl
  have hb := h.b.sl
  have hc := h.c.sl
  have h87 := run87' (g := 88) (caps := [.cref [I size]]) (p := fun n => decide (size ≤ n)) h.a (fun rd => by simp [frzL, V.frz]) (fun x => run88 x size) (by omega)
  unfold stepOf
  refine run_of_body (N := 1) rfl rfl ?_
  generalize (List.range s.length).find? (fun i => decide (size ≤ at0 s i)) = o at *
  by_cases h1 : 1 ≤ size
  · have h1' : ¬ size < 1 := by omega
    rw [if_pos h1]
    cases o with
    | none => simp at h87; simp [l70, evBody, params, deadL, evC, prep, prepF, prepT, V.prep, prepL, stepL, stepI, wanted, opds, get, put, putO, callE, loadV, partV, valO, binV, binI, binS, unV, nilCmp, apply, keepL, memN, bxOf, tkOf, bxF, frzL, V.frz, frzEL, V.frzE, V.pureR, pureRL, V.tks, tksL, V.al, alL, V.rn, rnL, addT, protT, protAll, distinctN, fill, splice, fillE, eqSh, intsOf, maxL, minL, bounds, ranged, finish, result, rvs, finL, V.fin, one, goesOn, opd_t, opd_c, opd_f, opdV_box, opdV_int, opdV_bool, opdV_agg, opdV_tup, opdV_nil, opdV_sl, opdV_fn, opdV_ref, opdV_cref, opdV_eref, opdV_isSl, frz_isSl, frzE_isSl, cells_isSl, cellOk_isSl, pm_isSl, prep_isSl, fin_isSl, ranged_isSl, pureR_isSl, sem_len_isSl, sem_ixs_isSl, sem_len_sl, sem_len_nil, sem_ixs_none, sem_ixs_some, semR, semx_mv, semx_pick, semx_box, semx_alloc, semx_build, semx_bsl, semx_load, semx_store, semx_bin, semx_eqs, semx_un, semx_conv, semx_mkf, semx_mkm, semx_fa, semx_fld, semx_ixa, semx_idx, semx_mks, semx_sls, semx_ext, semx_call, semx_append, semx_appz, semx_trunc, semx_cap, semx_min, semx_max, semx_nilc, opdV_und, opdV_dead, opdV_none, cellOk_bool, cells_bool, cellOk_int, cells_int, cellOk_nil, cells_nil, cellOk_sl, cells_sl, cellOk_fn, cells_fn, cellOk_ref, cells_ref, cellOk_cref, cells_cref, cellOk_eref, cells_eref, cells_agg, pm_bool, pm_int, pm_nil, pm_slN, pm_slS, pm_fn, ha, hb, hc, h87, h1']
    | some j =>
      have hj : ¬ ((j : Int) < 0) := by omega
      simp at h87; simp [l70, evBody, params, deadL, evC, prep, prepF, prepT, V.prep, prepL, stepL, stepI, wanted, opds, get, put, putO, callE, loadV, partV, valO, binV, binI, binS, unV, nilCmp, apply, keepL, memN, bxOf, tkOf, bxF, frzL, V.frz, frzEL, V.frzE, V.pureR, pureRL, V.tks, tksL, V.al, alL, V.rn, rnL, addT, protT, protAll, distinctN, fill, splice, fillE, eqSh, intsOf, maxL, minL, bounds, ranged, finish, result, rvs, finL, V.fin, one, goesOn, opd_t, opd_c, opd_f, opdV_box, opdV_int, opdV_bool, opdV_agg, opdV_tup, opdV_nil, opdV_sl, opdV_fn, opdV_ref, opdV_cref, opdV_eref, opdV_isSl, frz_isSl, frzE_isSl, cells_isSl, cellOk_isSl, pm_isSl, prep_isSl, fin_isSl, ranged_isSl, pureR_isSl, sem_len_isSl, sem_ixs_isSl, sem_len_sl, sem_len_nil, sem_ixs_none, sem_ixs_some, semR, semx_mv, semx_pick, semx_box, semx_alloc, semx_build, semx_bsl, semx_load, semx_store, semx_bin, semx_eqs, semx_un, semx_conv, semx_mkf, semx_mkm, semx_fa, semx_fld, semx_ixa, semx_idx, semx_mks, semx_sls, semx_ext, semx_call, semx_append, semx_appz, semx_trunc, semx_cap, semx_min, semx_max, semx_nilc, opdV_und, opdV_dead, opdV_none, cellOk_bool, cells_bool, cellOk_int, cells_int, cellOk_nil, cells_nil, cellOk_sl, cells_sl, cellOk_fn, cells_fn, cellOk_ref, cells_ref, cellOk_cref, cells_cref, cellOk_eref, cells_eref, cells_agg, pm_bool, pm_int, pm_nil, pm_slN, pm_slS, pm_fn, ha, hb, hc, h87, h1', hj]
  · have h1' : size < 1 := by omega
    rw [if_neg h1]
    cases o with
    | none => simp at h87; simp [l70, evBody, params, deadL, evC, prep, prepF, prepT, V.prep, prepL, stepL, stepI, wanted, opds, get, put, putO, callE, loadV, partV, valO, binV, binI, binS, unV, nilCmp, apply, keepL, memN, bxOf, tkOf, bxF, frzL, V.frz, frzEL, V.frzE, V.pureR, pureRL, V.tks, tksL, V.al, alL, V.rn, rnL, addT, protT, protAll, distinctN, fill, splice, fillE, eqSh, intsOf, maxL, minL, bounds, ranged, finish, result, rvs, finL, V.fin, one, goesOn, opd_t, opd_c, opd_f, opdV_box, opdV_int, opdV_bool, opdV_agg, opdV_tup, opdV_nil, opdV_sl, opdV_fn, opdV_ref, opdV_cref, opdV_eref, opdV_isSl, frz_isSl, frzE_isSl, cells_isSl, cellOk_isSl, pm_isSl, prep_isSl, fin_isSl, ranged_isSl, pureR_isSl, sem_len_isSl, sem_ixs_isSl, sem_len_sl, sem_len_nil, sem_ixs_none, sem_ixs_some, semR, semx_mv, semx_pick, semx_box, semx_alloc, semx_build, semx_bsl, semx_load, semx_store, semx_bin, semx_eqs, semx_un, semx_conv, semx_mkf, semx_mkm, semx_fa, semx_fld, semx_ixa, semx_idx, semx_mks, semx_sls, semx_ext, semx_call, semx_append, semx_appz, semx_trunc, semx_cap, semx_min, semx_max, semx_nilc, opdV_und, opdV_dead, opdV_none, cellOk_bool, cells_bool, cellOk_int, cells_int, cellOk_nil, cells_nil, cellOk_sl, cells_sl, cellOk_fn, cells_fn, cellOk_ref, cells_ref, cellOk_cref, cells_cref, cellOk_eref, cells_eref, cells_agg, pm_bool, pm_int, pm_nil, pm_slN, pm_slS, pm_fn, ha, hb, hc, h87, h1']
    | some j => simp at h87; simp [l70, evBody, params, deadL, evC, prep, prepF, prepT, V.prep, prepL, stepL, stepI, wanted, opds, get, put, putO, callE, loadV, partV, valO, binV, binI, binS, unV, nilCmp, apply, keepL, memN, bxOf, tkOf, bxF, frzL, V.frz, frzEL, V.frzE, V.pureR, pureRL, V.tks, tksL, V.al, alL, V.rn, rnL, addT, protT, protAll, distinctN, fill, splice, fillE, eqSh, intsOf, maxL, minL, bounds, ranged, finish, result, rvs, finL, V.fin, one, goesOn, opd_t, opd_c, opd_f, opdV_box, opdV_int, opdV_bool, opdV_agg, opdV_tup, opdV_nil, opdV_sl, opdV_fn, opdV_ref, opdV_cref, opdV_eref, opdV_isSl, frz_isSl, frzE_isSl, cells_isSl, cellOk_isSl, pm_isSl, prep_isSl, fin_isSl, ranged_isSl, pureR_isSl, sem_len_isSl, sem_ixs_isSl, sem_len_sl, sem_len_nil, sem_ixs_none, sem_ixs_some, semR, semx_mv, semx_pick, semx_box, semx_alloc, semx_build, semx_bsl, semx_load, semx_store, semx_bin, semx_eqs, semx_un, semx_conv, semx_mkf, semx_mkm, semx_fa, semx_fld, semx_ixa, semx_idx, semx_mks, semx_sls, semx_ext, semx_call, semx_append, semx_appz, semx_trunc, semx_cap, semx_min, semx_max, semx_nilc, opdV_und, opdV_dead, opdV_none, cellOk_bool, cells_bool, cellOk_int, cells_int, cellOk_nil, cells_nil, cellOk_sl, cells_sl, cellOk_fn, cells_fn, cellOk_ref, cells_ref, cellOk_cref, cells_cref, cellOk_eref, cells_eref, cells_agg, pm_bool, pm_int, pm_nil, pm_slN, pm_slS, pm_fn, ha, hb, hc, h87, h1']
def s35 (a b c : V) (size : Int) (i : Nat) : St := { fr := [(1, I size), (2, .box [a, b, c]), (6, I i)], tk := [] }
theorem step35 {a b c : V} {s : List Int} {g p : List (V × List Int)} (h : Tab a b c s g p) (hl : s.length ≤ 20) {size : Int} (h1 : 1 ≤ size) {i : Nat} (hi : i < s.length) (M : Nat) :
    evC (run Ft Ct) M b35_0 (s35 a b c size i) = some (if decide (size ≤ at0 s i) = true then (.ret, { fr := [(4, I i), (5, B true)], tk := [] }) else (.normal, s35 a b c size (i + 1))) := by
  have ha := h.a.sl
  have hb := h.b.sl
  have hc := h.c.sl
  have e1 := h.a.at hi
  have hal := h.a.len
  have hlt : (i : Int) < s.length := by omega
  have hw : IntKind.i64.wrap ((i : Int) + 1) = ((i + 1 : Nat) : Int) := wrap_succ hi (by omega)
  unfold s35
  generalize ((i + 1 : Nat) : Int) = m at *
  generalize at0 s i = x at *
  by_cases c1 : size ≤ x
  · simp [b35_0, evBody, params, deadL, evC, prep, prepF, prepT, V.prep, prepL, stepL, stepI, wanted, opds, get, put, putO, callE, loadV, partV, valO, binV, binI, binS, unV, nilCmp, apply, keepL, memN, bxOf, tkOf, bxF, frzL, V.frz, frzEL, V.frzE, V.pureR, pureRL, V.tks, tksL, V.al, alL, V.rn, rnL, addT, protT, protAll, distinctN, fill, splice, fillE, eqSh, intsOf, maxL, minL, bounds, ranged, finish, result, rvs, finL, V.fin, one, goesOn, opd_t, opd_c, opd_f, opdV_box, opdV_int, opdV_bool, opdV_agg, opdV_tup, opdV_nil, opdV_sl, opdV_fn, opdV_ref, opdV_cref, opdV_eref, opdV_isSl, frz_isSl, frzE_isSl, cells_isSl, cellOk_isSl, pm_isSl, prep_isSl, fin_isSl, ranged_isSl, pureR_isSl, sem_len_isSl, sem_ixs_isSl, sem_len_sl, sem_len_nil, sem_ixs_none, sem_ixs_some, semR, semx_mv, semx_pick, semx_box, semx_alloc, semx_build, semx_bsl, semx_load, semx_store, semx_bin, semx_eqs, semx_un, semx_conv, semx_mkf, semx_mkm, semx_fa, semx_fld, semx_ixa, semx_idx, semx_mks, semx_sls, semx_ext, semx_call, semx_append, semx_appz, semx_trunc, semx_cap, semx_min, semx_max, semx_nilc, opdV_und, opdV_dead, opdV_none, cellOk_bool, cells_bool, cellOk_int, cells_int, cellOk_nil, cells_nil, cellOk_sl, cells_sl, cellOk_fn, cells_fn, cellOk_ref, cells_ref, cellOk_cref, cells_cref, cellOk_eref, cells_eref, cells_agg, pm_bool, pm_int, pm_nil, pm_slN, pm_slS, pm_fn, ha, hb, hc, hal, hlt, e1, hw, h1, c1]
  · simp [b35_0, evBody, params, deadL, evC, prep, prepF, prepT, V.prep, prepL, stepL, stepI, wanted, opds, get, put, putO, callE, loadV, partV, valO, binV, binI, binS, unV, nilCmp, apply, keepL, memN, bxOf, tkOf, bxF, frzL, V.frz, frzEL, V.frzE, V.pureR, pureRL, V.tks, tksL, V.al, alL, V.rn, rnL, addT, protT, protAll, distinctN, fill, splice, fillE, eqSh, intsOf, maxL, minL, bounds, ranged, finish, result, rvs, finL, V.fin, one, goesOn, opd_t, opd_c, opd_f, opdV_box, opdV_int, opdV_bool, opdV_agg, opdV_tup, opdV_nil, opdV_sl, opdV_fn, opdV_ref, opdV_cref, opdV_eref, opdV_isSl, frz_isSl, frzE_isSl, cells_isSl, cellOk_isSl, pm_isSl, prep_isSl, fin_isSl, ranged_isSl, pureR_isSl, sem_len_isSl, sem_ixs_isSl, sem_len_sl, sem_len_nil, sem_ixs_none, sem_ixs_some, semR, semx_mv, semx_pick, semx_box, semx_alloc, semx_build, semx_bsl, semx_load, semx_store, semx_bin, semx_eqs, semx_un, semx_conv, semx_mkf, semx_mkm, semx_fa, semx_fld, semx_ixa, semx_idx, semx_mks, semx_sls, semx_ext, semx_call, semx_append, semx_appz, semx_trunc, semx_cap, semx_min, semx_max, semx_nilc, opdV_und, opdV_dead, opdV_none, cellOk_bool, cells_bool, cellOk_int, cells_int, cellOk_nil, cells_nil, cellOk_sl, cells_sl, cellOk_fn, cells_fn, cellOk_ref, cells_ref, cellOk_cref, cells_cref, cellOk_eref, cells_eref, cells_agg, pm_bool, pm_int, pm_nil, pm_slN, pm_slS, pm_fn, ha, hb, hc, hal, hlt, e1, hw, h1, c1]
theorem run35 {a b c : V} {s : List Int} {g p : List (V × List Int)} (h : Tab a b c s g p) (hl : s.length ≤ 20) (size : Int) : run Ft Ct 35 [.agg [a, b, c], I size] = some (match stepOf s size with | some j => .tup [I j, B true] | none => .tup [I 0, B false]) := by
  have ha := h.a.sl
  have hb := h.b.sl
  have hc := h.c.sl
  have hal := h.a.len
  unfold stepOf
  by_cases h1 : 1 ≤ size
  · rw [if_pos h1]
    have L := loop_find (s := s35 a b c size) (f := evC (run Ft Ct) 21 b35_0) (n := s.length) (g := fun i => decide (size ≤ at0 s i)) (E := fun i => (.ret, { fr := [(4, I i), (5, B true)], tk := [] })) (X := (.exit 0, { fr := [(1, I size), (2, .box [a, b, c]), (6, I s.length), (15, B false)], tk := [] }))
      (fun i hi => step35 h hl h1 hi _) (fun _ => by simp) (by simp [b35_0, s35, evBody, params, deadL, evC, prep, prepF, prepT, V.prep, prepL, stepL, stepI, wanted, opds, get, put, putO, callE, loadV, partV, valO, binV, binI, binS, unV, nilCmp, apply, keepL, memN, bxOf, tkOf, bxF, frzL, V.frz, frzEL, V.frzE, V.pureR, pureRL, V.tks, tksL, V.al, alL, V.rn, rnL, addT, protT, protAll, distinctN, fill, splice, fillE, eqSh, intsOf, maxL, minL, bounds, ranged, finish, result, rvs, finL, V.fin, one, goesOn, opd_t, opd_c, opd_f, opdV_box, opdV_int, opdV_bool, opdV_agg, opdV_tup, opdV_nil, opdV_sl, opdV_fn, opdV_ref, opdV_cref, opdV_eref, opdV_isSl, frz_isSl, frzE_isSl, cells_isSl, cellOk_isSl, pm_isSl, prep_isSl, fin_isSl, ranged_isSl, pureR_isSl, sem_len_isSl, sem_ixs_isSl, sem_len_sl, sem_len_nil, sem_ixs_none, sem_ixs_some, semR, semx_mv, semx_pick, semx_box, semx_alloc, semx_build, semx_bsl, semx_load, semx_store, semx_bin, semx_eqs, semx_un, semx_conv, semx_mkf, semx_mkm, semx_fa, semx_fld, semx_ixa, semx_idx, semx_mks, semx_sls, semx_ext, semx_call, semx_append, semx_appz, semx_trunc, semx_cap, semx_min, semx_max, semx_nilc, opdV_und, opdV_dead, opdV_none, cellOk_bool, cells_bool, cellOk_int, cells_int, cellOk_nil, cells_nil, cellOk_sl, cells_sl, cellOk_fn, cells_fn, cellOk_ref, cells_ref, cellOk_cref, cells_cref, cellOk_eref, cells_eref, cells_agg, pm_bool, pm_int, pm_nil, pm_slN, pm_slS, pm_fn, ha, hb, hc, hal]) (by simp) s.length 0 (by omega)
    have L := iter_le (f := evC (run Ft Ct) 21 b35_0) (fun _ _ h => h) (show s.length + 1 ≤ 21 by omega) L
    rw [← List.range_eq_range'] at L
    refine run_of_body (N := 21) rfl rfl ?_
    generalize hF : evC (run Ft Ct) 21 b35_0 = F at L
    generalize (List.range s.length).find? (fun i => decide (size ≤ at0 s i)) = o at L
    unfold s35 at L
    cases o with
    | none => simp at L; simp [l35, evBody, params, deadL, evC, prep, prepF, prepT, V.prep, prepL, stepL, stepI, wanted, opds, get, put, putO, callE, loadV, partV, valO, binV, binI, binS, unV, nilCmp, apply, keepL, memN, bxOf, tkOf, bxF, frzL, V.frz, frzEL, V.frzE, V.pureR, pureRL, V.tks, tksL, V.al, alL, V.rn, rnL, addT, protT, protAll, distinctN, fill, splice, fillE, eqSh, intsOf, maxL, minL, bounds, ranged, finish, result, rvs, finL, V.fin, one, goesOn, opd_t, opd_c, opd_f, opdV_box, opdV_int, opdV_bool, opdV_agg, opdV_tup, opdV_nil, opdV_sl, opdV_fn, opdV_ref, opdV_cref, opdV_eref, opdV_isSl, frz_isSl, frzE_isSl, cells_isSl, cellOk_isSl, pm_isSl, prep_isSl, fin_isSl, ranged_isSl, pureR_isSl, sem_len_isSl, sem_ixs_isSl, sem_len_sl, sem_len_nil, sem_ixs_none, sem_ixs_some, semR, semx_mv, semx_pick, semx_box, semx_alloc, semx_build, semx_bsl, semx_load, semx_store, semx_bin, semx_eqs, semx_un, semx_conv, semx_mkf, semx_mkm, semx_fa, semx_fld, semx_ixa, semx_idx, semx_mks, semx_sls, semx_ext, semx_call, semx_append, semx_appz, semx_trunc, semx_cap, semx_min, semx_max, semx_nilc, opdV_und, opdV_dead, opdV_none, cellOk_bool, cells_bool, cellOk_int, cells_int, cellOk_nil, cells_nil, cellOk_sl, cells_sl, cellOk_fn, cells_fn, cellOk_ref, cells_ref, cellOk_cref, cells_cref, cellOk_eref, cells_eref, cells_agg, pm_bool, pm_int, pm_nil, pm_slN, pm_slS, pm_fn, ha, hb, hc, hF, L]
    | some j => simp at L; simp [l35, evBody, params, deadL, evC, prep, prepF, prepT, V.prep, prepL, stepL, stepI, wanted, opds, get, put, putO, callE, loadV, partV, valO, binV, binI, binS, unV, nilCmp, apply, keepL, memN, bxOf, tkOf, bxF, frzL, V.frz, frzEL, V.frzE, V.pureR, pureRL, V.tks, tksL, V.al, alL, V.rn, rnL, addT, protT, protAll, distinctN, fill, splice, fillE, eqSh, intsOf, maxL, minL, bounds, ranged, finish, result, rvs, finL, V.fin, one, goesOn, opd_t, opd_c, opd_f, opdV_box, opdV_int, opdV_bool, opdV_agg, opdV_tup, opdV_nil, opdV_sl, opdV_fn, opdV_ref, opdV_cref, opdV_eref, opdV_isSl, frz_isSl, frzE_isSl, cells_isSl, cellOk_isSl, pm_isSl, prep_isSl, fin_isSl, ranged_isSl, pureR_isSl, sem_len_isSl, sem_ixs_isSl, sem_len_sl, sem_len_nil, sem_ixs_none, sem_ixs_some, semR, semx_mv, semx_pick, semx_box, semx_alloc, semx_build, semx_bsl, semx_load, semx_store, semx_bin, semx_eqs, semx_un, semx_conv, semx_mkf, semx_mkm, semx_fa, semx_fld, semx_ixa, semx_idx, semx_mks, semx_sls, semx_ext, semx_call, semx_append, semx_appz, semx_trunc, semx_cap, semx_min, semx_max, semx_nilc, opdV_und, opdV_dead, opdV_none, cellOk_bool, cells_bool, cellOk_int, cells_int, cellOk_nil, cells_nil, cellOk_sl, cells_sl, cellOk_fn, cells_fn, cellOk_ref, cells_ref, cellOk_cref, cells_cref, cellOk_eref, cells_eref, cells_agg, pm_bool, pm_int, pm_nil, pm_slN, pm_slS, pm_fn, ha, hb, hc, hF, L]
  · rw [if_neg h1]
    refine run_of_body (N := 1) rfl rfl ?_
    by_cases h0 : 0 < s.length
    · have h0i : (0 : Int) < s.length := by omega
      simp [l35, b35_0, iter, evBody, params, deadL, evC, prep, prepF, prepT, V.prep, prepL, stepL, stepI, wanted, opds, get, put, putO, callE, loadV, partV, valO, binV, binI, binS, unV, nilCmp, apply, keepL, memN, bxOf, tkOf, bxF, frzL, V.frz, frzEL, V.frzE, V.pureR, pureRL, V.tks, tksL, V.al, alL, V.rn, rnL, addT, protT, protAll, distinctN, fill, splice, fillE, eqSh, intsOf, maxL, minL, bounds, ranged, finish, result, rvs, finL, V.fin, one, goesOn, opd_t, opd_c, opd_f, opdV_box, opdV_int, opdV_bool, opdV_agg, opdV_tup, opdV_nil, opdV_sl, opdV_fn, opdV_ref, opdV_cref, opdV_eref, opdV_isSl, frz_isSl, frzE_isSl, cells_isSl, cellOk_isSl, pm_isSl, prep_isSl, fin_isSl, ranged_isSl, pureR_isSl, sem_len_isSl, sem_ixs_isSl, sem_len_sl, sem_len_nil, sem_ixs_none, sem_ixs_some, semR, semx_mv, semx_pick, semx_box, semx_alloc, semx_build, semx_bsl, semx_load, semx_store, semx_bin, semx_eqs, semx_un, semx_conv, semx_mkf, semx_mkm, semx_fa, semx_fld, semx_ixa, semx_idx, semx_mks, semx_sls, semx_ext, semx_call, semx_append, semx_appz, semx_trunc, semx_cap, semx_min, semx_max, semx_nilc, opdV_und, opdV_dead, opdV_none, cellOk_bool, cells_bool, cellOk_int, cells_int, cellOk_nil, cells_nil, cellOk_sl, cells_sl, cellOk_fn, cells_fn, cellOk_ref, cells_ref, cellOk_cref, cells_cref, cellOk_eref, cells_eref, cells_agg, pm_bool, pm_int, pm_nil, pm_slN, pm_slS, pm_fn, ha, hb, hc, hal, h1, h0, h0i]
    · have h0i : ¬ (0 : Int) < s.length := by omega
      simp [l35, b35_0, iter, evBody, params, deadL, evC, prep, prepF, prepT, V.prep, prepL, stepL, stepI, wanted, opds, get, put, putO, callE, loadV, partV, valO, binV, binI, binS, unV, nilCmp, apply, keepL, memN, bxOf, tkOf, bxF, frzL, V.frz, frzEL, V.frzE, V.pureR, pureRL, V.tks, tksL, V.al, alL, V.rn, rnL, addT, protT, protAll, distinctN, fill, splice, fillE, eqSh, intsOf, maxL, minL, bounds, ranged, finish, result, rvs, finL, V.fin, one, goesOn, opd_t, opd_c, opd_f, opdV_box, opdV_int, opdV_bool, opdV_agg, opdV_tup, opdV_nil, opdV_sl, opdV_fn, opdV_ref, opdV_cref, opdV_eref, opdV_isSl, frz_isSl, frzE_isSl, cells_isSl, cellOk_isSl, pm_isSl, prep_isSl, fin_isSl, ranged_isSl, pureR_isSl, sem_len_isSl, sem_ixs_isSl, sem_len_sl, sem_len_nil, sem_ixs_none, sem_ixs_some, semR, semx_mv, semx_pick, semx_box, semx_alloc, semx_build, semx_bsl, semx_load, semx_store, semx_bin, semx_eqs, semx_un, semx_conv, semx_mkf, semx_mkm, semx_fa, semx_fld, semx_ixa, semx_idx, semx_mks, semx_sls, semx_ext, semx_call, semx_append, semx_appz, semx_trunc, semx_cap, semx_min, semx_max, semx_nilc, opdV_und, opdV_dead, opdV_none, cellOk_bool, cells_bool, cellOk_int, cells_int, cellOk_nil, cells_nil, cellOk_sl, cells_sl, cellOk_fn, cells_fn, cellOk_ref, cells_ref, cellOk_cref, cells_cref, cellOk_eref, cells_eref, cells_agg, pm_bool, pm_int, pm_nil, pm_slN, pm_slS, pm_fn, ha, hb, hc, hal, h1, h0, h0i]
/-! ### Classes -/
def clsB (np ng : Nat) (pl gr : Int) : Bool := decide (0 ≤ pl ∧ pl < np ∧ 0 ≤ gr ∧ gr < ng)
theorem run85 {a b c : V} {s : List Int} {g p : List (V × List Int)} (h : Tab a b c s g p) (hg : g.length ≤ 12) (hp : p.length ≤ 12) (pl gr : Int) : run Ft Ct 85 [.agg [a, b, c], .agg [I pl, I gr]] = some (B (clsB p.length g.length pl gr)) := by
  have ha := h.a.sl
  have hb := h.b.sl
  have hc := h.c.sl
  have hbl := h.b.len
  have hcl := h.c.len
  have w1 : IntKind.i64.wrap ((p.length : Int) - 1) = (p.length : Int) - 1 := wr (by omega) (by omega)
  have w2 : IntKind.i64.wrap ((g.length : Int) - 1) = (g.length : Int) - 1 := wr (by omega) (by omega)
  have e1 := run58 0 ((p.length : Int) - 1) (xs := [pl]) (by simp)
  have e2 := run58 0 ((g.length : Int) - 1) (xs := [gr]) (by simp)
  have q1 : ([pl].all fun n => decide (0 ≤ n ∧ n ≤ (p.length : Int) - 1)) = decide (0 ≤ pl ∧ pl < p.length) := by rw [Bool.eq_iff_iff]; simp; omega
  have q2 : ([gr].all fun n => decide (0 ≤ n ∧ n ≤ (g.length : Int) - 1)) = decide (0 ≤ gr ∧ gr < g.length) := by rw [Bool.eq_iff_iff]; simp; omega
  rw [q1] at e1
  rw [q2] at e2
  simp only [eI, List.map_cons, List.map_nil] at e1 e2
  unfold clsB
  refine run_of_body (N := 1) rfl rfl ?_
  by_cases c1 : 0 ≤ pl ∧ pl < p.length
  · rw [decide_eq_true c1] at e1
    have c3 : (0 ≤ pl ∧ pl < p.length ∧ 0 ≤ gr ∧ gr < g.length) ↔ (0 ≤ gr ∧ gr < g.length) := by omega
    simp only [c3]
    generalize decide (0 ≤ gr ∧ gr < (g.length : Int)) = r at *
    simp [l85, evBody, params, deadL, evC, prep, prepF, prepT, V.prep, prepL, stepL, stepI, wanted, opds, get, put, putO, callE, loadV, partV, valO, binV, binI, binS, unV, nilCmp, apply, keepL, memN, bxOf, tkOf, bxF, frzL, V.frz, frzEL, V.frzE, V.pureR, pureRL, V.tks, tksL, V.al, alL, V.rn, rnL, addT, protT, protAll, distinctN, fill, splice, fillE, eqSh, intsOf, maxL, minL, bounds, ranged, finish, result, rvs, finL, V.fin, one, goesOn, opd_t, opd_c, opd_f, opdV_box, opdV_int, opdV_bool, opdV_agg, opdV_tup, opdV_nil, opdV_sl, opdV_fn, opdV_ref, opdV_cref, opdV_eref, opdV_isSl, frz_isSl, frzE_isSl, cells_isSl, cellOk_isSl, pm_isSl, prep_isSl, fin_isSl, ranged_isSl, pureR_isSl, sem_len_isSl, sem_ixs_isSl, sem_len_sl, sem_len_nil, sem_ixs_none, sem_ixs_some, semR, semx_mv, semx_pick, semx_box, semx_alloc, semx_build, semx_bsl, semx_load, semx_store, semx_bin, semx_eqs, semx_un, semx_conv, semx_mkf, semx_mkm, semx_fa, semx_fld, semx_ixa, semx_idx, semx_mks, semx_sls, semx_ext, semx_call, semx_append, semx_appz, semx_trunc, semx_cap, semx_min, semx_max, semx_nilc, opdV_und, opdV_dead, opdV_none, cellOk_bool, cells_bool, cellOk_int, cells_int, cellOk_nil, cells_nil, cellOk_sl, cells_sl, cellOk_fn, cells_fn, cellOk_ref, cells_ref, cellOk_cref, cells_cref, cellOk_eref, cells_eref, cells_agg, pm_bool, pm_int, pm_nil, pm_slN, pm_slS, pm_fn, ha, hb, hc, hbl, hcl, w1, w2, e1, e2]
  · rw [decide_eq_false c1] at e1
    have c3 : ¬ (0 ≤ pl ∧ pl < p.length ∧ 0 ≤ gr ∧ gr < g.length) := by omega
    rw [decide_eq_false c3]
    simp [l85, evBody, params, deadL, evC, prep, prepF, prepT, V.prep, prepL, stepL, stepI, wanted, opds, get, put, putO, callE, loadV, partV, valO, binV, binI, binS, unV, nilCmp, apply, keepL, memN, bxOf, tkOf, bxF, frzL, V.frz, frzEL, V.frzE, V.pureR, pureRL, V.tks, tksL, V.al, alL, V.rn, rnL, addT, protT, protAll, distinctN, fill, splice, fillE, eqSh, intsOf, maxL, minL, bounds, ranged, finish, result, rvs, finL, V.fin, one, goesOn, opd_t, opd_c, opd_f, opdV_box, opdV_int, opdV_bool, opdV_agg, opdV_tup, opdV_nil, opdV_sl, opdV_fn, opdV_ref, opdV_cref, opdV_eref, opdV_isSl, frz_isSl, frzE_isSl, cells_isSl, cellOk_isSl, pm_isSl, prep_isSl, fin_isSl, ranged_isSl, pureR_isSl, sem_len_isSl, sem_ixs_isSl, sem_len_sl, sem_len_nil, sem_ixs_none, sem_ixs_some, semR, semx_mv, semx_pick, semx_box, semx_alloc, semx_build, semx_bsl, semx_load, semx_store, semx_bin, semx_eqs, semx_un, semx_conv, semx_mkf, semx_mkm, semx_fa, semx_fld, semx_ixa, semx_idx, semx_mks, semx_sls, semx_ext, semx_call, semx_append, semx_appz, semx_trunc, semx_cap, semx_min, semx_max, semx_nilc, opdV_und, opdV_dead, opdV_none, cellOk_bool, cells_bool, cellOk_int, cells_int, cellOk_nil, cells_nil, cellOk_sl, cells_sl, cellOk_fn, cells_fn, cellOk_ref, cells_ref, cellOk_cref, cells_cref, cellOk_eref, cells_eref, cells_agg, pm_bool, pm_int, pm_nil, pm_slN, pm_slS, pm_fn, ha, hb, hc, hbl, hcl, w1, w2, e1]
theorem run38 {a b c : V} {s : List Int} {g p : List (V × List Int)} (h : Tab a b c s g p) (hg : g.length ≤ 12) (hp : p.length ≤ 12) (pl gr : Int) : run Ft Ct 38 [.agg [a, b, c], .agg [I pl, I gr]] = some (B (clsB p.length g.length pl gr)) := by
  have ha := h.a.sl
  have hb := h.b.sl
  have hc := h.c.sl
  have hbl := h.b.len
  have hcl := h.c.len
  have w1 : IntKind.i64.wrap ((p.length : Int) - 1) = (p.length : Int) - 1 := wr (by omega) (by omega)
  have w2 : IntKind.i64.wrap ((g.length : Int) - 1) = (g.length : Int) - 1 := wr (by omega) (by omega)
  have e1 := run65 pl 0 ((p.length : Int) - 1)
  have e2 := run65 gr 0 ((g.length : Int) - 1)
  unfold clsB
  refine run_of_body (N := 1) rfl rfl ?_
  by_cases c1 : 0 ≤ pl ∧ pl ≤ (p.length : Int) - 1
  · rw [decide_eq_true c1] at e1
    have c3 : (0 ≤ pl ∧ pl < p.length ∧ 0 ≤ gr ∧ gr < g.length) ↔ (0 ≤ gr ∧ gr ≤ (g.length : Int) - 1) := by omega
    simp only [c3]
    generalize decide (0 ≤ gr ∧ gr ≤ (g.length : Int) - 1) = r at *
    simp [l38, evBody, params, deadL, evC, prep, prepF, prepT, V.prep, prepL, stepL, stepI, wanted, opds, get, put, putO, callE, loadV, partV, valO, binV, binI, binS, unV, nilCmp, apply, keepL, memN, bxOf, tkOf, bxF, frzL, V.frz, frzEL, V.frzE, V.pureR, pureRL, V.tks, tksL, V.al, alL, V.rn, rnL, addT, protT, protAll, distinctN, fill, splice, fillE, eqSh, intsOf, maxL, minL, bounds, ranged, finish, result, rvs, finL, V.fin, one, goesOn, opd_t, opd_c, opd_f, opdV_box, opdV_int, opdV_bool, opdV_agg, opdV_tup, opdV_nil, opdV_sl, opdV_fn, opdV_ref, opdV_cref, opdV_eref, opdV_isSl, frz_isSl, frzE_isSl, cells_isSl, cellOk_isSl, pm_isSl, prep_isSl, fin_isSl, ranged_isSl, pureR_isSl, sem_len_isSl, sem_ixs_isSl, sem_len_sl, sem_len_nil, sem_ixs_none, sem_ixs_some, semR, semx_mv, semx_pick, semx_box, semx_alloc, semx_build, semx_bsl, semx_load, semx_store, semx_bin, semx_eqs, semx_un, semx_conv, semx_mkf, semx_mkm, semx_fa, semx_fld, semx_ixa, semx_idx, semx_mks, semx_sls, semx_ext, semx_call, semx_append, semx_appz, semx_trunc, semx_cap, semx_min, semx_max, semx_nilc, opdV_und, opdV_dead, opdV_none, cellOk_bool, cells_bool, cellOk_int, cells_int, cellOk_nil, cells_nil, cellOk_sl, cells_sl, cellOk_fn, cells_fn, cellOk_ref, cells_ref, cellOk_cref, cells_cref, cellOk_eref, cells_eref, cells_agg, pm_bool, pm_int, pm_nil, pm_slN, pm_slS, pm_fn, ha, hb, hc, hbl, hcl, w1, w2, e1, e2]
  · rw [decide_eq_false c1] at e1
    have c3 : ¬ (0 ≤ pl ∧ pl < p.length ∧ 0 ≤ gr ∧ gr < g.length) := by omega
    rw [decide_eq_false c3]
    simp [l38, evBody, params, deadL, evC, prep, prepF, prepT, V.prep, prepL, stepL, stepI, wanted, opds, get, put, putO, callE, loadV, partV, valO, binV, binI, binS, unV, nilCmp, apply, keepL, memN, bxOf, tkOf, bxF, frzL, V.frz, frzEL, V.frzE, V.pureR, pureRL, V.tks, tksL, V.al, alL, V.rn, rnL, addT, protT, protAll, distinctN, fill, splice, fillE, eqSh, intsOf, maxL, minL, bounds, ranged, finish, result, rvs, finL, V.fin, one, goesOn, opd_t, opd_c, opd_f, opdV_box, opdV_int, opdV_bool, opdV_agg, opdV_tup, opdV_nil, opdV_sl, opdV_fn, opdV_ref, opdV_cref, opdV_eref, opdV_isSl, frz_isSl, frzE_isSl, cells_isSl, cellOk_isSl, pm_isSl, prep_isSl, fin_isSl, ranged_isSl, pureR_isSl, sem_len_isSl, sem_ixs_isSl, sem_len_sl, sem_len_nil, sem_ixs_none, sem_ixs_some, semR, semx_mv, semx_pick, semx_box, semx_alloc, semx_build, semx_bsl, semx_load, semx_store, semx_bin, semx_eqs, semx_un, semx_conv, semx_mkf, semx_mkm, semx_fa, semx_fld, semx_ixa, semx_idx, semx_mks, semx_sls, semx_ext, semx_call, semx_append, semx_appz, semx_trunc, semx_cap, semx_min, semx_max, semx_nilc, opdV_und, opdV_dead, opdV_none, cellOk_bool, cells_bool, cellOk_int, cells_int, cellOk_nil, cells_nil, cellOk_sl, cells_sl, cellOk_fn, cells_fn, cellOk_ref, cells_ref, cellOk_cref, cells_cref, cellOk_eref, cells_eref, cells_agg, pm_bool, pm_int, pm_nil, pm_slN, pm_slS, pm_fn, ha, hb, hc, hbl, hcl, w1, e1]
end Go.Lo
/-! Zones; a table is opened; limits. -/
namespace Go.Lo
open Go.Proofs
set_option linter.unusedSimpArgs false
def rowAt (g : List (List Int)) (i k : Nat) : Int := at0 (g.getD i []) k
/-- What is known of a valid table. -/
structure Good (s : List Int) (g p : List (List Int)) : Prop where
  ls : s.length ≤ 20
  lg : g.length ≤ 12
  lp : p.length ≤ 12
  fg : ∀ r ∈ g, r.length = s.length
  fp : ∀ r ∈ p, r.length = s.length
  rg : ∀ r ∈ g, ∀ x ∈ r, 0 ≤ x ∧ x ≤ 100000
  rp : ∀ r ∈ p, ∀ x ∈ r, -100000 ≤ x ∧ x ≤ 100000
  st : ∀ i, i < s.length → stepB s i = true
  ns : s ≠ []
  ng : g ≠ []
  np : p ≠ []
theorem chk_good {s : List Int} {g p : List (List Int)} (h : chk s g p = 0) : Good s g p := by
  unfold chk at h
  split at h
  · simp at h
  · rename_i h1
    split at h
    · simp at h
    · rename_i h2
      split at h
      · rename_i h3
        obtain ⟨c1, c2, c3, c4, c5, c6⟩ := h3
        have k1 : ∀ r ∈ g, r.length = s.length := by
          intro r hr
          apply Decidable.byContradiction
          intro hn
          apply h2
          left
          rw [List.any_eq_true]
          exact ⟨r, hr, by simp [formB]; omega⟩
        have k2 : ∀ r ∈ p, r.length = s.length := by
          intro r hr
          apply Decidable.byContradiction
          intro hn
          apply h2
          right
          rw [List.any_eq_true]
          exact ⟨r, hr, by simp [formB]; omega⟩
        refine ⟨by omega, by omega, by omega, k1, k2, ?_, ?_, ?_, c2, c3, c4⟩
        · intro r hr x hx
          have := List.all_eq_true.1 c5 r hr
          have := List.all_eq_true.1 this x hx
          simpa using this
        · intro r hr x hx
          have := List.all_eq_true.1 c6 r hr
          have := List.all_eq_true.1 this x hx
          simpa using this
        · intro i hi
          exact List.all_eq_true.1 c1 i (List.mem_range.2 hi)
      · simp at h
theorem lst2_getD {rs : List (V × List Int)} {i : Nat} (hi : i < rs.length) : (lst2 rs).getD i [] = rs[i].2 := by
  rw [List.getD_eq_getElem?_getD]
  simp [lst2, hi]
theorem RowsV.at {v : V} {rs : List (V × List Int)} (hv : RowsV v rs) {i k : Nat} (hi : i < rs.length) (hk : k < ((lst2 rs).getD i []).length) :
    ∃ r, (els v)[i]? = some [r] ∧ isSl r ∧ (els r)[k]? = some [I (rowAt (lst2 rs) i k)] := by
  obtain ⟨h1, h2⟩ := hv.get hi
  refine ⟨rs[i].1, h1, h2.sl, ?_⟩
  unfold rowAt
  rw [lst2_getD hi] at hk ⊢
  exact h2.at hk
theorem row_len {g : List (List Int)} {n i : Nat} (h : ∀ r ∈ g, r.length = n) (hi : i < g.length) : (g.getD i []).length = n := by
  rw [List.getD_eq_getElem?_getD]
  simp only [List.getElem?_eq_getElem hi, Option.getD_some]
  exact h _ (List.getElem_mem hi)
theorem row_bd {g : List (List Int)} {i k : Nat} {a b : Int} (h : ∀ r ∈ g, ∀ x ∈ r, a ≤ x ∧ x ≤ b) (hi : i < g.length) (hk : k < (g.getD i []).length) : a ≤ rowAt g i k ∧ rowAt g i k ≤ b := by
  unfold rowAt
  have h1 : g.getD i [] ∈ g := by
    rw [List.getD_eq_getElem?_getD]
    simp only [List.getElem?_eq_getElem hi, Option.getD_some]
    exact List.getElem_mem hi
  exact h _ h1 _ (List.mem_of_getElem? (at0_get hk))
/-- A zone. -/
def zoneV (g p : List (List Int)) (pl gr : Nat) (nut : Bool) (size : Int) (step : Nat) : V :=
  if nut = true then .agg [I (size + rowAt p pl step), I (size + rowAt p pl step + rowAt g gr step)] else .agg [I (size - rowAt p pl step - rowAt g gr step), I (size - rowAt p pl step)]
theorem run61 {a b c : V} {s : List Int} {g p : List (V × List Int)} (h : Tab a b c s g p) (hG : Good s (lst2 g) (lst2 p)) {pl gr step : Nat} (h1 : pl < p.length) (h2 : gr < g.length) (h3 : step < s.length) (nut : Bool) {size : Int} (hs : -100000000 ≤ size ∧ size ≤ 100000000) :
    run Ft Ct 61 [.agg [a, b, c], .agg [I pl, I gr], B nut, I size, I step] = some (zoneV (lst2 g) (lst2 p) pl gr nut size step) := by
  have ha := h.a.sl
  have hb := h.b.sl
  have hc := h.c.sl
  have kp := row_len hG.fp (i := pl) (by rw [lst2_len]; exact h1)
  have kg := row_len hG.fg (i := gr) (by rw [lst2_len]; exact h2)
  obtain ⟨rp, p1, p2, p3⟩ := h.c.at (i := pl) (k := step) h1 (by omega)
  obtain ⟨rg, g1, g2, g3⟩ := h.b.at (i := gr) (k := step) h2 (by omega)
  have bp := row_bd hG.rp (i := pl) (k := step) (by rw [lst2_len]; exact h1) (by omega)
  have bg := row_bd hG.rg (i := gr) (k := step) (by rw [lst2_len]; exact h2) (by omega)
  unfold zoneV
  generalize rowAt (lst2 p) pl step = far at *
  generalize rowAt (lst2 g) gr step = wide at *
  have w1 : IntKind.i64.wrap (size + far) = size + far := wr (by omega) (by omega)
  have w2 : IntKind.i64.wrap (size + far + wide) = size + far + wide := wr (by omega) (by omega)
  have w3 : IntKind.i64.wrap (size - far) = size - far := wr (by omega) (by omega)
  have w4 : IntKind.i64.wrap (size - far - wide) = size - far - wide := wr (by omega) (by omega)
  refine run_of_body (N := 1) rfl rfl ?_
  cases nut <;> simp [l61, evBody, params, deadL, evC, prep, prepF, prepT, V.prep, prepL, stepL, stepI, wanted, opds, get, put, putO, callE, loadV, partV, valO, binV, binI, binS, unV, nilCmp, apply, keepL, memN, bxOf, tkOf, bxF, frzL, V.frz, frzEL, V.frzE, V.pureR, pureRL, V.tks, tksL, V.al, alL, V.rn, rnL, addT, protT, protAll, distinctN, fill, splice, fillE, eqSh, intsOf, maxL, minL, bounds, ranged, finish, result, rvs, finL, V.fin, one, goesOn, opd_t, opd_c, opd_f, opdV_box, opdV_int, opdV_bool, opdV_agg, opdV_tup, opdV_nil, opdV_sl, opdV_fn, opdV_ref, opdV_cref, opdV_eref, opdV_isSl, frz_isSl, frzE_isSl, cells_isSl, cellOk_isSl, pm_isSl, prep_isSl, fin_isSl, ranged_isSl, pureR_isSl, sem_len_isSl, sem_ixs_isSl, sem_len_sl, sem_len_nil, sem_ixs_none, sem_ixs_some, semR, semx_mv, semx_pick, semx_box, semx_alloc, semx_build, semx_bsl, semx_load, semx_store, semx_bin, semx_eqs, semx_un, semx_conv, semx_mkf, semx_mkm, semx_fa, semx_fld, semx_ixa, semx_idx, semx_mks, semx_sls, semx_ext, semx_call, semx_append, semx_appz, semx_trunc, semx_cap, semx_min, semx_max, semx_nilc, opdV_und, opdV_dead, opdV_none, cellOk_bool, cells_bool, cellOk_int, cells_int, cellOk_nil, cells_nil, cellOk_sl, cells_sl, cellOk_fn, cells_fn, cellOk_ref, cells_ref, cellOk_cref, cells_cref, cellOk_eref, cells_eref, cells_agg, pm_bool, pm_int, pm_nil, pm_slN, pm_slS, pm_fn, ha, hb, hc, p1, p2, p3, g1, g2, g3, w1, w2, w3, w4]
theorem run62 {a b c : V} {s : List Int} {g p : List (V × List Int)} (h : Tab a b c s g p) (hG : Good s (lst2 g) (lst2 p)) {pl gr step : Nat} (h1 : pl < p.length) (h2 : gr < g.length) (h3 : step < s.length) (nut : Bool) {size : Int} (hs : -100000000 ≤ size ∧ size ≤ 100000000) :
    run Ft Ct 62 [.agg [a, b, c], .agg [I pl, I gr], B nut, I size, I step] = some (zoneV (lst2 g) (lst2 p) pl gr nut size step) := by
  have ha := h.a.sl
  have hb := h.b.sl
  have hc := h.c.sl
  have kp := row_len hG.fp (i := pl) (by rw [lst2_len]; exact h1)
  have kg := row_len hG.fg (i := gr) (by rw [lst2_len]; exact h2)
  obtain ⟨rp, p1, p2, p3⟩ := h.c.at (i := pl) (k := step) h1 (by omega)
  obtain ⟨rg, g1, g2, g3⟩ := h.b.at (i := gr) (k := step) h2 (by omega)
  have bp := row_bd hG.rp (i := pl) (k := step) (by rw [lst2_len]; exact h1) (by omega)
  have bg := row_bd hG.rg (i := gr) (k := step) (by rw [lst2_len]; exact h2) (by omega)
  unfold zoneV
  generalize rowAt (lst2 p) pl step = far at *
  generalize rowAt (lst2 g) gr step = wide at *
  have w1 : IntKind.i64.wrap (size + far) = size + far := wr (by omega) (by omega)
  have w2 : IntKind.i64.wrap (size + far + wide) = size + far + wide := wr (by omega) (by omega)
  have w3 : IntKind.i64.wrap (size - far) = size - far := wr (by omega) (by omega)
  have w4 : IntKind.i64.wrap (size - far - wide) = size - far - wide := wr (by omega) (by omega)
  refine run_of_body (N := 1) rfl rfl ?_
  cases nut <;> simp [l62, evBody, params, deadL, evC, prep, prepF, prepT, V.prep, prepL, stepL, stepI, wanted, opds, get, put, putO, callE, loadV, partV, valO, binV, binI, binS, unV, nilCmp, apply, keepL, memN, bxOf, tkOf, bxF, frzL, V.frz, frzEL, V.frzE, V.pureR, pureRL, V.tks, tksL, V.al, alL, V.rn, rnL, addT, protT, protAll, distinctN, fill, splice, fillE, eqSh, intsOf, maxL, minL, bounds, ranged, finish, result, rvs, finL, V.fin, one, goesOn, opd_t, opd_c, opd_f, opdV_box, opdV_int, opdV_bool, opdV_agg, opdV_tup, opdV_nil, opdV_sl, opdV_fn, opdV_ref, opdV_cref, opdV_eref, opdV_isSl, frz_isSl, frzE_isSl, cells_isSl, cellOk_isSl, pm_isSl, prep_isSl, fin_isSl, ranged_isSl, pureR_isSl, sem_len_isSl, sem_ixs_isSl, sem_len_sl, sem_len_nil, sem_ixs_none, sem_ixs_some, semR, semx_mv, semx_pick, semx_box, semx_alloc, semx_build, semx_bsl, semx_load, semx_store, semx_bin, semx_eqs, semx_un, semx_conv, semx_mkf, semx_mkm, semx_fa, semx_fld, semx_ixa, semx_idx, semx_mks, semx_sls, semx_ext, semx_call, semx_append, semx_appz, semx_trunc, semx_cap, semx_min, semx_max, semx_nilc, opdV_und, opdV_dead, opdV_none, cellOk_bool, cells_bool, cellOk_int, cells_int, cellOk_nil, cells_nil, cellOk_sl, cells_sl, cellOk_fn, cells_fn, cellOk_ref, cells_ref, cellOk_cref, cells_cref, cellOk_eref, cells_eref, cells_agg, pm_bool, pm_int, pm_nil, pm_slN, pm_slS, pm_fn, ha, hb, hc, p1, p2, p3, g1, g2, g3, w1, w2, w3, w4]
theorem rn_isSl {v : V} (h : isSl v) (d : Nat) : v.rn d = v := by rcases h with rfl | ⟨es, rfl⟩ <;> simp [V.rn]
theorem tks_isSl {v : V} (h : isSl v) : v.tks = [] := by rcases h with rfl | ⟨es, rfl⟩ <;> simp [V.tks]
/-! ### A table is opened for one class -/
theorem run60 {a b c : V} {s : List Int} {g p : List (V × List Int)} (h : Tab a b c s g p) (size pl gr : Int) :
    run Ft Ct 60 [.agg [a, b, c], I size, .sl none 2 [[I pl, I gr]]] = some (
      if chk s (lst2 g) (lst2 p) ≠ 0 then .tup [.agg [a, b, c], I 0, I (chk s (lst2 g) (lst2 p))]
      else if clsB p.length g.length pl gr = false then .tup [.agg [a, b, c], I 0, I 7]
      else match stepOf s size with
        | some j => .tup [.agg [a, b, c], I j, I 0]
        | none => .tup [.agg [a, b, c], I 0, I 3]) := by
  have ha := h.a.sl
  have hb := h.b.sl
  have hc := h.c.sl
  have e1 := run15 h
  have k1 : IntKind.i64.wrap 1 = 1 := wr (by omega) (by omega)
  refine run_of_body (N := 2) rfl rfl ?_
  by_cases c1 : chk s (lst2 g) (lst2 p) = 0
  · rw [if_neg (fun x => x c1)]
    have hG := chk_good c1
    rw [c1] at e1
    have e2 := run85 h (by have := hG.lg; rw [lst2_len] at this; exact this) (by have := hG.lp; rw [lst2_len] at this; exact this) pl gr
    have e3 := run70 h hG.ls size
    cases c2 : clsB p.length g.length pl gr with
    | false =>
      rw [c2] at e2
      simp [l60, b60_0, iter, evBody, params, deadL, evC, prep, prepF, prepT, V.prep, prepL, stepL, stepI, wanted, opds, get, put, putO, callE, loadV, partV, valO, binV, binI, binS, unV, nilCmp, apply, keepL, memN, bxOf, tkOf, bxF, frzL, V.frz, frzEL, V.frzE, V.pureR, pureRL, V.tks, tksL, V.al, alL, V.rn, rnL, addT, protT, protAll, distinctN, fill, splice, fillE, eqSh, intsOf, maxL, minL, bounds, ranged, finish, result, rvs, finL, V.fin, one, goesOn, opd_t, opd_c, opd_f, opdV_box, opdV_int, opdV_bool, opdV_agg, opdV_tup, opdV_nil, opdV_sl, opdV_fn, opdV_ref, opdV_cref, opdV_eref, opdV_isSl, frz_isSl, frzE_isSl, cells_isSl, cellOk_isSl, pm_isSl, prep_isSl, fin_isSl, ranged_isSl, pureR_isSl, sem_len_isSl, sem_ixs_isSl, sem_len_sl, sem_len_nil, sem_ixs_none, sem_ixs_some, semR, semx_mv, semx_pick, semx_box, semx_alloc, semx_build, semx_bsl, semx_load, semx_store, semx_bin, semx_eqs, semx_un, semx_conv, semx_mkf, semx_mkm, semx_fa, semx_fld, semx_ixa, semx_idx, semx_mks, semx_sls, semx_ext, semx_call, semx_append, semx_appz, semx_trunc, semx_cap, semx_min, semx_max, semx_nilc, opdV_und, opdV_dead, opdV_none, cellOk_bool, cells_bool, cellOk_int, cells_int, cellOk_nil, cells_nil, cellOk_sl, cells_sl, cellOk_fn, cells_fn, cellOk_ref, cells_ref, cellOk_cref, cells_cref, cellOk_eref, cells_eref, cells_agg, pm_bool, pm_int, pm_nil, pm_slN, pm_slS, pm_fn, ha, hb, hc, e1, e2]
    | true =>
      rw [c2] at e2
      cases c3 : stepOf s size with
      | none =>
        rw [c3] at e3
        simp [l60, b60_0, iter, evBody, params, deadL, evC, prep, prepF, prepT, V.prep, prepL, stepL, stepI, wanted, opds, get, put, putO, callE, loadV, partV, valO, binV, binI, binS, unV, nilCmp, apply, keepL, memN, bxOf, tkOf, bxF, frzL, V.frz, frzEL, V.frzE, V.pureR, pureRL, V.tks, tksL, V.al, alL, V.rn, rnL, addT, protT, protAll, distinctN, fill, splice, fillE, eqSh, intsOf, maxL, minL, bounds, ranged, finish, result, rvs, finL, V.fin, one, goesOn, opd_t, opd_c, opd_f, opdV_box, opdV_int, opdV_bool, opdV_agg, opdV_tup, opdV_nil, opdV_sl, opdV_fn, opdV_ref, opdV_cref, opdV_eref, opdV_isSl, frz_isSl, frzE_isSl, cells_isSl, cellOk_isSl, pm_isSl, prep_isSl, fin_isSl, ranged_isSl, pureR_isSl, sem_len_isSl, sem_ixs_isSl, sem_len_sl, sem_len_nil, sem_ixs_none, sem_ixs_some, semR, semx_mv, semx_pick, semx_box, semx_alloc, semx_build, semx_bsl, semx_load, semx_store, semx_bin, semx_eqs, semx_un, semx_conv, semx_mkf, semx_mkm, semx_fa, semx_fld, semx_ixa, semx_idx, semx_mks, semx_sls, semx_ext, semx_call, semx_append, semx_appz, semx_trunc, semx_cap, semx_min, semx_max, semx_nilc, opdV_und, opdV_dead, opdV_none, cellOk_bool, cells_bool, cellOk_int, cells_int, cellOk_nil, cells_nil, cellOk_sl, cells_sl, cellOk_fn, cells_fn, cellOk_ref, cells_ref, cellOk_cref, cells_cref, cellOk_eref, cells_eref, cells_agg, pm_bool, pm_int, pm_nil, pm_slN, pm_slS, pm_fn, ha, hb, hc, e1, e2, e3]
      | some j =>
        rw [c3] at e3
        simp [l60, b60_0, iter, evBody, params, deadL, evC, prep, prepF, prepT, V.prep, prepL, stepL, stepI, wanted, opds, get, put, putO, callE, loadV, partV, valO, binV, binI, binS, unV, nilCmp, apply, keepL, memN, bxOf, tkOf, bxF, frzL, V.frz, frzEL, V.frzE, V.pureR, pureRL, V.tks, tksL, V.al, alL, V.rn, rnL, addT, protT, protAll, distinctN, fill, splice, fillE, eqSh, intsOf, maxL, minL, bounds, ranged, finish, result, rvs, finL, V.fin, one, goesOn, opd_t, opd_c, opd_f, opdV_box, opdV_int, opdV_bool, opdV_agg, opdV_tup, opdV_nil, opdV_sl, opdV_fn, opdV_ref, opdV_cref, opdV_eref, opdV_isSl, frz_isSl, frzE_isSl, cells_isSl, cellOk_isSl, pm_isSl, prep_isSl, fin_isSl, ranged_isSl, pureR_isSl, sem_len_isSl, sem_ixs_isSl, sem_len_sl, sem_len_nil, sem_ixs_none, sem_ixs_some, semR, semx_mv, semx_pick, semx_box, semx_alloc, semx_build, semx_bsl, semx_load, semx_store, semx_bin, semx_eqs, semx_un, semx_conv, semx_mkf, semx_mkm, semx_fa, semx_fld, semx_ixa, semx_idx, semx_mks, semx_sls, semx_ext, semx_call, semx_append, semx_appz, semx_trunc, semx_cap, semx_min, semx_max, semx_nilc, opdV_und, opdV_dead, opdV_none, cellOk_bool, cells_bool, cellOk_int, cells_int, cellOk_nil, cells_nil, cellOk_sl, cells_sl, cellOk_fn, cells_fn, cellOk_ref, cells_ref, cellOk_cref, cells_cref, cellOk_eref, cells_eref, cells_agg, pm_bool, pm_int, pm_nil, pm_slN, pm_slS, pm_fn, ha, hb, hc, e1, e2, e3, k1]
  · rw [if_pos c1]
    generalize chk s (lst2 g) (lst2 p) = e at *
    simp [l60, evBody, params, deadL, evC, prep, prepF, prepT, V.prep, prepL, stepL, stepI, wanted, opds, get, put, putO, callE, loadV, partV, valO, binV, binI, binS, unV, nilCmp, apply, keepL, memN, bxOf, tkOf, bxF, frzL, V.frz, frzEL, V.frzE, V.pureR, pureRL, V.tks, tksL, V.al, alL, V.rn, rnL, addT, protT, protAll, distinctN, fill, splice, fillE, eqSh, intsOf, maxL, minL, bounds, ranged, finish, result, rvs, finL, V.fin, one, goesOn, opd_t, opd_c, opd_f, opdV_box, opdV_int, opdV_bool, opdV_agg, opdV_tup, opdV_nil, opdV_sl, opdV_fn, opdV_ref, opdV_cref, opdV_eref, opdV_isSl, frz_isSl, frzE_isSl, cells_isSl, cellOk_isSl, pm_isSl, prep_isSl, fin_isSl, ranged_isSl, pureR_isSl, sem_len_isSl, sem_ixs_isSl, sem_len_sl, sem_len_nil, sem_ixs_none, sem_ixs_some, semR, semx_mv, semx_pick, semx_box, semx_alloc, semx_build, semx_bsl, semx_load, semx_store, semx_bin, semx_eqs, semx_un, semx_conv, semx_mkf, semx_mkm, semx_fa, semx_fld, semx_ixa, semx_idx, semx_mks, semx_sls, semx_ext, semx_call, semx_append, semx_appz, semx_trunc, semx_cap, semx_min, semx_max, semx_nilc, opdV_und, opdV_dead, opdV_none, cellOk_bool, cells_bool, cellOk_int, cells_int, cellOk_nil, cells_nil, cellOk_sl, cells_sl, cellOk_fn, cells_fn, cellOk_ref, cells_ref, cellOk_cref, cells_cref, cellOk_eref, cells_eref, cells_agg, pm_bool, pm_int, pm_nil, pm_slN, pm_slS, pm_fn, ha, hb, hc, e1, c1]
/-- A zone, or the error. -/
def limV (s : List Int) (g p : List (List Int)) (pl gr : Int) (nut : Bool) (size : Int) : V :=
  if chk s g p ≠ 0 then .tup [.agg [I 0, I 0], I (chk s g p)]
  else if clsB p.length g.length pl gr = false then .tup [.agg [I 0, I 0], I 7]
  else match stepOf s size with
    | some j => .tup [zoneV g p pl.toNat gr.toNat nut size j, I 0]
    | none => .tup [.agg [I 0, I 0], I 3]
theorem stepOf_lt {s : List Int} {size : Int} {j : Nat} (h : stepOf s size = some j) : j < s.length ∧ 1 ≤ size ∧ size ≤ at0 s j := by
  unfold stepOf at h
  split at h
  · rename_i h1
    have h2 := List.mem_range.1 (List.mem_of_find?_eq_some h)
    have h3 := List.find?_some h
    exact ⟨h2, h1, by simpa using h3⟩
  · cases h
theorem run16 {a b c : V} {s : List Int} {g p : List (V × List Int)} (h : Tab a b c s g p) (pl gr : Int) (nut : Bool) (size : Int) :
    run Ft Ct 16 [.agg [a, b, c], .agg [I pl, I gr], B nut, I size] = some (limV s (lst2 g) (lst2 p) pl gr nut size) := by
  have ha := h.a.sl
  have hb := h.b.sl
  have hc := h.c.sl
  have ra := rn_isSl ha
  have rb := rn_isSl hb
  have rc := rn_isSl hc
  have ta := tks_isSl ha
  have tb := tks_isSl hb
  have tc := tks_isSl hc
  have e1 := run60 h size pl gr
  unfold limV
  rw [lst2_len, lst2_len]
  refine run_of_body (N := 1) rfl rfl ?_
  by_cases c1 : chk s (lst2 g) (lst2 p) = 0
  · rw [if_neg (fun x => x c1)] at e1 ⊢
    have hG := chk_good c1
    cases c2 : clsB p.length g.length pl gr with
    | false =>
      rw [c2] at e1
      simp at e1
      simp [l16, evBody, params, deadL, evC, prep, prepF, prepT, V.prep, prepL, stepL, stepI, wanted, opds, get, put, putO, callE, loadV, partV, valO, binV, binI, binS, unV, nilCmp, apply, keepL, memN, bxOf, tkOf, bxF, frzL, V.frz, frzEL, V.frzE, V.pureR, pureRL, V.tks, tksL, V.al, alL, V.rn, rnL, addT, protT, protAll, distinctN, fill, splice, fillE, eqSh, intsOf, maxL, minL, bounds, ranged, finish, result, rvs, finL, V.fin, one, goesOn, opd_t, opd_c, opd_f, opdV_box, opdV_int, opdV_bool, opdV_agg, opdV_tup, opdV_nil, opdV_sl, opdV_fn, opdV_ref, opdV_cref, opdV_eref, opdV_isSl, frz_isSl, frzE_isSl, cells_isSl, cellOk_isSl, pm_isSl, prep_isSl, fin_isSl, ranged_isSl, pureR_isSl, sem_len_isSl, sem_ixs_isSl, sem_len_sl, sem_len_nil, sem_ixs_none, sem_ixs_some, semR, semx_mv, semx_pick, semx_box, semx_alloc, semx_build, semx_bsl, semx_load, semx_store, semx_bin, semx_eqs, semx_un, semx_conv, semx_mkf, semx_mkm, semx_fa, semx_fld, semx_ixa, semx_idx, semx_mks, semx_sls, semx_ext, semx_call, semx_append, semx_appz, semx_trunc, semx_cap, semx_min, semx_max, semx_nilc, opdV_und, opdV_dead, opdV_none, cellOk_bool, cells_bool, cellOk_int, cells_int, cellOk_nil, cells_nil, cellOk_sl, cells_sl, cellOk_fn, cells_fn, cellOk_ref, cells_ref, cellOk_cref, cells_cref, cellOk_eref, cells_eref, cells_agg, pm_bool, pm_int, pm_nil, pm_slN, pm_slS, pm_fn, ha, hb, hc, ra, rb, rc, ta, tb, tc, e1]
    | true =>
      rw [c2] at e1
      cases c3 : stepOf s size with
      | none =>
        rw [c3] at e1
        simp at e1
        simp [l16, evBody, params, deadL, evC, prep, prepF, prepT, V.prep, prepL, stepL, stepI, wanted, opds, get, put, putO, callE, loadV, partV, valO, binV, binI, binS, unV, nilCmp, apply, keepL, memN, bxOf, tkOf, bxF, frzL, V.frz, frzEL, V.frzE, V.pureR, pureRL, V.tks, tksL, V.al, alL, V.rn, rnL, addT, protT, protAll, distinctN, fill, splice, fillE, eqSh, intsOf, maxL, minL, bounds, ranged, finish, result, rvs, finL, V.fin, one, goesOn, opd_t, opd_c, opd_f, opdV_box, opdV_int, opdV_bool, opdV_agg, opdV_tup, opdV_nil, opdV_sl, opdV_fn, opdV_ref, opdV_cref, opdV_eref, opdV_isSl, frz_isSl, frzE_isSl, cells_isSl, cellOk_isSl, pm_isSl, prep_isSl, fin_isSl, ranged_isSl, pureR_isSl, sem_len_isSl, sem_ixs_isSl, sem_len_sl, sem_len_nil, sem_ixs_none, sem_ixs_some, semR, semx_mv, semx_pick, semx_box, semx_alloc, semx_build, semx_bsl, semx_load, semx_store, semx_bin, semx_eqs, semx_un, semx_conv, semx_mkf, semx_mkm, semx_fa, semx_fld, semx_ixa, semx_idx, semx_mks, semx_sls, semx_ext, semx_call, semx_append, semx_appz, semx_trunc, semx_cap, semx_min, semx_max, semx_nilc, opdV_und, opdV_dead, opdV_none, cellOk_bool, cells_bool, cellOk_int, cells_int, cellOk_nil, cells_nil, cellOk_sl, cells_sl, cellOk_fn, cells_fn, cellOk_ref, cells_ref, cellOk_cref, cells_cref, cellOk_eref, cells_eref, cells_agg, pm_bool, pm_int, pm_nil, pm_slN, pm_slS, pm_fn, ha, hb, hc, ra, rb, rc, ta, tb, tc, e1]
      | some j =>
        rw [c3] at e1
        simp at e1
        obtain ⟨q1, q2, q3⟩ := stepOf_lt c3
        have q4 := hG.st j q1
        unfold stepB at q4
        rw [decide_eq_true_eq] at q4
        unfold clsB at c2
        rw [decide_eq_true_eq] at c2
        obtain ⟨n1, rfl⟩ := Int.eq_ofNat_of_zero_le c2.1
        obtain ⟨n2, rfl⟩ := Int.eq_ofNat_of_zero_le c2.2.2.1
        have e2 := run61 h hG (pl := n1) (gr := n2) (by omega) (by omega) q1 nut (size := size) (by omega)
        unfold zoneV at e2 ⊢
        cases nut <;> simp at e2 <;> simp [l16, evBody, params, deadL, evC, prep, prepF, prepT, V.prep, prepL, stepL, stepI, wanted, opds, get, put, putO, callE, loadV, partV, valO, binV, binI, binS, unV, nilCmp, apply, keepL, memN, bxOf, tkOf, bxF, frzL, V.frz, frzEL, V.frzE, V.pureR, pureRL, V.tks, tksL, V.al, alL, V.rn, rnL, addT, protT, protAll, distinctN, fill, splice, fillE, eqSh, intsOf, maxL, minL, bounds, ranged, finish, result, rvs, finL, V.fin, one, goesOn, opd_t, opd_c, opd_f, opdV_box, opdV_int, opdV_bool, opdV_agg, opdV_tup, opdV_nil, opdV_sl, opdV_fn, opdV_ref, opdV_cref, opdV_eref, opdV_isSl, frz_isSl, frzE_isSl, cells_isSl, cellOk_isSl, pm_isSl, prep_isSl, fin_isSl, ranged_isSl, pureR_isSl, sem_len_isSl, sem_ixs_isSl, sem_len_sl, sem_len_nil, sem_ixs_none, sem_ixs_some, semR, semx_mv, semx_pick, semx_box, semx_alloc, semx_build, semx_bsl, semx_load, semx_store, semx_bin, semx_eqs, semx_un, semx_conv, semx_mkf, semx_mkm, semx_fa, semx_fld, semx_ixa, semx_idx, semx_mks, semx_sls, semx_ext, semx_call, semx_append, semx_appz, semx_trunc, semx_cap, semx_min, semx_max, semx_nilc, opdV_und, opdV_dead, opdV_none, cellOk_bool, cells_bool, cellOk_int, cells_int, cellOk_nil, cells_nil, cellOk_sl, cells_sl, cellOk_fn, cells_fn, cellOk_ref, cells_ref, cellOk_cref, cells_cref, cellOk_eref, cells_eref, cells_agg, pm_bool, pm_int, pm_nil, pm_slN, pm_slS, pm_fn, ha, hb, hc, ra, rb, rc, ta, tb, tc, e1, e2]
  · rw [if_pos c1] at e1 ⊢
    generalize chk s (lst2 g) (lst2 p) = e at *
    simp [l16, evBody, params, deadL, evC, prep, prepF, prepT, V.prep, prepL, stepL, stepI, wanted, opds, get, put, putO, callE, loadV, partV, valO, binV, binI, binS, unV, nilCmp, apply, keepL, memN, bxOf, tkOf, bxF, frzL, V.frz, frzEL, V.frzE, V.pureR, pureRL, V.tks, tksL, V.al, alL, V.rn, rnL, addT, protT, protAll, distinctN, fill, splice, fillE, eqSh, intsOf, maxL, minL, bounds, ranged, finish, result, rvs, finL, V.fin, one, goesOn, opd_t, opd_c, opd_f, opdV_box, opdV_int, opdV_bool, opdV_agg, opdV_tup, opdV_nil, opdV_sl, opdV_fn, opdV_ref, opdV_cref, opdV_eref, opdV_isSl, frz_isSl, frzE_isSl, cells_isSl, cellOk_isSl, pm_isSl, prep_isSl, fin_isSl, ranged_isSl, pureR_isSl, sem_len_isSl, sem_ixs_isSl, sem_len_sl, sem_len_nil, sem_ixs_none, sem_ixs_some, semR, semx_mv, semx_pick, semx_box, semx_alloc, semx_build, semx_bsl, semx_load, semx_store, semx_bin, semx_eqs, semx_un, semx_conv, semx_mkf, semx_mkm, semx_fa, semx_fld, semx_ixa, semx_idx, semx_mks, semx_sls, semx_ext, semx_call, semx_append, semx_appz, semx_trunc, semx_cap, semx_min, semx_max, semx_nilc, opdV_und, opdV_dead, opdV_none, cellOk_bool, cells_bool, cellOk_int, cells_int, cellOk_nil, cells_nil, cellOk_sl, cells_sl, cellOk_fn, cells_fn, cellOk_ref, cells_ref, cellOk_cref, cells_cref, cellOk_eref, cells_eref, cells_agg, pm_bool, pm_int, pm_nil, pm_slN, pm_slS, pm_fn, ha, hb, hc, ra, rb, rc, ta, tb, tc, e1, c1]
theorem run18 {a b c : V} {s : List Int} {g p : List (V × List Int)} (h : Tab a b c s g p) (pl gr : Int) (nut : Bool) (size : Int) :
    run Ft Ct 18 [.agg [a, b, c], .agg [I pl, I gr], B nut, I size] = some (limV s (lst2 g) (lst2 p) pl gr nut size) := by
  have ha := h.a.sl
  have hb := h.b.sl
  have hc := h.c.sl
  have e1 := run20 h
  unfold limV
  rw [lst2_len, lst2_len]
  refine run_of_body (N := 1) rfl rfl ?_
  by_cases c1 : chk s (lst2 g) (lst2 p) = 0
  · rw [if_neg (fun x => x c1)]
    have hG := chk_good c1
    rw [c1] at e1
    have e2 := run38 h (by have := hG.lg; rw [lst2_len] at this; exact this) (by have := hG.lp; rw [lst2_len] at this; exact this) pl gr
    have e3 := run35 h hG.ls size
    cases c2 : clsB p.length g.length pl gr with
    | false =>
      rw [c2] at e2
      simp [l18, evBody, params, deadL, evC, prep, prepF, prepT, V.prep, prepL, stepL, stepI, wanted, opds, get, put, putO, callE, loadV, partV, valO, binV, binI, binS, unV, nilCmp, apply, keepL, memN, bxOf, tkOf, bxF, frzL, V.frz, frzEL, V.frzE, V.pureR, pureRL, V.tks, tksL, V.al, alL, V.rn, rnL, addT, protT, protAll, distinctN, fill, splice, fillE, eqSh, intsOf, maxL, minL, bounds, ranged, finish, result, rvs, finL, V.fin, one, goesOn, opd_t, opd_c, opd_f, opdV_box, opdV_int, opdV_bool, opdV_agg, opdV_tup, opdV_nil, opdV_sl, opdV_fn, opdV_ref, opdV_cref, opdV_eref, opdV_isSl, frz_isSl, frzE_isSl, cells_isSl, cellOk_isSl, pm_isSl, prep_isSl, fin_isSl, ranged_isSl, pureR_isSl, sem_len_isSl, sem_ixs_isSl, sem_len_sl, sem_len_nil, sem_ixs_none, sem_ixs_some, semR, semx_mv, semx_pick, semx_box, semx_alloc, semx_build, semx_bsl, semx_load, semx_store, semx_bin, semx_eqs, semx_un, semx_conv, semx_mkf, semx_mkm, semx_fa, semx_fld, semx_ixa, semx_idx, semx_mks, semx_sls, semx_ext, semx_call, semx_append, semx_appz, semx_trunc, semx_cap, semx_min, semx_max, semx_nilc, opdV_und, opdV_dead, opdV_none, cellOk_bool, cells_bool, cellOk_int, cells_int, cellOk_nil, cells_nil, cellOk_sl, cells_sl, cellOk_fn, cells_fn, cellOk_ref, cells_ref, cellOk_cref, cells_cref, cellOk_eref, cells_eref, cells_agg, pm_bool, pm_int, pm_nil, pm_slN, pm_slS, pm_fn, ha, hb, hc, e1, e2]
    | true =>
      rw [c2] at e2
      cases c3 : stepOf s size with
      | none =>
        rw [c3] at e3
        simp at e3
        simp [l18, evBody, params, deadL, evC, prep, prepF, prepT, V.prep, prepL, stepL, stepI, wanted, opds, get, put, putO, callE, loadV, partV, valO, binV, binI, binS, unV, nilCmp, apply, keepL, memN, bxOf, tkOf, bxF, frzL, V.frz, frzEL, V.frzE, V.pureR, pureRL, V.tks, tksL, V.al, alL, V.rn, rnL, addT, protT, protAll, distinctN, fill, splice, fillE, eqSh, intsOf, maxL, minL, bounds, ranged, finish, result, rvs, finL, V.fin, one, goesOn, opd_t, opd_c, opd_f, opdV_box, opdV_int, opdV_bool, opdV_agg, opdV_tup, opdV_nil, opdV_sl, opdV_fn, opdV_ref, opdV_cref, opdV_eref, opdV_isSl, frz_isSl, frzE_isSl, cells_isSl, cellOk_isSl, pm_isSl, prep_isSl, fin_isSl, ranged_isSl, pureR_isSl, sem_len_isSl, sem_ixs_isSl, sem_len_sl, sem_len_nil, sem_ixs_none, sem_ixs_some, semR, semx_mv, semx_pick, semx_box, semx_alloc, semx_build, semx_bsl, semx_load, semx_store, semx_bin, semx_eqs, semx_un, semx_conv, semx_mkf, semx_mkm, semx_fa, semx_fld, semx_ixa, semx_idx, semx_mks, semx_sls, semx_ext, semx_call, semx_append, semx_appz, semx_trunc, semx_cap, semx_min, semx_max, semx_nilc, opdV_und, opdV_dead, opdV_none, cellOk_bool, cells_bool, cellOk_int, cells_int, cellOk_nil, cells_nil, cellOk_sl, cells_sl, cellOk_fn, cells_fn, cellOk_ref, cells_ref, cellOk_cref, cells_cref, cellOk_eref, cells_eref, cells_agg, pm_bool, pm_int, pm_nil, pm_slN, pm_slS, pm_fn, ha, hb, hc, e1, e2, e3]
      | some j =>
        rw [c3] at e3
        simp at e3
        obtain ⟨q1, q2, q3⟩ := stepOf_lt c3
        have q4 := hG.st j q1
        unfold stepB at q4
        rw [decide_eq_true_eq] at q4
        unfold clsB at c2
        rw [decide_eq_true_eq] at c2
        obtain ⟨n1, rfl⟩ := Int.eq_ofNat_of_zero_le c2.1
        obtain ⟨n2, rfl⟩ := Int.eq_ofNat_of_zero_le c2.2.2.1
        have e4 := run62 h hG (pl := n1) (gr := n2) (by omega) (by omega) q1 nut (size := size) (by omega)
        unfold zoneV at e4 ⊢
        cases nut <;> simp at e4 <;> simp [l18, evBody, params, deadL, evC, prep, prepF, prepT, V.prep, prepL, stepL, stepI, wanted, opds, get, put, putO, callE, loadV, partV, valO, binV, binI, binS, unV, nilCmp, apply, keepL, memN, bxOf, tkOf, bxF, frzL, V.frz, frzEL, V.frzE, V.pureR, pureRL, V.tks, tksL, V.al, alL, V.rn, rnL, addT, protT, protAll, distinctN, fill, splice, fillE, eqSh, intsOf, maxL, minL, bounds, ranged, finish, result, rvs, finL, V.fin, one, goesOn, opd_t, opd_c, opd_f, opdV_box, opdV_int, opdV_bool, opdV_agg, opdV_tup, opdV_nil, opdV_sl, opdV_fn, opdV_ref, opdV_cref, opdV_eref, opdV_isSl, frz_isSl, frzE_isSl, cells_isSl, cellOk_isSl, pm_isSl, prep_isSl, fin_isSl, ranged_isSl, pureR_isSl, sem_len_isSl, sem_ixs_isSl, sem_len_sl, sem_len_nil, sem_ixs_none, sem_ixs_some, semR, semx_mv, semx_pick, semx_box, semx_alloc, semx_build, semx_bsl, semx_load, semx_store, semx_bin, semx_eqs, semx_un, semx_conv, semx_mkf, semx_mkm, semx_fa, semx_fld, semx_ixa, semx_idx, semx_mks, semx_sls, semx_ext, semx_call, semx_append, semx_appz, semx_trunc, semx_cap, semx_min, semx_max, semx_nilc, opdV_und, opdV_dead, opdV_none, cellOk_bool, cells_bool, cellOk_int, cells_int, cellOk_nil, cells_nil, cellOk_sl, cells_sl, cellOk_fn, cells_fn, cellOk_ref, cells_ref, cellOk_cref, cells_cref, cellOk_eref, cells_eref, cells_agg, pm_bool, pm_int, pm_nil, pm_slN, pm_slS, pm_fn, ha, hb, hc, e1, e2, e3, e4]
  · rw [if_pos c1]
    generalize chk s (lst2 g) (lst2 p) = e at *
    simp [l18, evBody, params, deadL, evC, prep, prepF, prepT, V.prep, prepL, stepL, stepI, wanted, opds, get, put, putO, callE, loadV, partV, valO, binV, binI, binS, unV, nilCmp, apply, keepL, memN, bxOf, tkOf, bxF, frzL, V.frz, frzEL, V.frzE, V.pureR, pureRL, V.tks, tksL, V.al, alL, V.rn, rnL, addT, protT, protAll, distinctN, fill, splice, fillE, eqSh, intsOf, maxL, minL, bounds, ranged, finish, result, rvs, finL, V.fin, one, goesOn, opd_t, opd_c, opd_f, opdV_box, opdV_int, opdV_bool, opdV_agg, opdV_tup, opdV_nil, opdV_sl, opdV_fn, opdV_ref, opdV_cref, opdV_eref, opdV_isSl, frz_isSl, frzE_isSl, cells_isSl, cellOk_isSl, pm_isSl, prep_isSl, fin_isSl, ranged_isSl, pureR_isSl, sem_len_isSl, sem_ixs_isSl, sem_len_sl, sem_len_nil, sem_ixs_none, sem_ixs_some, semR, semx_mv, semx_pick, semx_box, semx_alloc, semx_build, semx_bsl, semx_load, semx_store, semx_bin, semx_eqs, semx_un, semx_conv, semx_mkf, semx_mkm, semx_fa, semx_fld, semx_ixa, semx_idx, semx_mks, semx_sls, semx_ext, semx_call, semx_append, semx_appz, semx_trunc, semx_cap, semx_min, semx_max, semx_nilc, opdV_und, opdV_dead, opdV_none, cellOk_bool, cells_bool, cellOk_int, cells_int, cellOk_nil, cells_nil, cellOk_sl, cells_sl, cellOk_fn, cells_fn, cellOk_ref, cells_ref, cellOk_cref, cells_cref, cellOk_eref, cells_eref, cells_agg, pm_bool, pm_int, pm_nil, pm_slN, pm_slS, pm_fn, ha, hb, hc, e1, c1]
end Go.Lo
