/- Plating: the program's functions, and the reference's. -/
import Derived.Test.YtifanigkolnedaaSb
namespace Go.Lo
open Go.Proofs
set_option linter.unusedSimpArgs false
/-- What is added at least and at most, as numerators. -/
def lst (nut : Bool) (tl th p : Int) : Int := if nut = true then -(th * p) else tl * p
def mst (nut : Bool) (tl th p : Int) : Int := if nut = true then -(tl * p) else th * p
theorem lst_bd {nut : Bool} {lo hi tl th p q : Int} (h : coatOk lo hi tl th p q) : -10000000 ≤ lst nut tl th p ∧ lst nut tl th p ≤ 10000000 ∧ -10000000 ≤ mst nut tl th p ∧ mst nut tl th p ≤ 10000000 ∧ lst nut tl th p ≤ mst nut tl th p := by
  obtain ⟨h1, h2, h3, h4⟩ := h
  have b1 := mul_bd (a := tl) (b := p) (m := 10000) (k := 1000) (by omega) (by omega) (by omega) (by omega)
  have b2 := mul_bd (a := th) (b := p) (m := 10000) (k := 1000) (by omega) (by omega) (by omega) (by omega)
  have b3 : tl * p ≤ th * p := Int.mul_le_mul_of_nonneg_right (by omega) (by omega)
  cases nut <;> simp [lst, mst] <;> omega
theorem run66' (lo hi tl th p q : Int) (nut : Bool) (h : coatOk lo hi tl th p q) : run Ft Ct 66 [.agg [I lo, I hi], B nut, .agg [I tl, I th, I p, I q]] = some (.tup [.agg [I tl, I th, I p, I q, I (lst nut tl th p), I (mst nut tl th p)], I 0]) := by
  rw [run66, if_pos h]; rfl
theorem run21 (lo hi tl th p q : Int) (nut : Bool) : run Ft Ct 21 [.agg [I lo, I hi], B nut, .agg [I tl, I th, I p, I q]] = some (if coatOk lo hi tl th p q then
    (if lo - lst nut tl th p / q > hi + -mst nut tl th p / q then .tup [.agg [I 0, I 0], I 9] else .tup [.agg [I (lo - lst nut tl th p / q), I (hi + -mst nut tl th p / q)], I 0]) else .tup [.agg [I 0, I 0], I 2]) := by
  refine run_of_body (N := 1) rfl rfl ?_
  by_cases hc : coatOk lo hi tl th p q
  · have h1 := run66' lo hi tl th p q nut hc
    have b := lst_bd (nut := nut) hc
    generalize lst nut tl th p = a1 at *
    generalize mst nut tl th p = a2 at *
    have hc' := hc
    obtain ⟨c1, c2, c3, c4⟩ := hc'
    have h2 := run67 tl th p q a1 a2 (-a1) (by omega) (by omega) (by omega) (by omega)
    have h3 := run68 tl th p q a1 a2 (-a2) (by omega) (by omega) (by omega) (by omega)
    have t1 := ediv_bd (n := a1) (b := q) (m := 10000000) (by omega) (by omega) (by omega) (by omega)
    have t2 := ediv_bd (n := -a2) (b := q) (m := 10000000) (by omega) (by omega) (by omega) (by omega)
    have w1 : IntKind.i64.wrap (-a1) = -a1 := wr (by omega) (by omega)
    have w2 : IntKind.i64.wrap (-a2) = -a2 := wr (by omega) (by omega)
    have w3 : IntKind.i64.wrap (lo + -(a1 / q)) = lo - a1 / q := by rw [wr (by omega) (by omega)]; omega
    have w4 : IntKind.i64.wrap (hi + -a2 / q) = hi + -a2 / q := wr (by omega) (by omega)
    rw [Int.neg_neg] at h2
    rw [if_pos hc]
    by_cases hg : lo - a1 / q > hi + -a2 / q
    · have hg' : hi + -a2 / q < lo - a1 / q := hg
      simp [l21, evBody, params, deadL, evC, prep, prepF, prepT, V.prep, prepL, stepL, stepI, wanted, opds, opd, get, put, putO, sem, callE, loadV, partV, valO, binV, binI, binS, unV, nilCmp, apply, keepL, memN, bxOf, tkOf, bxF, frzL, V.frz, frzEL, V.frzE, V.pureR, pureRL, V.tks, tksL, V.al, alL, V.rn, rnL, addT, protT, protAll, distinctN, fill, splice, fillE, V.cells, V.cellOk, V.pm, eqSh, intsOf, maxL, minL, bounds, ranged, finish, result, rvs, finL, V.fin, one, goesOn, h1, h2, h3, w1, w2, w3, w4, hg']
    · have hg' : ¬ (hi + -a2 / q < lo - a1 / q) := hg
      simp [l21, evBody, params, deadL, evC, prep, prepF, prepT, V.prep, prepL, stepL, stepI, wanted, opds, opd, get, put, putO, sem, callE, loadV, partV, valO, binV, binI, binS, unV, nilCmp, apply, keepL, memN, bxOf, tkOf, bxF, frzL, V.frz, frzEL, V.frzE, V.pureR, pureRL, V.tks, tksL, V.al, alL, V.rn, rnL, addT, protT, protAll, distinctN, fill, splice, fillE, V.cells, V.cellOk, V.pm, eqSh, intsOf, maxL, minL, bounds, ranged, finish, result, rvs, finL, V.fin, one, goesOn, h1, h2, h3, w1, w2, w3, w4, hg']
  · have h1 := run66 lo hi tl th p q nut
    rw [if_neg hc] at h1
    rw [if_neg hc]
    simp [l21, evBody, params, deadL, evC, prep, prepF, prepT, V.prep, prepL, stepL, stepI, wanted, opds, opd, get, put, putO, sem, callE, loadV, partV, valO, binV, binI, binS, unV, nilCmp, apply, keepL, memN, bxOf, tkOf, bxF, frzL, V.frz, frzEL, V.frzE, V.pureR, pureRL, V.tks, tksL, V.al, alL, V.rn, rnL, addT, protT, protAll, distinctN, fill, splice, fillE, V.cells, V.cellOk, V.pm, eqSh, intsOf, maxL, minL, bounds, ranged, finish, result, rvs, finL, V.fin, one, goesOn, h1]
theorem run22 (lo hi tl th p q : Int) (nut : Bool) : run Ft Ct 22 [.agg [I lo, I hi], B nut, .agg [I tl, I th, I p, I q]] = some (if coatOk lo hi tl th p q then
    .tup [.agg [I (lo + lst nut tl th p / q), I (hi + -(-mst nut tl th p / q))], I 0] else .tup [.agg [I 0, I 0], I 2]) := by
  refine run_of_body (N := 1) rfl rfl ?_
  by_cases hc : coatOk lo hi tl th p q
  · have h1 := run66' lo hi tl th p q nut hc
    have b := lst_bd (nut := nut) hc
    generalize lst nut tl th p = a1 at *
    generalize mst nut tl th p = a2 at *
    have hc' := hc
    obtain ⟨c1, c2, c3, c4⟩ := hc'
    have h2 := run68 tl th p q a1 a2 a1 (by omega) (by omega) (by omega) (by omega)
    have h3 := run67 tl th p q a1 a2 a2 (by omega) (by omega) (by omega) (by omega)
    have t1 := ediv_bd (n := a1) (b := q) (m := 10000000) (by omega) (by omega) (by omega) (by omega)
    have t2 := ediv_bd (n := -a2) (b := q) (m := 10000000) (by omega) (by omega) (by omega) (by omega)
    have w3 : IntKind.i64.wrap (lo + a1 / q) = lo + a1 / q := wr (by omega) (by omega)
    have w4 : IntKind.i64.wrap (hi + -(-a2 / q)) = hi + -(-a2 / q) := wr (by omega) (by omega)
    rw [if_pos hc]
    simp [l22, evBody, params, deadL, evC, prep, prepF, prepT, V.prep, prepL, stepL, stepI, wanted, opds, opd, get, put, putO, sem, callE, loadV, partV, valO, binV, binI, binS, unV, nilCmp, apply, keepL, memN, bxOf, tkOf, bxF, frzL, V.frz, frzEL, V.frzE, V.pureR, pureRL, V.tks, tksL, V.al, alL, V.rn, rnL, addT, protT, protAll, distinctN, fill, splice, fillE, V.cells, V.cellOk, V.pm, eqSh, intsOf, maxL, minL, bounds, ranged, finish, result, rvs, finL, V.fin, one, goesOn, h1, h2, h3, w3, w4]
  · have h1 := run66 lo hi tl th p q nut
    rw [if_neg hc] at h1
    rw [if_neg hc]
    simp [l22, evBody, params, deadL, evC, prep, prepF, prepT, V.prep, prepL, stepL, stepI, wanted, opds, opd, get, put, putO, sem, callE, loadV, partV, valO, binV, binI, binS, unV, nilCmp, apply, keepL, memN, bxOf, tkOf, bxF, frzL, V.frz, frzEL, V.frzE, V.pureR, pureRL, V.tks, tksL, V.al, alL, V.rn, rnL, addT, protT, protAll, distinctN, fill, splice, fillE, V.cells, V.cellOk, V.pm, eqSh, intsOf, maxL, minL, bounds, ranged, finish, result, rvs, finL, V.fin, one, goesOn, h1]
/-! ### The reference -/
theorem run65 (n a b : Int) : run Ft Ct 65 [I n, I a, I b] = some (B (decide (a ≤ n ∧ n ≤ b))) := by
  refine run_of_body (N := 1) rfl rfl ?_
  by_cases h : a ≤ n <;> simp [l65, evBody, params, deadL, evC, prep, prepF, prepT, V.prep, prepL, stepL, stepI, wanted, opds, opd, get, put, putO, sem, callE, loadV, partV, valO, binV, binI, binS, unV, nilCmp, apply, keepL, memN, bxOf, tkOf, bxF, frzL, V.frz, frzEL, V.frzE, V.pureR, pureRL, V.tks, tksL, V.al, alL, V.rn, rnL, addT, protT, protAll, distinctN, fill, splice, fillE, V.cells, V.cellOk, V.pm, eqSh, intsOf, maxL, minL, bounds, ranged, finish, result, rvs, finL, V.fin, one, goesOn, h]
theorem run23 (lo hi a b : Int) : run Ft Ct 23 [.agg [I lo, I hi], I a, I b] = some (B (decide (a ≤ lo ∧ lo ≤ hi ∧ hi ≤ b))) := by
  have h := run65 lo a hi
  refine run_of_body (N := 1) rfl rfl ?_
  by_cases h1 : a ≤ lo ∧ lo ≤ hi
  · rw [decide_eq_true h1] at h
    simp [l23, evBody, params, deadL, evC, prep, prepF, prepT, V.prep, prepL, stepL, stepI, wanted, opds, opd, get, put, putO, sem, callE, loadV, partV, valO, binV, binI, binS, unV, nilCmp, apply, keepL, memN, bxOf, tkOf, bxF, frzL, V.frz, frzEL, V.frzE, V.pureR, pureRL, V.tks, tksL, V.al, alL, V.rn, rnL, addT, protT, protAll, distinctN, fill, splice, fillE, V.cells, V.cellOk, V.pm, eqSh, intsOf, maxL, minL, bounds, ranged, finish, result, rvs, finL, V.fin, one, goesOn, h, h1]
  · rw [decide_eq_false h1] at h
    simp [l23, evBody, params, deadL, evC, prep, prepF, prepT, V.prep, prepL, stepL, stepI, wanted, opds, opd, get, put, putO, sem, callE, loadV, partV, valO, binV, binI, binS, unV, nilCmp, apply, keepL, memN, bxOf, tkOf, bxF, frzL, V.frz, frzEL, V.frzE, V.pureR, pureRL, V.tks, tksL, V.al, alL, V.rn, rnL, addT, protT, protAll, distinctN, fill, splice, fillE, V.cells, V.cellOk, V.pm, eqSh, intsOf, maxL, minL, bounds, ranged, finish, result, rvs, finL, V.fin, one, goesOn, h]
    omega
theorem run24 (tl th p q : Int) : run Ft Ct 24 [.agg [I tl, I th, I p, I q]] = some (B (decide ((0 ≤ tl ∧ tl ≤ th ∧ th ≤ 10000) ∧ (1 ≤ p ∧ p ≤ 1000) ∧ (1 ≤ q ∧ q ≤ 1000)))) := by
  have h1 := run23 tl th 0 10000
  have h2 := run65 p 1 1000
  have h3 := run65 q 1 1000
  refine run_of_body (N := 1) rfl rfl ?_
  by_cases c1 : 0 ≤ tl ∧ tl ≤ th ∧ th ≤ 10000
  · rw [decide_eq_true c1] at h1
    by_cases c2 : 1 ≤ p ∧ p ≤ 1000
    · rw [decide_eq_true c2] at h2
      simp [l24, evBody, params, deadL, evC, prep, prepF, prepT, V.prep, prepL, stepL, stepI, wanted, opds, opd, get, put, putO, sem, callE, loadV, partV, valO, binV, binI, binS, unV, nilCmp, apply, keepL, memN, bxOf, tkOf, bxF, frzL, V.frz, frzEL, V.frzE, V.pureR, pureRL, V.tks, tksL, V.al, alL, V.rn, rnL, addT, protT, protAll, distinctN, fill, splice, fillE, V.cells, V.cellOk, V.pm, eqSh, intsOf, maxL, minL, bounds, ranged, finish, result, rvs, finL, V.fin, one, goesOn, h1, h2, h3, c1, c2]
    · rw [decide_eq_false c2] at h2
      simp [l24, evBody, params, deadL, evC, prep, prepF, prepT, V.prep, prepL, stepL, stepI, wanted, opds, opd, get, put, putO, sem, callE, loadV, partV, valO, binV, binI, binS, unV, nilCmp, apply, keepL, memN, bxOf, tkOf, bxF, frzL, V.frz, frzEL, V.frzE, V.pureR, pureRL, V.tks, tksL, V.al, alL, V.rn, rnL, addT, protT, protAll, distinctN, fill, splice, fillE, V.cells, V.cellOk, V.pm, eqSh, intsOf, maxL, minL, bounds, ranged, finish, result, rvs, finL, V.fin, one, goesOn, h1, h2, h3]
      omega
  · rw [decide_eq_false c1] at h1
    simp [l24, evBody, params, deadL, evC, prep, prepF, prepT, V.prep, prepL, stepL, stepI, wanted, opds, opd, get, put, putO, sem, callE, loadV, partV, valO, binV, binI, binS, unV, nilCmp, apply, keepL, memN, bxOf, tkOf, bxF, frzL, V.frz, frzEL, V.frzE, V.pureR, pureRL, V.tks, tksL, V.al, alL, V.rn, rnL, addT, protT, protAll, distinctN, fill, splice, fillE, V.cells, V.cellOk, V.pm, eqSh, intsOf, maxL, minL, bounds, ranged, finish, result, rvs, finL, V.fin, one, goesOn, h1]
    omega
/-- A diameter after plating, times the divisor. -/
def grown (d : Int) (nut : Bool) (t p q : Int) : Int := if nut = true then d * q - t * p else d * q + t * p
theorem abs_mul_bd {a b m k : Int} (h1 : -m ≤ a) (h2 : a ≤ m) (h3 : 0 ≤ b) (h4 : b ≤ k) (hm : 0 ≤ m) : -(m * k) ≤ a * b ∧ a * b ≤ m * k := by
  have e1 : m * b ≤ m * k := Int.mul_le_mul_of_nonneg_left h4 hm
  have e2 : a * b ≤ m * b := Int.mul_le_mul_of_nonneg_right h2 h3
  have e3 : -m * b ≤ a * b := Int.mul_le_mul_of_nonneg_right h1 h3
  rw [Int.neg_mul] at e3
  omega
theorem run25 (d : Int) (nut : Bool) (t tl th p q : Int) (h1 : -100000000 ≤ d ∧ d ≤ 100000000) (h2 : 0 ≤ t ∧ t ≤ 10000) (h3 : 1 ≤ p ∧ p ≤ 1000) (h4 : 1 ≤ q ∧ q ≤ 1000) :
    run Ft Ct 25 [I d, B nut, I t, .agg [I tl, I th, I p, I q]] = some (I (grown d nut t p q)) := by
  have b1 := abs_mul_bd (a := d) (b := q) (m := 100000000) (k := 1000) (by omega) (by omega) (by omega) (by omega) (by omega)
  have b2 := mul_bd (a := t) (b := p) (m := 10000) (k := 1000) (by omega) (by omega) (by omega) (by omega)
  have w1 : IntKind.i64.wrap (d * q) = d * q := wr (by omega) (by omega)
  have w2 : IntKind.i64.wrap (t * p) = t * p := wr (by omega) (by omega)
  have w3 : IntKind.i64.wrap (d * q - t * p) = d * q - t * p := wr (by omega) (by omega)
  have w4 : IntKind.i64.wrap (d * q + t * p) = d * q + t * p := wr (by omega) (by omega)
  refine run_of_body (N := 1) rfl rfl ?_
  cases nut <;> simp [l25, evBody, params, deadL, evC, prep, prepF, prepT, V.prep, prepL, stepL, stepI, wanted, opds, opd, get, put, putO, sem, callE, loadV, partV, valO, binV, binI, binS, unV, nilCmp, apply, keepL, memN, bxOf, tkOf, bxF, frzL, V.frz, frzEL, V.frzE, V.pureR, pureRL, V.tks, tksL, V.al, alL, V.rn, rnL, addT, protT, protAll, distinctN, fill, splice, fillE, V.cells, V.cellOk, V.pm, eqSh, intsOf, maxL, minL, bounds, ranged, finish, result, rvs, finL, V.fin, one, goesOn, w1, w2, w3, w4, grown]
theorem tdiv_down (n : Int) {b : Int} (hb : 0 < b) : (if n.tdiv b * b > n then n.tdiv b - 1 else n.tdiv b) = n / b := by
  have h1 := Int.tmod_add_mul_tdiv n b
  have h2 := tmod_bd n hb
  have h3 := Int.emod_nonneg n (show b ≠ 0 by omega)
  have h4 := Int.emod_lt_of_pos n hb
  have h5 := Int.mul_ediv_add_emod n b
  rw [Int.mul_comm (n.tdiv b) b]
  split
  · have : b * (n.tdiv b - 1) + (n.tmod b + b) = n := by rw [Int.mul_sub]; omega
    symm
    have h6 : n = (n.tmod b + b) + b * (n.tdiv b - 1) := by omega
    conv => lhs; rw [h6]
    rw [Int.add_mul_ediv_left _ _ (by omega), Int.ediv_eq_zero_of_lt (by omega) (by omega)]
    omega
  · symm
    have h6 : n = n.tmod b + b * n.tdiv b := by omega
    conv => lhs; rw [h6]
    rw [Int.add_mul_ediv_left _ _ (by omega), Int.ediv_eq_zero_of_lt (by omega) (by omega)]
    omega
theorem tdiv_bd {n b m : Int} (hb : 0 < b) (h1 : -m ≤ n) (h2 : n ≤ m) (hm : 0 ≤ m) : -m ≤ n.tdiv b ∧ n.tdiv b ≤ m ∧ -(m + b) ≤ n.tdiv b * b ∧ n.tdiv b * b ≤ m + b := by
  have e1 := Int.tmod_add_mul_tdiv n b
  have e2 := tmod_bd n hb
  rw [Int.mul_comm] at e1
  have e3 := tdiv_down n hb
  have e4 := ediv_bd hb h1 h2 hm
  have e5 := ediv_bd (n := -n) hb (by omega) (by omega) hm
  have e6 := tdiv_down (-n) hb
  rw [Int.neg_tdiv] at e6
  refine ⟨?_, ?_, by omega, by omega⟩
  · split at e3 <;> omega
  · split at e6 <;> omega
theorem run27 (n b : Int) (hb : 1 ≤ b ∧ b ≤ 1000) (h : -100000000000 ≤ n ∧ n ≤ 100000000000) : run Ft Ct 27 [I n, I b] = some (I (n / b)) := by
  have t1 := tdiv_bd (n := n) (b := b) (m := 100000000000) (by omega) (by omega) (by omega) (by omega)
  have t2 := tdiv_down n (b := b) (by omega)
  have w1 : IntKind.i64.wrap (n.tdiv b) = n.tdiv b := wr (by omega) (by omega)
  have w2 : IntKind.i64.wrap (n.tdiv b * b) = n.tdiv b * b := wr (by omega) (by omega)
  have w3 : IntKind.i64.wrap (n.tdiv b - 1) = n.tdiv b - 1 := wr (by omega) (by omega)
  have hb0 : b ≠ 0 := by omega
  refine run_of_body (N := 1) rfl rfl ?_
  by_cases c : n < n.tdiv b * b
  · rw [if_pos c] at t2
    rw [← t2]
    simp [l27, evBody, params, deadL, evC, prep, prepF, prepT, V.prep, prepL, stepL, stepI, wanted, opds, opd, get, put, putO, sem, callE, loadV, partV, valO, binV, binI, binS, unV, nilCmp, apply, keepL, memN, bxOf, tkOf, bxF, frzL, V.frz, frzEL, V.frzE, V.pureR, pureRL, V.tks, tksL, V.al, alL, V.rn, rnL, addT, protT, protAll, distinctN, fill, splice, fillE, V.cells, V.cellOk, V.pm, eqSh, intsOf, maxL, minL, bounds, ranged, finish, result, rvs, finL, V.fin, one, goesOn, hb0, w1, w2, w3, c]
  · rw [if_neg c] at t2
    rw [← t2]
    simp [l27, evBody, params, deadL, evC, prep, prepF, prepT, V.prep, prepL, stepL, stepI, wanted, opds, opd, get, put, putO, sem, callE, loadV, partV, valO, binV, binI, binS, unV, nilCmp, apply, keepL, memN, bxOf, tkOf, bxF, frzL, V.frz, frzEL, V.frzE, V.pureR, pureRL, V.tks, tksL, V.al, alL, V.rn, rnL, addT, protT, protAll, distinctN, fill, splice, fillE, V.cells, V.cellOk, V.pm, eqSh, intsOf, maxL, minL, bounds, ranged, finish, result, rvs, finL, V.fin, one, goesOn, hb0, w1, w2, c]
theorem run28 (n b : Int) (hb : 1 ≤ b ∧ b ≤ 1000) (h : -100000000000 ≤ n ∧ n ≤ 100000000000) : run Ft Ct 28 [I n, I b] = some (I (-(-n / b))) := by
  have t1 := tdiv_bd (n := n) (b := b) (m := 100000000000) (by omega) (by omega) (by omega) (by omega)
  have t2 := tdiv_down (-n) (b := b) (by omega)
  rw [Int.neg_tdiv, Int.neg_mul] at t2
  have w1 : IntKind.i64.wrap (n.tdiv b) = n.tdiv b := wr (by omega) (by omega)
  have w2 : IntKind.i64.wrap (n.tdiv b * b) = n.tdiv b * b := wr (by omega) (by omega)
  have w3 : IntKind.i64.wrap (n.tdiv b + 1) = n.tdiv b + 1 := wr (by omega) (by omega)
  have hb0 : b ≠ 0 := by omega
  refine run_of_body (N := 1) rfl rfl ?_
  by_cases c : n.tdiv b * b < n
  · rw [if_pos (by omega)] at t2
    have t3 : -(-n / b) = n.tdiv b + 1 := by omega
    rw [t3]
    simp [l28, evBody, params, deadL, evC, prep, prepF, prepT, V.prep, prepL, stepL, stepI, wanted, opds, opd, get, put, putO, sem, callE, loadV, partV, valO, binV, binI, binS, unV, nilCmp, apply, keepL, memN, bxOf, tkOf, bxF, frzL, V.frz, frzEL, V.frzE, V.pureR, pureRL, V.tks, tksL, V.al, alL, V.rn, rnL, addT, protT, protAll, distinctN, fill, splice, fillE, V.cells, V.cellOk, V.pm, eqSh, intsOf, maxL, minL, bounds, ranged, finish, result, rvs, finL, V.fin, one, goesOn, hb0, w1, w2, w3, c]
  · rw [if_neg (by omega)] at t2
    have t3 : -(-n / b) = n.tdiv b := by omega
    rw [t3]
    simp [l28, evBody, params, deadL, evC, prep, prepF, prepT, V.prep, prepL, stepL, stepI, wanted, opds, opd, get, put, putO, sem, callE, loadV, partV, valO, binV, binI, binS, unV, nilCmp, apply, keepL, memN, bxOf, tkOf, bxF, frzL, V.frz, frzEL, V.frzE, V.pureR, pureRL, V.tks, tksL, V.al, alL, V.rn, rnL, addT, protT, protAll, distinctN, fill, splice, fillE, V.cells, V.cellOk, V.pm, eqSh, intsOf, maxL, minL, bounds, ranged, finish, result, rvs, finL, V.fin, one, goesOn, hb0, w1, w2, c]
end Go.Lo
