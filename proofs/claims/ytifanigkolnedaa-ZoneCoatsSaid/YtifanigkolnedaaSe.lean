/- The law of plating: it answers true. -/
import Derived.Test.YtifanigkolnedaaSd
namespace Go.Lo
open Go.Proofs
set_option linter.unusedSimpArgs false
set_option maxHeartbeats 4000000 in
theorem run4 (lo hi tl th p q : Int) (nut : Bool) : run Ft Ct 4 [.agg [I lo, I hi], .agg [I tl, I th, I p, I q], B nut] = some (B true) := by
  have hkn := run13
  have h21 := run21 lo hi tl th p q nut
  have h22 := run22 lo hi tl th p q nut
  have h23 := run23 lo hi (-20000000) 20000000
  have h24 := run24 tl th p q
  by_cases hc : coatOk lo hi tl th p q
  · have hc' := hc
    obtain ⟨c1, c2, c3, c4⟩ := hc'
    rw [if_pos hc] at h21 h22
    rw [decide_eq_true (by omega)] at h23 h24
    have b := lst_bd (nut := nut) hc
    have bq := mul_bd (a := tl) (b := p) (m := 10000) (k := 1000) (by omega) (by omega) (by omega) (by omega)
    have bq2 := mul_bd (a := th) (b := p) (m := 10000) (k := 1000) (by omega) (by omega) (by omega) (by omega)
    have b1 := abs_mul_bd (a := lo) (b := q) (m := 20000000) (k := 1000) (by omega) (by omega) (by omega) (by omega) (by omega)
    have b2 := abs_mul_bd (a := hi) (b := q) (m := 20000000) (k := 1000) (by omega) (by omega) (by omega) (by omega) (by omega)
    have g1 := run25 lo nut tl tl th p q (by omega) (by omega) c3 c4
    have g2 := run25 hi nut th tl th p q (by omega) (by omega) c3 c4
    have g3 := run25 lo nut th tl th p q (by omega) (by omega) c3 c4
    have g4 := run25 hi nut tl tl th p q (by omega) (by omega) c3 c4
    have hR := fun d hd => run29 d nut (lo := lo) (hi := hi) (tl := tl) (th := th) (p := p) (q := q) hd hc
    have hD := run27 (lo * q + lst nut tl th p) q c4 (by omega)
    have hU := run28 (hi * q + mst nut tl th p) q c4 (by omega)
    have hd1 := run27 (tl * p) q c4 (by omega)
    have hd2 := run28 (th * p) q c4 (by omega)
    have q0 : q ≠ 0 := by omega
    have e1 : (lo * q + lst nut tl th p) / q = lo + lst nut tl th p / q := by
      rw [Int.add_comm, Int.add_mul_ediv_right _ _ q0, Int.add_comm]
    have e2 : -(-(hi * q + mst nut tl th p) / q) = hi + -(-mst nut tl th p / q) := by
      have : -(hi * q + mst nut tl th p) = -mst nut tl th p + (-hi) * q := by rw [Int.neg_mul]; omega
      rw [this, Int.add_mul_ediv_right _ _ q0]; omega
    rw [e1] at hD
    rw [e2] at hU
    have hS := run26 (lo + lst nut tl th p / q) (hi + -(-mst nut tl th p / q))
    have x1 := Int.mul_ediv_add_emod (lst nut tl th p) q
    have x2 := Int.emod_nonneg (lst nut tl th p) q0
    have x3 := Int.emod_lt_of_pos (lst nut tl th p) (show 0 < q by omega)
    have y1 := Int.mul_ediv_add_emod (-mst nut tl th p) q
    have y2 := Int.emod_nonneg (-mst nut tl th p) q0
    have y3 := Int.emod_lt_of_pos (-mst nut tl th p) (show 0 < q by omega)
    have t1 := ediv_bd (n := lst nut tl th p) (b := q) (m := 10000000) (by omega) (by omega) (by omega) (by omega)
    have t2 := ediv_bd (n := -mst nut tl th p) (b := q) (m := 10000000) (by omega) (by omega) (by omega) (by omega)
    have hA : lo - lst nut tl th p / q = lo - lst nut tl th p / q := rfl
    have mA : (lo - lst nut tl th p / q) * q = lo * q - q * (lst nut tl th p / q) := by rw [Int.sub_mul, Int.mul_comm (lst nut tl th p / q)]
    have mB : (hi + -mst nut tl th p / q) * q = hi * q + q * (-mst nut tl th p / q) := by rw [Int.add_mul, Int.mul_comm (-mst nut tl th p / q)]
    have eL : (if nut = true then grown lo nut th p q else grown lo nut tl p q) = lo * q + lst nut tl th p := by cases nut <;> simp [grown, lst] <;> omega
    have eM : (if nut = true then grown hi nut tl p q else grown hi nut th p q) = hi * q + mst nut tl th p := by cases nut <;> simp [grown, mst] <;> omega
    have eN : (if nut = true then lo + -(-(th * p) / q) else lo - tl * p / q) = lo - lst nut tl th p / q := by cases nut <;> simp [lst] <;> omega
    generalize hA : lo - lst nut tl th p / q = A at *
    generalize hB : hi + -mst nut tl th p / q = Bh at *
    have bA : -30000000 ≤ A ∧ A ≤ 30000000 := by omega
    have bB : -30000000 ≤ Bh ∧ Bh ≤ 30000000 := by omega
    have r1 := hR A (by omega)
    have r2 := hR Bh (by omega)
    have r3 := hR (A - 1) (by omega)
    have r4 := hR (Bh + 1) (by omega)
    have w1 : IntKind.i64.wrap (A - 1) = A - 1 := wr (by omega) (by omega)
    have w2 : IntKind.i64.wrap (Bh + 1) = Bh + 1 := wr (by omega) (by omega)
    have w3 : IntKind.i64.wrap (tl * p) = tl * p := wr (by omega) (by omega)
    have w4 : IntKind.i64.wrap (th * p) = th * p := wr (by omega) (by omega)
    have v3 : (A - 1) * q = A * q - q := by rw [Int.sub_mul, Int.one_mul]
    have v4 : (Bh + 1) * q = Bh * q + q := by rw [Int.add_mul, Int.one_mul]
    have mle : A ≤ Bh → A * q ≤ Bh * q := fun h => Int.mul_le_mul_of_nonneg_right h (by omega)
    have mgt : Bh < A → Bh * q + q ≤ A * q := fun h => by
      have : (Bh + 1) * q ≤ A * q := Int.mul_le_mul_of_nonneg_right (by omega) (by omega)
      omega
    rw [decide_eq_false (by omega)] at r3 r4
    refine run_of_body (N := 1) rfl rfl ?_
    by_cases hg : A > Bh
    · rw [if_pos hg] at h21
      have hm := mgt hg
      rw [decide_eq_false (by omega)] at r1
      cases nut
      · simp at eL eM eN
        have w5 : IntKind.i64.wrap (lo - tl * p / q) = A := by rw [eN]; exact wr (by omega) (by omega)
        rw [← eL] at hD
        rw [← eM] at hU
        simp [l4, evBody, params, deadL, evC, prep, prepF, prepT, V.prep, prepL, stepL, stepI, wanted, opds, opd, get, put, putO, sem, callE, loadV, partV, valO, binV, binI, binS, unV, nilCmp, apply, keepL, memN, bxOf, tkOf, bxF, frzL, V.frz, frzEL, V.frzE, V.pureR, pureRL, V.tks, tksL, V.al, alL, V.rn, rnL, addT, protT, protAll, distinctN, fill, splice, fillE, V.cells, V.cellOk, V.pm, eqSh, intsOf, maxL, minL, bounds, ranged, finish, result, rvs, finL, V.fin, one, goesOn, h21, h22, h23, h24, g1, g2, hD, hU, hS, hd1, w3, w5, r1, hkn]
      · simp at eL eM eN
        have w5 : IntKind.i64.wrap (lo - tl * p / q) = lo - tl * p / q := by
          have := ediv_bd (n := tl * p) (b := q) (m := 10000000) (by omega) (by omega) (by omega) (by omega)
          exact wr (by omega) (by omega)
        have w6 : IntKind.i64.wrap (lo + -(-(th * p) / q)) = A := by rw [eN]; exact wr (by omega) (by omega)
        rw [← eL] at hD
        rw [← eM] at hU
        simp [l4, evBody, params, deadL, evC, prep, prepF, prepT, V.prep, prepL, stepL, stepI, wanted, opds, opd, get, put, putO, sem, callE, loadV, partV, valO, binV, binI, binS, unV, nilCmp, apply, keepL, memN, bxOf, tkOf, bxF, frzL, V.frz, frzEL, V.frzE, V.pureR, pureRL, V.tks, tksL, V.al, alL, V.rn, rnL, addT, protT, protAll, distinctN, fill, splice, fillE, V.cells, V.cellOk, V.pm, eqSh, intsOf, maxL, minL, bounds, ranged, finish, result, rvs, finL, V.fin, one, goesOn, h21, h22, h23, h24, g1, g2, g3, g4, hD, hU, hS, hd1, hd2, w3, w4, w5, w6, r1, hkn]
    · rw [if_neg hg] at h21
      have hm := mle (by omega)
      rw [decide_eq_true (by omega)] at r1 r2
      have hle : A ≤ Bh := by omega
      cases nut
      · simp at eL eM
        rw [← eL] at hD
        rw [← eM] at hU
        simp [l4, evBody, params, deadL, evC, prep, prepF, prepT, V.prep, prepL, stepL, stepI, wanted, opds, opd, get, put, putO, sem, callE, loadV, partV, valO, binV, binI, binS, unV, nilCmp, apply, keepL, memN, bxOf, tkOf, bxF, frzL, V.frz, frzEL, V.frzE, V.pureR, pureRL, V.tks, tksL, V.al, alL, V.rn, rnL, addT, protT, protAll, distinctN, fill, splice, fillE, V.cells, V.cellOk, V.pm, eqSh, intsOf, maxL, minL, bounds, ranged, finish, result, rvs, finL, V.fin, one, goesOn, h21, h22, h23, h24, g1, g2, hD, hU, hS, w1, w2, r1, r2, r3, r4, hle, hkn]
      · simp at eL eM
        rw [← eL] at hD
        rw [← eM] at hU
        simp [l4, evBody, params, deadL, evC, prep, prepF, prepT, V.prep, prepL, stepL, stepI, wanted, opds, opd, get, put, putO, sem, callE, loadV, partV, valO, binV, binI, binS, unV, nilCmp, apply, keepL, memN, bxOf, tkOf, bxF, frzL, V.frz, frzEL, V.frzE, V.pureR, pureRL, V.tks, tksL, V.al, alL, V.rn, rnL, addT, protT, protAll, distinctN, fill, splice, fillE, V.cells, V.cellOk, V.pm, eqSh, intsOf, maxL, minL, bounds, ranged, finish, result, rvs, finL, V.fin, one, goesOn, h21, h22, h23, h24, g1, g2, g3, g4, hD, hU, hS, w1, w2, r1, r2, r3, r4, hle, hkn]
  · rw [if_neg hc] at h21 h22
    refine run_of_body (N := 1) rfl rfl ?_
    by_cases c1 : -20000000 ≤ lo ∧ lo ≤ hi ∧ hi ≤ 20000000
    · have c2 : ¬ ((0 ≤ tl ∧ tl ≤ th ∧ th ≤ 10000) ∧ (1 ≤ p ∧ p ≤ 1000) ∧ (1 ≤ q ∧ q ≤ 1000)) := fun h => hc ⟨c1, h.1, h.2.1, h.2.2⟩
      rw [decide_eq_true c1] at h23
      rw [decide_eq_false c2] at h24
      simp [l4, evBody, params, deadL, evC, prep, prepF, prepT, V.prep, prepL, stepL, stepI, wanted, opds, opd, get, put, putO, sem, callE, loadV, partV, valO, binV, binI, binS, unV, nilCmp, apply, keepL, memN, bxOf, tkOf, bxF, frzL, V.frz, frzEL, V.frzE, V.pureR, pureRL, V.tks, tksL, V.al, alL, V.rn, rnL, addT, protT, protAll, distinctN, fill, splice, fillE, V.cells, V.cellOk, V.pm, eqSh, intsOf, maxL, minL, bounds, ranged, finish, result, rvs, finL, V.fin, one, goesOn, h21, h22, h23, h24, hkn]
    · rw [decide_eq_false c1] at h23
      simp [l4, evBody, params, deadL, evC, prep, prepF, prepT, V.prep, prepL, stepL, stepI, wanted, opds, opd, get, put, putO, sem, callE, loadV, partV, valO, binV, binI, binS, unV, nilCmp, apply, keepL, memN, bxOf, tkOf, bxF, frzL, V.frz, frzEL, V.frzE, V.pureR, pureRL, V.tks, tksL, V.al, alL, V.rn, rnL, addT, protT, protAll, distinctN, fill, splice, fillE, V.cells, V.cellOk, V.pm, eqSh, intsOf, maxL, minL, bounds, ranged, finish, result, rvs, finL, V.fin, one, goesOn, h21, h22, h23, hkn]
end Go.Lo
