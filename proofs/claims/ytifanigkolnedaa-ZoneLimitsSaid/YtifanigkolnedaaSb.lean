/- Coats. -/
import Derived.Test.YtifanigkolnedaaSa
namespace Go.Lo
open Go.Proofs
set_option linter.unusedSimpArgs false
theorem wr {n : Int} (h1 : -9223372036854775808 ≤ n) (h2 : n ≤ 9223372036854775807) : IntKind.i64.wrap n = n := wrap64 ⟨h1, h2⟩
theorem tmod_bd (n : Int) {b : Int} (hb : 0 < b) : -b < n.tmod b ∧ n.tmod b < b := by
  have h1 := Int.tmod_lt_of_pos n hb
  have h2 := Int.tmod_lt_of_pos (-n) hb
  rw [Int.neg_tmod] at h2
  omega
theorem tmod_tmod (n : Int) {b : Int} (hb : 0 < b) : (n.tmod b + b).tmod b = n % b := by
  have h1 := tmod_bd n hb
  rw [Int.tmod_eq_emod_of_nonneg (by omega), Int.add_emod_right]
  have := Int.tmod_add_mul_tdiv n b
  conv => rhs; rw [← this]
  rw [Int.add_mul_emod_self_left]
theorem down_eq (n : Int) {b : Int} (hb : 0 < b) : (n - n % b).tdiv b = n / b := by
  have h : n - n % b = n / b * b := by have := Int.mul_ediv_add_emod n b; rw [Int.mul_comm]; omega
  rw [h, Int.mul_tdiv_cancel _ (by omega)]
theorem ediv_bd {n b m : Int} (hb : 0 < b) (h1 : -m ≤ n) (h2 : n ≤ m) (hm : 0 ≤ m) : -m ≤ n / b ∧ n / b ≤ m := by
  have hb1 : 1 ≤ b := hb
  constructor
  · rw [Int.le_ediv_iff_mul_le hb]
    have : m * 1 ≤ m * b := Int.mul_le_mul_of_nonneg_left hb1 hm
    rw [Int.neg_mul]; omega
  · by_cases h0 : 0 ≤ n
    · exact Int.le_trans (Int.ediv_le_self b h0) h2
    · have : n / b ≤ 0 := Int.ediv_nonpos_of_nonpos_of_neg (by omega) (by omega)
      omega
theorem run68 (a b c d e f n : Int) (hd : 1 ≤ d) (hd2 : d ≤ 1000) (h1 : -100000000000 ≤ n) (h2 : n ≤ 100000000000) :
    run Ft Ct 68 [.agg [I a, I b, I c, I d, I e, I f], I n] = some (I (n / d)) := by
  have t1 := tmod_bd n (show 0 < d by omega)
  have t2 := tmod_tmod n (show 0 < d by omega)
  have t3 := Int.emod_nonneg n (show d ≠ 0 by omega)
  have t4 := Int.emod_lt_of_pos n (show 0 < d by omega)
  have t5 := ediv_bd (n := n) (b := d) (m := 100000000000) (by omega) (by omega) (by omega) (by omega)
  have w1 : IntKind.i64.wrap (n.tmod d + d) = n.tmod d + d := wr (by omega) (by omega)
  have w2 : IntKind.i64.wrap (n - n % d) = n - n % d := wr (by omega) (by omega)
  have w3 : IntKind.i64.wrap (n / d) = n / d := wr (by omega) (by omega)
  have hd0 : d ≠ 0 := by omega
  refine run_of_body (N := 1) rfl rfl ?_
  simp [l68, evBody, params, deadL, evC, prep, prepF, prepT, V.prep, prepL, stepL, stepI, wanted, opds, opd, get, put, putO, sem, callE, loadV, partV, valO, binV, binI, binS, unV, nilCmp, apply, keepL, memN, bxOf, tkOf, bxF, frzL, V.frz, frzEL, V.frzE, V.pureR, pureRL, V.tks, tksL, V.al, alL, V.rn, rnL, addT, protT, protAll, distinctN, fill, splice, fillE, V.cells, V.cellOk, V.pm, eqSh, intsOf, maxL, minL, bounds, ranged, finish, result, rvs, finL, V.fin, one, goesOn, hd0, w1, w2, w3, t2, down_eq n (show 0 < d by omega)]
theorem run67 (a b c d e f n : Int) (hd : 1 ≤ d) (hd2 : d ≤ 1000) (h1 : -100000000000 ≤ n) (h2 : n ≤ 100000000000) :
    run Ft Ct 67 [.agg [I a, I b, I c, I d, I e, I f], I n] = some (I (-(-n / d))) := by
  have h := run68 a b c d e f (-n) hd hd2 (by omega) (by omega)
  have t5 := ediv_bd (n := -n) (b := d) (m := 100000000000) (by omega) (by omega) (by omega) (by omega)
  have w1 : IntKind.i64.wrap (-n) = -n := wr (by omega) (by omega)
  have w2 : IntKind.i64.wrap (-(-n / d)) = -(-n / d) := wr (by omega) (by omega)
  refine run_of_body (N := 1) rfl rfl ?_
  simp [l67, evBody, params, deadL, evC, prep, prepF, prepT, V.prep, prepL, stepL, stepI, wanted, opds, opd, get, put, putO, sem, callE, loadV, partV, valO, binV, binI, binS, unV, nilCmp, apply, keepL, memN, bxOf, tkOf, bxF, frzL, V.frz, frzEL, V.frzE, V.pureR, pureRL, V.tks, tksL, V.al, alL, V.rn, rnL, addT, protT, protAll, distinctN, fill, splice, fillE, V.cells, V.cellOk, V.pm, eqSh, intsOf, maxL, minL, bounds, ranged, finish, result, rvs, finL, V.fin, one, goesOn, w1, h, w2]
/-- A valid coat, and a valid zone. -/
def coatOk (lo hi tl th p q : Int) : Prop := (-20000000 ≤ lo ∧ lo ≤ hi ∧ hi ≤ 20000000) ∧ (0 ≤ tl ∧ tl ≤ th ∧ th ≤ 10000) ∧ (1 ≤ p ∧ p ≤ 1000) ∧ (1 ≤ q ∧ q ≤ 1000)
instance (lo hi tl th p q : Int) : Decidable (coatOk lo hi tl th p q) := by unfold coatOk; infer_instance
theorem mul_bd {a b m k : Int} (h1 : 0 ≤ a) (h2 : a ≤ m) (h3 : 0 ≤ b) (h4 : b ≤ k) : 0 ≤ a * b ∧ a * b ≤ m * k :=
  ⟨Int.mul_nonneg h1 h3, Int.mul_le_mul h2 h4 h3 (by omega)⟩
theorem run66 (lo hi tl th p q : Int) (nut : Bool) : run Ft Ct 66 [.agg [I lo, I hi], B nut, .agg [I tl, I th, I p, I q]] = some (if coatOk lo hi tl th p q then
    .tup [.agg [I tl, I th, I p, I q, I (if nut = true then -(th * p) else tl * p), I (if nut = true then -(tl * p) else th * p)], I 0] else .tup [.agg [I 0, I 0, I 0, I 0, I 0, I 0], I 2]) := by
  have h1 := run71 lo hi (-20000000) 20000000
  have h2 := run71 tl th 0 10000
  have h3 := run58 1 1000 (xs := [p, q]) (by simp)
  simp [eI] at h3
  by_cases c1 : -20000000 ≤ lo ∧ lo ≤ 20000000 ∧ -20000000 ≤ hi ∧ hi ≤ 20000000 ∧ lo ≤ hi
  · rw [decide_eq_true c1] at h1
    by_cases c2 : 0 ≤ tl ∧ tl ≤ 10000 ∧ 0 ≤ th ∧ th ≤ 10000 ∧ tl ≤ th
    · rw [decide_eq_true c2] at h2
      by_cases c3 : (1 ≤ p ∧ p ≤ 1000) ∧ 1 ≤ q ∧ q ≤ 1000
      · have e3 : (decide (1 ≤ p) && decide (p ≤ 1000) && (decide (1 ≤ q) && decide (q ≤ 1000))) = true := by simpa using c3
        rw [e3] at h3
        have hc : coatOk lo hi tl th p q := by unfold coatOk; omega
        have b1 := mul_bd (a := tl) (b := p) (m := 10000) (k := 1000) (by omega) (by omega) (by omega) (by omega)
        have b2 := mul_bd (a := th) (b := p) (m := 10000) (k := 1000) (by omega) (by omega) (by omega) (by omega)
        have w1 : IntKind.i64.wrap (tl * p) = tl * p := wr (by omega) (by omega)
        have w2 : IntKind.i64.wrap (th * p) = th * p := wr (by omega) (by omega)
        have w3 : IntKind.i64.wrap (-(tl * p)) = -(tl * p) := wr (by omega) (by omega)
        have w4 : IntKind.i64.wrap (-(th * p)) = -(th * p) := wr (by omega) (by omega)
        refine run_of_body (N := 1) rfl rfl ?_
        rw [if_pos hc]
        cases nut <;> simp [l66, evBody, params, deadL, evC, prep, prepF, prepT, V.prep, prepL, stepL, stepI, wanted, opds, opd, get, put, putO, sem, callE, loadV, partV, valO, binV, binI, binS, unV, nilCmp, apply, keepL, memN, bxOf, tkOf, bxF, frzL, V.frz, frzEL, V.frzE, V.pureR, pureRL, V.tks, tksL, V.al, alL, V.rn, rnL, addT, protT, protAll, distinctN, fill, splice, fillE, V.cells, V.cellOk, V.pm, eqSh, intsOf, maxL, minL, bounds, ranged, finish, result, rvs, finL, V.fin, one, goesOn, h1, h2, h3, w1, w2, w3, w4]
      · have e3 : (decide (1 ≤ p) && decide (p ≤ 1000) && (decide (1 ≤ q) && decide (q ≤ 1000))) = false := by
          rw [Bool.eq_false_iff]; simp; omega
        rw [e3] at h3
        have hc : ¬ coatOk lo hi tl th p q := by unfold coatOk; omega
        refine run_of_body (N := 1) rfl rfl ?_
        rw [if_neg hc]
        simp [l66, evBody, params, deadL, evC, prep, prepF, prepT, V.prep, prepL, stepL, stepI, wanted, opds, opd, get, put, putO, sem, callE, loadV, partV, valO, binV, binI, binS, unV, nilCmp, apply, keepL, memN, bxOf, tkOf, bxF, frzL, V.frz, frzEL, V.frzE, V.pureR, pureRL, V.tks, tksL, V.al, alL, V.rn, rnL, addT, protT, protAll, distinctN, fill, splice, fillE, V.cells, V.cellOk, V.pm, eqSh, intsOf, maxL, minL, bounds, ranged, finish, result, rvs, finL, V.fin, one, goesOn, h1, h2, h3]
    · rw [decide_eq_false c2] at h2
      have hc : ¬ coatOk lo hi tl th p q := by unfold coatOk; omega
      refine run_of_body (N := 1) rfl rfl ?_
      rw [if_neg hc]
      simp [l66, evBody, params, deadL, evC, prep, prepF, prepT, V.prep, prepL, stepL, stepI, wanted, opds, opd, get, put, putO, sem, callE, loadV, partV, valO, binV, binI, binS, unV, nilCmp, apply, keepL, memN, bxOf, tkOf, bxF, frzL, V.frz, frzEL, V.frzE, V.pureR, pureRL, V.tks, tksL, V.al, alL, V.rn, rnL, addT, protT, protAll, distinctN, fill, splice, fillE, V.cells, V.cellOk, V.pm, eqSh, intsOf, maxL, minL, bounds, ranged, finish, result, rvs, finL, V.fin, one, goesOn, h1, h2]
  · rw [decide_eq_false c1] at h1
    have hc : ¬ coatOk lo hi tl th p q := by unfold coatOk; omega
    refine run_of_body (N := 1) rfl rfl ?_
    rw [if_neg hc]
    simp [l66, evBody, params, deadL, evC, prep, prepF, prepT, V.prep, prepL, stepL, stepI, wanted, opds, opd, get, put, putO, sem, callE, loadV, partV, valO, binV, binI, binS, unV, nilCmp, apply, keepL, memN, bxOf, tkOf, bxF, frzL, V.frz, frzEL, V.frzE, V.pureR, pureRL, V.tks, tksL, V.al, alL, V.rn, rnL, addT, protT, protAll, distinctN, fill, splice, fillE, V.cells, V.cellOk, V.pm, eqSh, intsOf, maxL, minL, bounds, ranged, finish, result, rvs, finL, V.fin, one, goesOn, h1]
end Go.Lo
