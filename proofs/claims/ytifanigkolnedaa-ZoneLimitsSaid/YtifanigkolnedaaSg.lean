/- Right after plating: closures, and diameters within spans. -/
import Derived.Test.YtifanigkolnedaaSd
namespace Go.Lo
open Go.Proofs
set_option linter.unusedSimpArgs false
theorem run48 (d : Int) (nut : Bool) (t tl th p q : Int) (h1 : -100000000 ≤ d ∧ d ≤ 100000000) (h2 : 0 ≤ t ∧ t ≤ 10000) (h3 : 1 ≤ p ∧ p ≤ 1000) (h4 : 1 ≤ q ∧ q ≤ 1000) :
    run Ft Ct 48 [I d, I t, .cref [B nut], .cref [I tl, I th, I p, I q]] = some (I (grown d nut t p q)) := by
  have b1 := abs_mul_bd (a := d) (b := q) (m := 100000000) (k := 1000) (by omega) (by omega) (by omega) (by omega) (by omega)
  have b2 := mul_bd (a := t) (b := p) (m := 10000) (k := 1000) (by omega) (by omega) (by omega) (by omega)
  have w1 : IntKind.i64.wrap (d * q) = d * q := wr (by omega) (by omega)
  have w2 : IntKind.i64.wrap (t * p) = t * p := wr (by omega) (by omega)
  have w3 : IntKind.i64.wrap (d * q - t * p) = d * q - t * p := wr (by omega) (by omega)
  have w4 : IntKind.i64.wrap (d * q + t * p) = d * q + t * p := wr (by omega) (by omega)
  refine run_of_body (N := 1) rfl rfl ?_
  cases nut <;> simp [l48, evBody, params, deadL, evC, prep, prepF, prepT, V.prep, prepL, stepL, stepI, wanted, opds, opd, get, put, putO, sem, callE, loadV, partV, valO, binV, binI, binS, unV, nilCmp, apply, keepL, memN, bxOf, tkOf, bxF, frzL, V.frz, frzEL, V.frzE, V.pureR, pureRL, V.tks, tksL, V.al, alL, V.rn, rnL, addT, protT, protAll, distinctN, fill, splice, fillE, V.cells, V.cellOk, V.pm, eqSh, intsOf, maxL, minL, bounds, ranged, finish, result, rvs, finL, V.fin, one, goesOn, w1, w2, w3, w4, grown]
theorem run49 (d : Int) (nut : Bool) (t lo hi tl th p q : Int) (h1 : -100000000 ≤ d ∧ d ≤ 100000000) (h2 : 0 ≤ t ∧ t ≤ 10000) (hc : coatOk lo hi tl th p q) :
    run Ft Ct 49 [I d, I t, .cref [.fn (.f 48) [.cref [B nut], .cref [I tl, I th, I p, I q]]], .cref [I lo, I hi], .cref [I tl, I th, I p, I q]] = some (B (decide (lo * q ≤ grown d nut t p q ∧ grown d nut t p q ≤ hi * q))) := by
  obtain ⟨c1, c2, c3, c4⟩ := hc
  have h := run48 d nut t tl th p q h1 h2 c3 c4
  have b1 := abs_mul_bd (a := lo) (b := q) (m := 20000000) (k := 1000) (by omega) (by omega) (by omega) (by omega) (by omega)
  have b2 := abs_mul_bd (a := hi) (b := q) (m := 20000000) (k := 1000) (by omega) (by omega) (by omega) (by omega) (by omega)
  have w1 : IntKind.i64.wrap (lo * q) = lo * q := wr (by omega) (by omega)
  have w2 : IntKind.i64.wrap (hi * q) = hi * q := wr (by omega) (by omega)
  generalize grown d nut t p q = g at *
  refine run_of_body (N := 1) rfl rfl ?_
  by_cases x1 : lo * q ≤ g
  · simp [l49, evBody, params, deadL, evC, prep, prepF, prepT, V.prep, prepL, stepL, stepI, wanted, opds, opd, get, put, putO, sem, callE, loadV, partV, valO, binV, binI, binS, unV, nilCmp, apply, keepL, memN, bxOf, tkOf, bxF, frzL, V.frz, frzEL, V.frzE, V.pureR, pureRL, V.tks, tksL, V.al, alL, V.rn, rnL, addT, protT, protAll, distinctN, fill, splice, fillE, V.cells, V.cellOk, V.pm, eqSh, intsOf, maxL, minL, bounds, ranged, finish, result, rvs, finL, V.fin, one, goesOn, h, w1, w2, x1]
  · simp [l49, evBody, params, deadL, evC, prep, prepF, prepT, V.prep, prepL, stepL, stepI, wanted, opds, opd, get, put, putO, sem, callE, loadV, partV, valO, binV, binI, binS, unV, nilCmp, apply, keepL, memN, bxOf, tkOf, bxF, frzL, V.frz, frzEL, V.frzE, V.pureR, pureRL, V.tks, tksL, V.al, alL, V.rn, rnL, addT, protT, protAll, distinctN, fill, splice, fillE, V.cells, V.cellOk, V.pm, eqSh, intsOf, maxL, minL, bounds, ranged, finish, result, rvs, finL, V.fin, one, goesOn, h, w1, w2, x1]
theorem tmod_nn {a b : Int} (ha : 0 ≤ a) (hb : 0 < b) : 0 ≤ a.tmod b ∧ a.tmod b < b := ⟨Int.tmod_nonneg b ha, Int.tmod_lt_of_pos a hb⟩
theorem run47 (lo hi n : Int) (h1 : -100000000 ≤ lo) (h2 : lo ≤ hi) (h3 : hi ≤ 100000000) (hn : 0 ≤ n ∧ n ≤ 1000000000000) : ∃ d, run Ft Ct 47 [.agg [I lo, I hi], I n] = some (I d) ∧ lo ≤ d ∧ d ≤ hi := by
  have t := tmod_nn hn.1 (show 0 < hi - lo + 1 by omega)
  have w1 : IntKind.i64.wrap (hi - lo) = hi - lo := wr (by omega) (by omega)
  have w2 : IntKind.i64.wrap (hi - lo + 1) = hi - lo + 1 := wr (by omega) (by omega)
  have w3 : IntKind.i64.wrap (lo + n.tmod (hi - lo + 1)) = lo + n.tmod (hi - lo + 1) := wr (by omega) (by omega)
  have h0 : ¬ (hi - lo + 1 = 0) := by omega
  refine ⟨lo + n.tmod (hi - lo + 1), run_of_body (N := 1) rfl rfl ?_, by omega, by omega⟩
  simp [l47, evBody, params, deadL, evC, prep, prepF, prepT, V.prep, prepL, stepL, stepI, wanted, opds, opd, get, put, putO, sem, callE, loadV, partV, valO, binV, binI, binS, unV, nilCmp, apply, keepL, memN, bxOf, tkOf, bxF, frzL, V.frz, frzEL, V.frzE, V.pureR, pureRL, V.tks, tksL, V.al, alL, V.rn, rnL, addT, protT, protAll, distinctN, fill, splice, fillE, V.cells, V.cellOk, V.pm, eqSh, intsOf, maxL, minL, bounds, ranged, finish, result, rvs, finL, V.fin, one, goesOn, w1, w2, w3, h0]
/-- What is grown lies between. -/
theorem grown_bd {d : Int} {nut : Bool} {t lo hi tl th p q : Int} (hc : coatOk lo hi tl th p q) (ht : tl ≤ t ∧ t ≤ th) : d * q + lst nut tl th p ≤ grown d nut t p q ∧ grown d nut t p q ≤ d * q + mst nut tl th p := by
  obtain ⟨c1, c2, c3, c4⟩ := hc
  have b1 : tl * p ≤ t * p := Int.mul_le_mul_of_nonneg_right ht.1 (by omega)
  have b2 : t * p ≤ th * p := Int.mul_le_mul_of_nonneg_right ht.2 (by omega)
  cases nut <;> simp [lst, mst, grown] <;> omega
theorem right_iff {d : Int} {nut : Bool} {lo hi tl th p q : Int} (hc : coatOk lo hi tl th p q) : ((lo * q ≤ grown d nut tl p q ∧ grown d nut tl p q ≤ hi * q) ∧ (lo * q ≤ grown d nut th p q ∧ grown d nut th p q ≤ hi * q)) ↔ (lo * q ≤ d * q + lst nut tl th p ∧ d * q + mst nut tl th p ≤ hi * q) := by
  have hle := lst_bd (nut := nut) hc
  cases nut <;> simp [lst, mst, grown] at * <;> omega
/-- Where a diameter is right. -/
theorem right_span {d : Int} {nut : Bool} {lo hi tl th p q : Int} (hc : coatOk lo hi tl th p q) : (lo * q ≤ d * q + lst nut tl th p ∧ d * q + mst nut tl th p ≤ hi * q) ↔ (lo - lst nut tl th p / q ≤ d ∧ d ≤ hi + -mst nut tl th p / q) := by
  obtain ⟨c1, c2, c3, c4⟩ := hc
  have q0 : 0 < q := by omega
  generalize lst nut tl th p = L
  generalize mst nut tl th p = M
  have e1 : (lo * q ≤ d * q + L) ↔ lo - L / q ≤ d := by
    have x1 := Int.mul_ediv_add_emod L q
    have x2 := Int.emod_nonneg L (show q ≠ 0 by omega)
    have x3 := Int.emod_lt_of_pos L q0
    constructor
    · intro h
      apply Decidable.byContradiction
      intro hn
      have : (d + 1) * q ≤ (lo - L / q) * q := Int.mul_le_mul_of_nonneg_right (by omega) (by omega)
      rw [Int.add_mul, Int.sub_mul, Int.mul_comm (L / q)] at this
      omega
    · intro h
      have : (lo - L / q) * q ≤ d * q := Int.mul_le_mul_of_nonneg_right h (by omega)
      rw [Int.sub_mul, Int.mul_comm (L / q)] at this
      omega
  have e2 : (d * q + M ≤ hi * q) ↔ d ≤ hi + -M / q := by
    have x1 := Int.mul_ediv_add_emod (-M) q
    have x2 := Int.emod_nonneg (-M) (show q ≠ 0 by omega)
    have x3 := Int.emod_lt_of_pos (-M) q0
    constructor
    · intro h
      apply Decidable.byContradiction
      intro hn
      have : (hi + -M / q + 1) * q ≤ d * q := Int.mul_le_mul_of_nonneg_right (by omega) (by omega)
      rw [Int.add_mul, Int.add_mul, Int.mul_comm (-M / q)] at this
      omega
    · intro h
      have : d * q ≤ (hi + -M / q) * q := Int.mul_le_mul_of_nonneg_right h (by omega)
      rw [Int.add_mul, Int.mul_comm (-M / q)] at this
      omega
  rw [e1, e2]
def s9 (lo hi tl th p q A Bh k : Int) (nut : Bool) : St := { fr := [(8, .box [I lo, I hi]), (9, .box [B nut]), (10, .box [I tl, I th, I p, I q]), (11, .box [.fn (.f 48) [.ref 9 0, .ref 10 0]]), (12, .fn (.f 49) [.ref 11 0, .ref 8 0, .ref 10 0]), (13, .box [I A, I Bh]), (22, I k)], tk := [] }
/-- A round at a diameter that is not right. -/
theorem step9 {lo hi tl th p q A Bh : Int} (nut : Bool) (hc : coatOk lo hi tl th p q) (hA : -30000000 ≤ A ∧ A ≤ 30000000) (hB : -30000000 ≤ Bh ∧ Bh ≤ 30000000) (k : Int) (hk : k = -1 ∨ k = 1)
    (hn : ¬ ((lo * q ≤ grown (if k > 0 then Bh + 1 else A - 1) nut tl p q ∧ grown (if k > 0 then Bh + 1 else A - 1) nut tl p q ≤ hi * q) ∧ (lo * q ≤ grown (if k > 0 then Bh + 1 else A - 1) nut th p q ∧ grown (if k > 0 then Bh + 1 else A - 1) nut th p q ≤ hi * q))) (M : Nat) :
    evC (run Ft Ct) M b9_0 (s9 lo hi tl th p q A Bh k nut) = some (.normal, s9 lo hi tl th p q A Bh (k + 2) nut) := by
  have hc' := hc
  obtain ⟨c1, c2, c3, c4⟩ := hc'
  have w1 : IntKind.i64.wrap (A - 1) = A - 1 := wr (by omega) (by omega)
  have w2 : IntKind.i64.wrap (Bh + 1) = Bh + 1 := wr (by omega) (by omega)
  have v1 : IntKind.i64.wrap 1 = 1 := wr (by omega) (by omega)
  have v2 : IntKind.i64.wrap 3 = 3 := wr (by omega) (by omega)
  rcases hk with rfl | rfl
  · have h1 := run49 (A - 1) nut tl lo hi tl th p q (by omega) (by omega) hc
    have h2 := run49 (A - 1) nut th lo hi tl th p q (by omega) (by omega) hc
    simp only [show ¬ ((-1 : Int) > 0) by omega, if_false] at hn
    by_cases x : lo * q ≤ grown (A - 1) nut tl p q ∧ grown (A - 1) nut tl p q ≤ hi * q
    · rw [decide_eq_true x] at h1
      rw [decide_eq_false (fun y => hn ⟨x, y⟩)] at h2
      simp [b9_0, s9, evBody, params, deadL, evC, prep, prepF, prepT, V.prep, prepL, stepL, stepI, wanted, opds, opd, get, put, putO, sem, callE, loadV, partV, valO, binV, binI, binS, unV, nilCmp, apply, keepL, memN, bxOf, tkOf, bxF, frzL, V.frz, frzEL, V.frzE, V.pureR, pureRL, V.tks, tksL, V.al, alL, V.rn, rnL, addT, protT, protAll, distinctN, fill, splice, fillE, V.cells, V.cellOk, V.pm, eqSh, intsOf, maxL, minL, bounds, ranged, finish, result, rvs, finL, V.fin, one, goesOn, w1, h1, h2, v1]
    · rw [decide_eq_false x] at h1
      simp [b9_0, s9, evBody, params, deadL, evC, prep, prepF, prepT, V.prep, prepL, stepL, stepI, wanted, opds, opd, get, put, putO, sem, callE, loadV, partV, valO, binV, binI, binS, unV, nilCmp, apply, keepL, memN, bxOf, tkOf, bxF, frzL, V.frz, frzEL, V.frzE, V.pureR, pureRL, V.tks, tksL, V.al, alL, V.rn, rnL, addT, protT, protAll, distinctN, fill, splice, fillE, V.cells, V.cellOk, V.pm, eqSh, intsOf, maxL, minL, bounds, ranged, finish, result, rvs, finL, V.fin, one, goesOn, w1, h1, v1]
  · have h1 := run49 (Bh + 1) nut tl lo hi tl th p q (by omega) (by omega) hc
    have h2 := run49 (Bh + 1) nut th lo hi tl th p q (by omega) (by omega) hc
    simp only [show ((1 : Int) > 0) by omega, if_true] at hn
    by_cases x : lo * q ≤ grown (Bh + 1) nut tl p q ∧ grown (Bh + 1) nut tl p q ≤ hi * q
    · rw [decide_eq_true x] at h1
      rw [decide_eq_false (fun y => hn ⟨x, y⟩)] at h2
      simp [b9_0, s9, evBody, params, deadL, evC, prep, prepF, prepT, V.prep, prepL, stepL, stepI, wanted, opds, opd, get, put, putO, sem, callE, loadV, partV, valO, binV, binI, binS, unV, nilCmp, apply, keepL, memN, bxOf, tkOf, bxF, frzL, V.frz, frzEL, V.frzE, V.pureR, pureRL, V.tks, tksL, V.al, alL, V.rn, rnL, addT, protT, protAll, distinctN, fill, splice, fillE, V.cells, V.cellOk, V.pm, eqSh, intsOf, maxL, minL, bounds, ranged, finish, result, rvs, finL, V.fin, one, goesOn, w1, w2, h1, h2, v2]
    · rw [decide_eq_false x] at h1
      simp [b9_0, s9, evBody, params, deadL, evC, prep, prepF, prepT, V.prep, prepL, stepL, stepI, wanted, opds, opd, get, put, putO, sem, callE, loadV, partV, valO, binV, binI, binS, unV, nilCmp, apply, keepL, memN, bxOf, tkOf, bxF, frzL, V.frz, frzEL, V.frzE, V.pureR, pureRL, V.tks, tksL, V.al, alL, V.rn, rnL, addT, protT, protAll, distinctN, fill, splice, fillE, V.cells, V.cellOk, V.pm, eqSh, intsOf, maxL, minL, bounds, ranged, finish, result, rvs, finL, V.fin, one, goesOn, w1, w2, h1, v2]
theorem end9 (lo hi tl th p q A Bh : Int) (nut : Bool) (M : Nat) : evC (run Ft Ct) M b9_0 (s9 lo hi tl th p q A Bh 3 nut) = some (.exit 0, { s9 lo hi tl th p q A Bh 3 nut with fr := (s9 lo hi tl th p q A Bh 3 nut).fr ++ [(195, B false)] }) := by
  simp [b9_0, s9, evBody, params, deadL, evC, prep, prepF, prepT, V.prep, prepL, stepL, stepI, wanted, opds, opd, get, put, putO, sem, callE, loadV, partV, valO, binV, binI, binS, unV, nilCmp, apply, keepL, memN, bxOf, tkOf, bxF, frzL, V.frz, frzEL, V.frzE, V.pureR, pureRL, V.tks, tksL, V.al, alL, V.rn, rnL, addT, protT, protAll, distinctN, fill, splice, fillE, V.cells, V.cellOk, V.pm, eqSh, intsOf, maxL, minL, bounds, ranged, finish, result, rvs, finL, V.fin, one, goesOn]
end Go.Lo
