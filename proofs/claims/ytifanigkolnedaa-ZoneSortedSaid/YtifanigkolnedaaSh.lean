/- The law 'right after plating' answers true. -/
import Derived.Test.YtifanigkolnedaaSg
namespace Go.Lo
open Go.Proofs
set_option linter.unusedSimpArgs false
theorem loop9 {lo hi tl th p q A Bh : Int} (nut : Bool) (hc : coatOk lo hi tl th p q) (hA : A = lo - lst nut tl th p / q) (hB : Bh = hi + -mst nut tl th p / q) (M : Nat) :
    iter (evC (run Ft Ct) M b9_0) 3 (s9 lo hi tl th p q A Bh (-1) nut) = some (.exit 0, { s9 lo hi tl th p q A Bh 3 nut with fr := (s9 lo hi tl th p q A Bh 3 nut).fr ++ [(195, B false)] }) := by
  have hc' := hc
  obtain ⟨c1, c2, c3, c4⟩ := hc'
  have b := lst_bd (nut := nut) hc
  have t1 := ediv_bd (n := lst nut tl th p) (b := q) (m := 10000000) (by omega) (by omega) (by omega) (by omega)
  have t2 := ediv_bd (n := -mst nut tl th p) (b := q) (m := 10000000) (by omega) (by omega) (by omega) (by omega)
  have r1 := step9 nut hc (A := A) (Bh := Bh) (by omega) (by omega) (-1) (.inl rfl) (by
    simp only [show ¬ ((-1 : Int) > 0) by omega, if_false]
    rw [right_iff hc, right_span hc]
    omega) M
  have r2 := step9 nut hc (A := A) (Bh := Bh) (by omega) (by omega) 1 (.inr rfl) (by
    simp only [show ((1 : Int) > 0) by omega, if_true]
    rw [right_iff hc, right_span hc]
    omega) M
  have r3 := end9 lo hi tl th p q A Bh nut M
  simp only [iter]
  rw [r1]
  simp only
  rw [show (-1 + 2 : Int) = 1 from rfl, r2]
  simp only
  rw [show (1 + 2 : Int) = 3 from rfl, r3]
set_option maxHeartbeats 8000000 in
theorem run9 (a0 a1 t0 t1 v0 v1 v2 v3 : Int) (ha0 : 0 ≤ a0 ∧ a0 < 65536) (ha1 : 0 ≤ a1 ∧ a1 < 65536) (ht0 : 0 ≤ t0 ∧ t0 < 256) (ht1 : 0 ≤ t1 ∧ t1 < 256) (hv1 : 0 ≤ v1 ∧ v1 < 256) (hv2 : 0 ≤ v2 ∧ v2 < 256) (hv3 : 0 ≤ v3 ∧ v3 < 256) :
    run Ft Ct 9 [.agg [.int .u16 a0, .int .u16 a1], .agg [.int .u8 t0, .int .u8 t1], .agg [.int .u8 v0, .int .u8 v1, .int .u8 v2, .int .u8 v3]] = some (B true) := by
  have hkn := run13
  obtain ⟨r1, m1, b1⟩ : ∃ r, a1.tmod 600 = r ∧ 0 ≤ r ∧ r < 600 := ⟨_, rfl, tmod_nn ha1.1 (by omega)⟩
  obtain ⟨r2, m2, b2⟩ : ∃ r, t1.tmod 40 = r ∧ 0 ≤ r ∧ r < 40 := ⟨_, rfl, tmod_nn ht1.1 (by omega)⟩
  obtain ⟨r3, m3, b3⟩ : ∃ r, v1.tmod 40 = r ∧ 0 ≤ r ∧ r < 40 := ⟨_, rfl, tmod_nn hv1.1 (by omega)⟩
  obtain ⟨r4, m4, b4⟩ : ∃ r, v2.tmod 9 = r ∧ 0 ≤ r ∧ r < 9 := ⟨_, rfl, tmod_nn hv2.1 (by omega)⟩
  obtain ⟨nut, hn⟩ : ∃ nut, decide (v0.tmod 2 = 1) = nut := ⟨_, rfl⟩
  obtain ⟨lo, hlo⟩ : ∃ lo, a0 - 30000 = lo := ⟨_, rfl⟩
  obtain ⟨hi, hhi⟩ : ∃ hi, lo + r1 = hi := ⟨_, rfl⟩
  obtain ⟨th, hth⟩ : ∃ th, t0 + r2 = th := ⟨_, rfl⟩
  obtain ⟨p, hp⟩ : ∃ p, 1 + r3 = p := ⟨_, rfl⟩
  obtain ⟨q, hq⟩ : ∃ q, 1 + r4 = q := ⟨_, rfl⟩
  have x0 : IntKind.i64.wrap a0 = a0 := wr (by omega) (by omega)
  have x1 : IntKind.i64.wrap (a0 - 30000) = lo := by rw [hlo]; exact wr (by omega) (by omega)
  have x2 : IntKind.i64.wrap a1 = a1 := wr (by omega) (by omega)
  have x3 : IntKind.i64.wrap (lo + r1) = hi := by rw [hhi]; exact wr (by omega) (by omega)
  have x4 : IntKind.i64.wrap t0 = t0 := wr (by omega) (by omega)
  have x5 : IntKind.i64.wrap t1 = t1 := wr (by omega) (by omega)
  have x6 : IntKind.i64.wrap (t0 + r2) = th := by rw [hth]; exact wr (by omega) (by omega)
  have x7 : IntKind.i64.wrap v1 = v1 := wr (by omega) (by omega)
  have x8 : IntKind.i64.wrap (1 + r3) = p := by rw [hp]; exact wr (by omega) (by omega)
  have x9 : IntKind.i64.wrap v2 = v2 := wr (by omega) (by omega)
  have xa : IntKind.i64.wrap (1 + r4) = q := by rw [hq]; exact wr (by omega) (by omega)
  have xb : IntKind.i64.wrap v3 = v3 := wr (by omega) (by omega)
  have xc : IntKind.i64.wrap (lo - 2000) = lo - 2000 := wr (by omega) (by omega)
  have xd : IntKind.i64.wrap (hi + 2000) = hi + 2000 := wr (by omega) (by omega)
  have hc : coatOk lo hi t0 th p q := by unfold coatOk; omega
  have f1 := run26 lo hi
  have f2 := run26 t0 th
  have f3 := run26 (lo - 2000) (hi + 2000)
  have h21 := run21 lo hi t0 th p q nut
  have h22 := run22 lo hi t0 th p q nut
  rw [if_pos hc] at h21 h22
  obtain ⟨t, g1, g1a, g1b⟩ := run47 t0 th v3 (by omega) (by omega) (by omega) (by omega)
  obtain ⟨d1, g2, g2a, g2b⟩ := run47 lo hi v2 (by omega) (by omega) (by omega) (by omega)
  obtain ⟨d2, g3, g3a, g3b⟩ := run47 (lo - 2000) (hi + 2000) a0 (by omega) (by omega) (by omega) (by omega)
  have k1 := run48 d1 nut t t0 th p q (by omega) (by omega) (by omega) (by omega)
  have k2 := run49 d2 nut t0 lo hi t0 th p q (by omega) (by omega) hc
  have k3 := run49 d2 nut th lo hi t0 th p q (by omega) (by omega) hc
  have gb := grown_bd (d := d1) (nut := nut) (t := t) hc ⟨g1a, g1b⟩
  have hb := lst_bd (nut := nut) hc
  have u1 := ediv_bd (n := lst nut t0 th p) (b := q) (m := 10000000) (by omega) (by omega) (by omega) (by omega)
  have u2 := ediv_bd (n := -mst nut t0 th p) (b := q) (m := 10000000) (by omega) (by omega) (by omega) (by omega)
  have e1 := Int.mul_ediv_add_emod (lst nut t0 th p) q
  have e2 := Int.emod_nonneg (lst nut t0 th p) (show q ≠ 0 by omega)
  have e3 := Int.emod_lt_of_pos (lst nut t0 th p) (show 0 < q by omega)
  have e4 := Int.mul_ediv_add_emod (-mst nut t0 th p) q
  have e5 := Int.emod_nonneg (-mst nut t0 th p) (show q ≠ 0 by omega)
  have e6 := Int.emod_lt_of_pos (-mst nut t0 th p) (show 0 < q by omega)
  have e7 : (lo + lst nut t0 th p / q) * q = lo * q + q * (lst nut t0 th p / q) := by rw [Int.add_mul, Int.mul_comm (lst nut t0 th p / q)]
  have e8 : (hi + -(-mst nut t0 th p / q)) * q = hi * q - q * (-mst nut t0 th p / q) := by rw [Int.add_mul, Int.neg_mul, Int.mul_comm (-mst nut t0 th p / q)]; omega
  have m5 : lo * q ≤ d1 * q := Int.mul_le_mul_of_nonneg_right g2a (by omega)
  have m6 : d1 * q ≤ hi * q := Int.mul_le_mul_of_nonneg_right g2b (by omega)
  have m7 := abs_mul_bd (a := lo) (b := q) (m := 100000) (k := 10) (by omega) (by omega) (by omega) (by omega) (by omega)
  have m8 := abs_mul_bd (a := hi) (b := q) (m := 100000) (k := 10) (by omega) (by omega) (by omega) (by omega) (by omega)
  have y1 : IntKind.i64.wrap ((lo + lst nut t0 th p / q) * q) = (lo + lst nut t0 th p / q) * q := wr (by omega) (by omega)
  have y2 : IntKind.i64.wrap ((hi + -(-mst nut t0 th p / q)) * q) = (hi + -(-mst nut t0 th p / q)) * q := wr (by omega) (by omega)
  have z1 : ¬ (grown d1 nut t p q < (lo + lst nut t0 th p / q) * q) := by omega
  have z2 : ¬ ((hi + -(-mst nut t0 th p / q)) * q < grown d1 nut t p q) := by omega
  refine run_of_body (N := 3) rfl rfl ?_
  by_cases hg : lo - lst nut t0 th p / q > hi + -mst nut t0 th p / q
  · rw [if_pos hg] at h21
    have hr := mt (right_iff (d := d2) (nut := nut) hc).1 (by rw [right_span hc]; omega)
    by_cases x : lo * q ≤ grown d2 nut t0 p q ∧ grown d2 nut t0 p q ≤ hi * q
    · rw [decide_eq_true x] at k2
      rw [decide_eq_false (fun y => hr ⟨x, y⟩)] at k3
      simp [l9, evBody, params, deadL, evC, prep, prepF, prepT, V.prep, prepL, stepL, stepI, wanted, opds, opd, get, put, putO, sem, callE, loadV, partV, valO, binV, binI, binS, unV, nilCmp, apply, keepL, memN, bxOf, tkOf, bxF, frzL, V.frz, frzEL, V.frzE, V.pureR, pureRL, V.tks, tksL, V.al, alL, V.rn, rnL, addT, protT, protAll, distinctN, fill, splice, fillE, V.cells, V.cellOk, V.pm, eqSh, intsOf, maxL, minL, bounds, ranged, finish, result, rvs, finL, V.fin, one, goesOn, m1, m2, m3, m4, hn, x0, x1, x2, x3, x4, x5, x6, x7, x8, x9, xa, xb, xc, xd, f1, f2, f3, h21, h22, g1, g2, g3, k1, k2, k3, y1, y2, z1, z2, hkn]
    · rw [decide_eq_false x] at k2
      simp [l9, evBody, params, deadL, evC, prep, prepF, prepT, V.prep, prepL, stepL, stepI, wanted, opds, opd, get, put, putO, sem, callE, loadV, partV, valO, binV, binI, binS, unV, nilCmp, apply, keepL, memN, bxOf, tkOf, bxF, frzL, V.frz, frzEL, V.frzE, V.pureR, pureRL, V.tks, tksL, V.al, alL, V.rn, rnL, addT, protT, protAll, distinctN, fill, splice, fillE, V.cells, V.cellOk, V.pm, eqSh, intsOf, maxL, minL, bounds, ranged, finish, result, rvs, finL, V.fin, one, goesOn, m1, m2, m3, m4, hn, x0, x1, x2, x3, x4, x5, x6, x7, x8, x9, xa, xb, xc, xd, f1, f2, f3, h21, h22, g1, g2, g3, k1, k2, y1, y2, z1, z2, hkn]
  · rw [if_neg hg] at h21
    have L9 := loop9 nut hc rfl rfl 3
    have hc2 : coatOk (lo - lst nut t0 th p / q) (hi + -mst nut t0 th p / q) t0 th p q := by unfold coatOk; omega
    have h22b := run22 (lo - lst nut t0 th p / q) (hi + -mst nut t0 th p / q) t0 th p q nut
    rw [if_pos hc2] at h22b
    obtain ⟨d3, g4, g4a, g4b⟩ := run47 (lo - lst nut t0 th p / q) (hi + -mst nut t0 th p / q) a1 (by omega) (by omega) (by omega) (by omega)
    have k4 := run49 d3 nut t lo hi t0 th p q (by omega) (by omega) hc
    have gb3 := grown_bd (d := d3) (nut := nut) (t := t) hc ⟨g1a, g1b⟩
    have hr3 := (right_span (d := d3) (nut := nut) hc).2 ⟨g4a, g4b⟩
    rw [decide_eq_true (by omega)] at k4
    have q1 : ¬ (lo - lst nut t0 th p / q + lst nut t0 th p / q < lo) := by omega
    have q2 : ¬ (hi < hi + -mst nut t0 th p / q + -(-mst nut t0 th p / q)) := by omega
    generalize lo - lst nut t0 th p / q = A at *
    generalize hi + -mst nut t0 th p / q = Bh at *
    generalize hF : evC (run Ft Ct) 3 b9_0 = F at L9
    simp [s9] at L9
    simp [l9, evBody, params, deadL, evC, prep, prepF, prepT, V.prep, prepL, stepL, stepI, wanted, opds, opd, get, put, putO, sem, callE, loadV, partV, valO, binV, binI, binS, unV, nilCmp, apply, keepL, memN, bxOf, tkOf, bxF, frzL, V.frz, frzEL, V.frzE, V.pureR, pureRL, V.tks, tksL, V.al, alL, V.rn, rnL, addT, protT, protAll, distinctN, fill, splice, fillE, V.cells, V.cellOk, V.pm, eqSh, intsOf, maxL, minL, bounds, ranged, finish, result, rvs, finL, V.fin, one, goesOn, m1, m2, m3, m4, hn, x0, x1, x2, x3, x4, x5, x6, x7, x8, x9, xa, xb, f1, f2, h21, h22, h22b, g1, g2, g4, k1, k4, y1, y2, z1, z2, q1, q2, hF, L9, hkn]
end Go.Lo
