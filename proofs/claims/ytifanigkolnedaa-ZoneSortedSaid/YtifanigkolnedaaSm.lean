/- The law 'groups that are sorted': its own functions. -/
import Derived.Test.YtifanigkolnedaaSk
namespace Go.Lo
open Go.Proofs
set_option linter.unusedSimpArgs false
theorem run50 (lo hi i n : Int) (h1 : 0 ≤ lo) (h2 : lo ≤ hi) (h3 : hi ≤ 20000000) (hi0 : 0 ≤ i) (hi1 : i ≤ 50) (hn : 0 < n) : run Ft Ct 50 [.agg [I lo, I hi], I i, I n] = some (.agg [I (gl lo hi i n), I (gh lo hi i n)]) := by
  have b := g_bd h1 h2 h3 hi0 hi1 hn
  unfold gl gh at *
  have w1 : IntKind.i64.wrap (hi - lo) = hi - lo := wr (by omega) (by omega)
  have w2 : IntKind.i64.wrap (hi - lo + 1) = hi - lo + 1 := wr (by omega) (by omega)
  have w0 : IntKind.i64.wrap (i + 1) = i + 1 := wr (by omega) (by omega)
  generalize hw : hi - lo + 1 = w at *
  have w3 : IntKind.i64.wrap (i * w) = i * w := wr (by omega) (by omega)
  have w4 : IntKind.i64.wrap ((i + 1) * w) = (i + 1) * w := wr (by omega) (by omega)
  have w5 : IntKind.i64.wrap ((i * w).tdiv n) = (i * w).tdiv n := wr (by omega) (by omega)
  have w6 : IntKind.i64.wrap (((i + 1) * w).tdiv n) = ((i + 1) * w).tdiv n := wr (by omega) (by omega)
  have w7 : IntKind.i64.wrap (lo + (i * w).tdiv n) = lo + (i * w).tdiv n := wr (by omega) (by omega)
  have w8 : IntKind.i64.wrap (lo + ((i + 1) * w).tdiv n) = lo + ((i + 1) * w).tdiv n := wr (by omega) (by omega)
  have w9 : IntKind.i64.wrap (lo + ((i + 1) * w).tdiv n - 1) = lo + ((i + 1) * w).tdiv n - 1 := wr (by omega) (by omega)
  have hn0 : ¬ (n = 0) := by omega
  have hs := run26 (lo + (i * w).tdiv n) (lo + ((i + 1) * w).tdiv n - 1)
  refine run_of_body (N := 1) rfl rfl ?_
  simp [l50, evBody, params, deadL, evC, prep, prepF, prepT, V.prep, prepL, stepL, stepI, wanted, opds, opd, get, put, putO, sem, callE, loadV, partV, valO, binV, binI, binS, unV, nilCmp, apply, keepL, memN, bxOf, tkOf, bxF, frzL, V.frz, frzEL, V.frzE, V.pureR, pureRL, V.tks, tksL, V.al, alL, V.rn, rnL, addT, protT, protAll, distinctN, fill, splice, fillE, V.cells, V.cellOk, V.pm, eqSh, intsOf, maxL, minL, bounds, ranged, finish, result, rvs, finL, V.fin, one, goesOn, w1, hw, w2, w0, w3, w4, w5, w6, w7, w8, w9, hn0, hs]
theorem run46 (d lo hi : Int) : run Ft Ct 46 [I d, .agg [I lo, I hi]] = some (B (decide (lo ≤ d ∧ d ≤ hi))) := by
  refine run_of_body (N := 1) rfl rfl ?_
  by_cases h : lo ≤ d <;> simp [l46, evBody, params, deadL, evC, prep, prepF, prepT, V.prep, prepL, stepL, stepI, wanted, opds, opd, get, put, putO, sem, callE, loadV, partV, valO, binV, binI, binS, unV, nilCmp, apply, keepL, memN, bxOf, tkOf, bxF, frzL, V.frz, frzEL, V.frzE, V.pureR, pureRL, V.tks, tksL, V.al, alL, V.rn, rnL, addT, protT, protAll, distinctN, fill, splice, fillE, V.cells, V.cellOk, V.pm, eqSh, intsOf, maxL, minL, bounds, ranged, finish, result, rvs, finL, V.fin, one, goesOn, h]
def s51 (sl sh nl nh wl wh : Int) (n i : Nat) : St := { fr := [(0, I n), (1, .cref [.fn (.f 50) []]), (2, .cref [I sl, I sh]), (3, .cref [I nl, I nh]), (4, .cref [I wl, I wh]), (7, I i)], tk := [] }
theorem step51 {sl sh nl nh : Int} (wl wh : Int) (hs : spanOk sl sh) (hn : spanOk nl nh) {n i : Nat} (hi : i < n) (hn50 : n ≤ 50) (M : Nat) :
    evC (run Ft Ct) M b51_0 (s51 sl sh nl nh wl wh n i) = some (if (!gok sl sh nl nh wl wh n i) = true then (.ret, { fr := [(6, B false)], tk := [] }) else (.normal, s51 sl sh nl nh wl wh n (i + 1))) := by
  obtain ⟨a1, a2, a3⟩ := hs
  obtain ⟨b1, b2, b3⟩ := hn
  have e1 := run50 sl sh i n a1 a2 a3 (by omega) (by omega) (by omega)
  have e2 := run50 nl nh i n b1 b2 b3 (by omega) (by omega) (by omega)
  have g1 := g_bd (i := (i : Int)) (n := (n : Int)) a1 a2 a3 (by omega) (by omega) (by omega)
  have g2 := g_bd (i := (i : Int)) (n := (n : Int)) b1 b2 b3 (by omega) (by omega) (by omega)
  have hlt : (i : Int) < n := by omega
  have hw : IntKind.i64.wrap ((i : Int) + 1) = ((i + 1 : Nat) : Int) := wrap_succ hi (by omega)
  unfold gok s51
  generalize ((i + 1 : Nat) : Int) = m at *
  generalize gl sl sh i n = x1 at *
  generalize gh sl sh i n = x2 at *
  generalize gl nl nh i n = x3 at *
  generalize gh nl nh i n = x4 at *
  have w1 : IntKind.i64.wrap (x3 - x2) = x3 - x2 := wr (by omega) (by omega)
  have w2 : IntKind.i64.wrap (x4 - x1) = x4 - x1 := wr (by omega) (by omega)
  by_cases c1 : x1 ≤ x2
  · have c1' : ¬ x2 < x1 := by omega
    by_cases c2 : x3 ≤ x4
    · have c2' : ¬ x4 < x3 := by omega
      by_cases c3 : wl ≤ x3 - x2
      · have c3' : ¬ x3 - x2 < wl := by omega
        by_cases c4 : x4 - x1 ≤ wh
        · have c4' : ¬ wh < x4 - x1 := by omega
          simp [b51_0, evBody, params, deadL, evC, prep, prepF, prepT, V.prep, prepL, stepL, stepI, wanted, opds, opd, get, put, putO, sem, callE, loadV, partV, valO, binV, binI, binS, unV, nilCmp, apply, keepL, memN, bxOf, tkOf, bxF, frzL, V.frz, frzEL, V.frzE, V.pureR, pureRL, V.tks, tksL, V.al, alL, V.rn, rnL, addT, protT, protAll, distinctN, fill, splice, fillE, V.cells, V.cellOk, V.pm, eqSh, intsOf, maxL, minL, bounds, ranged, finish, result, rvs, finL, V.fin, one, goesOn, hlt, e1, e2, c1, c1', c2, c2', c3, c3', c4, c4', hw, w1, w2]
        · have c4' : wh < x4 - x1 := by omega
          simp [b51_0, evBody, params, deadL, evC, prep, prepF, prepT, V.prep, prepL, stepL, stepI, wanted, opds, opd, get, put, putO, sem, callE, loadV, partV, valO, binV, binI, binS, unV, nilCmp, apply, keepL, memN, bxOf, tkOf, bxF, frzL, V.frz, frzEL, V.frzE, V.pureR, pureRL, V.tks, tksL, V.al, alL, V.rn, rnL, addT, protT, protAll, distinctN, fill, splice, fillE, V.cells, V.cellOk, V.pm, eqSh, intsOf, maxL, minL, bounds, ranged, finish, result, rvs, finL, V.fin, one, goesOn, hlt, e1, e2, c1, c1', c2, c2', c3, c3', c4, c4', hw, w1, w2]
      · have c3' : x3 - x2 < wl := by omega
        simp [b51_0, evBody, params, deadL, evC, prep, prepF, prepT, V.prep, prepL, stepL, stepI, wanted, opds, opd, get, put, putO, sem, callE, loadV, partV, valO, binV, binI, binS, unV, nilCmp, apply, keepL, memN, bxOf, tkOf, bxF, frzL, V.frz, frzEL, V.frzE, V.pureR, pureRL, V.tks, tksL, V.al, alL, V.rn, rnL, addT, protT, protAll, distinctN, fill, splice, fillE, V.cells, V.cellOk, V.pm, eqSh, intsOf, maxL, minL, bounds, ranged, finish, result, rvs, finL, V.fin, one, goesOn, hlt, e1, e2, c1, c1', c2, c2', c3, c3', hw, w1, w2]
    · have c2' : x4 < x3 := by omega
      simp [b51_0, evBody, params, deadL, evC, prep, prepF, prepT, V.prep, prepL, stepL, stepI, wanted, opds, opd, get, put, putO, sem, callE, loadV, partV, valO, binV, binI, binS, unV, nilCmp, apply, keepL, memN, bxOf, tkOf, bxF, frzL, V.frz, frzEL, V.frzE, V.pureR, pureRL, V.tks, tksL, V.al, alL, V.rn, rnL, addT, protT, protAll, distinctN, fill, splice, fillE, V.cells, V.cellOk, V.pm, eqSh, intsOf, maxL, minL, bounds, ranged, finish, result, rvs, finL, V.fin, one, goesOn, hlt, e1, e2, c1, c1', c2, c2']
  · have c1' : x2 < x1 := by omega
    simp [b51_0, evBody, params, deadL, evC, prep, prepF, prepT, V.prep, prepL, stepL, stepI, wanted, opds, opd, get, put, putO, sem, callE, loadV, partV, valO, binV, binI, binS, unV, nilCmp, apply, keepL, memN, bxOf, tkOf, bxF, frzL, V.frz, frzEL, V.frzE, V.pureR, pureRL, V.tks, tksL, V.al, alL, V.rn, rnL, addT, protT, protAll, distinctN, fill, splice, fillE, V.cells, V.cellOk, V.pm, eqSh, intsOf, maxL, minL, bounds, ranged, finish, result, rvs, finL, V.fin, one, goesOn, hlt, e1, e2, c1, c1']
theorem run51 {sl sh nl nh : Int} (wl wh : Int) (hs : spanOk sl sh) (hn : spanOk nl nh) {n : Nat} (hn50 : n ≤ 50) : run Ft Ct 51 [I n, .cref [.fn (.f 50) []], .cref [I sl, I sh], .cref [I nl, I nh], .cref [I wl, I wh]] = some (B (gall sl sh nl nh wl wh n)) := by
  have L := loop_find (s := s51 sl sh nl nh wl wh n) (f := evC (run Ft Ct) 51 b51_0) (n := n) (E := fun _ => (.ret, { fr := [(6, B false)], tk := [] })) (X := (.exit 0, { fr := [(0, I n), (1, .cref [.fn (.f 50) []]), (2, .cref [I sl, I sh]), (3, .cref [I nl, I nh]), (4, .cref [I wl, I wh]), (7, I n), (12, B false)], tk := [] }))
    (fun i hi => step51 wl wh hs hn hi hn50 51) (fun _ => by simp) (by simp [b51_0, s51, evBody, params, deadL, evC, prep, prepF, prepT, V.prep, prepL, stepL, stepI, wanted, opds, opd, get, put, putO, sem, callE, loadV, partV, valO, binV, binI, binS, unV, nilCmp, apply, keepL, memN, bxOf, tkOf, bxF, frzL, V.frz, frzEL, V.frzE, V.pureR, pureRL, V.tks, tksL, V.al, alL, V.rn, rnL, addT, protT, protAll, distinctN, fill, splice, fillE, V.cells, V.cellOk, V.pm, eqSh, intsOf, maxL, minL, bounds, ranged, finish, result, rvs, finL, V.fin, one, goesOn]) (by simp) n 0 (by omega)
  have L := iter_le (f := evC (run Ft Ct) 51 b51_0) (fun _ _ h => h) (show n + 1 ≤ 51 by omega) L
  refine run_of_body (N := 51) rfl rfl ?_
  generalize hF : evC (run Ft Ct) 51 b51_0 = F at L
  rw [← List.range_eq_range'] at L
  unfold gall
  cases hf : (List.range n).find? (fun i => !gok sl sh nl nh wl wh n i) with
  | none =>
    have : (List.range n).all (gok sl sh nl nh wl wh n) = true := by
      rw [List.all_eq_true]
      intro i hi
      have := List.find?_eq_none.1 hf i hi
      simpa using this
    rw [this]
    rw [hf] at L
    simp [s51] at L
    simp [l51, evBody, params, deadL, evC, prep, prepF, prepT, V.prep, prepL, stepL, stepI, wanted, opds, opd, get, put, putO, sem, callE, loadV, partV, valO, binV, binI, binS, unV, nilCmp, apply, keepL, memN, bxOf, tkOf, bxF, frzL, V.frz, frzEL, V.frzE, V.pureR, pureRL, V.tks, tksL, V.al, alL, V.rn, rnL, addT, protT, protAll, distinctN, fill, splice, fillE, V.cells, V.cellOk, V.pm, eqSh, intsOf, maxL, minL, bounds, ranged, finish, result, rvs, finL, V.fin, one, goesOn, hF, L]
  | some j =>
    have : (List.range n).all (gok sl sh nl nh wl wh n) = false := by
      have h1 := List.find?_some hf
      have h2 := List.mem_of_find?_eq_some hf
      rw [Bool.eq_false_iff]
      intro h
      have := List.all_eq_true.1 h j h2
      rw [this] at h1
      simp at h1
    rw [this]
    rw [hf] at L
    simp [s51] at L
    simp [l51, evBody, params, deadL, evC, prep, prepF, prepT, V.prep, prepL, stepL, stepI, wanted, opds, opd, get, put, putO, sem, callE, loadV, partV, valO, binV, binI, binS, unV, nilCmp, apply, keepL, memN, bxOf, tkOf, bxF, frzL, V.frz, frzEL, V.frzE, V.pureR, pureRL, V.tks, tksL, V.al, alL, V.rn, rnL, addT, protT, protAll, distinctN, fill, splice, fillE, V.cells, V.cellOk, V.pm, eqSh, intsOf, maxL, minL, bounds, ranged, finish, result, rvs, finL, V.fin, one, goesOn, hF, L]
end Go.Lo
