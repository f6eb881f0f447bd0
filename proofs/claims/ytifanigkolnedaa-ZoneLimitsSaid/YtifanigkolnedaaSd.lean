/- The law of plating. -/
import Derived.Test.YtifanigkolnedaaSc
import Derived.Test.YtifanigkolnedaaKn
namespace Go.Lo
open Go.Proofs
set_option linter.unusedSimpArgs false
def s29 (d : Int) (nut : Bool) (lo hi tl th p q k : Int) : St := { fr := [(0, I d), (2, B nut), (5, .box [I lo, I hi]), (7, .box [I tl, I th, I p, I q]), (9, I k)], tk := [] }
theorem step29 (d : Int) (nut : Bool) {lo hi tl th p q : Int} (k : Nat) (hk : k < 2) (hd : -100000000 ≤ d ∧ d ≤ 100000000) (hc : coatOk lo hi tl th p q) (M : Nat) :
    evC (run Ft Ct) M b29_0 (s29 d nut lo hi tl th p q k) = some (if lo * q ≤ grown d nut (if k = 0 then tl else th) p q ∧ grown d nut (if k = 0 then tl else th) p q ≤ hi * q then (.normal, s29 d nut lo hi tl th p q (k + 1)) else (.ret, { fr := [(8, B false)], tk := [] })) := by
  obtain ⟨c1, c2, c3, c4⟩ := hc
  have h0 := run25 d nut tl tl th p q hd (by omega) c3 c4
  have h1 := run25 d nut th tl th p q hd (by omega) c3 c4
  have b1 := abs_mul_bd (a := lo) (b := q) (m := 20000000) (k := 1000) (by omega) (by omega) (by omega) (by omega) (by omega)
  have b2 := abs_mul_bd (a := hi) (b := q) (m := 20000000) (k := 1000) (by omega) (by omega) (by omega) (by omega) (by omega)
  have w1 : IntKind.i64.wrap (lo * q) = lo * q := wr (by omega) (by omega)
  have w2 : IntKind.i64.wrap (hi * q) = hi * q := wr (by omega) (by omega)
  have v1 : IntKind.i64.wrap 1 = 1 := wr (by omega) (by omega)
  have v2 : IntKind.i64.wrap 2 = 2 := wr (by omega) (by omega)
  have hk' : k = 0 ∨ k = 1 := by omega
  rcases hk' with rfl | rfl
  · simp only [if_true]
    generalize grown d nut tl p q = g at *
    by_cases x1 : g < lo * q
    · have x1' : ¬ (lo * q ≤ g ∧ g ≤ hi * q) := by omega
      rw [if_neg x1']
      simp [b29_0, s29, evBody, params, deadL, evC, prep, prepF, prepT, V.prep, prepL, stepL, stepI, wanted, opds, opd, get, put, putO, sem, callE, loadV, partV, valO, binV, binI, binS, unV, nilCmp, apply, keepL, memN, bxOf, tkOf, bxF, frzL, V.frz, frzEL, V.frzE, V.pureR, pureRL, V.tks, tksL, V.al, alL, V.rn, rnL, addT, protT, protAll, distinctN, fill, splice, fillE, V.cells, V.cellOk, V.pm, eqSh, intsOf, maxL, minL, bounds, ranged, finish, result, rvs, finL, V.fin, one, goesOn, h0, w1, w2, x1]
    · by_cases x2 : hi * q < g
      · have x1' : ¬ (lo * q ≤ g ∧ g ≤ hi * q) := by omega
        rw [if_neg x1']
        simp [b29_0, s29, evBody, params, deadL, evC, prep, prepF, prepT, V.prep, prepL, stepL, stepI, wanted, opds, opd, get, put, putO, sem, callE, loadV, partV, valO, binV, binI, binS, unV, nilCmp, apply, keepL, memN, bxOf, tkOf, bxF, frzL, V.frz, frzEL, V.frzE, V.pureR, pureRL, V.tks, tksL, V.al, alL, V.rn, rnL, addT, protT, protAll, distinctN, fill, splice, fillE, V.cells, V.cellOk, V.pm, eqSh, intsOf, maxL, minL, bounds, ranged, finish, result, rvs, finL, V.fin, one, goesOn, h0, w1, w2, x1, x2]
      · have x1' : lo * q ≤ g ∧ g ≤ hi * q := by omega
        rw [if_pos x1']
        simp [b29_0, s29, evBody, params, deadL, evC, prep, prepF, prepT, V.prep, prepL, stepL, stepI, wanted, opds, opd, get, put, putO, sem, callE, loadV, partV, valO, binV, binI, binS, unV, nilCmp, apply, keepL, memN, bxOf, tkOf, bxF, frzL, V.frz, frzEL, V.frzE, V.pureR, pureRL, V.tks, tksL, V.al, alL, V.rn, rnL, addT, protT, protAll, distinctN, fill, splice, fillE, V.cells, V.cellOk, V.pm, eqSh, intsOf, maxL, minL, bounds, ranged, finish, result, rvs, finL, V.fin, one, goesOn, h0, w1, w2, x1, x2, v1]
  · simp only [Nat.one_ne_zero, if_false]
    generalize grown d nut th p q = g at *
    by_cases x1 : g < lo * q
    · have x1' : ¬ (lo * q ≤ g ∧ g ≤ hi * q) := by omega
      rw [if_neg x1']
      simp [b29_0, s29, evBody, params, deadL, evC, prep, prepF, prepT, V.prep, prepL, stepL, stepI, wanted, opds, opd, get, put, putO, sem, callE, loadV, partV, valO, binV, binI, binS, unV, nilCmp, apply, keepL, memN, bxOf, tkOf, bxF, frzL, V.frz, frzEL, V.frzE, V.pureR, pureRL, V.tks, tksL, V.al, alL, V.rn, rnL, addT, protT, protAll, distinctN, fill, splice, fillE, V.cells, V.cellOk, V.pm, eqSh, intsOf, maxL, minL, bounds, ranged, finish, result, rvs, finL, V.fin, one, goesOn, h1, w1, w2, x1]
    · by_cases x2 : hi * q < g
      · have x1' : ¬ (lo * q ≤ g ∧ g ≤ hi * q) := by omega
        rw [if_neg x1']
        simp [b29_0, s29, evBody, params, deadL, evC, prep, prepF, prepT, V.prep, prepL, stepL, stepI, wanted, opds, opd, get, put, putO, sem, callE, loadV, partV, valO, binV, binI, binS, unV, nilCmp, apply, keepL, memN, bxOf, tkOf, bxF, frzL, V.frz, frzEL, V.frzE, V.pureR, pureRL, V.tks, tksL, V.al, alL, V.rn, rnL, addT, protT, protAll, distinctN, fill, splice, fillE, V.cells, V.cellOk, V.pm, eqSh, intsOf, maxL, minL, bounds, ranged, finish, result, rvs, finL, V.fin, one, goesOn, h1, w1, w2, x1, x2]
      · have x1' : lo * q ≤ g ∧ g ≤ hi * q := by omega
        rw [if_pos x1']
        simp [b29_0, s29, evBody, params, deadL, evC, prep, prepF, prepT, V.prep, prepL, stepL, stepI, wanted, opds, opd, get, put, putO, sem, callE, loadV, partV, valO, binV, binI, binS, unV, nilCmp, apply, keepL, memN, bxOf, tkOf, bxF, frzL, V.frz, frzEL, V.frzE, V.pureR, pureRL, V.tks, tksL, V.al, alL, V.rn, rnL, addT, protT, protAll, distinctN, fill, splice, fillE, V.cells, V.cellOk, V.pm, eqSh, intsOf, maxL, minL, bounds, ranged, finish, result, rvs, finL, V.fin, one, goesOn, h1, w1, w2, x1, x2, v2]
theorem end29 (d : Int) (nut : Bool) (lo hi tl th p q : Int) (M : Nat) : evC (run Ft Ct) M b29_0 (s29 d nut lo hi tl th p q 2) = some (.exit 0, { fr := [(0, I d), (2, B nut), (5, .box [I lo, I hi]), (7, .box [I tl, I th, I p, I q]), (9, I 2), (12, B false)], tk := [] }) := by
  simp [b29_0, s29, evBody, params, deadL, evC, prep, prepF, prepT, V.prep, prepL, stepL, stepI, wanted, opds, opd, get, put, putO, sem, callE, loadV, partV, valO, binV, binI, binS, unV, nilCmp, apply, keepL, memN, bxOf, tkOf, bxF, frzL, V.frz, frzEL, V.frzE, V.pureR, pureRL, V.tks, tksL, V.al, alL, V.rn, rnL, addT, protT, protAll, distinctN, fill, splice, fillE, V.cells, V.cellOk, V.pm, eqSh, intsOf, maxL, minL, bounds, ranged, finish, result, rvs, finL, V.fin, one, goesOn]
theorem run29 (d : Int) (nut : Bool) {lo hi tl th p q : Int} (hd : -100000000 ≤ d ∧ d ≤ 100000000) (hc : coatOk lo hi tl th p q) :
    run Ft Ct 29 [I d, .agg [I lo, I hi], B nut, .agg [I tl, I th, I p, I q]] = some (B (decide (lo * q ≤ d * q + lst nut tl th p ∧ d * q + mst nut tl th p ≤ hi * q))) := by
  have e0 := step29 d nut 0 (by omega) hd hc 3
  have e1 := step29 d nut 1 (by omega) hd hc 3
  have e2 := end29 d nut lo hi tl th p q 3
  have hle := lst_bd (nut := nut) hc
  simp only [if_true, Nat.one_ne_zero, if_false] at e0 e1
  have key : (lo * q ≤ d * q + lst nut tl th p ∧ d * q + mst nut tl th p ≤ hi * q) ↔ ((lo * q ≤ grown d nut tl p q ∧ grown d nut tl p q ≤ hi * q) ∧ (lo * q ≤ grown d nut th p q ∧ grown d nut th p q ≤ hi * q)) := by
    cases nut <;> simp [lst, mst, grown] at * <;> omega
  refine run_of_body (N := 3) rfl rfl ?_
  generalize hF : evC (run Ft Ct) 3 b29_0 = F at *
  have fin : ∀ b : Bool, iter F 3 (s29 d nut lo hi tl th p q 0) = some (if b = true then (.exit 0, { fr := [(0, I d), (2, B nut), (5, .box [I lo, I hi]), (7, .box [I tl, I th, I p, I q]), (9, I 2), (12, B false)], tk := [] }) else (.ret, { fr := [(8, B false)], tk := [] })) → evBody (run Ft Ct) 3 l29 [I d, .agg [I lo, I hi], B nut, .agg [I tl, I th, I p, I q]] = some (B b) := by
    intro b hb
    simp only [s29] at hb
    cases b <;> simp at hb <;> simp [l29, evBody, params, deadL, evC, prep, prepF, prepT, V.prep, prepL, stepL, stepI, wanted, opds, opd, get, put, putO, sem, callE, loadV, partV, valO, binV, binI, binS, unV, nilCmp, apply, keepL, memN, bxOf, tkOf, bxF, frzL, V.frz, frzEL, V.frzE, V.pureR, pureRL, V.tks, tksL, V.al, alL, V.rn, rnL, addT, protT, protAll, distinctN, fill, splice, fillE, V.cells, V.cellOk, V.pm, eqSh, intsOf, maxL, minL, bounds, ranged, finish, result, rvs, finL, V.fin, one, goesOn, hF, hb]
  apply fin
  rw [decide_eq_decide.2 key]
  by_cases x0 : lo * q ≤ grown d nut tl p q ∧ grown d nut tl p q ≤ hi * q
  · rw [if_pos x0] at e0
    by_cases x1 : lo * q ≤ grown d nut th p q ∧ grown d nut th p q ≤ hi * q
    · rw [if_pos x1] at e1
      rw [decide_eq_true ⟨x0, x1⟩, if_pos rfl]
      simp only [iter]
      rw [show ((0 : Nat) : Int) = 0 from rfl] at e0
      rw [e0]
      simp only
      rw [show ((1 : Nat) : Int) = 0 + 1 from rfl] at e1
      rw [e1]
      simp only
      rw [show (0 + 1 + 1 : Int) = 2 from rfl, e2]
    · rw [if_neg x1] at e1
      rw [decide_eq_false (fun h => x1 h.2), if_neg (by simp)]
      simp only [iter]
      rw [show ((0 : Nat) : Int) = 0 from rfl] at e0
      rw [e0]
      simp only
      rw [show ((1 : Nat) : Int) = 0 + 1 from rfl] at e1
      rw [e1]
  · rw [if_neg x0] at e0
    rw [decide_eq_false (fun h => x0 h.1), if_neg (by simp)]
    simp only [iter]
    rw [show ((0 : Nat) : Int) = 0 from rfl] at e0
    rw [e0]
theorem run26 (a b : Int) : run Ft Ct 26 [I a, I b] = some (.agg [I a, I b]) := run_of_body (N := 1) rfl rfl (by rfl)
end Go.Lo
