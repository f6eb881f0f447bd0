/- Groups: the program's function, the reference's, and the law. -/
import Derived.Test.YtifanigkolnedaaSj
namespace Go.Lo
open Go.Proofs
set_option linter.unusedSimpArgs false
/-- A loop that goes to its end. -/
theorem loop_all {f : St → Option (Ex × St)} {s : Nat → St} {n : Nat} {X : Ex × St} (hs : ∀ i, i < n → f (s i) = some (.normal, s (i + 1))) (hn : f (s n) = some X) (hX : X.1 ≠ .normal) : iter f (n + 1) (s 0) = some X := by
  have := loop_find (g := fun _ => false) (E := fun _ => (.ret, s 0)) (fun i hi => by simp [hs i hi]) (fun _ => by simp) hn hX n 0 (by omega)
  rw [this]
  have : (List.range' 0 n).find? (fun _ => false) = none := by simp
  rw [this]
instance (lo hi : Int) : Decidable (spanOk lo hi) := by unfold spanOk; infer_instance
def gall (sl sh nl nh wl wh : Int) (n : Nat) : Bool := (List.range n).all (gok sl sh nl nh wl wh n)
def s41a (sl sh nl nh wl wh : Int) (i : Int) : St := { fr := [(3, .box [I sl, I sh]), (4, .box [I nl, I nh]), (5, .box [I wl, I wh]), (15, .agg [I sl, I sh, I nl, I nh]), (16, I i)], tk := [] }
theorem loop41a (sl sh nl nh wl wh : Int) (M : Nat) : iter (evC (run Ft Ct) M b41_0) 3 (s41a sl sh nl nh wl wh 0) = some (if spanOk sl sh ∧ spanOk nl nh then (.exit 0, { fr := [(3, .box [I sl, I sh]), (4, .box [I nl, I nh]), (5, .box [I wl, I wh]), (15, .agg [I sl, I sh, I nl, I nh]), (16, I 2), (17, B false)], tk := [] }) else (.ret, { fr := [(6, I 0), (7, I 2)], tk := [] })) := by
  have h1 := run71 sl sh 0 20000000
  have h2 := run71 nl nh 0 20000000
  have k1 : IntKind.i64.wrap 1 = 1 := wr (by omega) (by omega)
  have k2 : IntKind.i64.wrap 2 = 2 := wr (by omega) (by omega)
  have p0 : evC (run Ft Ct) M b41_0 (s41a sl sh nl nh wl wh 0) = some (if spanOk sl sh then (.normal, s41a sl sh nl nh wl wh 1) else (.ret, { fr := [(6, I 0), (7, I 2)], tk := [] })) := by
    by_cases c : spanOk sl sh
    · have c' := c
      unfold spanOk at c'
      rw [decide_eq_true (by omega)] at h1
      rw [if_pos c]
      simp [b41_0, s41a, evBody, params, deadL, evC, prep, prepF, prepT, V.prep, prepL, stepL, stepI, wanted, opds, opd, get, put, putO, sem, callE, loadV, partV, valO, binV, binI, binS, unV, nilCmp, apply, keepL, memN, bxOf, tkOf, bxF, frzL, V.frz, frzEL, V.frzE, V.pureR, pureRL, V.tks, tksL, V.al, alL, V.rn, rnL, addT, protT, protAll, distinctN, fill, splice, fillE, V.cells, V.cellOk, V.pm, eqSh, intsOf, maxL, minL, bounds, ranged, finish, result, rvs, finL, V.fin, one, goesOn, h1, k1, partV]
    · have c' := c
      unfold spanOk at c'
      rw [decide_eq_false (by omega)] at h1
      rw [if_neg c]
      simp [b41_0, s41a, evBody, params, deadL, evC, prep, prepF, prepT, V.prep, prepL, stepL, stepI, wanted, opds, opd, get, put, putO, sem, callE, loadV, partV, valO, binV, binI, binS, unV, nilCmp, apply, keepL, memN, bxOf, tkOf, bxF, frzL, V.frz, frzEL, V.frzE, V.pureR, pureRL, V.tks, tksL, V.al, alL, V.rn, rnL, addT, protT, protAll, distinctN, fill, splice, fillE, V.cells, V.cellOk, V.pm, eqSh, intsOf, maxL, minL, bounds, ranged, finish, result, rvs, finL, V.fin, one, goesOn, h1, partV]
  have p1 : evC (run Ft Ct) M b41_0 (s41a sl sh nl nh wl wh 1) = some (if spanOk nl nh then (.normal, s41a sl sh nl nh wl wh 2) else (.ret, { fr := [(6, I 0), (7, I 2)], tk := [] })) := by
    by_cases c : spanOk nl nh
    · have c' := c
      unfold spanOk at c'
      rw [decide_eq_true (by omega)] at h2
      rw [if_pos c]
      simp [b41_0, s41a, evBody, params, deadL, evC, prep, prepF, prepT, V.prep, prepL, stepL, stepI, wanted, opds, opd, get, put, putO, sem, callE, loadV, partV, valO, binV, binI, binS, unV, nilCmp, apply, keepL, memN, bxOf, tkOf, bxF, frzL, V.frz, frzEL, V.frzE, V.pureR, pureRL, V.tks, tksL, V.al, alL, V.rn, rnL, addT, protT, protAll, distinctN, fill, splice, fillE, V.cells, V.cellOk, V.pm, eqSh, intsOf, maxL, minL, bounds, ranged, finish, result, rvs, finL, V.fin, one, goesOn, h2, k2, partV]
    · have c' := c
      unfold spanOk at c'
      rw [decide_eq_false (by omega)] at h2
      rw [if_neg c]
      simp [b41_0, s41a, evBody, params, deadL, evC, prep, prepF, prepT, V.prep, prepL, stepL, stepI, wanted, opds, opd, get, put, putO, sem, callE, loadV, partV, valO, binV, binI, binS, unV, nilCmp, apply, keepL, memN, bxOf, tkOf, bxF, frzL, V.frz, frzEL, V.frzE, V.pureR, pureRL, V.tks, tksL, V.al, alL, V.rn, rnL, addT, protT, protAll, distinctN, fill, splice, fillE, V.cells, V.cellOk, V.pm, eqSh, intsOf, maxL, minL, bounds, ranged, finish, result, rvs, finL, V.fin, one, goesOn, h2, partV]
  have p2 : evC (run Ft Ct) M b41_0 (s41a sl sh nl nh wl wh 2) = some (.exit 0, { fr := [(3, .box [I sl, I sh]), (4, .box [I nl, I nh]), (5, .box [I wl, I wh]), (15, .agg [I sl, I sh, I nl, I nh]), (16, I 2), (17, B false)], tk := [] }) := by
    simp [b41_0, s41a, evBody, params, deadL, evC, prep, prepF, prepT, V.prep, prepL, stepL, stepI, wanted, opds, opd, get, put, putO, sem, callE, loadV, partV, valO, binV, binI, binS, unV, nilCmp, apply, keepL, memN, bxOf, tkOf, bxF, frzL, V.frz, frzEL, V.frzE, V.pureR, pureRL, V.tks, tksL, V.al, alL, V.rn, rnL, addT, protT, protAll, distinctN, fill, splice, fillE, V.cells, V.cellOk, V.pm, eqSh, intsOf, maxL, minL, bounds, ranged, finish, result, rvs, finL, V.fin, one, goesOn]
  simp only [iter, p0]
  by_cases c : spanOk sl sh
  · simp only [if_pos c, p1]
    by_cases d : spanOk nl nh
    · simp only [if_pos d, p2]; simp [c, d]
    · simp only [if_neg d]; simp [d]
  · simp only [if_neg c]; simp [c]
def s41b (sl sh nl nh wl wh : Int) (i : Nat) : St := { fr := [(3, .box [I sl, I sh]), (4, .box [I nl, I nh]), (5, .box [I wl, I wh]), (27, I i)], tk := [] }
theorem step41b {sl sh nl nh : Int} (wl wh : Int) (hs : spanOk sl sh) (hn : spanOk nl nh) {i : Nat} (hi : i < 50) (M : Nat) :
    evC (run Ft Ct) M b41_1 (s41b sl sh nl nh wl wh i) = some (if gall sl sh nl nh wl wh (i + 1) = true then (.ret, { fr := [(6, I ((i + 1 : Nat) : Int)), (7, I 0)], tk := [] }) else (.normal, s41b sl sh nl nh wl wh (i + 1))) := by
  have h := run79 wl wh hs hn (n := i + 1) (by omega)
  have hlt : (i : Int) < 50 := by omega
  have hw : IntKind.i64.wrap ((i : Int) + 1) = ((i + 1 : Nat) : Int) := wrap_succ hi (by omega)
  unfold gall s41b
  generalize (List.range (i + 1)).all (gok sl sh nl nh wl wh (i + 1)) = r at *
  generalize ((i + 1 : Nat) : Int) = m at *
  cases r <;> simp [b41_1, evBody, params, deadL, evC, prep, prepF, prepT, V.prep, prepL, stepL, stepI, wanted, opds, opd, get, put, putO, sem, callE, loadV, partV, valO, binV, binI, binS, unV, nilCmp, apply, keepL, memN, bxOf, tkOf, bxF, frzL, V.frz, frzEL, V.frzE, V.pureR, pureRL, V.tks, tksL, V.al, alL, V.rn, rnL, addT, protT, protAll, distinctN, fill, splice, fillE, V.cells, V.cellOk, V.pm, eqSh, intsOf, maxL, minL, bounds, ranged, finish, result, rvs, finL, V.fin, one, goesOn, hlt, hw, h]
/-- The fewest groups, if any number up to fifty does. -/
def groups (sl sh nl nh wl wh : Int) : Option Nat := (List.range 50).find? fun i => gall sl sh nl nh wl wh (i + 1)
theorem loop41b {sl sh nl nh : Int} (wl wh : Int) (hs : spanOk sl sh) (hn : spanOk nl nh) (M : Nat) :
    iter (evC (run Ft Ct) M b41_1) 51 (s41b sl sh nl nh wl wh 0) = some (match groups sl sh nl nh wl wh with
      | some j => (.ret, { fr := [(6, I ((j + 1 : Nat) : Int)), (7, I 0)], tk := [] })
      | none => (.exit 2, { fr := [(3, .box [I sl, I sh]), (4, .box [I nl, I nh]), (5, .box [I wl, I wh]), (27, I 50), (28, B false)], tk := [] })) := by
  have L := loop_find (s := s41b sl sh nl nh wl wh) (f := evC (run Ft Ct) M b41_1) (n := 50) (g := fun i => gall sl sh nl nh wl wh (i + 1)) (E := fun j => (.ret, { fr := [(6, I ((j + 1 : Nat) : Int)), (7, I 0)], tk := [] })) (X := (.exit 2, { fr := [(3, .box [I sl, I sh]), (4, .box [I nl, I nh]), (5, .box [I wl, I wh]), (27, I 50), (28, B false)], tk := [] }))
    (fun i hi => step41b wl wh hs hn hi M) (fun _ => by simp) (by simp [b41_1, s41b, evBody, params, deadL, evC, prep, prepF, prepT, V.prep, prepL, stepL, stepI, wanted, opds, opd, get, put, putO, sem, callE, loadV, partV, valO, binV, binI, binS, unV, nilCmp, apply, keepL, memN, bxOf, tkOf, bxF, frzL, V.frz, frzEL, V.frzE, V.pureR, pureRL, V.tks, tksL, V.al, alL, V.rn, rnL, addT, protT, protAll, distinctN, fill, splice, fillE, V.cells, V.cellOk, V.pm, eqSh, intsOf, maxL, minL, bounds, ranged, finish, result, rvs, finL, V.fin, one, goesOn]) (by simp) 50 0 (by omega)
  rw [← List.range_eq_range'] at L
  exact L
theorem run41 (sl sh nl nh wl wh : Int) : run Ft Ct 41 [.agg [I sl, I sh], .agg [I nl, I nh], .agg [I wl, I wh]] = some (
    if spanOk sl sh ∧ spanOk nl nh ∧ -40000000 ≤ wl ∧ wl ≤ wh ∧ wh ≤ 40000000 then (match groups sl sh nl nh wl wh with
      | some j => .tup [I ((j + 1 : Nat) : Int), I 0]
      | none => .tup [I 0, I 7]) else .tup [I 0, I 2]) := by
  have A := loop41a sl sh nl nh wl wh 51
  have A := iter_le (f := evC (run Ft Ct) 51 b41_0) (fun _ _ h => h) (show 3 ≤ 51 by omega) A
  have h := run71 wl wh (-40000000) 40000000
  refine run_of_body (N := 51) rfl rfl ?_
  generalize hF : evC (run Ft Ct) 51 b41_0 = F at A
  by_cases c : spanOk sl sh ∧ spanOk nl nh
  · rw [if_pos c] at A
    simp [s41a] at A
    by_cases d : -40000000 ≤ wl ∧ wl ≤ wh ∧ wh ≤ 40000000
    · rw [decide_eq_true (by omega)] at h
      rw [if_pos ⟨c.1, c.2, d⟩]
      have L := loop41b wl wh c.1 c.2 51
      generalize hG : evC (run Ft Ct) 51 b41_1 = G at L
      cases hg : groups sl sh nl nh wl wh with
      | none => 
        rw [hg] at L
        simp [s41b] at L
        simp [l41, evBody, params, deadL, evC, prep, prepF, prepT, V.prep, prepL, stepL, stepI, wanted, opds, opd, get, put, putO, sem, callE, loadV, partV, valO, binV, binI, binS, unV, nilCmp, apply, keepL, memN, bxOf, tkOf, bxF, frzL, V.frz, frzEL, V.frzE, V.pureR, pureRL, V.tks, tksL, V.al, alL, V.rn, rnL, addT, protT, protAll, distinctN, fill, splice, fillE, V.cells, V.cellOk, V.pm, eqSh, intsOf, maxL, minL, bounds, ranged, finish, result, rvs, finL, V.fin, one, goesOn, hF, A, hG, L, h]
      | some j =>
        rw [hg] at L
        simp [s41b] at L
        simp [l41, evBody, params, deadL, evC, prep, prepF, prepT, V.prep, prepL, stepL, stepI, wanted, opds, opd, get, put, putO, sem, callE, loadV, partV, valO, binV, binI, binS, unV, nilCmp, apply, keepL, memN, bxOf, tkOf, bxF, frzL, V.frz, frzEL, V.frzE, V.pureR, pureRL, V.tks, tksL, V.al, alL, V.rn, rnL, addT, protT, protAll, distinctN, fill, splice, fillE, V.cells, V.cellOk, V.pm, eqSh, intsOf, maxL, minL, bounds, ranged, finish, result, rvs, finL, V.fin, one, goesOn, hF, A, hG, L, h]
    · rw [decide_eq_false (by omega)] at h
      rw [if_neg (fun x => d x.2.2)]
      simp [l41, evBody, params, deadL, evC, prep, prepF, prepT, V.prep, prepL, stepL, stepI, wanted, opds, opd, get, put, putO, sem, callE, loadV, partV, valO, binV, binI, binS, unV, nilCmp, apply, keepL, memN, bxOf, tkOf, bxF, frzL, V.frz, frzEL, V.frzE, V.pureR, pureRL, V.tks, tksL, V.al, alL, V.rn, rnL, addT, protT, protAll, distinctN, fill, splice, fillE, V.cells, V.cellOk, V.pm, eqSh, intsOf, maxL, minL, bounds, ranged, finish, result, rvs, finL, V.fin, one, goesOn, hF, A, h]
  · rw [if_neg c] at A
    rw [if_neg (fun x => c ⟨x.1, x.2.1⟩)]
    simp [s41a] at A
    simp [l41, evBody, params, deadL, evC, prep, prepF, prepT, V.prep, prepL, stepL, stepI, wanted, opds, opd, get, put, putO, sem, callE, loadV, partV, valO, binV, binI, binS, unV, nilCmp, apply, keepL, memN, bxOf, tkOf, bxF, frzL, V.frz, frzEL, V.frzE, V.pureR, pureRL, V.tks, tksL, V.al, alL, V.rn, rnL, addT, protT, protAll, distinctN, fill, splice, fillE, V.cells, V.cellOk, V.pm, eqSh, intsOf, maxL, minL, bounds, ranged, finish, result, rvs, finL, V.fin, one, goesOn, hF, A]
/-! ### The reference -/
def s42i (sl sh nl nh wl wh : Int) (n j : Nat) : St := { fr := [(3, .box [I sl, I sh]), (4, .box [I nl, I nh]), (5, .box [I wl, I wh]), (8, I n), (9, B ((List.range j).all (gok sl sh nl nh wl wh n))), (10, I j)], tk := [] }
theorem step42i {sl sh nl nh : Int} (wl wh : Int) (hs : spanOk sl sh) (hn : spanOk nl nh) {n i : Nat} (hi : i < n) (hn50 : n ≤ 50) (M : Nat) :
    evC (run Ft Ct) M b42_1 (s42i sl sh nl nh wl wh n i) = some (.normal, s42i sl sh nl nh wl wh n (i + 1)) := by
  obtain ⟨a1, a2, a3⟩ := hs
  obtain ⟨b1, b2, b3⟩ := hn
  have e1 := run80 sl sh i n a1 a2 a3 (by omega) (by omega) (by omega)
  have e2 := run80 nl nh i n b1 b2 b3 (by omega) (by omega) (by omega)
  have g1 := g_bd (i := (i : Int)) (n := (n : Int)) a1 a2 a3 (by omega) (by omega) (by omega)
  have g2 := g_bd (i := (i : Int)) (n := (n : Int)) b1 b2 b3 (by omega) (by omega) (by omega)
  have hlt : (i : Int) < n := by omega
  have hw : IntKind.i64.wrap ((i : Int) + 1) = ((i + 1 : Nat) : Int) := wrap_succ hi (by omega)
  have ha : (List.range (i + 1)).all (gok sl sh nl nh wl wh n) = ((List.range i).all (gok sl sh nl nh wl wh n) && gok sl sh nl nh wl wh n i) := by
    rw [List.range_succ, List.all_append]; simp
  unfold s42i
  rw [ha]
  generalize (List.range i).all (gok sl sh nl nh wl wh n) = ok at *
  unfold gok
  generalize ((i + 1 : Nat) : Int) = m at *
  generalize gl sl sh i n = x1 at *
  generalize gh sl sh i n = x2 at *
  generalize gl nl nh i n = x3 at *
  generalize gh nl nh i n = x4 at *
  have e3 := run34 x1 x2 x3 x4 (wr (by omega) (by omega)) (wr (by omega) (by omega))
  have e4 := run78 (x3 - x2) (x4 - x1) wl wh
  cases ok
  · simp [b42_1, evBody, params, deadL, evC, prep, prepF, prepT, V.prep, prepL, stepL, stepI, wanted, opds, opd, get, put, putO, sem, callE, loadV, partV, valO, binV, binI, binS, unV, nilCmp, apply, keepL, memN, bxOf, tkOf, bxF, frzL, V.frz, frzEL, V.frzE, V.pureR, pureRL, V.tks, tksL, V.al, alL, V.rn, rnL, addT, protT, protAll, distinctN, fill, splice, fillE, V.cells, V.cellOk, V.pm, eqSh, intsOf, maxL, minL, bounds, ranged, finish, result, rvs, finL, V.fin, one, goesOn, hlt, e1, e2, hw]
  · by_cases c1 : x1 ≤ x2
    · by_cases c2 : x3 ≤ x4
      · by_cases c3 : wl ≤ x3 - x2 ∧ x4 - x1 ≤ wh
        · rw [decide_eq_true c3] at e4
          simp [b42_1, evBody, params, deadL, evC, prep, prepF, prepT, V.prep, prepL, stepL, stepI, wanted, opds, opd, get, put, putO, sem, callE, loadV, partV, valO, binV, binI, binS, unV, nilCmp, apply, keepL, memN, bxOf, tkOf, bxF, frzL, V.frz, frzEL, V.frzE, V.pureR, pureRL, V.tks, tksL, V.al, alL, V.rn, rnL, addT, protT, protAll, distinctN, fill, splice, fillE, V.cells, V.cellOk, V.pm, eqSh, intsOf, maxL, minL, bounds, ranged, finish, result, rvs, finL, V.fin, one, goesOn, hlt, e1, e2, e3, e4, c1, c2, c3, hw]
        · rw [decide_eq_false c3] at e4
          have c3' : (decide (wl ≤ x3 - x2) && decide (x4 - x1 ≤ wh)) = false := by rw [Bool.eq_false_iff]; simp; omega
          simp [b42_1, evBody, params, deadL, evC, prep, prepF, prepT, V.prep, prepL, stepL, stepI, wanted, opds, opd, get, put, putO, sem, callE, loadV, partV, valO, binV, binI, binS, unV, nilCmp, apply, keepL, memN, bxOf, tkOf, bxF, frzL, V.frz, frzEL, V.frzE, V.pureR, pureRL, V.tks, tksL, V.al, alL, V.rn, rnL, addT, protT, protAll, distinctN, fill, splice, fillE, V.cells, V.cellOk, V.pm, eqSh, intsOf, maxL, minL, bounds, ranged, finish, result, rvs, finL, V.fin, one, goesOn, hlt, e1, e2, e3, e4, c1, c2, c3', hw]
      · simp [b42_1, evBody, params, deadL, evC, prep, prepF, prepT, V.prep, prepL, stepL, stepI, wanted, opds, opd, get, put, putO, sem, callE, loadV, partV, valO, binV, binI, binS, unV, nilCmp, apply, keepL, memN, bxOf, tkOf, bxF, frzL, V.frz, frzEL, V.frzE, V.pureR, pureRL, V.tks, tksL, V.al, alL, V.rn, rnL, addT, protT, protAll, distinctN, fill, splice, fillE, V.cells, V.cellOk, V.pm, eqSh, intsOf, maxL, minL, bounds, ranged, finish, result, rvs, finL, V.fin, one, goesOn, hlt, e1, e2, c1, c2, hw]
    · simp [b42_1, evBody, params, deadL, evC, prep, prepF, prepT, V.prep, prepL, stepL, stepI, wanted, opds, opd, get, put, putO, sem, callE, loadV, partV, valO, binV, binI, binS, unV, nilCmp, apply, keepL, memN, bxOf, tkOf, bxF, frzL, V.frz, frzEL, V.frzE, V.pureR, pureRL, V.tks, tksL, V.al, alL, V.rn, rnL, addT, protT, protAll, distinctN, fill, splice, fillE, V.cells, V.cellOk, V.pm, eqSh, intsOf, maxL, minL, bounds, ranged, finish, result, rvs, finL, V.fin, one, goesOn, hlt, e1, e2, c1, hw]
def s42 (sl sh nl nh wl wh : Int) (i : Nat) : St := { fr := [(3, .box [I sl, I sh]), (4, .box [I nl, I nh]), (5, .box [I wl, I wh]), (8, I ((i + 1 : Nat) : Int))], tk := [] }
theorem step42 {sl sh nl nh : Int} (wl wh : Int) (hs : spanOk sl sh) (hn : spanOk nl nh) {i : Nat} (hi : i < 50) {M : Nat} (hM : 51 ≤ M) :
    evC (run Ft Ct) M b42_0 (s42 sl sh nl nh wl wh i) = some (if gall sl sh nl nh wl wh (i + 1) = true then (.ret, { fr := [(6, I ((i + 1 : Nat) : Int)), (7, B true)], tk := [] }) else (.normal, s42 sl sh nl nh wl wh (i + 1))) := by
  have L := loop_all (s := s42i sl sh nl nh wl wh (i + 1)) (f := evC (run Ft Ct) M b42_1) (n := i + 1) (X := (.exit 2, { fr := [(3, .box [I sl, I sh]), (4, .box [I nl, I nh]), (5, .box [I wl, I wh]), (8, I ((i + 1 : Nat) : Int)), (9, B (gall sl sh nl nh wl wh (i + 1))), (10, I ((i + 1 : Nat) : Int)), (19, B false)], tk := [] }))
    (fun j hj => step42i wl wh hs hn hj (by omega) M) (by simp [b42_1, s42i, gall, evBody, params, deadL, evC, prep, prepF, prepT, V.prep, prepL, stepL, stepI, wanted, opds, opd, get, put, putO, sem, callE, loadV, partV, valO, binV, binI, binS, unV, nilCmp, apply, keepL, memN, bxOf, tkOf, bxF, frzL, V.frz, frzEL, V.frzE, V.pureR, pureRL, V.tks, tksL, V.al, alL, V.rn, rnL, addT, protT, protAll, distinctN, fill, splice, fillE, V.cells, V.cellOk, V.pm, eqSh, intsOf, maxL, minL, bounds, ranged, finish, result, rvs, finL, V.fin, one, goesOn]) (by simp)
  have L := iter_le (f := evC (run Ft Ct) M b42_1) (fun _ _ h => h) (show i + 1 + 1 ≤ M by omega) L
  have hlt : ((i + 1 : Nat) : Int) ≤ 50 := by omega
  have hw : IntKind.i64.wrap (((i + 1 : Nat) : Int) + 1) = ((i + 1 + 1 : Nat) : Int) := wrap_succ (n := 51) (by omega) (by omega)
  generalize hF : evC (run Ft Ct) M b42_1 = F at L
  unfold s42i at L
  unfold s42
  generalize gall sl sh nl nh wl wh (i + 1) = r at *
  generalize ((i + 1 + 1 : Nat) : Int) = m at *
  generalize ((i + 1 : Nat) : Int) = k at *
  simp at L
  cases r <;> simp [b42_0, evBody, params, deadL, evC, prep, prepF, prepT, V.prep, prepL, stepL, stepI, wanted, opds, opd, get, put, putO, sem, callE, loadV, partV, valO, binV, binI, binS, unV, nilCmp, apply, keepL, memN, bxOf, tkOf, bxF, frzL, V.frz, frzEL, V.frzE, V.pureR, pureRL, V.tks, tksL, V.al, alL, V.rn, rnL, addT, protT, protAll, distinctN, fill, splice, fillE, V.cells, V.cellOk, V.pm, eqSh, intsOf, maxL, minL, bounds, ranged, finish, result, rvs, finL, V.fin, one, goesOn, hlt, hw, hF, L]
theorem run42 {sl sh nl nh : Int} (wl wh : Int) (hs : spanOk sl sh) (hn : spanOk nl nh) : run Ft Ct 42 [.agg [I sl, I sh], .agg [I nl, I nh], .agg [I wl, I wh]] = some (
    match groups sl sh nl nh wl wh with
      | some j => .tup [I ((j + 1 : Nat) : Int), B true]
      | none => .tup [I 0, B false]) := by
  have L := loop_find (s := s42 sl sh nl nh wl wh) (f := evC (run Ft Ct) 51 b42_0) (n := 50) (g := fun i => gall sl sh nl nh wl wh (i + 1)) (E := fun j => (.ret, { fr := [(6, I ((j + 1 : Nat) : Int)), (7, B true)], tk := [] })) (X := (.exit 0, { fr := [(3, .box [I sl, I sh]), (4, .box [I nl, I nh]), (5, .box [I wl, I wh]), (8, I 51), (14, B false)], tk := [] }))
    (fun i hi => step42 wl wh hs hn hi (by omega)) (fun _ => by simp) (by simp [b42_0, s42, evBody, params, deadL, evC, prep, prepF, prepT, V.prep, prepL, stepL, stepI, wanted, opds, opd, get, put, putO, sem, callE, loadV, partV, valO, binV, binI, binS, unV, nilCmp, apply, keepL, memN, bxOf, tkOf, bxF, frzL, V.frz, frzEL, V.frzE, V.pureR, pureRL, V.tks, tksL, V.al, alL, V.rn, rnL, addT, protT, protAll, distinctN, fill, splice, fillE, V.cells, V.cellOk, V.pm, eqSh, intsOf, maxL, minL, bounds, ranged, finish, result, rvs, finL, V.fin, one, goesOn]) (by simp) 50 0 (by omega)
  rw [← List.range_eq_range'] at L
  have L : iter (evC (run Ft Ct) 51 b42_0) 51 (s42 sl sh nl nh wl wh 0) = some (match groups sl sh nl nh wl wh with | some j => _ | none => _) := L
  refine run_of_body (N := 51) rfl rfl ?_
  generalize hF : evC (run Ft Ct) 51 b42_0 = F at L
  cases hg : groups sl sh nl nh wl wh with
  | none => 
    rw [hg] at L
    simp [s42] at L
    simp [l42, evBody, params, deadL, evC, prep, prepF, prepT, V.prep, prepL, stepL, stepI, wanted, opds, opd, get, put, putO, sem, callE, loadV, partV, valO, binV, binI, binS, unV, nilCmp, apply, keepL, memN, bxOf, tkOf, bxF, frzL, V.frz, frzEL, V.frzE, V.pureR, pureRL, V.tks, tksL, V.al, alL, V.rn, rnL, addT, protT, protAll, distinctN, fill, splice, fillE, V.cells, V.cellOk, V.pm, eqSh, intsOf, maxL, minL, bounds, ranged, finish, result, rvs, finL, V.fin, one, goesOn, hF, L]
  | some j =>
    rw [hg] at L
    simp [s42] at L
    simp [l42, evBody, params, deadL, evC, prep, prepF, prepT, V.prep, prepL, stepL, stepI, wanted, opds, opd, get, put, putO, sem, callE, loadV, partV, valO, binV, binI, binS, unV, nilCmp, apply, keepL, memN, bxOf, tkOf, bxF, frzL, V.frz, frzEL, V.frzE, V.pureR, pureRL, V.tks, tksL, V.al, alL, V.rn, rnL, addT, protT, protAll, distinctN, fill, splice, fillE, V.cells, V.cellOk, V.pm, eqSh, intsOf, maxL, minL, bounds, ranged, finish, result, rvs, finL, V.fin, one, goesOn, hF, L]
theorem run7 (sl sh nl nh wl wh : Int) : run Ft Ct 7 [.agg [I sl, I sh], .agg [I nl, I nh], .agg [I wl, I wh]] = some (B true) := by
  have hk := run13
  have h1 := run41 sl sh nl nh wl wh
  have h2 := run23 sl sh 0 20000000
  have h3 := run23 nl nh 0 20000000
  have h4 := run23 wl wh (-40000000) 40000000
  refine run_of_body (N := 1) rfl rfl ?_
  by_cases c1 : spanOk sl sh
  · rw [decide_eq_true (show _ ∧ _ ∧ _ from c1)] at h2
    by_cases c2 : spanOk nl nh
    · rw [decide_eq_true (show _ ∧ _ ∧ _ from c2)] at h3
      by_cases c3 : -40000000 ≤ wl ∧ wl ≤ wh ∧ wh ≤ 40000000
      · rw [decide_eq_true c3] at h4
        rw [if_pos ⟨c1, c2, c3⟩] at h1
        have h5 := run42 wl wh c1 c2
        cases hg : groups sl sh nl nh wl wh with
        | none =>
          rw [hg] at h1 h5
          simp [l7, evBody, params, deadL, evC, prep, prepF, prepT, V.prep, prepL, stepL, stepI, wanted, opds, opd, get, put, putO, sem, callE, loadV, partV, valO, binV, binI, binS, unV, nilCmp, apply, keepL, memN, bxOf, tkOf, bxF, frzL, V.frz, frzEL, V.frzE, V.pureR, pureRL, V.tks, tksL, V.al, alL, V.rn, rnL, addT, protT, protAll, distinctN, fill, splice, fillE, V.cells, V.cellOk, V.pm, eqSh, intsOf, maxL, minL, bounds, ranged, finish, result, rvs, finL, V.fin, one, goesOn, h1, h2, h3, h4, h5, hk]
        | some j =>
          rw [hg] at h1 h5
          simp only at h1 h5
          generalize ((j + 1 : Nat) : Int) = m at *
          simp [l7, evBody, params, deadL, evC, prep, prepF, prepT, V.prep, prepL, stepL, stepI, wanted, opds, opd, get, put, putO, sem, callE, loadV, partV, valO, binV, binI, binS, unV, nilCmp, apply, keepL, memN, bxOf, tkOf, bxF, frzL, V.frz, frzEL, V.frzE, V.pureR, pureRL, V.tks, tksL, V.al, alL, V.rn, rnL, addT, protT, protAll, distinctN, fill, splice, fillE, V.cells, V.cellOk, V.pm, eqSh, intsOf, maxL, minL, bounds, ranged, finish, result, rvs, finL, V.fin, one, goesOn, h1, h2, h3, h4, h5, hk]
      · rw [decide_eq_false c3] at h4
        rw [if_neg (fun x => c3 x.2.2)] at h1
        simp [l7, evBody, params, deadL, evC, prep, prepF, prepT, V.prep, prepL, stepL, stepI, wanted, opds, opd, get, put, putO, sem, callE, loadV, partV, valO, binV, binI, binS, unV, nilCmp, apply, keepL, memN, bxOf, tkOf, bxF, frzL, V.frz, frzEL, V.frzE, V.pureR, pureRL, V.tks, tksL, V.al, alL, V.rn, rnL, addT, protT, protAll, distinctN, fill, splice, fillE, V.cells, V.cellOk, V.pm, eqSh, intsOf, maxL, minL, bounds, ranged, finish, result, rvs, finL, V.fin, one, goesOn, h1, h2, h3, h4, hk]
    · rw [decide_eq_false (show ¬ (_ ∧ _ ∧ _) from c2)] at h3
      rw [if_neg (fun x => c2 x.2.1)] at h1
      simp [l7, evBody, params, deadL, evC, prep, prepF, prepT, V.prep, prepL, stepL, stepI, wanted, opds, opd, get, put, putO, sem, callE, loadV, partV, valO, binV, binI, binS, unV, nilCmp, apply, keepL, memN, bxOf, tkOf, bxF, frzL, V.frz, frzEL, V.frzE, V.pureR, pureRL, V.tks, tksL, V.al, alL, V.rn, rnL, addT, protT, protAll, distinctN, fill, splice, fillE, V.cells, V.cellOk, V.pm, eqSh, intsOf, maxL, minL, bounds, ranged, finish, result, rvs, finL, V.fin, one, goesOn, h1, h2, h3, hk]
  · rw [decide_eq_false (show ¬ (_ ∧ _ ∧ _) from c1)] at h2
    rw [if_neg (fun x => c1 x.1)] at h1
    simp [l7, evBody, params, deadL, evC, prep, prepF, prepT, V.prep, prepL, stepL, stepI, wanted, opds, opd, get, put, putO, sem, callE, loadV, partV, valO, binV, binI, binS, unV, nilCmp, apply, keepL, memN, bxOf, tkOf, bxF, frzL, V.frz, frzEL, V.frzE, V.pureR, pureRL, V.tks, tksL, V.al, alL, V.rn, rnL, addT, protT, protAll, distinctN, fill, splice, fillE, V.cells, V.cellOk, V.pm, eqSh, intsOf, maxL, minL, bounds, ranged, finish, result, rvs, finL, V.fin, one, goesOn, h1, h2, hk]
end Go.Lo
