/- Loops that count; groups. -/
import Derived.Test.YtifanigkolnedaaSg
namespace Go.Lo
open Go.Proofs
set_option linter.unusedSimpArgs false
/-- A loop that looks at one index after the other. -/
theorem loop_find {f : St → Option (Ex × St)} {s : Nat → St} {n : Nat} {g : Nat → Bool} {E : Nat → Ex × St} {X : Ex × St} (hs : ∀ i, i < n → f (s i) = some (if g i = true then E i else (.normal, s (i + 1)))) (hE : ∀ i, (E i).1 ≠ .normal) (hn : f (s n) = some X) (hX : X.1 ≠ .normal) :
    ∀ (k i : Nat), i + k = n → iter f (k + 1) (s i) = some (match (List.range' i k).find? g with | some j => E j | none => X)
  | 0, i, h => by
    have : i = n := by omega
    subst this
    rw [iter_step, hn]
    obtain ⟨x1, x2⟩ := X
    cases x1 <;> first | rfl | exact absurd rfl hX
  | k + 1, i, h => by
    rw [iter_step, hs i (by omega), List.range'_succ, List.find?_cons]
    cases hg : g i with
    | true =>
      simp only [if_true]
      have := hE i
      generalize E i = e at *
      obtain ⟨x1, x2⟩ := e
      cases x1 <;> first | rfl | exact absurd rfl this
    | false =>
      simp only [Bool.false_eq_true, if_false]
      exact loop_find hs hE hn hX k (i + 1) (by omega)
/-- The group of a span. -/
def gl (lo hi i n : Int) : Int := lo + (i * (hi - lo + 1)).tdiv n
def gh (lo hi i n : Int) : Int := lo + ((i + 1) * (hi - lo + 1)).tdiv n - 1
theorem tdiv_nn {a b m : Int} (h1 : 0 ≤ a) (h2 : a ≤ m) (hb : 0 < b) : 0 ≤ a.tdiv b ∧ a.tdiv b ≤ m := by
  rw [Int.tdiv_eq_ediv_of_nonneg h1]
  exact ⟨Int.ediv_nonneg h1 (by omega), Int.le_trans (Int.ediv_le_self b h1) h2⟩
theorem g_bd {lo hi i n : Int} (h1 : 0 ≤ lo) (h2 : lo ≤ hi) (h3 : hi ≤ 20000000) (hi0 : 0 ≤ i) (hi1 : i ≤ 50) (hn : 0 < n) : 0 ≤ i * (hi - lo + 1) ∧ i * (hi - lo + 1) ≤ 1100000000 ∧ 0 ≤ (i + 1) * (hi - lo + 1) ∧ (i + 1) * (hi - lo + 1) ≤ 1100000000 ∧
    0 ≤ gl lo hi i n ∧ gl lo hi i n ≤ 1200000000 ∧ -1 ≤ gh lo hi i n ∧ gh lo hi i n ≤ 1200000000 ∧ 0 ≤ (i * (hi - lo + 1)).tdiv n ∧ (i * (hi - lo + 1)).tdiv n ≤ 1100000000 ∧ 0 ≤ ((i + 1) * (hi - lo + 1)).tdiv n ∧ ((i + 1) * (hi - lo + 1)).tdiv n ≤ 1100000000 := by
  have b1 := mul_bd (a := i) (b := hi - lo + 1) (m := 50) (k := 20000001) (by omega) (by omega) (by omega) (by omega)
  have b2 := mul_bd (a := i + 1) (b := hi - lo + 1) (m := 51) (k := 20000001) (by omega) (by omega) (by omega) (by omega)
  have t1 := tdiv_nn b1.1 (show i * (hi - lo + 1) ≤ 1100000000 by omega) hn
  have t2 := tdiv_nn b2.1 (show (i + 1) * (hi - lo + 1) ≤ 1100000000 by omega) hn
  unfold gl gh
  omega
theorem run90 (lo hi i n : Int) (h1 : 0 ≤ lo) (h2 : lo ≤ hi) (h3 : hi ≤ 20000000) (hi0 : 0 ≤ i) (hi1 : i ≤ 50) (hn : 0 < n) : run Ft Ct 90 [.agg [I lo, I hi], I i, I n] = some (.agg [I (gl lo hi i n), I (gh lo hi i n)]) := by
  have b := g_bd h1 h2 h3 hi0 hi1 hn
  unfold gl gh at *
  have w1 : IntKind.i64.wrap (hi - lo) = hi - lo := wr (by omega) (by omega)
  have w2 : IntKind.i64.wrap (hi - lo + 1) = hi - lo + 1 := wr (by omega) (by omega)
  have w0 : IntKind.i64.wrap (i + 1) = i + 1 := wr (by omega) (by omega)
  generalize hw : hi - lo + 1 = w at *
  have w3 : IntKind.i64.wrap (i * w) = i * w := wr (by omega) (by omega)
  have w4 : IntKind.i64.wrap ((i + 1) * w) = (i + 1) * w := wr (by omega) (by omega)
  have w5 : IntKind.i64.wrap ((i * w).tdiv n) = (i * w).tdiv n := wr (by omega) (by omega)
  have w6 : IntKind.i64.wrap (((i + 1) * w).tdiv n) = ((i + 1) * w).tdiv n := wr (by omega) (by omega)
  have w7 : IntKind.i64.wrap (lo + (i * w).tdiv n) = lo + (i * w).tdiv n := wr (by omega) (by omega)
  have w8 : IntKind.i64.wrap (lo + ((i + 1) * w).tdiv n) = lo + ((i + 1) * w).tdiv n := wr (by omega) (by omega)
  have w9 : IntKind.i64.wrap (lo + ((i + 1) * w).tdiv n - 1) = lo + ((i + 1) * w).tdiv n - 1 := wr (by omega) (by omega)
  have hn0 : ¬ (n = 0) := by omega
  refine run_of_body (N := 1) rfl rfl ?_
  simp [l90, evBody, params, deadL, evC, prep, prepF, prepT, V.prep, prepL, stepL, stepI, wanted, opds, opd, get, put, putO, sem, callE, loadV, partV, valO, binV, binI, binS, unV, nilCmp, apply, keepL, memN, bxOf, tkOf, bxF, frzL, V.frz, frzEL, V.frzE, V.pureR, pureRL, V.tks, tksL, V.al, alL, V.rn, rnL, addT, protT, protAll, distinctN, fill, splice, fillE, V.cells, V.cellOk, V.pm, eqSh, intsOf, maxL, minL, bounds, ranged, finish, result, rvs, finL, V.fin, one, goesOn, w1, hw, w2, w0, w3, w4, w5, w6, w7, w8, w9, hn0]
theorem run80 (lo hi i n : Int) (h1 : 0 ≤ lo) (h2 : lo ≤ hi) (h3 : hi ≤ 20000000) (hi0 : 0 ≤ i) (hi1 : i ≤ 50) (hn : 0 < n) : run Ft Ct 80 [.agg [I lo, I hi], I i, I n] = some (.agg [I (gl lo hi i n), I (gh lo hi i n)]) := by
  have b := g_bd h1 h2 h3 hi0 hi1 hn
  unfold gl gh at *
  have w1 : IntKind.i64.wrap (hi - lo) = hi - lo := wr (by omega) (by omega)
  have w2 : IntKind.i64.wrap (hi - lo + 1) = hi - lo + 1 := wr (by omega) (by omega)
  have w0 : IntKind.i64.wrap (i + 1) = i + 1 := wr (by omega) (by omega)
  generalize hw : hi - lo + 1 = w at *
  have w3 : IntKind.i64.wrap (i * w) = i * w := wr (by omega) (by omega)
  have w4 : IntKind.i64.wrap ((i + 1) * w) = (i + 1) * w := wr (by omega) (by omega)
  have w5 : IntKind.i64.wrap ((i * w).tdiv n) = (i * w).tdiv n := wr (by omega) (by omega)
  have w6 : IntKind.i64.wrap (((i + 1) * w).tdiv n) = ((i + 1) * w).tdiv n := wr (by omega) (by omega)
  have w7 : IntKind.i64.wrap (lo + (i * w).tdiv n) = lo + (i * w).tdiv n := wr (by omega) (by omega)
  have w8 : IntKind.i64.wrap (lo + ((i + 1) * w).tdiv n) = lo + ((i + 1) * w).tdiv n := wr (by omega) (by omega)
  have w9 : IntKind.i64.wrap (lo + ((i + 1) * w).tdiv n - 1) = lo + ((i + 1) * w).tdiv n - 1 := wr (by omega) (by omega)
  have hn0 : ¬ (n = 0) := by omega
  refine run_of_body (N := 1) rfl rfl ?_
  simp [l80, evBody, params, deadL, evC, prep, prepF, prepT, V.prep, prepL, stepL, stepI, wanted, opds, opd, get, put, putO, sem, callE, loadV, partV, valO, binV, binI, binS, unV, nilCmp, apply, keepL, memN, bxOf, tkOf, bxF, frzL, V.frz, frzEL, V.frzE, V.pureR, pureRL, V.tks, tksL, V.al, alL, V.rn, rnL, addT, protT, protAll, distinctN, fill, splice, fillE, V.cells, V.cellOk, V.pm, eqSh, intsOf, maxL, minL, bounds, ranged, finish, result, rvs, finL, V.fin, one, goesOn, w1, hw, w2, w0, w3, w4, w5, w6, w7, w8, w9, hn0]
theorem run86 (a b c d : Int) (h1 : IntKind.i64.wrap (c - b) = c - b) (h2 : IntKind.i64.wrap (d - a) = d - a) : run Ft Ct 86 [.agg [I a, I b], .agg [I c, I d]] = some (.agg [I (c - b), I (d - a)]) := by
  refine run_of_body (N := 1) rfl rfl ?_
  simp [l86, evBody, params, deadL, evC, prep, prepF, prepT, V.prep, prepL, stepL, stepI, wanted, opds, opd, get, put, putO, sem, callE, loadV, partV, valO, binV, binI, binS, unV, nilCmp, apply, keepL, memN, bxOf, tkOf, bxF, frzL, V.frz, frzEL, V.frzE, V.pureR, pureRL, V.tks, tksL, V.al, alL, V.rn, rnL, addT, protT, protAll, distinctN, fill, splice, fillE, V.cells, V.cellOk, V.pm, eqSh, intsOf, maxL, minL, bounds, ranged, finish, result, rvs, finL, V.fin, one, goesOn, h1, h2]
theorem run34 (a b c d : Int) (h1 : IntKind.i64.wrap (c - b) = c - b) (h2 : IntKind.i64.wrap (d - a) = d - a) : run Ft Ct 34 [.agg [I a, I b], .agg [I c, I d]] = some (.agg [I (c - b), I (d - a)]) := by
  refine run_of_body (N := 1) rfl rfl ?_
  simp [l34, evBody, params, deadL, evC, prep, prepF, prepT, V.prep, prepL, stepL, stepI, wanted, opds, opd, get, put, putO, sem, callE, loadV, partV, valO, binV, binI, binS, unV, nilCmp, apply, keepL, memN, bxOf, tkOf, bxF, frzL, V.frz, frzEL, V.frzE, V.pureR, pureRL, V.tks, tksL, V.al, alL, V.rn, rnL, addT, protT, protAll, distinctN, fill, splice, fillE, V.cells, V.cellOk, V.pm, eqSh, intsOf, maxL, minL, bounds, ranged, finish, result, rvs, finL, V.fin, one, goesOn, h1, h2]
theorem run73 (a b c d : Int) : run Ft Ct 73 [.agg [I a, I b], .agg [I c, I d]] = some (B (decide (c ≤ a ∧ b ≤ d))) := by
  refine run_of_body (N := 1) rfl rfl ?_
  by_cases h : c ≤ a <;> simp [l73, evBody, params, deadL, evC, prep, prepF, prepT, V.prep, prepL, stepL, stepI, wanted, opds, opd, get, put, putO, sem, callE, loadV, partV, valO, binV, binI, binS, unV, nilCmp, apply, keepL, memN, bxOf, tkOf, bxF, frzL, V.frz, frzEL, V.frzE, V.pureR, pureRL, V.tks, tksL, V.al, alL, V.rn, rnL, addT, protT, protAll, distinctN, fill, splice, fillE, V.cells, V.cellOk, V.pm, eqSh, intsOf, maxL, minL, bounds, ranged, finish, result, rvs, finL, V.fin, one, goesOn, h]
theorem run78 (a b c d : Int) : run Ft Ct 78 [.agg [I a, I b], .agg [I c, I d]] = some (B (decide (c ≤ a ∧ b ≤ d))) := by
  refine run_of_body (N := 1) rfl rfl ?_
  by_cases h : c ≤ a <;> simp [l78, evBody, params, deadL, evC, prep, prepF, prepT, V.prep, prepL, stepL, stepI, wanted, opds, opd, get, put, putO, sem, callE, loadV, partV, valO, binV, binI, binS, unV, nilCmp, apply, keepL, memN, bxOf, tkOf, bxF, frzL, V.frz, frzEL, V.frzE, V.pureR, pureRL, V.tks, tksL, V.al, alL, V.rn, rnL, addT, protT, protAll, distinctN, fill, splice, fillE, V.cells, V.cellOk, V.pm, eqSh, intsOf, maxL, minL, bounds, ranged, finish, result, rvs, finL, V.fin, one, goesOn, h]
/-- A group of each: is it well? -/
def gok (sl sh nl nh wl wh : Int) (n i : Nat) : Bool :=
  decide (gl sl sh i n ≤ gh sl sh i n) && decide (gl nl nh i n ≤ gh nl nh i n) && decide (wl ≤ gl nl nh i n - gh sl sh i n ∧ gh nl nh i n - gl sl sh i n ≤ wh)
def spanOk (lo hi : Int) : Prop := 0 ≤ lo ∧ lo ≤ hi ∧ hi ≤ 20000000
def s79 (sl sh nl nh wl wh : Int) (n i : Nat) : St := { fr := [(2, I n), (4, .box [I sl, I sh]), (5, .box [I nl, I nh]), (7, .box [I wl, I wh]), (12, I n), (13, I i)], tk := [] }
theorem step79 {sl sh nl nh : Int} (wl wh : Int) (hs : spanOk sl sh) (hn : spanOk nl nh) {n i : Nat} (hi : i < n) (hn50 : n ≤ 50) (M : Nat) :
    evC (run Ft Ct) M b79_0 (s79 sl sh nl nh wl wh n i) = some (if (!gok sl sh nl nh wl wh n i) = true then (.ret, { fr := [(8, B false)], tk := [] }) else (.normal, s79 sl sh nl nh wl wh n (i + 1))) := by
  obtain ⟨a1, a2, a3⟩ := hs
  obtain ⟨b1, b2, b3⟩ := hn
  have e1 := run90 sl sh i n a1 a2 a3 (by omega) (by omega) (by omega)
  have e2 := run90 nl nh i n b1 b2 b3 (by omega) (by omega) (by omega)
  have g1 := g_bd (i := (i : Int)) (n := (n : Int)) a1 a2 a3 (by omega) (by omega) (by omega)
  have g2 := g_bd (i := (i : Int)) (n := (n : Int)) b1 b2 b3 (by omega) (by omega) (by omega)
  have hlt : (i : Int) < n := by omega
  have hw : IntKind.i64.wrap ((i : Int) + 1) = ((i + 1 : Nat) : Int) := wrap_succ hi (by omega)
  unfold gok
  generalize gl sl sh i n = x1 at *
  generalize gh sl sh i n = x2 at *
  generalize gl nl nh i n = x3 at *
  generalize gh nl nh i n = x4 at *
  have e3 := run86 x1 x2 x3 x4 (wr (by omega) (by omega)) (wr (by omega) (by omega))
  have e4 := run73 (x3 - x2) (x4 - x1) wl wh
  by_cases c1 : x1 ≤ x2
  · have c1' : ¬ x2 < x1 := by omega
    by_cases c2 : x3 ≤ x4
    · have c2' : ¬ x4 < x3 := by omega
      by_cases c3 : wl ≤ x3 - x2 ∧ x4 - x1 ≤ wh
      · rw [decide_eq_true c3] at e4
        simp [b79_0, s79, evBody, params, deadL, evC, prep, prepF, prepT, V.prep, prepL, stepL, stepI, wanted, opds, opd, get, put, putO, sem, callE, loadV, partV, valO, binV, binI, binS, unV, nilCmp, apply, keepL, memN, bxOf, tkOf, bxF, frzL, V.frz, frzEL, V.frzE, V.pureR, pureRL, V.tks, tksL, V.al, alL, V.rn, rnL, addT, protT, protAll, distinctN, fill, splice, fillE, V.cells, V.cellOk, V.pm, eqSh, intsOf, maxL, minL, bounds, ranged, finish, result, rvs, finL, V.fin, one, goesOn, hlt, e1, e2, e3, e4, c1, c1', c2, c2', c3, hw]
      · rw [decide_eq_false c3] at e4
        have c3' : (decide (wl ≤ x3 - x2) && decide (x4 - x1 ≤ wh)) = false := by rw [Bool.eq_false_iff]; simp; omega
        simp [b79_0, s79, evBody, params, deadL, evC, prep, prepF, prepT, V.prep, prepL, stepL, stepI, wanted, opds, opd, get, put, putO, sem, callE, loadV, partV, valO, binV, binI, binS, unV, nilCmp, apply, keepL, memN, bxOf, tkOf, bxF, frzL, V.frz, frzEL, V.frzE, V.pureR, pureRL, V.tks, tksL, V.al, alL, V.rn, rnL, addT, protT, protAll, distinctN, fill, splice, fillE, V.cells, V.cellOk, V.pm, eqSh, intsOf, maxL, minL, bounds, ranged, finish, result, rvs, finL, V.fin, one, goesOn, hlt, e1, e2, e3, e4, c1, c1', c2, c2', c3']
    · have c2' : x4 < x3 := by omega
      simp [b79_0, s79, evBody, params, deadL, evC, prep, prepF, prepT, V.prep, prepL, stepL, stepI, wanted, opds, opd, get, put, putO, sem, callE, loadV, partV, valO, binV, binI, binS, unV, nilCmp, apply, keepL, memN, bxOf, tkOf, bxF, frzL, V.frz, frzEL, V.frzE, V.pureR, pureRL, V.tks, tksL, V.al, alL, V.rn, rnL, addT, protT, protAll, distinctN, fill, splice, fillE, V.cells, V.cellOk, V.pm, eqSh, intsOf, maxL, minL, bounds, ranged, finish, result, rvs, finL, V.fin, one, goesOn, hlt, e1, e2, c1, c1', c2, c2']
  · have c1' : x2 < x1 := by omega
    simp [b79_0, s79, evBody, params, deadL, evC, prep, prepF, prepT, V.prep, prepL, stepL, stepI, wanted, opds, opd, get, put, putO, sem, callE, loadV, partV, valO, binV, binI, binS, unV, nilCmp, apply, keepL, memN, bxOf, tkOf, bxF, frzL, V.frz, frzEL, V.frzE, V.pureR, pureRL, V.tks, tksL, V.al, alL, V.rn, rnL, addT, protT, protAll, distinctN, fill, splice, fillE, V.cells, V.cellOk, V.pm, eqSh, intsOf, maxL, minL, bounds, ranged, finish, result, rvs, finL, V.fin, one, goesOn, hlt, e1, e2, c1, c1']
theorem run79 {sl sh nl nh : Int} (wl wh : Int) (hs : spanOk sl sh) (hn : spanOk nl nh) {n : Nat} (hn50 : n ≤ 50) : run Ft Ct 79 [.agg [I sl, I sh], .agg [I nl, I nh], I n, .agg [I wl, I wh]] = some (B ((List.range n).all (gok sl sh nl nh wl wh n))) := by
  have L := loop_find (s := s79 sl sh nl nh wl wh n) (f := evC (run Ft Ct) 51 b79_0) (n := n) (E := fun _ => (.ret, { fr := [(8, B false)], tk := [] })) (X := (.exit 0, { fr := [(2, I n), (4, .box [I sl, I sh]), (5, .box [I nl, I nh]), (7, .box [I wl, I wh]), (12, I n), (13, I n), (14, B false)], tk := [] }))
    (fun i hi => step79 wl wh hs hn hi hn50 51) (fun _ => by simp) (by simp [b79_0, s79, evBody, params, deadL, evC, prep, prepF, prepT, V.prep, prepL, stepL, stepI, wanted, opds, opd, get, put, putO, sem, callE, loadV, partV, valO, binV, binI, binS, unV, nilCmp, apply, keepL, memN, bxOf, tkOf, bxF, frzL, V.frz, frzEL, V.frzE, V.pureR, pureRL, V.tks, tksL, V.al, alL, V.rn, rnL, addT, protT, protAll, distinctN, fill, splice, fillE, V.cells, V.cellOk, V.pm, eqSh, intsOf, maxL, minL, bounds, ranged, finish, result, rvs, finL, V.fin, one, goesOn]) (by simp) n 0 (by omega)
  have L := iter_le (f := evC (run Ft Ct) 51 b79_0) (fun _ _ h => h) (show n + 1 ≤ 51 by omega) L
  refine run_of_body (N := 51) rfl rfl ?_
  generalize hF : evC (run Ft Ct) 51 b79_0 = F at L
  rw [← List.range_eq_range'] at L
  cases hf : (List.range n).find? (fun i => !gok sl sh nl nh wl wh n i) with
  | none =>
    have : (List.range n).all (gok sl sh nl nh wl wh n) = true := by
      rw [List.all_eq_true]
      intro i hi
      have := List.find?_eq_none.1 hf i hi
      simpa using this
    rw [this]
    rw [hf] at L
    simp [s79] at L
    simp [l79, evBody, params, deadL, evC, prep, prepF, prepT, V.prep, prepL, stepL, stepI, wanted, opds, opd, get, put, putO, sem, callE, loadV, partV, valO, binV, binI, binS, unV, nilCmp, apply, keepL, memN, bxOf, tkOf, bxF, frzL, V.frz, frzEL, V.frzE, V.pureR, pureRL, V.tks, tksL, V.al, alL, V.rn, rnL, addT, protT, protAll, distinctN, fill, splice, fillE, V.cells, V.cellOk, V.pm, eqSh, intsOf, maxL, minL, bounds, ranged, finish, result, rvs, finL, V.fin, one, goesOn, hF, L]
  | some j =>
    have : (List.range n).all (gok sl sh nl nh wl wh n) = false := by
      have h1 := List.find?_some hf
      have h2 := List.mem_of_find?_eq_some hf
      rw [Bool.eq_false_iff]
      intro h
      have := List.all_eq_true.1 h j h2
      rw [this] at h1
      simp at h1
    rw [this]
    rw [hf] at L
    simp [s79] at L
    simp [l79, evBody, params, deadL, evC, prep, prepF, prepT, V.prep, prepL, stepL, stepI, wanted, opds, opd, get, put, putO, sem, callE, loadV, partV, valO, binV, binI, binS, unV, nilCmp, apply, keepL, memN, bxOf, tkOf, bxF, frzL, V.frz, frzEL, V.frzE, V.pureR, pureRL, V.tks, tksL, V.al, alL, V.rn, rnL, addT, protT, protAll, distinctN, fill, splice, fillE, V.cells, V.cellOk, V.pm, eqSh, intsOf, maxL, minL, bounds, ranged, finish, result, rvs, finL, V.fin, one, goesOn, hF, L]
end Go.Lo
