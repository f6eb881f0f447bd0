/- The law 'groups that are sorted' answers true. -/
import Derived.Test.YtifanigkolnedaaSm
namespace Go.Lo
open Go.Proofs
set_option linter.unusedSimpArgs false
theorem run47b (lo hi n : Int) (h1 : -10000000000 ≤ lo) (h2 : lo ≤ hi) (h3 : hi ≤ 10000000000) (hn : 0 ≤ n ∧ n ≤ 1000000000000) : ∃ d, run Ft Ct 47 [.agg [I lo, I hi], I n] = some (I d) ∧ lo ≤ d ∧ d ≤ hi := by
  have t := tmod_nn hn.1 (show 0 < hi - lo + 1 by omega)
  have w1 : IntKind.i64.wrap (hi - lo) = hi - lo := wr (by omega) (by omega)
  have w2 : IntKind.i64.wrap (hi - lo + 1) = hi - lo + 1 := wr (by omega) (by omega)
  have w3 : IntKind.i64.wrap (lo + n.tmod (hi - lo + 1)) = lo + n.tmod (hi - lo + 1) := wr (by omega) (by omega)
  have h0 : ¬ (hi - lo + 1 = 0) := by omega
  refine ⟨lo + n.tmod (hi - lo + 1), run_of_body (N := 1) rfl rfl ?_, by omega, by omega⟩
  simp [l47, evBody, params, deadL, evC, prep, prepF, prepT, V.prep, prepL, stepL, stepI, wanted, opds, opd, get, put, putO, sem, callE, loadV, partV, valO, binV, binI, binS, unV, nilCmp, apply, keepL, memN, bxOf, tkOf, bxF, frzL, V.frz, frzEL, V.frzE, V.pureR, pureRL, V.tks, tksL, V.al, alL, V.rn, rnL, addT, protT, protAll, distinctN, fill, splice, fillE, V.cells, V.cellOk, V.pm, eqSh, intsOf, maxL, minL, bounds, ranged, finish, result, rvs, finL, V.fin, one, goesOn, w1, w2, w3, h0]
def U8 (n : Int) : V := .int .u8 n
def s11a (v : List V) (sl sh nl nh wl wh n e least k : Int) : St := { fr := [(5, .box v), (7, .box [I sl, I sh]), (8, .box [I nl, I nh]), (10, .box [I wl, I wh]), (11, I n), (12, I e), (13, I least), (14, .box [.fn (.f 50) []]), (15, .fn (.f 51) [.ref 14 0, .ref 7 0, .ref 8 0, .ref 10 0]), (16, I k)], tk := [] }
theorem step11a (v : List V) {sl sh nl nh : Int} (wl wh : Int) (hs : spanOk sl sh) (hn : spanOk nl nh) (n e least : Int) {i : Nat} (hi : i < 50) (hk : ((i + 1 : Nat) : Int) < least ∨ (((i + 1 : Nat) : Int) = 50 ∧ e ≠ 0)) (hg : gall sl sh nl nh wl wh (i + 1) = false) (M : Nat) :
    evC (run Ft Ct) M b11_0 (s11a v sl sh nl nh wl wh n e least ((i + 1 : Nat) : Int)) = some (.normal, s11a v sl sh nl nh wl wh n e least ((i + 1 + 1 : Nat) : Int)) := by
  have h := run51 wl wh hs hn (n := i + 1) (by omega)
  rw [hg] at h
  have hw : IntKind.i64.wrap (((i + 1 : Nat) : Int) + 1) = ((i + 1 + 1 : Nat) : Int) := wrap_succ (n := 51) (by omega) (by omega)
  generalize ((i + 1 + 1 : Nat) : Int) = m at *
  generalize ((i + 1 : Nat) : Int) = k at *
  rcases hk with hk | ⟨hk, he⟩
  · simp [b11_0, s11a, evBody, params, deadL, evC, prep, prepF, prepT, V.prep, prepL, stepL, stepI, wanted, opds, opd, get, put, putO, sem, callE, loadV, partV, valO, binV, binI, binS, unV, nilCmp, apply, keepL, memN, bxOf, tkOf, bxF, frzL, V.frz, frzEL, V.frzE, V.pureR, pureRL, V.tks, tksL, V.al, alL, V.rn, rnL, addT, protT, protAll, distinctN, fill, splice, fillE, V.cells, V.cellOk, V.pm, eqSh, intsOf, maxL, minL, bounds, ranged, finish, result, rvs, finL, V.fin, one, goesOn, hk, h, hw]
  · subst hk
    have hw : IntKind.i64.wrap 51 = m := hw
    by_cases hl : 50 < least
    · simp [b11_0, s11a, evBody, params, deadL, evC, prep, prepF, prepT, V.prep, prepL, stepL, stepI, wanted, opds, opd, get, put, putO, sem, callE, loadV, partV, valO, binV, binI, binS, unV, nilCmp, apply, keepL, memN, bxOf, tkOf, bxF, frzL, V.frz, frzEL, V.frzE, V.pureR, pureRL, V.tks, tksL, V.al, alL, V.rn, rnL, addT, protT, protAll, distinctN, fill, splice, fillE, V.cells, V.cellOk, V.pm, eqSh, intsOf, maxL, minL, bounds, ranged, finish, result, rvs, finL, V.fin, one, goesOn, hl, h, hw]
    · simp [b11_0, s11a, evBody, params, deadL, evC, prep, prepF, prepT, V.prep, prepL, stepL, stepI, wanted, opds, opd, get, put, putO, sem, callE, loadV, partV, valO, binV, binI, binS, unV, nilCmp, apply, keepL, memN, bxOf, tkOf, bxF, frzL, V.frz, frzEL, V.frzE, V.pureR, pureRL, V.tks, tksL, V.al, alL, V.rn, rnL, addT, protT, protAll, distinctN, fill, splice, fillE, V.cells, V.cellOk, V.pm, eqSh, intsOf, maxL, minL, bounds, ranged, finish, result, rvs, finL, V.fin, one, goesOn, hl, he, h, hw]
theorem end11a (v : List V) (sl sh nl nh wl wh n e least k : Int) (h1 : ¬ k < least) (h2 : ¬ (k = 50 ∧ e ≠ 0)) (M : Nat) :
    evC (run Ft Ct) M b11_0 (s11a v sl sh nl nh wl wh n e least k) = some (.exit 0, { s11a v sl sh nl nh wl wh n e least k with fr := (s11a v sl sh nl nh wl wh n e least k).fr ++ [(123, B false)] }) := by
  by_cases hk : k = 50
  · have he : e = 0 := by
      apply Decidable.byContradiction; intro x; exact h2 ⟨hk, x⟩
    subst hk he
    simp [b11_0, s11a, evBody, params, deadL, evC, prep, prepF, prepT, V.prep, prepL, stepL, stepI, wanted, opds, opd, get, put, putO, sem, callE, loadV, partV, valO, binV, binI, binS, unV, nilCmp, apply, keepL, memN, bxOf, tkOf, bxF, frzL, V.frz, frzEL, V.frzE, V.pureR, pureRL, V.tks, tksL, V.al, alL, V.rn, rnL, addT, protT, protAll, distinctN, fill, splice, fillE, V.cells, V.cellOk, V.pm, eqSh, intsOf, maxL, minL, bounds, ranged, finish, result, rvs, finL, V.fin, one, goesOn, h1]
  · simp [b11_0, s11a, evBody, params, deadL, evC, prep, prepF, prepT, V.prep, prepL, stepL, stepI, wanted, opds, opd, get, put, putO, sem, callE, loadV, partV, valO, binV, binI, binS, unV, nilCmp, apply, keepL, memN, bxOf, tkOf, bxF, frzL, V.frz, frzEL, V.frzE, V.pureR, pureRL, V.tks, tksL, V.al, alL, V.rn, rnL, addT, protT, protAll, distinctN, fill, splice, fillE, V.cells, V.cellOk, V.pm, eqSh, intsOf, maxL, minL, bounds, ranged, finish, result, rvs, finL, V.fin, one, goesOn, h1, hk]
def cnt (sl sh d : Int) (n i : Nat) : Int := if d < gl sl sh i n then 1 else 0
def s11b (v0 v1 v2 v3 : Int) (sl sh nl nh wl wh d : Int) (n i : Nat) : St := { fr := [(5, .box [U8 v0, U8 v1, U8 v2, U8 v3]), (7, .box [I sl, I sh]), (8, .box [I nl, I nh]), (10, .box [I wl, I wh]), (11, I n), (14, .box [.fn (.f 50) []]), (17, I d), (18, I (cnt sl sh d n i)), (19, I i)], tk := [] }
theorem step11b (v0 v1 v2 v3 : Int) {sl sh nl nh : Int} (wl wh d : Int) (hs : spanOk sl sh) (hn : spanOk nl nh) {n i : Nat} (hi : i < n) (hn50 : n ≤ 50) (hv : 0 ≤ v3 ∧ v3 < 256) (hg : gok sl sh nl nh wl wh n i = true) (hd : -100000000 ≤ d ∧ d ≤ 100000000) (M : Nat) :
    evC (run Ft Ct) M b11_1 (s11b v0 v1 v2 v3 sl sh nl nh wl wh d n i) = some (.normal, s11b v0 v1 v2 v3 sl sh nl nh wl wh d n (i + 1)) := by
  have hs' := hs
  have hn' := hn
  obtain ⟨a1, a2, a3⟩ := hs'
  obtain ⟨b1, b2, b3⟩ := hn'
  have e1 := run50 sl sh i n a1 a2 a3 (by omega) (by omega) (by omega)
  have e2 := run50 nl nh i n b1 b2 b3 (by omega) (by omega) (by omega)
  have g1 := g_bd (i := (i : Int)) (n := (n : Int)) a1 a2 a3 (by omega) (by omega) (by omega)
  have g2 := g_bd (i := (i : Int)) (n := (n : Int)) b1 b2 b3 (by omega) (by omega) (by omega)
  have gn : gl sl sh ((i + 1 : Nat) : Int) n = gh sl sh i n + 1 := by unfold gl gh; rw [show ((i + 1 : Nat) : Int) = (i : Int) + 1 by omega]; omega
  have hlt : (i : Int) < n := by omega
  have hw : IntKind.i64.wrap ((i : Int) + 1) = ((i + 1 : Nat) : Int) := wrap_succ hi (by omega)
  have x0 : IntKind.i64.wrap v3 = v3 := wr (by omega) (by omega)
  unfold gok at hg
  unfold s11b cnt
  rw [gn]
  simp only [Bool.and_eq_true, decide_eq_true_eq] at hg
  obtain ⟨⟨c1, c2⟩, c3, c4⟩ := hg
  generalize ((i + 1 : Nat) : Int) = m at *
  generalize gl sl sh i n = x1 at *
  generalize gh sl sh i n = x2 at *
  generalize gl nl nh i n = x3 at *
  generalize gh nl nh i n = x4 at *
  have r1 := run46 d x1 x2
  obtain ⟨d2, e3, k1, k2⟩ := run47b x3 x4 v3 (by omega) c2 (by omega) (by omega)
  have r2 := run46 (d2 - d) wl wh
  have y1 : IntKind.i64.wrap (d2 - d) = d2 - d := wr (by omega) (by omega)
  have y2 : IntKind.i64.wrap 1 = 1 := wr (by omega) (by omega)
  by_cases q1 : d < x1
  · rw [decide_eq_false (by omega)] at r1
    rw [if_pos q1, if_pos (show d < x2 + 1 by omega)]
    simp [b11_1, U8, evBody, params, deadL, evC, prep, prepF, prepT, V.prep, prepL, stepL, stepI, wanted, opds, opd, get, put, putO, sem, callE, loadV, partV, valO, binV, binI, binS, unV, nilCmp, apply, keepL, memN, bxOf, tkOf, bxF, frzL, V.frz, frzEL, V.frzE, V.pureR, pureRL, V.tks, tksL, V.al, alL, V.rn, rnL, addT, protT, protAll, distinctN, fill, splice, fillE, V.cells, V.cellOk, V.pm, eqSh, intsOf, maxL, minL, bounds, ranged, finish, result, rvs, finL, V.fin, one, goesOn, hlt, e1, r1, hw]
  · rw [if_neg q1]
    by_cases q2 : d ≤ x2
    · rw [decide_eq_true (by omega)] at r1
      rw [decide_eq_true (by omega)] at r2
      rw [if_pos (show d < x2 + 1 by omega)]
      simp [b11_1, U8, evBody, params, deadL, evC, prep, prepF, prepT, V.prep, prepL, stepL, stepI, wanted, opds, opd, get, put, putO, sem, callE, loadV, partV, valO, binV, binI, binS, unV, nilCmp, apply, keepL, memN, bxOf, tkOf, bxF, frzL, V.frz, frzEL, V.frzE, V.pureR, pureRL, V.tks, tksL, V.al, alL, V.rn, rnL, addT, protT, protAll, distinctN, fill, splice, fillE, V.cells, V.cellOk, V.pm, eqSh, intsOf, maxL, minL, bounds, ranged, finish, result, rvs, finL, V.fin, one, goesOn, hlt, e1, e2, e3, r1, r2, hw, x0, y1, y2]
    · rw [decide_eq_false (by omega)] at r1
      rw [if_neg (show ¬ d < x2 + 1 by omega)]
      simp [b11_1, U8, evBody, params, deadL, evC, prep, prepF, prepT, V.prep, prepL, stepL, stepI, wanted, opds, opd, get, put, putO, sem, callE, loadV, partV, valO, binV, binI, binS, unV, nilCmp, apply, keepL, memN, bxOf, tkOf, bxF, frzL, V.frz, frzEL, V.frzE, V.pureR, pureRL, V.tks, tksL, V.al, alL, V.rn, rnL, addT, protT, protAll, distinctN, fill, splice, fillE, V.cells, V.cellOk, V.pm, eqSh, intsOf, maxL, minL, bounds, ranged, finish, result, rvs, finL, V.fin, one, goesOn, hlt, e1, r1, hw]
theorem gl_zero (lo hi n : Int) : gl lo hi 0 n = lo := by unfold gl; simp
theorem gl_top (lo hi : Int) {n : Int} (hn : 0 < n) : gl lo hi n n = hi + 1 := by
  unfold gl
  rw [Int.mul_comm, Int.mul_tdiv_cancel _ (by omega)]
  omega
theorem gall_gok {sl sh nl nh wl wh : Int} {n i : Nat} (h : gall sl sh nl nh wl wh n = true) (hi : i < n) : gok sl sh nl nh wl wh n i = true :=
  List.all_eq_true.1 h i (List.mem_range.2 hi)
theorem loop11b (v0 v1 v2 v3 : Int) {sl sh nl nh : Int} (wl wh d : Int) (hs : spanOk sl sh) (hn : spanOk nl nh) {n : Nat} (hn50 : n ≤ 50) (hn0 : 0 < n) (hv : 0 ≤ v3 ∧ v3 < 256) (hg : gall sl sh nl nh wl wh n = true) (hd : sl ≤ d ∧ d ≤ sh) (M : Nat) :
    iter (evC (run Ft Ct) M b11_1) 51 (s11b v0 v1 v2 v3 sl sh nl nh wl wh d n 0) = some (.exit 2, { fr := [(5, .box [U8 v0, U8 v1, U8 v2, U8 v3]), (7, .box [I sl, I sh]), (8, .box [I nl, I nh]), (10, .box [I wl, I wh]), (11, I n), (14, .box [.fn (.f 50) []]), (17, I d), (18, I 1), (19, I n), (139, B false)], tk := [] }) := by
  have L := loop_all (s := s11b v0 v1 v2 v3 sl sh nl nh wl wh d n) (f := evC (run Ft Ct) M b11_1) (n := n) (X := (.exit 2, { fr := [(5, .box [U8 v0, U8 v1, U8 v2, U8 v3]), (7, .box [I sl, I sh]), (8, .box [I nl, I nh]), (10, .box [I wl, I wh]), (11, I n), (14, .box [.fn (.f 50) []]), (17, I d), (18, I 1), (19, I n), (139, B false)], tk := [] }))
    (fun i hi => step11b v0 v1 v2 v3 wl wh d hs hn hi hn50 hv (gall_gok hg hi) (by unfold spanOk at hs; omega) M) (by
      have hc : cnt sl sh d n n = 1 := by unfold cnt; rw [gl_top _ _ (by omega), if_pos (by omega)]
      unfold s11b
      rw [hc]
      simp [b11_1, evBody, params, deadL, evC, prep, prepF, prepT, V.prep, prepL, stepL, stepI, wanted, opds, opd, get, put, putO, sem, callE, loadV, partV, valO, binV, binI, binS, unV, nilCmp, apply, keepL, memN, bxOf, tkOf, bxF, frzL, V.frz, frzEL, V.frzE, V.pureR, pureRL, V.tks, tksL, V.al, alL, V.rn, rnL, addT, protT, protAll, distinctN, fill, splice, fillE, V.cells, V.cellOk, V.pm, eqSh, intsOf, maxL, minL, bounds, ranged, finish, result, rvs, finL, V.fin, one, goesOn]) (by simp)
  exact iter_le (f := evC (run Ft Ct) M b11_1) (fun _ _ h => h) (show n + 1 ≤ 51 by omega) L
theorem loop11a (v : List V) {sl sh nl nh : Int} (wl wh : Int) (hs : spanOk sl sh) (hn : spanOk nl nh) (M : Nat) :
    match groups sl sh nl nh wl wh with
    | some j => iter (evC (run Ft Ct) M b11_0) 51 (s11a v sl sh nl nh wl wh ((j + 1 : Nat) : Int) 0 ((j + 1 : Nat) : Int) 1) = some (.exit 0, { s11a v sl sh nl nh wl wh ((j + 1 : Nat) : Int) 0 ((j + 1 : Nat) : Int) ((j + 1 : Nat) : Int) with fr := (s11a v sl sh nl nh wl wh ((j + 1 : Nat) : Int) 0 ((j + 1 : Nat) : Int) ((j + 1 : Nat) : Int)).fr ++ [(123, B false)] })
    | none => iter (evC (run Ft Ct) M b11_0) 51 (s11a v sl sh nl nh wl wh 0 7 50 1) = some (.exit 0, { s11a v sl sh nl nh wl wh 0 7 50 51 with fr := (s11a v sl sh nl nh wl wh 0 7 50 51).fr ++ [(123, B false)] }) := by
  cases hg : groups sl sh nl nh wl wh with
  | none =>
    have hno : ∀ i, i < 50 → gall sl sh nl nh wl wh (i + 1) = false := by
      intro i hi
      have := List.find?_eq_none.1 hg i (List.mem_range.2 hi)
      simpa using this
    have L := loop_all (s := fun i => s11a v sl sh nl nh wl wh 0 7 50 ((i + 1 : Nat) : Int)) (f := evC (run Ft Ct) M b11_0) (n := 50) (X := (.exit 0, { s11a v sl sh nl nh wl wh 0 7 50 51 with fr := (s11a v sl sh nl nh wl wh 0 7 50 51).fr ++ [(123, B false)] }))
      (fun i hi => step11a v wl wh hs hn 0 7 50 hi (by omega) (hno i hi) M) (end11a v sl sh nl nh wl wh 0 7 50 51 (by omega) (by omega) M) (by simp)
    exact L
  | some j =>
    have hj : j < 50 := List.mem_range.1 (List.mem_of_find?_eq_some hg)
    have hno : ∀ i, i < j → gall sl sh nl nh wl wh (i + 1) = false := by
      intro i hi
      obtain ⟨h1, ps, qs, h2, h3⟩ := List.find?_eq_some_iff_append.1 hg
      have hl : ps.length = j := by
        have e1 : (List.range 50)[ps.length]? = some j := by rw [h2]; simp
        have e2 : ps.length < 50 := by
          have : (List.range 50).length = (ps ++ j :: qs).length := by rw [h2]
          simp at this; omega
        rw [List.getElem?_range e2] at e1
        exact Option.some.inj e1
      have e3 : ps[i]? = some i := by
        have e1 : (List.range 50)[i]? = some i := List.getElem?_range (by omega)
        rw [h2, List.getElem?_append_left (by omega)] at e1
        exact e1
      have := h3 i (List.mem_of_getElem? e3)
      simpa using this
    have L := loop_all (s := fun i => s11a v sl sh nl nh wl wh ((j + 1 : Nat) : Int) 0 ((j + 1 : Nat) : Int) ((i + 1 : Nat) : Int)) (f := evC (run Ft Ct) M b11_0) (n := j) (X := (.exit 0, { s11a v sl sh nl nh wl wh ((j + 1 : Nat) : Int) 0 ((j + 1 : Nat) : Int) ((j + 1 : Nat) : Int) with fr := (s11a v sl sh nl nh wl wh ((j + 1 : Nat) : Int) 0 ((j + 1 : Nat) : Int) ((j + 1 : Nat) : Int)).fr ++ [(123, B false)] }))
      (fun i hi => step11a v wl wh hs hn _ 0 _ (by omega) (by omega) (hno i hi) M) (end11a v sl sh nl nh wl wh _ 0 _ _ (by omega) (by omega) M) (by simp)
    exact iter_le (f := evC (run Ft Ct) M b11_0) (fun _ _ h => h) (show j + 1 ≤ 51 by omega) L
set_option maxHeartbeats 8000000 in
theorem run11 (a0 a1 w0 w1 v0 v1 v2 v3 : Int) (ha0 : 0 ≤ a0 ∧ a0 < 256) (ha1 : 0 ≤ a1 ∧ a1 < 256) (hw0 : 0 ≤ w0 ∧ w0 < 65536) (hw1 : 0 ≤ w1 ∧ w1 < 65536) (hv0 : 0 ≤ v0 ∧ v0 < 256) (hv1 : 0 ≤ v1 ∧ v1 < 256) (hv2 : 0 ≤ v2 ∧ v2 < 256) (hv3 : 0 ≤ v3 ∧ v3 < 256) :
    run Ft Ct 11 [.agg [U8 a0, U8 a1], .agg [.int .u16 w0, .int .u16 w1], .agg [U8 v0, U8 v1, U8 v2, U8 v3]] = some (B true) := by
  have hkn := run13
  obtain ⟨r1, m1, b1⟩ : ∃ r, w0.tmod 300 = r ∧ 0 ≤ r ∧ r < 300 := ⟨_, rfl, tmod_nn hw0.1 (by omega)⟩
  obtain ⟨r2, m2, b2⟩ : ∃ r, w1.tmod 300 = r ∧ 0 ≤ r ∧ r < 300 := ⟨_, rfl, tmod_nn hw1.1 (by omega)⟩
  obtain ⟨sl, hsl⟩ : ∃ x, 1000 + a0 = x := ⟨_, rfl⟩
  obtain ⟨sh, hsh⟩ : ∃ x, sl + r1 = x := ⟨_, rfl⟩
  obtain ⟨nl, hnl⟩ : ∃ x, 1000 + a1 = x := ⟨_, rfl⟩
  obtain ⟨nh, hnh⟩ : ∃ x, nl + r2 = x := ⟨_, rfl⟩
  obtain ⟨h1, hh1, q1⟩ : ∃ x, (nh - nl).tdiv 2 = x ∧ 0 ≤ x ∧ x ≤ 300 := ⟨_, rfl, tdiv_nn (by omega) (by omega) (by omega)⟩
  obtain ⟨h2, hh2, q2⟩ : ∃ x, (sh - sl).tdiv 2 = x ∧ 0 ≤ x ∧ x ≤ 300 := ⟨_, rfl, tdiv_nn (by omega) (by omega) (by omega)⟩
  obtain ⟨mid, hmid⟩ : ∃ x, nl + h1 - sl - h2 = x := ⟨_, rfl⟩
  obtain ⟨wl, hwl⟩ : ∃ x, mid - v0 = x := ⟨_, rfl⟩
  obtain ⟨wh, hwh⟩ : ∃ x, mid + v1 = x := ⟨_, rfl⟩
  have x0 : IntKind.i64.wrap a0 = a0 := wr (by omega) (by omega)
  have x1 : IntKind.i64.wrap a1 = a1 := wr (by omega) (by omega)
  have x2 : IntKind.i64.wrap w0 = w0 := wr (by omega) (by omega)
  have x3 : IntKind.i64.wrap w1 = w1 := wr (by omega) (by omega)
  have x4 : IntKind.i64.wrap v0 = v0 := wr (by omega) (by omega)
  have x5 : IntKind.i64.wrap v1 = v1 := wr (by omega) (by omega)
  have x6 : IntKind.i64.wrap v2 = v2 := wr (by omega) (by omega)
  have x7 : IntKind.i64.wrap (1000 + a0) = sl := by rw [hsl]; exact wr (by omega) (by omega)
  have x8 : IntKind.i64.wrap (1000 + a1) = nl := by rw [hnl]; exact wr (by omega) (by omega)
  have x9 : IntKind.i64.wrap (sl + r1) = sh := by rw [hsh]; exact wr (by omega) (by omega)
  have xa : IntKind.i64.wrap (nl + r2) = nh := by rw [hnh]; exact wr (by omega) (by omega)
  have xb : IntKind.i64.wrap (nh - nl) = nh - nl := wr (by omega) (by omega)
  have xc : IntKind.i64.wrap (sh - sl) = sh - sl := wr (by omega) (by omega)
  have xd : IntKind.i64.wrap h1 = h1 := wr (by omega) (by omega)
  have xe : IntKind.i64.wrap h2 = h2 := wr (by omega) (by omega)
  have xf : IntKind.i64.wrap (nl + h1) = nl + h1 := wr (by omega) (by omega)
  have xg : IntKind.i64.wrap (nl + h1 - sl) = nl + h1 - sl := wr (by omega) (by omega)
  have xh : IntKind.i64.wrap (nl + h1 - sl - h2) = mid := by rw [hmid]; exact wr (by omega) (by omega)
  have xi : IntKind.i64.wrap (mid - v0) = wl := by rw [hwl]; exact wr (by omega) (by omega)
  have xj : IntKind.i64.wrap (mid + v1) = wh := by rw [hwh]; exact wr (by omega) (by omega)
  have xr1 : IntKind.i64.wrap r1 = r1 := wr (by omega) (by omega)
  have xr2 : IntKind.i64.wrap r2 = r2 := wr (by omega) (by omega)
  have f1 := run26 sl sh
  have f2 := run26 nl nh
  have f3 := run26 wl wh
  have hs : spanOk sl sh := by unfold spanOk; omega
  have hn : spanOk nl nh := by unfold spanOk; omega
  have h41 := run41 sl sh nl nh wl wh
  rw [if_pos ⟨hs, hn, by omega⟩] at h41
  have hl := loop11a [U8 v0, U8 v1, U8 v2, U8 v3] wl wh hs hn 51
  refine run_of_body (N := 51) rfl rfl ?_
  cases hg : groups sl sh nl nh wl wh with
  | none =>
    rw [hg] at h41 hl
    simp only at h41 hl
    generalize hF : evC (run Ft Ct) 51 b11_0 = F at hl
    simp [s11a, U8] at hl
    simp [l11, U8, evBody, params, deadL, evC, prep, prepF, prepT, V.prep, prepL, stepL, stepI, wanted, opds, opd, get, put, putO, sem, callE, loadV, partV, valO, binV, binI, binS, unV, nilCmp, apply, keepL, memN, bxOf, tkOf, bxF, frzL, V.frz, frzEL, V.frzE, V.pureR, pureRL, V.tks, tksL, V.al, alL, V.rn, rnL, addT, protT, protAll, distinctN, fill, splice, fillE, V.cells, V.cellOk, V.pm, eqSh, intsOf, maxL, minL, bounds, ranged, finish, result, rvs, finL, V.fin, one, goesOn, m1, m2, hh1, hh2, x0, x1, x2, x3, x4, x5, x7, x8, x9, xa, xb, xc, xd, xe, xf, xg, xh, xi, xj, xr1, xr2, f1, f2, f3, h41, hF, hl, hkn]
  | some j =>
    have hj : j < 50 := List.mem_range.1 (List.mem_of_find?_eq_some hg)
    have hj2 := List.find?_some hg
    rw [hg] at h41 hl
    simp only at h41 hl hj2
    obtain ⟨d, g1, g2⟩ := run47 sl sh v2 (by omega) (by omega) (by omega) (by omega)
    have h51 := run51 wl wh hs hn (n := j + 1) (by omega)
    rw [hj2] at h51
    have hb := loop11b v0 v1 v2 v3 wl wh d hs hn (n := j + 1) (by omega) (by omega) hv3 hj2 g2 51
    have hc : cnt sl sh d (j + 1) 0 = 0 := by unfold cnt; rw [show ((0 : Nat) : Int) = 0 from rfl, gl_zero, if_neg (by omega)]
    unfold s11b at hb
    rw [hc] at hb
    have t1 : ¬ ((j + 1 : Nat) : Int) < 1 := by omega
    have t2 : ¬ 50 < ((j + 1 : Nat) : Int) := by omega
    generalize ((j + 1 : Nat) : Int) = n at *
    generalize hF : evC (run Ft Ct) 51 b11_0 = F at hl
    generalize hG : evC (run Ft Ct) 51 b11_1 = G at hb
    simp [s11a, U8] at hl
    simp [U8] at hb
    simp [l11, U8, evBody, params, deadL, evC, prep, prepF, prepT, V.prep, prepL, stepL, stepI, wanted, opds, opd, get, put, putO, sem, callE, loadV, partV, valO, binV, binI, binS, unV, nilCmp, apply, keepL, memN, bxOf, tkOf, bxF, frzL, V.frz, frzEL, V.frzE, V.pureR, pureRL, V.tks, tksL, V.al, alL, V.rn, rnL, addT, protT, protAll, distinctN, fill, splice, fillE, V.cells, V.cellOk, V.pm, eqSh, intsOf, maxL, minL, bounds, ranged, finish, result, rvs, finL, V.fin, one, goesOn, m1, m2, hh1, hh2, x0, x1, x2, x3, x4, x5, x6, x7, x8, x9, xa, xb, xc, xd, xe, xf, xg, xh, xi, xj, xr1, xr2, f1, f2, f3, h41, g1, h51, t1, t2, hF, hl, hG, hb, hkn]
end Go.Lo
