/- A table is checked: by the program, and by the reference. -/
import Derived.Test.YtifanigkolnedaaUa
/-! A table is checked: by the program. -/
namespace Go.Lo
open Go.Proofs
set_option linter.unusedSimpArgs false
def at0 (s : List Int) (i : Nat) : Int := s.getD i 0
def aft (s : List Int) (i : Nat) : Int := if i = 0 then 1 else at0 s (i - 1) + 1
def stepB (s : List Int) (i : Nat) : Bool := decide (aft s i ≤ at0 s i ∧ at0 s i ≤ 10000000)
def formB (n : Nat) (r : List Int) : Bool := !decide ((r.length : Int) = n)
/-- The error of a table. -/
def chk (s : List Int) (g p : List (List Int)) : Int :=
  if 20 < s.length ∨ 12 < g.length ∨ 12 < p.length then 5
  else if g.any (formB s.length) = true ∨ p.any (formB s.length) = true then 4
  else if (List.range s.length).all (stepB s) = true ∧ s ≠ [] ∧ g ≠ [] ∧ p ≠ [] ∧ g.all (inR 0 100000) = true ∧ p.all (inR (-100000) 100000) = true then 0 else 2
abbrev lst2 (g : List (V × List Int)) : List (List Int) := g.map (·.2)
theorem lst2_len (g : List (V × List Int)) : (lst2 g).length = g.length := List.length_map _
/-- A table's slices. -/
structure Tab (a b c : V) (s : List Int) (g p : List (V × List Int)) : Prop where
  a : Ints a s
  b : RowsV b g
  c : RowsV c p
  w : ∀ x ∈ s, i64 x
theorem run56c {a b c v : V} {s : List Int} {g p rs : List (V × List Int)} (h : Tab a b c s g p) (hv : RowsV v rs) (hl : rs.length < 9223372036854775807) :
    run Ft Ct 56 [v, .fn (.f 57) [.cref [a, b, c]]] = some (B ((lst2 rs).any (formB s.length))) := by
  have := run56 (g := 57) (caps := [.cref [a, b, c]]) (p := fun r => !((els r).length == (els a).length)) hv (fun rd => by simp [frzL, V.frz]) (fun r hr => run57 (hv.row r hr).sl h.a.sl h.b.sl h.c.sl) hl
  rw [this]
  congr 2
  rw [Bool.eq_iff_iff, List.any_eq_true, List.any_eq_true]
  constructor
  · rintro ⟨r, h1, h2⟩
    refine ⟨r.2, List.mem_map_of_mem h1, ?_⟩
    rw [(hv.row r h1).len, h.a.len] at h2
    simp at h2
    simp [formB]
    omega
  · rintro ⟨x, h1, h2⟩
    obtain ⟨r, h3, rfl⟩ := List.mem_map.1 h1
    refine ⟨r, h3, ?_⟩
    rw [(hv.row r h3).len, h.a.len]
    simp [formB] at h2
    simp
    omega
def s15a (a b c : V) (i : Int) : St := { fr := [(1, .box [a, b, c]), (27, .agg [b, c]), (28, I i)], tk := [] }
theorem loop15a {a b c : V} {s : List Int} {g p : List (V × List Int)} (h : Tab a b c s g p) (hg : g.length < 9223372036854775807) (hp : p.length < 9223372036854775807) (M : Nat) :
    iter (evC (run Ft Ct) M b15_0) 3 (s15a a b c 0) = some (if (lst2 g).any (formB s.length) = true ∨ (lst2 p).any (formB s.length) = true then (.ret, { fr := [(1, .box [a, b, c]), (2, I 4)], tk := [] }) else (.exit 0, { fr := [(1, .box [a, b, c]), (27, .agg [b, c]), (28, I 2), (29, B false)], tk := [] })) := by
  have e1 := run56c h h.b hg
  have e2 := run56c h h.c hp
  have k1 : IntKind.i64.wrap 1 = 1 := wr (by omega) (by omega)
  have k2 : IntKind.i64.wrap 2 = 2 := wr (by omega) (by omega)
  have ha := h.a.sl
  have hb := h.b.sl
  have hc := h.c.sl
  have p0 : evC (run Ft Ct) M b15_0 (s15a a b c 0) = some (if (lst2 g).any (formB s.length) = true then (.ret, { fr := [(1, .box [a, b, c]), (2, I 4)], tk := [] }) else (.normal, s15a a b c 1)) := by
    cases hx : (lst2 g).any (formB s.length) <;> rw [hx] at e1 <;> simp [b15_0, s15a, evBody, params, deadL, evC, prep, prepF, prepT, V.prep, prepL, stepL, stepI, wanted, opds, get, put, putO, callE, loadV, partV, valO, binV, binI, binS, unV, nilCmp, apply, keepL, memN, bxOf, tkOf, bxF, frzL, V.frz, frzEL, V.frzE, V.pureR, pureRL, V.tks, tksL, V.al, alL, V.rn, rnL, addT, protT, protAll, distinctN, fill, splice, fillE, eqSh, intsOf, maxL, minL, bounds, ranged, finish, result, rvs, finL, V.fin, one, goesOn, opd_t, opd_c, opd_f, opdV_box, opdV_int, opdV_bool, opdV_agg, opdV_tup, opdV_nil, opdV_sl, opdV_fn, opdV_ref, opdV_cref, opdV_eref, opdV_isSl, frz_isSl, frzE_isSl, cells_isSl, cellOk_isSl, pm_isSl, prep_isSl, fin_isSl, ranged_isSl, pureR_isSl, sem_len_isSl, sem_ixs_isSl, sem_len_sl, sem_len_nil, sem_ixs_none, sem_ixs_some, semR, semx_mv, semx_pick, semx_box, semx_alloc, semx_build, semx_bsl, semx_load, semx_store, semx_bin, semx_eqs, semx_un, semx_conv, semx_mkf, semx_mkm, semx_fa, semx_fld, semx_ixa, semx_idx, semx_mks, semx_sls, semx_ext, semx_call, semx_append, semx_appz, semx_trunc, semx_cap, semx_min, semx_max, semx_nilc, opdV_und, opdV_dead, opdV_none, cellOk_bool, cells_bool, cellOk_int, cells_int, cellOk_nil, cells_nil, cellOk_sl, cells_sl, cellOk_fn, cells_fn, cellOk_ref, cells_ref, cellOk_cref, cells_cref, cellOk_eref, cells_eref, cells_agg, pm_bool, pm_int, pm_nil, pm_slN, pm_slS, pm_fn, ha, hb, hc, e1, k1]
  have p1 : evC (run Ft Ct) M b15_0 (s15a a b c 1) = some (if (lst2 p).any (formB s.length) = true then (.ret, { fr := [(1, .box [a, b, c]), (2, I 4)], tk := [] }) else (.normal, s15a a b c 2)) := by
    cases hx : (lst2 p).any (formB s.length) <;> rw [hx] at e2 <;> simp [b15_0, s15a, evBody, params, deadL, evC, prep, prepF, prepT, V.prep, prepL, stepL, stepI, wanted, opds, get, put, putO, callE, loadV, partV, valO, binV, binI, binS, unV, nilCmp, apply, keepL, memN, bxOf, tkOf, bxF, frzL, V.frz, frzEL, V.frzE, V.pureR, pureRL, V.tks, tksL, V.al, alL, V.rn, rnL, addT, protT, protAll, distinctN, fill, splice, fillE, eqSh, intsOf, maxL, minL, bounds, ranged, finish, result, rvs, finL, V.fin, one, goesOn, opd_t, opd_c, opd_f, opdV_box, opdV_int, opdV_bool, opdV_agg, opdV_tup, opdV_nil, opdV_sl, opdV_fn, opdV_ref, opdV_cref, opdV_eref, opdV_isSl, frz_isSl, frzE_isSl, cells_isSl, cellOk_isSl, pm_isSl, prep_isSl, fin_isSl, ranged_isSl, pureR_isSl, sem_len_isSl, sem_ixs_isSl, sem_len_sl, sem_len_nil, sem_ixs_none, sem_ixs_some, semR, semx_mv, semx_pick, semx_box, semx_alloc, semx_build, semx_bsl, semx_load, semx_store, semx_bin, semx_eqs, semx_un, semx_conv, semx_mkf, semx_mkm, semx_fa, semx_fld, semx_ixa, semx_idx, semx_mks, semx_sls, semx_ext, semx_call, semx_append, semx_appz, semx_trunc, semx_cap, semx_min, semx_max, semx_nilc, opdV_und, opdV_dead, opdV_none, cellOk_bool, cells_bool, cellOk_int, cells_int, cellOk_nil, cells_nil, cellOk_sl, cells_sl, cellOk_fn, cells_fn, cellOk_ref, cells_ref, cellOk_cref, cells_cref, cellOk_eref, cells_eref, cells_agg, pm_bool, pm_int, pm_nil, pm_slN, pm_slS, pm_fn, ha, hb, hc, e2, k2]
  have p2 : evC (run Ft Ct) M b15_0 (s15a a b c 2) = some (.exit 0, { fr := [(1, .box [a, b, c]), (27, .agg [b, c]), (28, I 2), (29, B false)], tk := [] }) := by
    simp [b15_0, s15a, evBody, params, deadL, evC, prep, prepF, prepT, V.prep, prepL, stepL, stepI, wanted, opds, get, put, putO, callE, loadV, partV, valO, binV, binI, binS, unV, nilCmp, apply, keepL, memN, bxOf, tkOf, bxF, frzL, V.frz, frzEL, V.frzE, V.pureR, pureRL, V.tks, tksL, V.al, alL, V.rn, rnL, addT, protT, protAll, distinctN, fill, splice, fillE, eqSh, intsOf, maxL, minL, bounds, ranged, finish, result, rvs, finL, V.fin, one, goesOn, opd_t, opd_c, opd_f, opdV_box, opdV_int, opdV_bool, opdV_agg, opdV_tup, opdV_nil, opdV_sl, opdV_fn, opdV_ref, opdV_cref, opdV_eref, opdV_isSl, frz_isSl, frzE_isSl, cells_isSl, cellOk_isSl, pm_isSl, prep_isSl, fin_isSl, ranged_isSl, pureR_isSl, sem_len_isSl, sem_ixs_isSl, sem_len_sl, sem_len_nil, sem_ixs_none, sem_ixs_some, semR, semx_mv, semx_pick, semx_box, semx_alloc, semx_build, semx_bsl, semx_load, semx_store, semx_bin, semx_eqs, semx_un, semx_conv, semx_mkf, semx_mkm, semx_fa, semx_fld, semx_ixa, semx_idx, semx_mks, semx_sls, semx_ext, semx_call, semx_append, semx_appz, semx_trunc, semx_cap, semx_min, semx_max, semx_nilc, opdV_und, opdV_dead, opdV_none, cellOk_bool, cells_bool, cellOk_int, cells_int, cellOk_nil, cells_nil, cellOk_sl, cells_sl, cellOk_fn, cells_fn, cellOk_ref, cells_ref, cellOk_cref, cells_cref, cellOk_eref, cells_eref, cells_agg, pm_bool, pm_int, pm_nil, pm_slN, pm_slS, pm_fn, ha, hb, hc]
  simp only [iter, p0]
  cases hx : (lst2 g).any (formB s.length) with
  | true => simp
  | false =>
    simp only [Bool.false_eq_true, if_false, p1, false_or]
    cases hy : (lst2 p).any (formB s.length) with
    | true => simp
    | false => simp only [Bool.false_eq_true, if_false, p2]
def tk15 (i : Nat) : List (Nat × Nat × Bool) := if i = 0 then [] else [(4400, 1, true)]
theorem prep_tk15 (i : Nat) : prepT [44] (tk15 i) = [] := by
  unfold tk15
  split <;> simp [prepT, memN]
theorem tk15_succ (i : Nat) : tk15 (i + 1) = [(4400, 1, true)] := by simp [tk15]
def s15b (a b c : V) (s : List Int) (i : Nat) : St := { fr := [(1, .box [a, b, c]), (5, I (aft s i)), (36, a), (37, I s.length), (38, I i)], tk := tk15 i }
theorem at0_get {s : List Int} {i : Nat} (hi : i < s.length) : s[i]? = some (at0 s i) := by
  unfold at0
  rw [List.getD_eq_getElem?_getD]
  simp [hi]
theorem Ints.at {v : V} {xs : List Int} (h : Ints v xs) {i : Nat} (hi : i < xs.length) : (els v)[i]? = some [I (at0 xs i)] := by rw [h.el]; simp [eI, at0_get hi]
theorem step15b {a b c : V} {s : List Int} {g p : List (V × List Int)} (h : Tab a b c s g p) (hl : s.length ≤ 20) {i : Nat} (hi : i < s.length) (M : Nat) :
    evC (run Ft Ct) M b15_1 (s15b a b c s i) = some (if (!stepB s i) = true then (.ret, { fr := [(1, .box [a, b, c]), (2, I 2)], tk := [(4400, 1, true)] }) else (.normal, s15b a b c s (i + 1))) := by
  have ha := h.a.sl
  have hb := h.b.sl
  have hc := h.c.sl
  have h1 := h.a.at hi
  have hlt : (i : Int) < s.length := by omega
  have hw : IntKind.i64.wrap ((i : Int) + 1) = ((i + 1 : Nat) : Int) := wrap_succ hi (by omega)
  have hx := h.w (at0 s i) (List.mem_of_getElem? (at0_get hi))
  have h58 := run58 (aft s i) 10000000 (xs := [at0 s i]) (by simp)
  have hn : aft s (i + 1) = at0 s i + 1 := by simp [aft]
  unfold stepB s15b
  rw [hn, tk15_succ]
  have htk := prep_tk15 i
  generalize tk15 i = tk at *
  generalize ((i + 1 : Nat) : Int) = m at *
  generalize aft s i = f at *
  generalize at0 s i = x at *
  unfold i64 at hx
  by_cases hk : f ≤ x ∧ x ≤ 10000000
  · have w1 : IntKind.i64.wrap (x + 1) = x + 1 := wr (by omega) (by omega)
    have hk' : ([x].all fun n => decide (f ≤ n ∧ n ≤ 10000000)) = true := by simp [hk]
    rw [hk'] at h58
    simp [eI] at h58
    simp [b15_1, evBody, params, deadL, evC, prep, prepF, prepT, V.prep, prepL, stepL, stepI, wanted, opds, get, put, putO, callE, loadV, partV, valO, binV, binI, binS, unV, nilCmp, apply, keepL, memN, bxOf, tkOf, bxF, frzL, V.frz, frzEL, V.frzE, V.pureR, pureRL, V.tks, tksL, V.al, alL, V.rn, rnL, addT, protT, protAll, distinctN, fill, splice, fillE, eqSh, intsOf, maxL, minL, bounds, ranged, finish, result, rvs, finL, V.fin, one, goesOn, opd_t, opd_c, opd_f, opdV_box, opdV_int, opdV_bool, opdV_agg, opdV_tup, opdV_nil, opdV_sl, opdV_fn, opdV_ref, opdV_cref, opdV_eref, opdV_isSl, frz_isSl, frzE_isSl, cells_isSl, cellOk_isSl, pm_isSl, prep_isSl, fin_isSl, ranged_isSl, pureR_isSl, sem_len_isSl, sem_ixs_isSl, sem_len_sl, sem_len_nil, sem_ixs_none, sem_ixs_some, semR, semx_mv, semx_pick, semx_box, semx_alloc, semx_build, semx_bsl, semx_load, semx_store, semx_bin, semx_eqs, semx_un, semx_conv, semx_mkf, semx_mkm, semx_fa, semx_fld, semx_ixa, semx_idx, semx_mks, semx_sls, semx_ext, semx_call, semx_append, semx_appz, semx_trunc, semx_cap, semx_min, semx_max, semx_nilc, opdV_und, opdV_dead, opdV_none, cellOk_bool, cells_bool, cellOk_int, cells_int, cellOk_nil, cells_nil, cellOk_sl, cells_sl, cellOk_fn, cells_fn, cellOk_ref, cells_ref, cellOk_cref, cells_cref, cellOk_eref, cells_eref, cells_agg, pm_bool, pm_int, pm_nil, pm_slN, pm_slS, pm_fn, ha, hb, hc, hlt, h1, hw, w1, h58, hk, htk]
  · have hk' : ([x].all fun n => decide (f ≤ n ∧ n ≤ 10000000)) = false := by simp; omega
    rw [hk'] at h58
    simp [eI] at h58
    rw [decide_eq_false hk]
    simp [b15_1, evBody, params, deadL, evC, prep, prepF, prepT, V.prep, prepL, stepL, stepI, wanted, opds, get, put, putO, callE, loadV, partV, valO, binV, binI, binS, unV, nilCmp, apply, keepL, memN, bxOf, tkOf, bxF, frzL, V.frz, frzEL, V.frzE, V.pureR, pureRL, V.tks, tksL, V.al, alL, V.rn, rnL, addT, protT, protAll, distinctN, fill, splice, fillE, eqSh, intsOf, maxL, minL, bounds, ranged, finish, result, rvs, finL, V.fin, one, goesOn, opd_t, opd_c, opd_f, opdV_box, opdV_int, opdV_bool, opdV_agg, opdV_tup, opdV_nil, opdV_sl, opdV_fn, opdV_ref, opdV_cref, opdV_eref, opdV_isSl, frz_isSl, frzE_isSl, cells_isSl, cellOk_isSl, pm_isSl, prep_isSl, fin_isSl, ranged_isSl, pureR_isSl, sem_len_isSl, sem_ixs_isSl, sem_len_sl, sem_len_nil, sem_ixs_none, sem_ixs_some, semR, semx_mv, semx_pick, semx_box, semx_alloc, semx_build, semx_bsl, semx_load, semx_store, semx_bin, semx_eqs, semx_un, semx_conv, semx_mkf, semx_mkm, semx_fa, semx_fld, semx_ixa, semx_idx, semx_mks, semx_sls, semx_ext, semx_call, semx_append, semx_appz, semx_trunc, semx_cap, semx_min, semx_max, semx_nilc, opdV_und, opdV_dead, opdV_none, cellOk_bool, cells_bool, cellOk_int, cells_int, cellOk_nil, cells_nil, cellOk_sl, cells_sl, cellOk_fn, cells_fn, cellOk_ref, cells_ref, cellOk_cref, cells_cref, cellOk_eref, cells_eref, cells_agg, pm_bool, pm_int, pm_nil, pm_slN, pm_slS, pm_fn, ha, hb, hc, hlt, h1, hw, h58, htk]
theorem loop15b {a b c : V} {s : List Int} {g p : List (V × List Int)} (h : Tab a b c s g p) (hl : s.length ≤ 20) (M : Nat) :
    iter (evC (run Ft Ct) M b15_1) 21 (s15b a b c s 0) = some (if (List.range s.length).all (stepB s) = true then (.exit 2, { fr := [(1, .box [a, b, c]), (5, I (aft s s.length)), (36, a), (37, I s.length), (38, I s.length), (39, B false)], tk := tk15 s.length }) else (.ret, { fr := [(1, .box [a, b, c]), (2, I 2)], tk := [(4400, 1, true)] })) := by
  have ha := h.a.sl
  have hb := h.b.sl
  have hc := h.c.sl
  have L := loop_find (s := s15b a b c s) (f := evC (run Ft Ct) M b15_1) (n := s.length) (g := fun i => !stepB s i) (E := fun _ => (.ret, { fr := [(1, .box [a, b, c]), (2, I 2)], tk := [(4400, 1, true)] })) (X := (.exit 2, { fr := [(1, .box [a, b, c]), (5, I (aft s s.length)), (36, a), (37, I s.length), (38, I s.length), (39, B false)], tk := tk15 s.length }))
    (fun i hi => step15b h hl hi M) (fun _ => by simp) (by simp [b15_1, s15b, evBody, params, deadL, evC, prep, prepF, prepT, V.prep, prepL, stepL, stepI, wanted, opds, get, put, putO, callE, loadV, partV, valO, binV, binI, binS, unV, nilCmp, apply, keepL, memN, bxOf, tkOf, bxF, frzL, V.frz, frzEL, V.frzE, V.pureR, pureRL, V.tks, tksL, V.al, alL, V.rn, rnL, addT, protT, protAll, distinctN, fill, splice, fillE, eqSh, intsOf, maxL, minL, bounds, ranged, finish, result, rvs, finL, V.fin, one, goesOn, opd_t, opd_c, opd_f, opdV_box, opdV_int, opdV_bool, opdV_agg, opdV_tup, opdV_nil, opdV_sl, opdV_fn, opdV_ref, opdV_cref, opdV_eref, opdV_isSl, frz_isSl, frzE_isSl, cells_isSl, cellOk_isSl, pm_isSl, prep_isSl, fin_isSl, ranged_isSl, pureR_isSl, sem_len_isSl, sem_ixs_isSl, sem_len_sl, sem_len_nil, sem_ixs_none, sem_ixs_some, semR, semx_mv, semx_pick, semx_box, semx_alloc, semx_build, semx_bsl, semx_load, semx_store, semx_bin, semx_eqs, semx_un, semx_conv, semx_mkf, semx_mkm, semx_fa, semx_fld, semx_ixa, semx_idx, semx_mks, semx_sls, semx_ext, semx_call, semx_append, semx_appz, semx_trunc, semx_cap, semx_min, semx_max, semx_nilc, opdV_und, opdV_dead, opdV_none, cellOk_bool, cells_bool, cellOk_int, cells_int, cellOk_nil, cells_nil, cellOk_sl, cells_sl, cellOk_fn, cells_fn, cellOk_ref, cells_ref, cellOk_cref, cells_cref, cellOk_eref, cells_eref, cells_agg, pm_bool, pm_int, pm_nil, pm_slN, pm_slS, pm_fn, ha, hb, hc]) (by simp) s.length 0 (by omega)
  have L := iter_le (f := evC (run Ft Ct) M b15_1) (fun _ _ h => h) (show s.length + 1 ≤ 21 by omega) L
  rw [← List.range_eq_range'] at L
  rw [L, all_find]
  cases (List.range s.length).find? (fun i => !stepB s i) <;> simp
theorem tot_le {rs : List (V × List Int)} {k : Nat} (h : ∀ r ∈ rs, r.2.length ≤ k) : tot rs ≤ rs.length * k := by
  induction rs with
  | nil => simp [tot]
  | cons x xs ih =>
    have e : tot (x :: xs) = x.2.length + tot xs := by simp [tot]
    have := ih fun r hr => h r (by simp [hr])
    have := h x (by simp)
    rw [e, List.length_cons, Nat.add_mul]
    omega
theorem tot_eq {rs : List (V × List Int)} {k : Nat} (h : (lst2 rs).any (formB k) = false) : tot rs = rs.length * k := by
  induction rs with
  | nil => simp [tot]
  | cons x xs ih =>
    have e : tot (x :: xs) = x.2.length + tot xs := by simp [tot]
    simp only [lst2, List.map_cons, List.any_cons, Bool.or_eq_false_iff] at h
    have := ih h.2
    have h1 := h.1
    simp [formB] at h1
    rw [e, List.length_cons, Nat.add_mul]
    omega
set_option maxHeartbeats 8000000 in
theorem run15 {a b c : V} {s : List Int} {g p : List (V × List Int)} (h : Tab a b c s g p) : run Ft Ct 15 [.agg [a, b, c]] = some (I (chk s (lst2 g) (lst2 p))) := by
  have ha := h.a.sl
  have hb := h.b.sl
  have hc := h.c.sl
  have e1 := run54 ha 20
  have e2 := run55 hb 12
  have e3 := run55 hc 12
  rw [h.a.len] at e1
  rw [h.b.len] at e2
  rw [h.c.len] at e3
  have hal := h.a.len
  unfold chk
  rw [lst2_len, lst2_len]
  refine run_of_body (N := 21) rfl rfl ?_
  by_cases c1 : 20 < s.length
  · rw [decide_eq_true (by omega)] at e1
    simp [l15, evBody, params, deadL, evC, prep, prepF, prepT, V.prep, prepL, stepL, stepI, wanted, opds, get, put, putO, callE, loadV, partV, valO, binV, binI, binS, unV, nilCmp, apply, keepL, memN, bxOf, tkOf, bxF, frzL, V.frz, frzEL, V.frzE, V.pureR, pureRL, V.tks, tksL, V.al, alL, V.rn, rnL, addT, protT, protAll, distinctN, fill, splice, fillE, eqSh, intsOf, maxL, minL, bounds, ranged, finish, result, rvs, finL, V.fin, one, goesOn, opd_t, opd_c, opd_f, opdV_box, opdV_int, opdV_bool, opdV_agg, opdV_tup, opdV_nil, opdV_sl, opdV_fn, opdV_ref, opdV_cref, opdV_eref, opdV_isSl, frz_isSl, frzE_isSl, cells_isSl, cellOk_isSl, pm_isSl, prep_isSl, fin_isSl, ranged_isSl, pureR_isSl, sem_len_isSl, sem_ixs_isSl, sem_len_sl, sem_len_nil, sem_ixs_none, sem_ixs_some, semR, semx_mv, semx_pick, semx_box, semx_alloc, semx_build, semx_bsl, semx_load, semx_store, semx_bin, semx_eqs, semx_un, semx_conv, semx_mkf, semx_mkm, semx_fa, semx_fld, semx_ixa, semx_idx, semx_mks, semx_sls, semx_ext, semx_call, semx_append, semx_appz, semx_trunc, semx_cap, semx_min, semx_max, semx_nilc, opdV_und, opdV_dead, opdV_none, cellOk_bool, cells_bool, cellOk_int, cells_int, cellOk_nil, cells_nil, cellOk_sl, cells_sl, cellOk_fn, cells_fn, cellOk_ref, cells_ref, cellOk_cref, cells_cref, cellOk_eref, cells_eref, cells_agg, pm_bool, pm_int, pm_nil, pm_slN, pm_slS, pm_fn, ha, hb, hc, e1, c1]
  · rw [decide_eq_false (by omega)] at e1
    by_cases c2 : 12 < g.length
    · rw [decide_eq_true (by omega)] at e2
      simp [l15, evBody, params, deadL, evC, prep, prepF, prepT, V.prep, prepL, stepL, stepI, wanted, opds, get, put, putO, callE, loadV, partV, valO, binV, binI, binS, unV, nilCmp, apply, keepL, memN, bxOf, tkOf, bxF, frzL, V.frz, frzEL, V.frzE, V.pureR, pureRL, V.tks, tksL, V.al, alL, V.rn, rnL, addT, protT, protAll, distinctN, fill, splice, fillE, eqSh, intsOf, maxL, minL, bounds, ranged, finish, result, rvs, finL, V.fin, one, goesOn, opd_t, opd_c, opd_f, opdV_box, opdV_int, opdV_bool, opdV_agg, opdV_tup, opdV_nil, opdV_sl, opdV_fn, opdV_ref, opdV_cref, opdV_eref, opdV_isSl, frz_isSl, frzE_isSl, cells_isSl, cellOk_isSl, pm_isSl, prep_isSl, fin_isSl, ranged_isSl, pureR_isSl, sem_len_isSl, sem_ixs_isSl, sem_len_sl, sem_len_nil, sem_ixs_none, sem_ixs_some, semR, semx_mv, semx_pick, semx_box, semx_alloc, semx_build, semx_bsl, semx_load, semx_store, semx_bin, semx_eqs, semx_un, semx_conv, semx_mkf, semx_mkm, semx_fa, semx_fld, semx_ixa, semx_idx, semx_mks, semx_sls, semx_ext, semx_call, semx_append, semx_appz, semx_trunc, semx_cap, semx_min, semx_max, semx_nilc, opdV_und, opdV_dead, opdV_none, cellOk_bool, cells_bool, cellOk_int, cells_int, cellOk_nil, cells_nil, cellOk_sl, cells_sl, cellOk_fn, cells_fn, cellOk_ref, cells_ref, cellOk_cref, cells_cref, cellOk_eref, cells_eref, cells_agg, pm_bool, pm_int, pm_nil, pm_slN, pm_slS, pm_fn, ha, hb, hc, e1, e2, c1, c2]
    · rw [decide_eq_false (by omega)] at e2
      by_cases c3 : 12 < p.length
      · rw [decide_eq_true (by omega)] at e3
        simp [l15, evBody, params, deadL, evC, prep, prepF, prepT, V.prep, prepL, stepL, stepI, wanted, opds, get, put, putO, callE, loadV, partV, valO, binV, binI, binS, unV, nilCmp, apply, keepL, memN, bxOf, tkOf, bxF, frzL, V.frz, frzEL, V.frzE, V.pureR, pureRL, V.tks, tksL, V.al, alL, V.rn, rnL, addT, protT, protAll, distinctN, fill, splice, fillE, eqSh, intsOf, maxL, minL, bounds, ranged, finish, result, rvs, finL, V.fin, one, goesOn, opd_t, opd_c, opd_f, opdV_box, opdV_int, opdV_bool, opdV_agg, opdV_tup, opdV_nil, opdV_sl, opdV_fn, opdV_ref, opdV_cref, opdV_eref, opdV_isSl, frz_isSl, frzE_isSl, cells_isSl, cellOk_isSl, pm_isSl, prep_isSl, fin_isSl, ranged_isSl, pureR_isSl, sem_len_isSl, sem_ixs_isSl, sem_len_sl, sem_len_nil, sem_ixs_none, sem_ixs_some, semR, semx_mv, semx_pick, semx_box, semx_alloc, semx_build, semx_bsl, semx_load, semx_store, semx_bin, semx_eqs, semx_un, semx_conv, semx_mkf, semx_mkm, semx_fa, semx_fld, semx_ixa, semx_idx, semx_mks, semx_sls, semx_ext, semx_call, semx_append, semx_appz, semx_trunc, semx_cap, semx_min, semx_max, semx_nilc, opdV_und, opdV_dead, opdV_none, cellOk_bool, cells_bool, cellOk_int, cells_int, cellOk_nil, cells_nil, cellOk_sl, cells_sl, cellOk_fn, cells_fn, cellOk_ref, cells_ref, cellOk_cref, cells_cref, cellOk_eref, cells_eref, cells_agg, pm_bool, pm_int, pm_nil, pm_slN, pm_slS, pm_fn, ha, hb, hc, e1, e2, e3, c1, c2, c3]
      · rw [decide_eq_false (by omega)] at e3
        rw [if_neg (by omega)]
        have A := loop15a h (by omega) (by omega) 21
        have A := iter_le (f := evC (run Ft Ct) 21 b15_0) (fun _ _ h => h) (show 3 ≤ 21 by omega) A
        have Bq := loop15b h (by omega) 21
        generalize hF : evC (run Ft Ct) 21 b15_0 = F at A
        generalize hG : evC (run Ft Ct) 21 b15_1 = G at Bq
        by_cases c4 : (lst2 g).any (formB s.length) = true ∨ (lst2 p).any (formB s.length) = true
        · rw [if_pos c4] at A
          rw [if_pos c4]
          simp [s15a] at A
          simp [l15, evBody, params, deadL, evC, prep, prepF, prepT, V.prep, prepL, stepL, stepI, wanted, opds, get, put, putO, callE, loadV, partV, valO, binV, binI, binS, unV, nilCmp, apply, keepL, memN, bxOf, tkOf, bxF, frzL, V.frz, frzEL, V.frzE, V.pureR, pureRL, V.tks, tksL, V.al, alL, V.rn, rnL, addT, protT, protAll, distinctN, fill, splice, fillE, eqSh, intsOf, maxL, minL, bounds, ranged, finish, result, rvs, finL, V.fin, one, goesOn, opd_t, opd_c, opd_f, opdV_box, opdV_int, opdV_bool, opdV_agg, opdV_tup, opdV_nil, opdV_sl, opdV_fn, opdV_ref, opdV_cref, opdV_eref, opdV_isSl, frz_isSl, frzE_isSl, cells_isSl, cellOk_isSl, pm_isSl, prep_isSl, fin_isSl, ranged_isSl, pureR_isSl, sem_len_isSl, sem_ixs_isSl, sem_len_sl, sem_len_nil, sem_ixs_none, sem_ixs_some, semR, semx_mv, semx_pick, semx_box, semx_alloc, semx_build, semx_bsl, semx_load, semx_store, semx_bin, semx_eqs, semx_un, semx_conv, semx_mkf, semx_mkm, semx_fa, semx_fld, semx_ixa, semx_idx, semx_mks, semx_sls, semx_ext, semx_call, semx_append, semx_appz, semx_trunc, semx_cap, semx_min, semx_max, semx_nilc, opdV_und, opdV_dead, opdV_none, cellOk_bool, cells_bool, cellOk_int, cells_int, cellOk_nil, cells_nil, cellOk_sl, cells_sl, cellOk_fn, cells_fn, cellOk_ref, cells_ref, cellOk_cref, cells_cref, cellOk_eref, cells_eref, cells_agg, pm_bool, pm_int, pm_nil, pm_slN, pm_slS, pm_fn, ha, hb, hc, e1, e2, e3, hF, A]
        · rw [if_neg c4] at A
          rw [if_neg c4]
          simp [s15a] at A
          have c5 : (lst2 g).any (formB s.length) = false := by
            cases hx : (lst2 g).any (formB s.length) with | true => exact absurd (.inl hx) c4 | false => rfl
          have c6 : (lst2 p).any (formB s.length) = false := by
            cases hx : (lst2 p).any (formB s.length) with | true => exact absurd (.inr hx) c4 | false => rfl
          have t1 := tot_eq c5
          have t2 := tot_eq c6
          have haft : aft s 0 = 1 := rfl
          by_cases c7 : (List.range s.length).all (stepB s) = true
          · rw [if_pos c7] at Bq
            simp [s15b, haft, show tk15 0 = [] from rfl] at Bq
            have h59g := run59 h.b (by omega) (by rw [t1]; exact Nat.le_trans (Nat.mul_le_mul (show g.length ≤ 12 by omega) (show s.length ≤ 20 by omega)) (by omega))
            have h59p := run59 h.c (by omega) (by rw [t2]; exact Nat.le_trans (Nat.mul_le_mul (show p.length ≤ 12 by omega) (show s.length ≤ 20 by omega)) (by omega))
            have fg := flat_len g
            have fp := flat_len p
            have b1 : tot g ≤ 240 := by rw [t1]; exact Nat.le_trans (Nat.mul_le_mul (show g.length ≤ 12 by omega) (show s.length ≤ 20 by omega)) (by omega)
            have b2 : tot p ≤ 240 := by rw [t2]; exact Nat.le_trans (Nat.mul_le_mul (show p.length ≤ 12 by omega) (show s.length ≤ 20 by omega)) (by omega)
            have z1 := run58 0 100000 (xs := flatR g) (by omega)
            have z2 := run58 (-100000) 100000 (xs := flatR p) (by omega)
            have y1 : ((flatR g).all fun n => decide (0 ≤ n ∧ n ≤ 100000)) = (lst2 g).all (inR 0 100000) := List.all_flatten
            have y2 : ((flatR p).all fun n => decide (-100000 ≤ n ∧ n ≤ 100000)) = (lst2 p).all (inR (-100000) 100000) := List.all_flatten
            rw [y1] at z1
            rw [y2] at z2
            have eg : (eI (flatR g)).length = tot g := by rw [eI_len, fg]
            have ep : (eI (flatR p)).length = tot p := by rw [eI_len, fp]
            have hgs : tot g = 0 ↔ s = [] ∨ g = [] := by rw [t1, Nat.mul_eq_zero, List.length_eq_zero_iff, List.length_eq_zero_iff]; exact Or.comm
            have hps : tot p = 0 ↔ s = [] ∨ p = [] := by rw [t2, Nat.mul_eq_zero, List.length_eq_zero_iff, List.length_eq_zero_iff]; exact Or.comm
            have hg0 : lst2 g ≠ [] ↔ g ≠ [] := by simp [lst2]
            have hp0 : lst2 p ≠ [] ↔ p ≠ [] := by simp [lst2]
            by_cases d1 : tot g = 0
            · rw [if_neg (fun x => by rcases hgs.1 d1 with r | r; exact x.2.1 r; exact hg0.1 x.2.2.1 r)]
              rw [if_pos d1] at h59g
              by_cases d2 : tot p = 0
              · rw [if_pos d2] at h59p
                simp [l15, evBody, params, deadL, evC, prep, prepF, prepT, V.prep, prepL, stepL, stepI, wanted, opds, get, put, putO, callE, loadV, partV, valO, binV, binI, binS, unV, nilCmp, apply, keepL, memN, bxOf, tkOf, bxF, frzL, V.frz, frzEL, V.frzE, V.pureR, pureRL, V.tks, tksL, V.al, alL, V.rn, rnL, addT, protT, protAll, distinctN, fill, splice, fillE, eqSh, intsOf, maxL, minL, bounds, ranged, finish, result, rvs, finL, V.fin, one, goesOn, opd_t, opd_c, opd_f, opdV_box, opdV_int, opdV_bool, opdV_agg, opdV_tup, opdV_nil, opdV_sl, opdV_fn, opdV_ref, opdV_cref, opdV_eref, opdV_isSl, frz_isSl, frzE_isSl, cells_isSl, cellOk_isSl, pm_isSl, prep_isSl, fin_isSl, ranged_isSl, pureR_isSl, sem_len_isSl, sem_ixs_isSl, sem_len_sl, sem_len_nil, sem_ixs_none, sem_ixs_some, semR, semx_mv, semx_pick, semx_box, semx_alloc, semx_build, semx_bsl, semx_load, semx_store, semx_bin, semx_eqs, semx_un, semx_conv, semx_mkf, semx_mkm, semx_fa, semx_fld, semx_ixa, semx_idx, semx_mks, semx_sls, semx_ext, semx_call, semx_append, semx_appz, semx_trunc, semx_cap, semx_min, semx_max, semx_nilc, opdV_und, opdV_dead, opdV_none, cellOk_bool, cells_bool, cellOk_int, cells_int, cellOk_nil, cells_nil, cellOk_sl, cells_sl, cellOk_fn, cells_fn, cellOk_ref, cells_ref, cellOk_cref, cells_cref, cellOk_eref, cells_eref, cells_agg, pm_bool, pm_int, pm_nil, pm_slN, pm_slS, pm_fn, ha, hb, hc, e1, e2, e3, hF, A, hal, hG, Bq, h59g, h59p]
              · rw [if_neg d2] at h59p
                simp [l15, evBody, params, deadL, evC, prep, prepF, prepT, V.prep, prepL, stepL, stepI, wanted, opds, get, put, putO, callE, loadV, partV, valO, binV, binI, binS, unV, nilCmp, apply, keepL, memN, bxOf, tkOf, bxF, frzL, V.frz, frzEL, V.frzE, V.pureR, pureRL, V.tks, tksL, V.al, alL, V.rn, rnL, addT, protT, protAll, distinctN, fill, splice, fillE, eqSh, intsOf, maxL, minL, bounds, ranged, finish, result, rvs, finL, V.fin, one, goesOn, opd_t, opd_c, opd_f, opdV_box, opdV_int, opdV_bool, opdV_agg, opdV_tup, opdV_nil, opdV_sl, opdV_fn, opdV_ref, opdV_cref, opdV_eref, opdV_isSl, frz_isSl, frzE_isSl, cells_isSl, cellOk_isSl, pm_isSl, prep_isSl, fin_isSl, ranged_isSl, pureR_isSl, sem_len_isSl, sem_ixs_isSl, sem_len_sl, sem_len_nil, sem_ixs_none, sem_ixs_some, semR, semx_mv, semx_pick, semx_box, semx_alloc, semx_build, semx_bsl, semx_load, semx_store, semx_bin, semx_eqs, semx_un, semx_conv, semx_mkf, semx_mkm, semx_fa, semx_fld, semx_ixa, semx_idx, semx_mks, semx_sls, semx_ext, semx_call, semx_append, semx_appz, semx_trunc, semx_cap, semx_min, semx_max, semx_nilc, opdV_und, opdV_dead, opdV_none, cellOk_bool, cells_bool, cellOk_int, cells_int, cellOk_nil, cells_nil, cellOk_sl, cells_sl, cellOk_fn, cells_fn, cellOk_ref, cells_ref, cellOk_cref, cells_cref, cellOk_eref, cells_eref, cells_agg, pm_bool, pm_int, pm_nil, pm_slN, pm_slS, pm_fn, ha, hb, hc, e1, e2, e3, hF, A, hal, hG, Bq, h59g, h59p, flatE_eI]
            · rw [if_neg d1] at h59g
              by_cases d2 : tot p = 0
              · rw [if_neg (fun x => by rcases hps.1 d2 with r | r; exact x.2.1 r; exact hp0.1 x.2.2.2.1 r)]
                rw [if_pos d2] at h59p
                simp [l15, evBody, params, deadL, evC, prep, prepF, prepT, V.prep, prepL, stepL, stepI, wanted, opds, get, put, putO, callE, loadV, partV, valO, binV, binI, binS, unV, nilCmp, apply, keepL, memN, bxOf, tkOf, bxF, frzL, V.frz, frzEL, V.frzE, V.pureR, pureRL, V.tks, tksL, V.al, alL, V.rn, rnL, addT, protT, protAll, distinctN, fill, splice, fillE, eqSh, intsOf, maxL, minL, bounds, ranged, finish, result, rvs, finL, V.fin, one, goesOn, opd_t, opd_c, opd_f, opdV_box, opdV_int, opdV_bool, opdV_agg, opdV_tup, opdV_nil, opdV_sl, opdV_fn, opdV_ref, opdV_cref, opdV_eref, opdV_isSl, frz_isSl, frzE_isSl, cells_isSl, cellOk_isSl, pm_isSl, prep_isSl, fin_isSl, ranged_isSl, pureR_isSl, sem_len_isSl, sem_ixs_isSl, sem_len_sl, sem_len_nil, sem_ixs_none, sem_ixs_some, semR, semx_mv, semx_pick, semx_box, semx_alloc, semx_build, semx_bsl, semx_load, semx_store, semx_bin, semx_eqs, semx_un, semx_conv, semx_mkf, semx_mkm, semx_fa, semx_fld, semx_ixa, semx_idx, semx_mks, semx_sls, semx_ext, semx_call, semx_append, semx_appz, semx_trunc, semx_cap, semx_min, semx_max, semx_nilc, opdV_und, opdV_dead, opdV_none, cellOk_bool, cells_bool, cellOk_int, cells_int, cellOk_nil, cells_nil, cellOk_sl, cells_sl, cellOk_fn, cells_fn, cellOk_ref, cells_ref, cellOk_cref, cells_cref, cellOk_eref, cells_eref, cells_agg, pm_bool, pm_int, pm_nil, pm_slN, pm_slS, pm_fn, ha, hb, hc, e1, e2, e3, hF, A, hal, hG, Bq, h59g, h59p, flatE_eI, eg, d1]
              · rw [if_neg d2] at h59p
                have s0 : s ≠ [] := fun r => d1 (hgs.2 (.inl r))
                have g0 : g ≠ [] := fun r => d1 (hgs.2 (.inr r))
                have p0 : p ≠ [] := fun r => d2 (hps.2 (.inr r))
                cases x1 : (lst2 g).all (inR 0 100000) with
                | false =>
                  rw [x1] at z1
                  simp [l15, evBody, params, deadL, evC, prep, prepF, prepT, V.prep, prepL, stepL, stepI, wanted, opds, get, put, putO, callE, loadV, partV, valO, binV, binI, binS, unV, nilCmp, apply, keepL, memN, bxOf, tkOf, bxF, frzL, V.frz, frzEL, V.frzE, V.pureR, pureRL, V.tks, tksL, V.al, alL, V.rn, rnL, addT, protT, protAll, distinctN, fill, splice, fillE, eqSh, intsOf, maxL, minL, bounds, ranged, finish, result, rvs, finL, V.fin, one, goesOn, opd_t, opd_c, opd_f, opdV_box, opdV_int, opdV_bool, opdV_agg, opdV_tup, opdV_nil, opdV_sl, opdV_fn, opdV_ref, opdV_cref, opdV_eref, opdV_isSl, frz_isSl, frzE_isSl, cells_isSl, cellOk_isSl, pm_isSl, prep_isSl, fin_isSl, ranged_isSl, pureR_isSl, sem_len_isSl, sem_ixs_isSl, sem_len_sl, sem_len_nil, sem_ixs_none, sem_ixs_some, semR, semx_mv, semx_pick, semx_box, semx_alloc, semx_build, semx_bsl, semx_load, semx_store, semx_bin, semx_eqs, semx_un, semx_conv, semx_mkf, semx_mkm, semx_fa, semx_fld, semx_ixa, semx_idx, semx_mks, semx_sls, semx_ext, semx_call, semx_append, semx_appz, semx_trunc, semx_cap, semx_min, semx_max, semx_nilc, opdV_und, opdV_dead, opdV_none, cellOk_bool, cells_bool, cellOk_int, cells_int, cellOk_nil, cells_nil, cellOk_sl, cells_sl, cellOk_fn, cells_fn, cellOk_ref, cells_ref, cellOk_cref, cells_cref, cellOk_eref, cells_eref, cells_agg, pm_bool, pm_int, pm_nil, pm_slN, pm_slS, pm_fn, ha, hb, hc, e1, e2, e3, hF, A, hal, hG, Bq, h59g, h59p, flatE_eI, eg, ep, d1, d2, z1]
                | true =>
                  rw [x1] at z1
                  cases x2 : (lst2 p).all (inR (-100000) 100000) with
                  | false =>
                    rw [x2] at z2
                    simp [l15, evBody, params, deadL, evC, prep, prepF, prepT, V.prep, prepL, stepL, stepI, wanted, opds, get, put, putO, callE, loadV, partV, valO, binV, binI, binS, unV, nilCmp, apply, keepL, memN, bxOf, tkOf, bxF, frzL, V.frz, frzEL, V.frzE, V.pureR, pureRL, V.tks, tksL, V.al, alL, V.rn, rnL, addT, protT, protAll, distinctN, fill, splice, fillE, eqSh, intsOf, maxL, minL, bounds, ranged, finish, result, rvs, finL, V.fin, one, goesOn, opd_t, opd_c, opd_f, opdV_box, opdV_int, opdV_bool, opdV_agg, opdV_tup, opdV_nil, opdV_sl, opdV_fn, opdV_ref, opdV_cref, opdV_eref, opdV_isSl, frz_isSl, frzE_isSl, cells_isSl, cellOk_isSl, pm_isSl, prep_isSl, fin_isSl, ranged_isSl, pureR_isSl, sem_len_isSl, sem_ixs_isSl, sem_len_sl, sem_len_nil, sem_ixs_none, sem_ixs_some, semR, semx_mv, semx_pick, semx_box, semx_alloc, semx_build, semx_bsl, semx_load, semx_store, semx_bin, semx_eqs, semx_un, semx_conv, semx_mkf, semx_mkm, semx_fa, semx_fld, semx_ixa, semx_idx, semx_mks, semx_sls, semx_ext, semx_call, semx_append, semx_appz, semx_trunc, semx_cap, semx_min, semx_max, semx_nilc, opdV_und, opdV_dead, opdV_none, cellOk_bool, cells_bool, cellOk_int, cells_int, cellOk_nil, cells_nil, cellOk_sl, cells_sl, cellOk_fn, cells_fn, cellOk_ref, cells_ref, cellOk_cref, cells_cref, cellOk_eref, cells_eref, cells_agg, pm_bool, pm_int, pm_nil, pm_slN, pm_slS, pm_fn, ha, hb, hc, e1, e2, e3, hF, A, hal, hG, Bq, h59g, h59p, flatE_eI, eg, ep, d1, d2, z1, z2]
                  | true =>
                    rw [x2] at z2
                    rw [if_pos ⟨c7, s0, hg0.2 g0, hp0.2 p0, rfl, rfl⟩]
                    simp [l15, evBody, params, deadL, evC, prep, prepF, prepT, V.prep, prepL, stepL, stepI, wanted, opds, get, put, putO, callE, loadV, partV, valO, binV, binI, binS, unV, nilCmp, apply, keepL, memN, bxOf, tkOf, bxF, frzL, V.frz, frzEL, V.frzE, V.pureR, pureRL, V.tks, tksL, V.al, alL, V.rn, rnL, addT, protT, protAll, distinctN, fill, splice, fillE, eqSh, intsOf, maxL, minL, bounds, ranged, finish, result, rvs, finL, V.fin, one, goesOn, opd_t, opd_c, opd_f, opdV_box, opdV_int, opdV_bool, opdV_agg, opdV_tup, opdV_nil, opdV_sl, opdV_fn, opdV_ref, opdV_cref, opdV_eref, opdV_isSl, frz_isSl, frzE_isSl, cells_isSl, cellOk_isSl, pm_isSl, prep_isSl, fin_isSl, ranged_isSl, pureR_isSl, sem_len_isSl, sem_ixs_isSl, sem_len_sl, sem_len_nil, sem_ixs_none, sem_ixs_some, semR, semx_mv, semx_pick, semx_box, semx_alloc, semx_build, semx_bsl, semx_load, semx_store, semx_bin, semx_eqs, semx_un, semx_conv, semx_mkf, semx_mkm, semx_fa, semx_fld, semx_ixa, semx_idx, semx_mks, semx_sls, semx_ext, semx_call, semx_append, semx_appz, semx_trunc, semx_cap, semx_min, semx_max, semx_nilc, opdV_und, opdV_dead, opdV_none, cellOk_bool, cells_bool, cellOk_int, cells_int, cellOk_nil, cells_nil, cellOk_sl, cells_sl, cellOk_fn, cells_fn, cellOk_ref, cells_ref, cellOk_cref, cells_cref, cellOk_eref, cells_eref, cells_agg, pm_bool, pm_int, pm_nil, pm_slN, pm_slS, pm_fn, ha, hb, hc, e1, e2, e3, hF, A, hal, hG, Bq, h59g, h59p, flatE_eI, eg, ep, d1, d2, z1, z2]
          · rw [if_neg c7] at Bq
            rw [if_neg (fun x => c7 x.1)]
            simp [s15b, haft, show tk15 0 = [] from rfl] at Bq
            simp [l15, evBody, params, deadL, evC, prep, prepF, prepT, V.prep, prepL, stepL, stepI, wanted, opds, get, put, putO, callE, loadV, partV, valO, binV, binI, binS, unV, nilCmp, apply, keepL, memN, bxOf, tkOf, bxF, frzL, V.frz, frzEL, V.frzE, V.pureR, pureRL, V.tks, tksL, V.al, alL, V.rn, rnL, addT, protT, protAll, distinctN, fill, splice, fillE, eqSh, intsOf, maxL, minL, bounds, ranged, finish, result, rvs, finL, V.fin, one, goesOn, opd_t, opd_c, opd_f, opdV_box, opdV_int, opdV_bool, opdV_agg, opdV_tup, opdV_nil, opdV_sl, opdV_fn, opdV_ref, opdV_cref, opdV_eref, opdV_isSl, frz_isSl, frzE_isSl, cells_isSl, cellOk_isSl, pm_isSl, prep_isSl, fin_isSl, ranged_isSl, pureR_isSl, sem_len_isSl, sem_ixs_isSl, sem_len_sl, sem_len_nil, sem_ixs_none, sem_ixs_some, semR, semx_mv, semx_pick, semx_box, semx_alloc, semx_build, semx_bsl, semx_load, semx_store, semx_bin, semx_eqs, semx_un, semx_conv, semx_mkf, semx_mkm, semx_fa, semx_fld, semx_ixa, semx_idx, semx_mks, semx_sls, semx_ext, semx_call, semx_append, semx_appz, semx_trunc, semx_cap, semx_min, semx_max, semx_nilc, opdV_und, opdV_dead, opdV_none, cellOk_bool, cells_bool, cellOk_int, cells_int, cellOk_nil, cells_nil, cellOk_sl, cells_sl, cellOk_fn, cells_fn, cellOk_ref, cells_ref, cellOk_cref, cells_cref, cellOk_eref, cells_eref, cells_agg, pm_bool, pm_int, pm_nil, pm_slN, pm_slS, pm_fn, ha, hb, hc, e1, e2, e3, hF, A, hal, hG, Bq]
end Go.Lo
/-! A table is checked: by the reference; the same. -/
namespace Go.Lo
open Go.Proofs
set_option linter.unusedSimpArgs false
def refB (s : List Int) (i : Nat) : Bool := decide (1 ≤ at0 s i ∧ at0 s i ≤ 10000000) && !(decide (0 < i) && decide (at0 s i ≤ at0 s (i - 1)))
def s20 (a b c : V) (i : Nat) : St := { fr := [(1, .box [a, b, c]), (3, I i)], tk := [] }
theorem step20 {a b c : V} {s : List Int} {g p : List (V × List Int)} (h : Tab a b c s g p) (hl : s.length ≤ 20) {i : Nat} (hi : i < s.length) (M : Nat) :
    evC (run Ft Ct) M b20_0 (s20 a b c i) = some (if (!refB s i) = true then (.ret, { fr := [(2, I 2)], tk := [] }) else (.normal, s20 a b c (i + 1))) := by
  have ha := h.a.sl
  have hb := h.b.sl
  have hc := h.c.sl
  have h1 := h.a.at hi
  have hal := h.a.len
  have hlt : (i : Int) < s.length := by omega
  have hw : IntKind.i64.wrap ((i : Int) + 1) = ((i + 1 : Nat) : Int) := wrap_succ hi (by omega)
  have h65 := run65 (at0 s i) 1 10000000
  unfold refB s20
  generalize ((i + 1 : Nat) : Int) = m at *
  by_cases c1 : 1 ≤ at0 s i ∧ at0 s i ≤ 10000000
  · rw [decide_eq_true c1] at h65
    rw [decide_eq_true c1]
    by_cases c2 : 0 < i
    · have h2 := h.a.at (i := i - 1) (by omega)
      have w1 : IntKind.i64.wrap ((i : Int) - 1) = ((i - 1 : Nat) : Int) := by rw [wr (by omega) (by omega)]; omega
      generalize at0 s i = x at *
      generalize at0 s (i - 1) = y at *
      generalize hj : i - 1 = j at *
      by_cases c3 : x ≤ y
      · simp [b20_0, evBody, params, deadL, evC, prep, prepF, prepT, V.prep, prepL, stepL, stepI, wanted, opds, get, put, putO, callE, loadV, partV, valO, binV, binI, binS, unV, nilCmp, apply, keepL, memN, bxOf, tkOf, bxF, frzL, V.frz, frzEL, V.frzE, V.pureR, pureRL, V.tks, tksL, V.al, alL, V.rn, rnL, addT, protT, protAll, distinctN, fill, splice, fillE, eqSh, intsOf, maxL, minL, bounds, ranged, finish, result, rvs, finL, V.fin, one, goesOn, opd_t, opd_c, opd_f, opdV_box, opdV_int, opdV_bool, opdV_agg, opdV_tup, opdV_nil, opdV_sl, opdV_fn, opdV_ref, opdV_cref, opdV_eref, opdV_isSl, frz_isSl, frzE_isSl, cells_isSl, cellOk_isSl, pm_isSl, prep_isSl, fin_isSl, ranged_isSl, pureR_isSl, sem_len_isSl, sem_ixs_isSl, sem_len_sl, sem_len_nil, sem_ixs_none, sem_ixs_some, semR, semx_mv, semx_pick, semx_box, semx_alloc, semx_build, semx_bsl, semx_load, semx_store, semx_bin, semx_eqs, semx_un, semx_conv, semx_mkf, semx_mkm, semx_fa, semx_fld, semx_ixa, semx_idx, semx_mks, semx_sls, semx_ext, semx_call, semx_append, semx_appz, semx_trunc, semx_cap, semx_min, semx_max, semx_nilc, opdV_und, opdV_dead, opdV_none, cellOk_bool, cells_bool, cellOk_int, cells_int, cellOk_nil, cells_nil, cellOk_sl, cells_sl, cellOk_fn, cells_fn, cellOk_ref, cells_ref, cellOk_cref, cells_cref, cellOk_eref, cells_eref, cells_agg, pm_bool, pm_int, pm_nil, pm_slN, pm_slS, pm_fn, ha, hb, hc, hal, hlt, h1, h2, hw, h65, c2, w1, c3]
      · simp [b20_0, evBody, params, deadL, evC, prep, prepF, prepT, V.prep, prepL, stepL, stepI, wanted, opds, get, put, putO, callE, loadV, partV, valO, binV, binI, binS, unV, nilCmp, apply, keepL, memN, bxOf, tkOf, bxF, frzL, V.frz, frzEL, V.frzE, V.pureR, pureRL, V.tks, tksL, V.al, alL, V.rn, rnL, addT, protT, protAll, distinctN, fill, splice, fillE, eqSh, intsOf, maxL, minL, bounds, ranged, finish, result, rvs, finL, V.fin, one, goesOn, opd_t, opd_c, opd_f, opdV_box, opdV_int, opdV_bool, opdV_agg, opdV_tup, opdV_nil, opdV_sl, opdV_fn, opdV_ref, opdV_cref, opdV_eref, opdV_isSl, frz_isSl, frzE_isSl, cells_isSl, cellOk_isSl, pm_isSl, prep_isSl, fin_isSl, ranged_isSl, pureR_isSl, sem_len_isSl, sem_ixs_isSl, sem_len_sl, sem_len_nil, sem_ixs_none, sem_ixs_some, semR, semx_mv, semx_pick, semx_box, semx_alloc, semx_build, semx_bsl, semx_load, semx_store, semx_bin, semx_eqs, semx_un, semx_conv, semx_mkf, semx_mkm, semx_fa, semx_fld, semx_ixa, semx_idx, semx_mks, semx_sls, semx_ext, semx_call, semx_append, semx_appz, semx_trunc, semx_cap, semx_min, semx_max, semx_nilc, opdV_und, opdV_dead, opdV_none, cellOk_bool, cells_bool, cellOk_int, cells_int, cellOk_nil, cells_nil, cellOk_sl, cells_sl, cellOk_fn, cells_fn, cellOk_ref, cells_ref, cellOk_cref, cells_cref, cellOk_eref, cells_eref, cells_agg, pm_bool, pm_int, pm_nil, pm_slN, pm_slS, pm_fn, ha, hb, hc, hal, hlt, h1, h2, hw, h65, c2, w1, c3]
    · generalize at0 s i = x at *
      simp [b20_0, evBody, params, deadL, evC, prep, prepF, prepT, V.prep, prepL, stepL, stepI, wanted, opds, get, put, putO, callE, loadV, partV, valO, binV, binI, binS, unV, nilCmp, apply, keepL, memN, bxOf, tkOf, bxF, frzL, V.frz, frzEL, V.frzE, V.pureR, pureRL, V.tks, tksL, V.al, alL, V.rn, rnL, addT, protT, protAll, distinctN, fill, splice, fillE, eqSh, intsOf, maxL, minL, bounds, ranged, finish, result, rvs, finL, V.fin, one, goesOn, opd_t, opd_c, opd_f, opdV_box, opdV_int, opdV_bool, opdV_agg, opdV_tup, opdV_nil, opdV_sl, opdV_fn, opdV_ref, opdV_cref, opdV_eref, opdV_isSl, frz_isSl, frzE_isSl, cells_isSl, cellOk_isSl, pm_isSl, prep_isSl, fin_isSl, ranged_isSl, pureR_isSl, sem_len_isSl, sem_ixs_isSl, sem_len_sl, sem_len_nil, sem_ixs_none, sem_ixs_some, semR, semx_mv, semx_pick, semx_box, semx_alloc, semx_build, semx_bsl, semx_load, semx_store, semx_bin, semx_eqs, semx_un, semx_conv, semx_mkf, semx_mkm, semx_fa, semx_fld, semx_ixa, semx_idx, semx_mks, semx_sls, semx_ext, semx_call, semx_append, semx_appz, semx_trunc, semx_cap, semx_min, semx_max, semx_nilc, opdV_und, opdV_dead, opdV_none, cellOk_bool, cells_bool, cellOk_int, cells_int, cellOk_nil, cells_nil, cellOk_sl, cells_sl, cellOk_fn, cells_fn, cellOk_ref, cells_ref, cellOk_cref, cells_cref, cellOk_eref, cells_eref, cells_agg, pm_bool, pm_int, pm_nil, pm_slN, pm_slS, pm_fn, ha, hb, hc, hal, hlt, h1, hw, h65, c2]
  · rw [decide_eq_false c1] at h65
    rw [decide_eq_false c1]
    generalize at0 s i = x at *
    simp [b20_0, evBody, params, deadL, evC, prep, prepF, prepT, V.prep, prepL, stepL, stepI, wanted, opds, get, put, putO, callE, loadV, partV, valO, binV, binI, binS, unV, nilCmp, apply, keepL, memN, bxOf, tkOf, bxF, frzL, V.frz, frzEL, V.frzE, V.pureR, pureRL, V.tks, tksL, V.al, alL, V.rn, rnL, addT, protT, protAll, distinctN, fill, splice, fillE, eqSh, intsOf, maxL, minL, bounds, ranged, finish, result, rvs, finL, V.fin, one, goesOn, opd_t, opd_c, opd_f, opdV_box, opdV_int, opdV_bool, opdV_agg, opdV_tup, opdV_nil, opdV_sl, opdV_fn, opdV_ref, opdV_cref, opdV_eref, opdV_isSl, frz_isSl, frzE_isSl, cells_isSl, cellOk_isSl, pm_isSl, prep_isSl, fin_isSl, ranged_isSl, pureR_isSl, sem_len_isSl, sem_ixs_isSl, sem_len_sl, sem_len_nil, sem_ixs_none, sem_ixs_some, semR, semx_mv, semx_pick, semx_box, semx_alloc, semx_build, semx_bsl, semx_load, semx_store, semx_bin, semx_eqs, semx_un, semx_conv, semx_mkf, semx_mkm, semx_fa, semx_fld, semx_ixa, semx_idx, semx_mks, semx_sls, semx_ext, semx_call, semx_append, semx_appz, semx_trunc, semx_cap, semx_min, semx_max, semx_nilc, opdV_und, opdV_dead, opdV_none, cellOk_bool, cells_bool, cellOk_int, cells_int, cellOk_nil, cells_nil, cellOk_sl, cells_sl, cellOk_fn, cells_fn, cellOk_ref, cells_ref, cellOk_cref, cells_cref, cellOk_eref, cells_eref, cells_agg, pm_bool, pm_int, pm_nil, pm_slN, pm_slS, pm_fn, ha, hb, hc, hal, hlt, h1, hw, h65]
theorem loop20 {a b c : V} {s : List Int} {g p : List (V × List Int)} (h : Tab a b c s g p) (hl : s.length ≤ 20) (M : Nat) :
    iter (evC (run Ft Ct) M b20_0) 21 (s20 a b c 0) = some (if (List.range s.length).all (refB s) = true then (.exit 0, { fr := [(1, .box [a, b, c]), (3, I s.length), (40, B false)], tk := [] }) else (.ret, { fr := [(2, I 2)], tk := [] })) := by
  have ha := h.a.sl
  have hb := h.b.sl
  have hc := h.c.sl
  have hal := h.a.len
  have L := loop_find (s := s20 a b c) (f := evC (run Ft Ct) M b20_0) (n := s.length) (g := fun i => !refB s i) (E := fun _ => (.ret, { fr := [(2, I 2)], tk := [] })) (X := (.exit 0, { fr := [(1, .box [a, b, c]), (3, I s.length), (40, B false)], tk := [] }))
    (fun i hi => step20 h hl hi M) (fun _ => by simp) (by simp [b20_0, s20, evBody, params, deadL, evC, prep, prepF, prepT, V.prep, prepL, stepL, stepI, wanted, opds, get, put, putO, callE, loadV, partV, valO, binV, binI, binS, unV, nilCmp, apply, keepL, memN, bxOf, tkOf, bxF, frzL, V.frz, frzEL, V.frzE, V.pureR, pureRL, V.tks, tksL, V.al, alL, V.rn, rnL, addT, protT, protAll, distinctN, fill, splice, fillE, eqSh, intsOf, maxL, minL, bounds, ranged, finish, result, rvs, finL, V.fin, one, goesOn, opd_t, opd_c, opd_f, opdV_box, opdV_int, opdV_bool, opdV_agg, opdV_tup, opdV_nil, opdV_sl, opdV_fn, opdV_ref, opdV_cref, opdV_eref, opdV_isSl, frz_isSl, frzE_isSl, cells_isSl, cellOk_isSl, pm_isSl, prep_isSl, fin_isSl, ranged_isSl, pureR_isSl, sem_len_isSl, sem_ixs_isSl, sem_len_sl, sem_len_nil, sem_ixs_none, sem_ixs_some, semR, semx_mv, semx_pick, semx_box, semx_alloc, semx_build, semx_bsl, semx_load, semx_store, semx_bin, semx_eqs, semx_un, semx_conv, semx_mkf, semx_mkm, semx_fa, semx_fld, semx_ixa, semx_idx, semx_mks, semx_sls, semx_ext, semx_call, semx_append, semx_appz, semx_trunc, semx_cap, semx_min, semx_max, semx_nilc, opdV_und, opdV_dead, opdV_none, cellOk_bool, cells_bool, cellOk_int, cells_int, cellOk_nil, cells_nil, cellOk_sl, cells_sl, cellOk_fn, cells_fn, cellOk_ref, cells_ref, cellOk_cref, cells_cref, cellOk_eref, cells_eref, cells_agg, pm_bool, pm_int, pm_nil, pm_slN, pm_slS, pm_fn, ha, hb, hc, hal]) (by simp) s.length 0 (by omega)
  have L := iter_le (f := evC (run Ft Ct) M b20_0) (fun _ _ h => h) (show s.length + 1 ≤ 21 by omega) L
  rw [← List.range_eq_range'] at L
  rw [L, all_find]
  cases (List.range s.length).find? (fun i => !refB s i) <;> simp
theorem ref_step (s : List Int) : (List.range s.length).all (refB s) = (List.range s.length).all (stepB s) := by
  rw [Bool.eq_iff_iff, List.all_eq_true, List.all_eq_true]
  constructor
  · intro h i hi
    have h1 := h i hi
    have hi : i < s.length := by simpa using hi
    simp [refB] at h1
    obtain ⟨⟨h11, h12⟩, h13⟩ := h1
    unfold stepB aft
    split
    · simp; omega
    · have h14 : at0 s (i - 1) < at0 s i := by omega
      simp; omega
  · intro h
    have key : ∀ i, i < s.length → 1 ≤ at0 s i := by
      intro i
      induction i with
      | zero => intro hi; have := h 0 (by simpa using hi); simp [stepB, aft] at this; omega
      | succ i ih => intro hi; have := h (i + 1) (by simpa using hi); have := ih (by omega); simp [stepB, aft] at *; omega
    intro i hi
    have h1 := h i hi
    have hi : i < s.length := by simpa using hi
    have h2 := key i hi
    unfold stepB aft at h1
    rw [decide_eq_true_eq] at h1
    obtain ⟨h11, h12⟩ := h1
    simp [refB]
    by_cases hi0 : i = 0
    · exact ⟨⟨h2, h12⟩, .inl hi0⟩
    · rw [if_neg hi0] at h11
      exact ⟨⟨h2, h12⟩, .inr (by omega)⟩
theorem not_any {α : Type} (l : List α) (f : α → Bool) : l.any (fun r => !f r) = !l.all f := by
  induction l with
  | nil => rfl
  | cons x xs ih => simp only [List.any_cons, List.all_cons, ih, Bool.not_and]
set_option maxHeartbeats 8000000 in
theorem run20 {a b c : V} {s : List Int} {g p : List (V × List Int)} (h : Tab a b c s g p) : run Ft Ct 20 [.agg [a, b, c]] = some (I (chk s (lst2 g) (lst2 p))) := by
  have ha := h.a.sl
  have hb := h.b.sl
  have hc := h.c.sl
  have hal := h.a.len
  have hbl := h.b.len
  have hcl := h.c.len
  unfold chk
  rw [lst2_len, lst2_len]
  refine run_of_body (N := 21) rfl rfl ?_
  by_cases c1 : 20 < s.length
  · have c1i : (20 : Int) < s.length := by omega
    simp [l20, evBody, params, deadL, evC, prep, prepF, prepT, V.prep, prepL, stepL, stepI, wanted, opds, get, put, putO, callE, loadV, partV, valO, binV, binI, binS, unV, nilCmp, apply, keepL, memN, bxOf, tkOf, bxF, frzL, V.frz, frzEL, V.frzE, V.pureR, pureRL, V.tks, tksL, V.al, alL, V.rn, rnL, addT, protT, protAll, distinctN, fill, splice, fillE, eqSh, intsOf, maxL, minL, bounds, ranged, finish, result, rvs, finL, V.fin, one, goesOn, opd_t, opd_c, opd_f, opdV_box, opdV_int, opdV_bool, opdV_agg, opdV_tup, opdV_nil, opdV_sl, opdV_fn, opdV_ref, opdV_cref, opdV_eref, opdV_isSl, frz_isSl, frzE_isSl, cells_isSl, cellOk_isSl, pm_isSl, prep_isSl, fin_isSl, ranged_isSl, pureR_isSl, sem_len_isSl, sem_ixs_isSl, sem_len_sl, sem_len_nil, sem_ixs_none, sem_ixs_some, semR, semx_mv, semx_pick, semx_box, semx_alloc, semx_build, semx_bsl, semx_load, semx_store, semx_bin, semx_eqs, semx_un, semx_conv, semx_mkf, semx_mkm, semx_fa, semx_fld, semx_ixa, semx_idx, semx_mks, semx_sls, semx_ext, semx_call, semx_append, semx_appz, semx_trunc, semx_cap, semx_min, semx_max, semx_nilc, opdV_und, opdV_dead, opdV_none, cellOk_bool, cells_bool, cellOk_int, cells_int, cellOk_nil, cells_nil, cellOk_sl, cells_sl, cellOk_fn, cells_fn, cellOk_ref, cells_ref, cellOk_cref, cells_cref, cellOk_eref, cells_eref, cells_agg, pm_bool, pm_int, pm_nil, pm_slN, pm_slS, pm_fn, ha, hb, hc, hal, hbl, hcl, c1, c1i]
  · have c1i : ¬ (20 : Int) < s.length := by omega
    by_cases c2 : 12 < g.length
    · have c2i : (12 : Int) < g.length := by omega
      simp [l20, evBody, params, deadL, evC, prep, prepF, prepT, V.prep, prepL, stepL, stepI, wanted, opds, get, put, putO, callE, loadV, partV, valO, binV, binI, binS, unV, nilCmp, apply, keepL, memN, bxOf, tkOf, bxF, frzL, V.frz, frzEL, V.frzE, V.pureR, pureRL, V.tks, tksL, V.al, alL, V.rn, rnL, addT, protT, protAll, distinctN, fill, splice, fillE, eqSh, intsOf, maxL, minL, bounds, ranged, finish, result, rvs, finL, V.fin, one, goesOn, opd_t, opd_c, opd_f, opdV_box, opdV_int, opdV_bool, opdV_agg, opdV_tup, opdV_nil, opdV_sl, opdV_fn, opdV_ref, opdV_cref, opdV_eref, opdV_isSl, frz_isSl, frzE_isSl, cells_isSl, cellOk_isSl, pm_isSl, prep_isSl, fin_isSl, ranged_isSl, pureR_isSl, sem_len_isSl, sem_ixs_isSl, sem_len_sl, sem_len_nil, sem_ixs_none, sem_ixs_some, semR, semx_mv, semx_pick, semx_box, semx_alloc, semx_build, semx_bsl, semx_load, semx_store, semx_bin, semx_eqs, semx_un, semx_conv, semx_mkf, semx_mkm, semx_fa, semx_fld, semx_ixa, semx_idx, semx_mks, semx_sls, semx_ext, semx_call, semx_append, semx_appz, semx_trunc, semx_cap, semx_min, semx_max, semx_nilc, opdV_und, opdV_dead, opdV_none, cellOk_bool, cells_bool, cellOk_int, cells_int, cellOk_nil, cells_nil, cellOk_sl, cells_sl, cellOk_fn, cells_fn, cellOk_ref, cells_ref, cellOk_cref, cells_cref, cellOk_eref, cells_eref, cells_agg, pm_bool, pm_int, pm_nil, pm_slN, pm_slS, pm_fn, ha, hb, hc, hal, hbl, hcl, c1, c1i, c2, c2i]
    · have c2i : ¬ (12 : Int) < g.length := by omega
      by_cases c3 : 12 < p.length
      · have c3i : (12 : Int) < p.length := by omega
        simp [l20, evBody, params, deadL, evC, prep, prepF, prepT, V.prep, prepL, stepL, stepI, wanted, opds, get, put, putO, callE, loadV, partV, valO, binV, binI, binS, unV, nilCmp, apply, keepL, memN, bxOf, tkOf, bxF, frzL, V.frz, frzEL, V.frzE, V.pureR, pureRL, V.tks, tksL, V.al, alL, V.rn, rnL, addT, protT, protAll, distinctN, fill, splice, fillE, eqSh, intsOf, maxL, minL, bounds, ranged, finish, result, rvs, finL, V.fin, one, goesOn, opd_t, opd_c, opd_f, opdV_box, opdV_int, opdV_bool, opdV_agg, opdV_tup, opdV_nil, opdV_sl, opdV_fn, opdV_ref, opdV_cref, opdV_eref, opdV_isSl, frz_isSl, frzE_isSl, cells_isSl, cellOk_isSl, pm_isSl, prep_isSl, fin_isSl, ranged_isSl, pureR_isSl, sem_len_isSl, sem_ixs_isSl, sem_len_sl, sem_len_nil, sem_ixs_none, sem_ixs_some, semR, semx_mv, semx_pick, semx_box, semx_alloc, semx_build, semx_bsl, semx_load, semx_store, semx_bin, semx_eqs, semx_un, semx_conv, semx_mkf, semx_mkm, semx_fa, semx_fld, semx_ixa, semx_idx, semx_mks, semx_sls, semx_ext, semx_call, semx_append, semx_appz, semx_trunc, semx_cap, semx_min, semx_max, semx_nilc, opdV_und, opdV_dead, opdV_none, cellOk_bool, cells_bool, cellOk_int, cells_int, cellOk_nil, cells_nil, cellOk_sl, cells_sl, cellOk_fn, cells_fn, cellOk_ref, cells_ref, cellOk_cref, cells_cref, cellOk_eref, cells_eref, cells_agg, pm_bool, pm_int, pm_nil, pm_slN, pm_slS, pm_fn, ha, hb, hc, hal, hbl, hcl, c1, c1i, c2, c2i, c3, c3i]
      · have c3i : ¬ (12 : Int) < p.length := by omega
        rw [if_neg (by omega)]
        have A := run64t h.b s.length 0 (by omega)
        have A2 := run64t h.c s.length 0 (by omega)
        have L := loop20 h (by omega) 21
        generalize hF : evC (run Ft Ct) 21 b20_0 = F at L
        have hfe : (fun r : List Int => !decide ((r.length : Int) = s.length)) = formB s.length := rfl
        rw [hfe] at A A2
        cases c5 : (lst2 g).any (formB s.length) with
        | true =>
          rw [c5] at A
          simp at A
          simp [l20, evBody, params, deadL, evC, prep, prepF, prepT, V.prep, prepL, stepL, stepI, wanted, opds, get, put, putO, callE, loadV, partV, valO, binV, binI, binS, unV, nilCmp, apply, keepL, memN, bxOf, tkOf, bxF, frzL, V.frz, frzEL, V.frzE, V.pureR, pureRL, V.tks, tksL, V.al, alL, V.rn, rnL, addT, protT, protAll, distinctN, fill, splice, fillE, eqSh, intsOf, maxL, minL, bounds, ranged, finish, result, rvs, finL, V.fin, one, goesOn, opd_t, opd_c, opd_f, opdV_box, opdV_int, opdV_bool, opdV_agg, opdV_tup, opdV_nil, opdV_sl, opdV_fn, opdV_ref, opdV_cref, opdV_eref, opdV_isSl, frz_isSl, frzE_isSl, cells_isSl, cellOk_isSl, pm_isSl, prep_isSl, fin_isSl, ranged_isSl, pureR_isSl, sem_len_isSl, sem_ixs_isSl, sem_len_sl, sem_len_nil, sem_ixs_none, sem_ixs_some, semR, semx_mv, semx_pick, semx_box, semx_alloc, semx_build, semx_bsl, semx_load, semx_store, semx_bin, semx_eqs, semx_un, semx_conv, semx_mkf, semx_mkm, semx_fa, semx_fld, semx_ixa, semx_idx, semx_mks, semx_sls, semx_ext, semx_call, semx_append, semx_appz, semx_trunc, semx_cap, semx_min, semx_max, semx_nilc, opdV_und, opdV_dead, opdV_none, cellOk_bool, cells_bool, cellOk_int, cells_int, cellOk_nil, cells_nil, cellOk_sl, cells_sl, cellOk_fn, cells_fn, cellOk_ref, cells_ref, cellOk_cref, cells_cref, cellOk_eref, cells_eref, cells_agg, pm_bool, pm_int, pm_nil, pm_slN, pm_slS, pm_fn, ha, hb, hc, hal, hbl, hcl, c1, c2, c3, c1i, c2i, c3i, A]
        | false =>
          rw [c5] at A
          simp at A
          cases c6 : (lst2 p).any (formB s.length) with
          | true =>
            rw [c6] at A2
            simp at A2
            simp [l20, evBody, params, deadL, evC, prep, prepF, prepT, V.prep, prepL, stepL, stepI, wanted, opds, get, put, putO, callE, loadV, partV, valO, binV, binI, binS, unV, nilCmp, apply, keepL, memN, bxOf, tkOf, bxF, frzL, V.frz, frzEL, V.frzE, V.pureR, pureRL, V.tks, tksL, V.al, alL, V.rn, rnL, addT, protT, protAll, distinctN, fill, splice, fillE, eqSh, intsOf, maxL, minL, bounds, ranged, finish, result, rvs, finL, V.fin, one, goesOn, opd_t, opd_c, opd_f, opdV_box, opdV_int, opdV_bool, opdV_agg, opdV_tup, opdV_nil, opdV_sl, opdV_fn, opdV_ref, opdV_cref, opdV_eref, opdV_isSl, frz_isSl, frzE_isSl, cells_isSl, cellOk_isSl, pm_isSl, prep_isSl, fin_isSl, ranged_isSl, pureR_isSl, sem_len_isSl, sem_ixs_isSl, sem_len_sl, sem_len_nil, sem_ixs_none, sem_ixs_some, semR, semx_mv, semx_pick, semx_box, semx_alloc, semx_build, semx_bsl, semx_load, semx_store, semx_bin, semx_eqs, semx_un, semx_conv, semx_mkf, semx_mkm, semx_fa, semx_fld, semx_ixa, semx_idx, semx_mks, semx_sls, semx_ext, semx_call, semx_append, semx_appz, semx_trunc, semx_cap, semx_min, semx_max, semx_nilc, opdV_und, opdV_dead, opdV_none, cellOk_bool, cells_bool, cellOk_int, cells_int, cellOk_nil, cells_nil, cellOk_sl, cells_sl, cellOk_fn, cells_fn, cellOk_ref, cells_ref, cellOk_cref, cells_cref, cellOk_eref, cells_eref, cells_agg, pm_bool, pm_int, pm_nil, pm_slN, pm_slS, pm_fn, ha, hb, hc, hal, hbl, hcl, c1, c2, c3, c1i, c2i, c3i, A, A2]
          | false =>
            rw [c6] at A2
            simp at A2
            rw [if_neg (by simp)]
            rw [ref_step] at L
            have t1 := tot_eq c5
            have t2 := tot_eq c6
            have bg : ∀ r ∈ g, r.2.length < 9223372036854775807 := by
              intro r hr
              have := List.any_eq_false.1 c5 r.2 (List.mem_map_of_mem hr)
              simp [formB] at this
              omega
            have bp : ∀ r ∈ p, r.2.length < 9223372036854775807 := by
              intro r hr
              have := List.any_eq_false.1 c6 r.2 (List.mem_map_of_mem hr)
              simp [formB] at this
              omega
            have R1 := run64f h.b 0 0 (by omega) bg
            have R2 := run64f h.c 0 (-100000) (by omega) bp
            rw [not_any] at R1 R2
            by_cases c7 : (List.range s.length).all (stepB s) = true
            · rw [if_pos c7] at L
              simp [s20] at L
              by_cases d1 : s = []
              · have hs0 : s.length = 0 := by rw [d1]; rfl
                rw [if_neg (fun x => x.2.1 d1)]
                rw [hs0] at L hal A A2
                simp at L A A2
                simp [l20, evBody, params, deadL, evC, prep, prepF, prepT, V.prep, prepL, stepL, stepI, wanted, opds, get, put, putO, callE, loadV, partV, valO, binV, binI, binS, unV, nilCmp, apply, keepL, memN, bxOf, tkOf, bxF, frzL, V.frz, frzEL, V.frzE, V.pureR, pureRL, V.tks, tksL, V.al, alL, V.rn, rnL, addT, protT, protAll, distinctN, fill, splice, fillE, eqSh, intsOf, maxL, minL, bounds, ranged, finish, result, rvs, finL, V.fin, one, goesOn, opd_t, opd_c, opd_f, opdV_box, opdV_int, opdV_bool, opdV_agg, opdV_tup, opdV_nil, opdV_sl, opdV_fn, opdV_ref, opdV_cref, opdV_eref, opdV_isSl, frz_isSl, frzE_isSl, cells_isSl, cellOk_isSl, pm_isSl, prep_isSl, fin_isSl, ranged_isSl, pureR_isSl, sem_len_isSl, sem_ixs_isSl, sem_len_sl, sem_len_nil, sem_ixs_none, sem_ixs_some, semR, semx_mv, semx_pick, semx_box, semx_alloc, semx_build, semx_bsl, semx_load, semx_store, semx_bin, semx_eqs, semx_un, semx_conv, semx_mkf, semx_mkm, semx_fa, semx_fld, semx_ixa, semx_idx, semx_mks, semx_sls, semx_ext, semx_call, semx_append, semx_appz, semx_trunc, semx_cap, semx_min, semx_max, semx_nilc, opdV_und, opdV_dead, opdV_none, cellOk_bool, cells_bool, cellOk_int, cells_int, cellOk_nil, cells_nil, cellOk_sl, cells_sl, cellOk_fn, cells_fn, cellOk_ref, cells_ref, cellOk_cref, cells_cref, cellOk_eref, cells_eref, cells_agg, pm_bool, pm_int, pm_nil, pm_slN, pm_slS, pm_fn, ha, hb, hc, hal, hbl, hcl, c2, c3, c2i, c3i, A, A2, hF, L]
              · have hs0 : s.length ≠ 0 := fun r => d1 (List.length_eq_zero_iff.1 r)
                by_cases d2 : (lst2 g).all (inR 0 100000) = true ∧ g ≠ []
                · rw [if_neg (by rw [d2.1]; simpa using d2.2)] at R1
                  by_cases d3 : (lst2 p).all (inR (-100000) 100000) = true ∧ p ≠ []
                  · rw [if_neg (by rw [d3.1]; simpa using d3.2)] at R2
                    rw [if_pos ⟨c7, d1, by simpa using d2.2, by simpa using d3.2, d2.1, d3.1⟩]
                    simp [l20, evBody, params, deadL, evC, prep, prepF, prepT, V.prep, prepL, stepL, stepI, wanted, opds, get, put, putO, callE, loadV, partV, valO, binV, binI, binS, unV, nilCmp, apply, keepL, memN, bxOf, tkOf, bxF, frzL, V.frz, frzEL, V.frzE, V.pureR, pureRL, V.tks, tksL, V.al, alL, V.rn, rnL, addT, protT, protAll, distinctN, fill, splice, fillE, eqSh, intsOf, maxL, minL, bounds, ranged, finish, result, rvs, finL, V.fin, one, goesOn, opd_t, opd_c, opd_f, opdV_box, opdV_int, opdV_bool, opdV_agg, opdV_tup, opdV_nil, opdV_sl, opdV_fn, opdV_ref, opdV_cref, opdV_eref, opdV_isSl, frz_isSl, frzE_isSl, cells_isSl, cellOk_isSl, pm_isSl, prep_isSl, fin_isSl, ranged_isSl, pureR_isSl, sem_len_isSl, sem_ixs_isSl, sem_len_sl, sem_len_nil, sem_ixs_none, sem_ixs_some, semR, semx_mv, semx_pick, semx_box, semx_alloc, semx_build, semx_bsl, semx_load, semx_store, semx_bin, semx_eqs, semx_un, semx_conv, semx_mkf, semx_mkm, semx_fa, semx_fld, semx_ixa, semx_idx, semx_mks, semx_sls, semx_ext, semx_call, semx_append, semx_appz, semx_trunc, semx_cap, semx_min, semx_max, semx_nilc, opdV_und, opdV_dead, opdV_none, cellOk_bool, cells_bool, cellOk_int, cells_int, cellOk_nil, cells_nil, cellOk_sl, cells_sl, cellOk_fn, cells_fn, cellOk_ref, cells_ref, cellOk_cref, cells_cref, cellOk_eref, cells_eref, cells_agg, pm_bool, pm_int, pm_nil, pm_slN, pm_slS, pm_fn, ha, hb, hc, hal, hbl, hcl, c1, c2, c3, c1i, c2i, c3i, A, A2, hF, L, hs0, d1, R1, R2]
                  · rw [if_pos (by cases hx : (lst2 p).all (inR (-100000) 100000) with | true => exact .inr (List.length_eq_zero_iff.2 (Decidable.byContradiction fun y => d3 ⟨hx, y⟩)) | false => exact .inl rfl)] at R2
                    rw [if_neg (fun x => d3 ⟨x.2.2.2.2.2, by simpa using x.2.2.2.1⟩)]
                    simp [l20, evBody, params, deadL, evC, prep, prepF, prepT, V.prep, prepL, stepL, stepI, wanted, opds, get, put, putO, callE, loadV, partV, valO, binV, binI, binS, unV, nilCmp, apply, keepL, memN, bxOf, tkOf, bxF, frzL, V.frz, frzEL, V.frzE, V.pureR, pureRL, V.tks, tksL, V.al, alL, V.rn, rnL, addT, protT, protAll, distinctN, fill, splice, fillE, eqSh, intsOf, maxL, minL, bounds, ranged, finish, result, rvs, finL, V.fin, one, goesOn, opd_t, opd_c, opd_f, opdV_box, opdV_int, opdV_bool, opdV_agg, opdV_tup, opdV_nil, opdV_sl, opdV_fn, opdV_ref, opdV_cref, opdV_eref, opdV_isSl, frz_isSl, frzE_isSl, cells_isSl, cellOk_isSl, pm_isSl, prep_isSl, fin_isSl, ranged_isSl, pureR_isSl, sem_len_isSl, sem_ixs_isSl, sem_len_sl, sem_len_nil, sem_ixs_none, sem_ixs_some, semR, semx_mv, semx_pick, semx_box, semx_alloc, semx_build, semx_bsl, semx_load, semx_store, semx_bin, semx_eqs, semx_un, semx_conv, semx_mkf, semx_mkm, semx_fa, semx_fld, semx_ixa, semx_idx, semx_mks, semx_sls, semx_ext, semx_call, semx_append, semx_appz, semx_trunc, semx_cap, semx_min, semx_max, semx_nilc, opdV_und, opdV_dead, opdV_none, cellOk_bool, cells_bool, cellOk_int, cells_int, cellOk_nil, cells_nil, cellOk_sl, cells_sl, cellOk_fn, cells_fn, cellOk_ref, cells_ref, cellOk_cref, cells_cref, cellOk_eref, cells_eref, cells_agg, pm_bool, pm_int, pm_nil, pm_slN, pm_slS, pm_fn, ha, hb, hc, hal, hbl, hcl, c1, c2, c3, c1i, c2i, c3i, A, A2, hF, L, hs0, d1, R1, R2]
                · rw [if_pos (by cases hx : (lst2 g).all (inR 0 100000) with | true => exact .inr (List.length_eq_zero_iff.2 (Decidable.byContradiction fun y => d2 ⟨hx, y⟩)) | false => exact .inl rfl)] at R1
                  rw [if_neg (fun x => d2 ⟨x.2.2.2.2.1, by simpa using x.2.2.1⟩)]
                  simp [l20, evBody, params, deadL, evC, prep, prepF, prepT, V.prep, prepL, stepL, stepI, wanted, opds, get, put, putO, callE, loadV, partV, valO, binV, binI, binS, unV, nilCmp, apply, keepL, memN, bxOf, tkOf, bxF, frzL, V.frz, frzEL, V.frzE, V.pureR, pureRL, V.tks, tksL, V.al, alL, V.rn, rnL, addT, protT, protAll, distinctN, fill, splice, fillE, eqSh, intsOf, maxL, minL, bounds, ranged, finish, result, rvs, finL, V.fin, one, goesOn, opd_t, opd_c, opd_f, opdV_box, opdV_int, opdV_bool, opdV_agg, opdV_tup, opdV_nil, opdV_sl, opdV_fn, opdV_ref, opdV_cref, opdV_eref, opdV_isSl, frz_isSl, frzE_isSl, cells_isSl, cellOk_isSl, pm_isSl, prep_isSl, fin_isSl, ranged_isSl, pureR_isSl, sem_len_isSl, sem_ixs_isSl, sem_len_sl, sem_len_nil, sem_ixs_none, sem_ixs_some, semR, semx_mv, semx_pick, semx_box, semx_alloc, semx_build, semx_bsl, semx_load, semx_store, semx_bin, semx_eqs, semx_un, semx_conv, semx_mkf, semx_mkm, semx_fa, semx_fld, semx_ixa, semx_idx, semx_mks, semx_sls, semx_ext, semx_call, semx_append, semx_appz, semx_trunc, semx_cap, semx_min, semx_max, semx_nilc, opdV_und, opdV_dead, opdV_none, cellOk_bool, cells_bool, cellOk_int, cells_int, cellOk_nil, cells_nil, cellOk_sl, cells_sl, cellOk_fn, cells_fn, cellOk_ref, cells_ref, cellOk_cref, cells_cref, cellOk_eref, cells_eref, cells_agg, pm_bool, pm_int, pm_nil, pm_slN, pm_slS, pm_fn, ha, hb, hc, hal, hbl, hcl, c1, c2, c3, c1i, c2i, c3i, A, A2, hF, L, hs0, d1, R1]
            · rw [if_neg c7] at L
              rw [if_neg (fun x => c7 x.1)]
              simp [s20] at L
              simp [l20, evBody, params, deadL, evC, prep, prepF, prepT, V.prep, prepL, stepL, stepI, wanted, opds, get, put, putO, callE, loadV, partV, valO, binV, binI, binS, unV, nilCmp, apply, keepL, memN, bxOf, tkOf, bxF, frzL, V.frz, frzEL, V.frzE, V.pureR, pureRL, V.tks, tksL, V.al, alL, V.rn, rnL, addT, protT, protAll, distinctN, fill, splice, fillE, eqSh, intsOf, maxL, minL, bounds, ranged, finish, result, rvs, finL, V.fin, one, goesOn, opd_t, opd_c, opd_f, opdV_box, opdV_int, opdV_bool, opdV_agg, opdV_tup, opdV_nil, opdV_sl, opdV_fn, opdV_ref, opdV_cref, opdV_eref, opdV_isSl, frz_isSl, frzE_isSl, cells_isSl, cellOk_isSl, pm_isSl, prep_isSl, fin_isSl, ranged_isSl, pureR_isSl, sem_len_isSl, sem_ixs_isSl, sem_len_sl, sem_len_nil, sem_ixs_none, sem_ixs_some, semR, semx_mv, semx_pick, semx_box, semx_alloc, semx_build, semx_bsl, semx_load, semx_store, semx_bin, semx_eqs, semx_un, semx_conv, semx_mkf, semx_mkm, semx_fa, semx_fld, semx_ixa, semx_idx, semx_mks, semx_sls, semx_ext, semx_call, semx_append, semx_appz, semx_trunc, semx_cap, semx_min, semx_max, semx_nilc, opdV_und, opdV_dead, opdV_none, cellOk_bool, cells_bool, cellOk_int, cells_int, cellOk_nil, cells_nil, cellOk_sl, cells_sl, cellOk_fn, cells_fn, cellOk_ref, cells_ref, cellOk_cref, cells_cref, cellOk_eref, cells_eref, cells_agg, pm_bool, pm_int, pm_nil, pm_slN, pm_slS, pm_fn, ha, hb, hc, hal, hbl, hcl, c1, c2, c3, c1i, c2i, c3i, A, A2, hF, L]
end Go.Lo
