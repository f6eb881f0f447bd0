/- Small functions of zone and of its reference. -/
import Derived.Test.YtifanigkolnedaaLit
namespace Go.Lo
open Go.Proofs
set_option linter.unusedSimpArgs false
abbrev I (n : Int) : V := .int .i64 n
abbrev B (b : Bool) : V := .bool b
/-- A list of integers, as a slice's elements. -/
def eI (xs : List Int) : List (List V) := xs.map fun x => [I x]
theorem eI_len (xs : List Int) : (eI xs).length = xs.length := by simp [eI]
theorem eI_get {xs ys : List Int} {i : Nat} {y : Int} (h : xs.drop i = y :: ys) : (eI xs)[i]? = some [I y] ∧ i < xs.length ∧ xs.drop (i + 1) = ys := by
  have hi : i < xs.length := by
    apply Decidable.byContradiction
    intro hn
    rw [List.drop_eq_nil_of_le (by omega)] at h
    cases h
  have h1 : xs[i]? = some y := by
    have := congrArg (fun l => l[0]?) h
    simpa using this
  refine ⟨by simp [eI, h1], hi, ?_⟩
  have := congrArg List.tail h
  simpa using this
/-- Numbers of 64 bits. -/
def i64 (n : Int) : Prop := -9223372036854775808 ≤ n ∧ n ≤ 9223372036854775807
theorem wrap64 {n : Int} (h : i64 n) : IntKind.i64.wrap n = n := by
  unfold i64 at h
  simp [IntKind.wrap, IntKind.bits, IntKind.signed]
  omega
theorem wrap_succ {i n : Nat} (h : i < n) (hn : n < 9223372036854775807) : IntKind.i64.wrap ((i : Int) + 1) = ((i + 1 : Nat) : Int) := by
  rw [wrap64 (by unfold i64; omega)]; rfl
theorem run83 (n a b : Int) : run Ft Ct 83 [I n, .cref [I a], .cref [I b]] = some (B (decide (n < a) || decide (n > b))) := by
  refine run_of_body (N := 1) rfl rfl ?_
  by_cases h : n < a <;> simp [l83, evBody, params, deadL, evC, prep, prepF, prepT, V.prep, prepL, stepL, stepI, wanted, opds, opd, get, put, putO, sem, callE, loadV, partV, valO, binV, binI, binS, unV, nilCmp, apply, keepL, memN, bxOf, tkOf, bxF, frzL, V.frz, frzEL, V.frzE, V.pureR, pureRL, V.tks, tksL, V.al, alL, V.rn, rnL, addT, protT, protAll, distinctN, fill, splice, fillE, V.cells, V.cellOk, V.pm, eqSh, intsOf, maxL, minL, bounds, ranged, finish, result, rvs, finL, V.fin, one, goesOn, h]
def s87 (x f : V) (n i : Int) : St := { fr := [(0, x), (1, f), (7, I n), (8, I i)], tk := [] }
theorem iter_step {f : St → Option (Ex × St)} {n : Nat} {σ : St} : iter f (n + 1) σ = match f σ with
    | some (.normal, σ') => iter f n σ'
    | r => r := rfl
theorem loop87 {g : Nat} {caps : List V} {p : Int → Bool} (hc : ∀ rd, frzL rd caps = some caps) (hp : ∀ x, run Ft Ct g (I x :: caps) = some (B (p x))) (M : Nat) {xs : List Int} (hl : xs.length < 9223372036854775807) : ∀ (ys : List Int) (i : Nat), xs.drop i = ys → i + ys.length = xs.length →
    iter (evC (run Ft Ct) M b87_0) (ys.length + 1) (s87 (.sl none 1 (eI xs)) (.fn (.f g) caps) xs.length i) = some (match ys.findIdx? p with
        | none => (.exit 0, { fr := [(0, .sl none 1 (eI xs)), (1, .fn (.f g) caps), (7, I xs.length), (8, I xs.length), (9, B false)], tk := [] })
        | some k => (.ret, { fr := [(4, I (i + k : Nat))], tk := [] }))
  | [], i, h, he => by
    have hi : i = xs.length := by simpa using he
    subst hi
    simp [iter, b87_0, s87, evBody, params, deadL, evC, prep, prepF, prepT, V.prep, prepL, stepL, stepI, wanted, opds, opd, get, put, putO, sem, callE, loadV, partV, valO, binV, binI, binS, unV, nilCmp, apply, keepL, memN, bxOf, tkOf, bxF, frzL, V.frz, frzEL, V.frzE, V.pureR, pureRL, V.tks, tksL, V.al, alL, V.rn, rnL, addT, protT, protAll, distinctN, fill, splice, fillE, V.cells, V.cellOk, V.pm, eqSh, intsOf, maxL, minL, bounds, ranged, finish, result, rvs, finL, V.fin, one, goesOn]
  | y :: ys, i, h, he => by
    obtain ⟨h1, h2, h3⟩ := eI_get h
    have hi : (i : Int) < xs.length := by omega
    have hp' := hp y
    simp only [List.length_cons] at he
    have ih := loop87 hc hp M hl ys (i + 1) h3 (by omega)
    have hw := wrap_succ h2 hl
    rw [List.findIdx?_cons]
    cases hpy : p y with
    | true =>
      rw [hpy] at hp'
      have st : evC (run Ft Ct) M b87_0 (s87 (.sl none 1 (eI xs)) (.fn (.f g) caps) xs.length i) = some (.ret, { fr := [(4, I i)], tk := [] }) := by simp [b87_0, s87, evBody, params, deadL, evC, prep, prepF, prepT, V.prep, prepL, stepL, stepI, wanted, opds, opd, get, put, putO, sem, callE, loadV, partV, valO, binV, binI, binS, unV, nilCmp, apply, keepL, memN, bxOf, tkOf, bxF, frzL, V.frz, frzEL, V.frzE, V.pureR, pureRL, V.tks, tksL, V.al, alL, V.rn, rnL, addT, protT, protAll, distinctN, fill, splice, fillE, V.cells, V.cellOk, V.pm, eqSh, intsOf, maxL, minL, bounds, ranged, finish, result, rvs, finL, V.fin, one, goesOn, hi, h1, hp', hc]
      rw [iter_step, st]
      rfl
    | false =>
      rw [hpy] at hp'
      have st : evC (run Ft Ct) M b87_0 (s87 (.sl none 1 (eI xs)) (.fn (.f g) caps) xs.length i) = some (.normal, s87 (.sl none 1 (eI xs)) (.fn (.f g) caps) xs.length (i + 1 : Nat)) := by simp [b87_0, s87, evBody, params, deadL, evC, prep, prepF, prepT, V.prep, prepL, stepL, stepI, wanted, opds, opd, get, put, putO, sem, callE, loadV, partV, valO, binV, binI, binS, unV, nilCmp, apply, keepL, memN, bxOf, tkOf, bxF, frzL, V.frz, frzEL, V.frzE, V.pureR, pureRL, V.tks, tksL, V.al, alL, V.rn, rnL, addT, protT, protAll, distinctN, fill, splice, fillE, V.cells, V.cellOk, V.pm, eqSh, intsOf, maxL, minL, bounds, ranged, finish, result, rvs, finL, V.fin, one, goesOn, hi, h1, hp', hc, hw]
      rw [iter_step, st]
      simp only [List.length_cons]
      rw [ih]
      cases ys.findIdx? p with
      | none => rfl
      | some k => simp; omega
theorem run87 {g : Nat} {caps : List V} {p : Int → Bool} (hc : ∀ rd, frzL rd caps = some caps) (hp : ∀ x, run Ft Ct g (I x :: caps) = some (B (p x))) {xs : List Int} (hl : xs.length < 9223372036854775807) :
    run Ft Ct 87 [.sl none 1 (eI xs), .fn (.f g) caps] = some (I (match xs.findIdx? p with | none => -1 | some k => k)) := by
  have k1 := loop87 hc hp (xs.length + 1) hl xs 0 rfl (by omega)
  refine run_of_body (N := xs.length + 1) rfl rfl ?_
  generalize hF : evC (run Ft Ct) (xs.length + 1) b87_0 = F at k1
  simp [s87] at k1
  cases hf : xs.findIdx? p with
  | none => rw [hf] at k1; simp [l87, evBody, params, deadL, evC, prep, prepF, prepT, V.prep, prepL, stepL, stepI, wanted, opds, opd, get, put, putO, sem, callE, loadV, partV, valO, binV, binI, binS, unV, nilCmp, apply, keepL, memN, bxOf, tkOf, bxF, frzL, V.frz, frzEL, V.frzE, V.pureR, pureRL, V.tks, tksL, V.al, alL, V.rn, rnL, addT, protT, protAll, distinctN, fill, splice, fillE, V.cells, V.cellOk, V.pm, eqSh, intsOf, maxL, minL, bounds, ranged, finish, result, rvs, finL, V.fin, one, goesOn, hc, hF, k1, eI_len]
  | some k => rw [hf] at k1; simp [l87, evBody, params, deadL, evC, prep, prepF, prepT, V.prep, prepL, stepL, stepI, wanted, opds, opd, get, put, putO, sem, callE, loadV, partV, valO, binV, binI, binS, unV, nilCmp, apply, keepL, memN, bxOf, tkOf, bxF, frzL, V.frz, frzEL, V.frzE, V.pureR, pureRL, V.tks, tksL, V.al, alL, V.rn, rnL, addT, protT, protAll, distinctN, fill, splice, fillE, V.cells, V.cellOk, V.pm, eqSh, intsOf, maxL, minL, bounds, ranged, finish, result, rvs, finL, V.fin, one, goesOn, hc, hF, k1, eI_len]
theorem run82 {g : Nat} {caps : List V} {p : Int → Bool} (hc : ∀ rd, frzL rd caps = some caps) (hp : ∀ x, run Ft Ct g (I x :: caps) = some (B (p x))) {xs : List Int} (hl : xs.length < 9223372036854775807) :
    run Ft Ct 82 [.sl none 1 (eI xs), .fn (.f g) caps] = some (B (xs.any p)) := by
  have h := run87 hc hp hl
  refine run_of_body (N := 1) rfl rfl ?_
  simp [l82, evBody, params, deadL, evC, prep, prepF, prepT, V.prep, prepL, stepL, stepI, wanted, opds, opd, get, put, putO, sem, callE, loadV, partV, valO, binV, binI, binS, unV, nilCmp, apply, keepL, memN, bxOf, tkOf, bxF, frzL, V.frz, frzEL, V.frzE, V.pureR, pureRL, V.tks, tksL, V.al, alL, V.rn, rnL, addT, protT, protAll, distinctN, fill, splice, fillE, V.cells, V.cellOk, V.pm, eqSh, intsOf, maxL, minL, bounds, ranged, finish, result, rvs, finL, V.fin, one, goesOn, hc, h]
  cases hf : xs.findIdx? p with
  | none =>
    have := List.findIdx?_eq_none_iff.1 hf
    simp
    exact this
  | some k =>
    have hi : (xs.findIdx? p).isSome := by rw [hf]; rfl
    rw [List.findIdx?_isSome] at hi
    simp at hi
    simp [hi]
theorem run58 (a b : Int) {xs : List Int} (hl : xs.length < 9223372036854775807) :
    run Ft Ct 58 [I a, I b, .sl none 1 (eI xs)] = some (B (xs.all fun n => decide (a ≤ n ∧ n ≤ b))) := by
  have h := run82 (g := 83) (caps := [.cref [I a], .cref [I b]]) (p := fun n => decide (n < a) || decide (n > b)) (fun rd => by simp [frzL, V.frz]) (fun x => run83 x a b) hl
  refine run_of_body (N := 1) rfl rfl ?_
  simp [l58, evBody, params, deadL, evC, prep, prepF, prepT, V.prep, prepL, stepL, stepI, wanted, opds, opd, get, put, putO, sem, callE, loadV, partV, valO, binV, binI, binS, unV, nilCmp, apply, keepL, memN, bxOf, tkOf, bxF, frzL, V.frz, frzEL, V.frzE, V.pureR, pureRL, V.tks, tksL, V.al, alL, V.rn, rnL, addT, protT, protAll, distinctN, fill, splice, fillE, V.cells, V.cellOk, V.pm, eqSh, intsOf, maxL, minL, bounds, ranged, finish, result, rvs, finL, V.fin, one, goesOn, h]
  rw [Bool.eq_iff_iff]
  simp
  constructor <;> rintro ⟨x, h1, h2⟩ <;> exact ⟨x, h1, by omega⟩
theorem run71 (lo hi a b : Int) : run Ft Ct 71 [.agg [I lo, I hi], I a, I b] = some (B (decide (a ≤ lo ∧ lo ≤ b ∧ a ≤ hi ∧ hi ≤ b ∧ lo ≤ hi))) := by
  have h := run58 a b (xs := [lo, hi]) (by simp)
  simp [eI] at h
  refine run_of_body (N := 1) rfl rfl ?_
  by_cases h1 : a ≤ lo ∧ lo ≤ b ∧ a ≤ hi ∧ hi ≤ b
  · obtain ⟨h1, h2, h3, h4⟩ := h1
    simp [l71, evBody, params, deadL, evC, prep, prepF, prepT, V.prep, prepL, stepL, stepI, wanted, opds, opd, get, put, putO, sem, callE, loadV, partV, valO, binV, binI, binS, unV, nilCmp, apply, keepL, memN, bxOf, tkOf, bxF, frzL, V.frz, frzEL, V.frzE, V.pureR, pureRL, V.tks, tksL, V.al, alL, V.rn, rnL, addT, protT, protAll, distinctN, fill, splice, fillE, V.cells, V.cellOk, V.pm, eqSh, intsOf, maxL, minL, bounds, ranged, finish, result, rvs, finL, V.fin, one, goesOn, h, h1, h2, h3, h4]
  · have e : (decide (a ≤ lo) && decide (lo ≤ b) && (decide (a ≤ hi) && decide (hi ≤ b))) = false := by
      rw [Bool.eq_false_iff]; simp; omega
    rw [e] at h
    simp [l71, evBody, params, deadL, evC, prep, prepF, prepT, V.prep, prepL, stepL, stepI, wanted, opds, opd, get, put, putO, sem, callE, loadV, partV, valO, binV, binI, binS, unV, nilCmp, apply, keepL, memN, bxOf, tkOf, bxF, frzL, V.frz, frzEL, V.frzE, V.pureR, pureRL, V.tks, tksL, V.al, alL, V.rn, rnL, addT, protT, protAll, distinctN, fill, splice, fillE, V.cells, V.cellOk, V.pm, eqSh, intsOf, maxL, minL, bounds, ranged, finish, result, rvs, finL, V.fin, one, goesOn, h]
    omega
end Go.Lo
