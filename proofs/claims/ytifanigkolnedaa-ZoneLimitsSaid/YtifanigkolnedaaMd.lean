/- Function bodies. -/
import Derived.Test.YtifanigkolnedaaMc
namespace Go.Lo
open Go.RowKit (Below)
section
variable {P : Program} {X : Sc} {w0 w : World} {Ω : Own} {call : Nat → List V → Option V} {σ : St}

theorem loadAt_var {t : TypeId} {ad : Addr} : (Instr.loadAt t (.pointer (some ad))).run P w = (loadVar t ad).run P w := by
  simp [Instr.loadAt, Instr.sureAddr]
def readRV (tm : Array Value) : ResultVar → Sem Value
  | .tmp t => pure (tm.getD t undef)
  | .cell a t => do loadVar t (← asAddr (tm.getD a undef))
theorem run_results {fn : Func} {tm : Array Value} {xs : List Value} (h : (fn.results.toList.mapM (readRV tm)).run P w = .ok xs w) : (results fn tm).run P w = .ok (if h : xs.length = 1 then xs[0] else .tuple xs.toArray) w := by
  change (do
    let vs ← fn.results.mapM (readRV tm)
    pure (if h : vs.size = 1 then vs[0] else Value.tuple vs) : Sem Value).run P w = _
  rw [Array.mapM_eq_mapM_toList, Sem.run_bind, Sem.run_map, h]
  simp only [Result.andThen_ok]
  rfl
/-- The results, read. -/
theorem rvs_sound {tm : Array Value} (h : Inv X w0 Ω w tm σ) : ∀ {rs : List ResultVar} {ls : List RV} {vs : List V}, rvsC P rs = some ls → rvs σ.fr ls = some vs →
    ∃ xs, (rs.mapM (readRV tm)).run P w = .ok xs w ∧ DenL Ω w vs xs
  | [], ls, vs, hc, hv => by
    simp only [rvsC, Option.some.injEq] at hc; subst hc
    simp only [rvs, Option.some.injEq] at hv; subst hv
    exact ⟨[], by simp, DenL.nil⟩
  | r :: rs, ls, vs, hc, hv => by
    simp only [rvsC] at hc
    split at hc
    · rename_i x xs hx hxs
      simp only [Option.some.injEq] at hc; subst hc
      cases r with
      | tmp t =>
        simp only [rvC, Option.some.injEq] at hx; subst hx
        simp only [rvs] at hv
        split at hv
        · rename_i v vs' h1 h2
          simp only [Option.some.injEq] at hv; subst hv
          obtain ⟨ys, g1, g2⟩ := rvs_sound h hxs h2
          have hd := opd_sound (a := { tmps := tm, defers := [] }) h (x := .tmp t) (y := .t t) rfl h1
          refine ⟨tm.getD t undef :: ys, ?_, DenL.cons hd g2⟩
          simp only [List.mapM_cons, readRV, Sem.run_bind, Sem.run_pure, Result.andThen_ok, g1]
        · cases hv
      | cell ad t =>
        simp only [rvC] at hx
        split at hx
        · rename_i n hn
          simp only [Option.some.injEq] at hx; subst hx
          simp only [rvs] at hv
          split at hv
          · rename_i cs vs' h1 h2
            split at hv
            · rename_i v hp
              simp only [Option.some.injEq] at hv; subst hv
              obtain ⟨ys, g1, g2⟩ := rvs_sound h hxs h2
              obtain ⟨_, hs⟩ := h.slot ad _ h1
              simp only [DenS] at hs
              obtain ⟨b, zs, T, e1, e2, e3, e4, e5⟩ := hs
              obtain ⟨y, k1, k2⟩ := load_cells (P := P) (base := 0) (off := 0) (b := b) hn e4 (fun j z hj => by
                rw [Nat.zero_add, cell_of_row w b j _ T (0, 0) e3]
                simpa using hj) hp
              rw [loadAt_var] at k1
              refine ⟨y :: ys, ?_, DenL.cons k2 g2⟩
              simp only [Nat.add_zero] at k1
              simp only [List.mapM_cons, readRV, Sem.run_bind, Sem.run_pure, Result.andThen_ok, g1, e1, asAddr, k1]
            · cases hv
          · cases hv
        · cases hx
    · cases hc
end
end Go.Lo
