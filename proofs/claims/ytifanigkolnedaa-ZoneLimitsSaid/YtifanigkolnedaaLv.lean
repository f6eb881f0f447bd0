/- Every operation, second part: what makes, writes and calls. -/
import Derived.Test.YtifanigkolnedaaLu
namespace Go.Lo
open Go.RowKit (Below)
section
variable {P : Program} {X : Sc} {w0 w : World} {Ω : Own} {a : Act} {σ : St} {o : Oper} {mk : Bool}
section ops
variable {call : Nat → List V → Option V} {dr al : Bool} {root : Option Nat} {k : K} {xs : List Operand} {vs : List V} {e : Eff} {ex : List Nat}
  (h : Inv X w0 Ω w a.tmps σ) (hdst : ∀ d, o.dst = some d → d < a.tmps.size) (hv : DenL Ω w vs (xs.map a.eval))
  (hsem : sem call (bxOf σ.fr ex) (tkOf σ.tk ex) (o.dst.getD 0) k vs = some e)
include h hdst hv hsem

theorem sound_alloc (hop : opC P o.op dr al mk root = some (k, xs)) (hmd : ∃ d, o.dst = some d ∧ Fresh Ω d) {t : TypeId} (ho : o.op = .alloc t) : Sound P X w0 Ω w a σ o true e := by
  obtain ⟨d, hd, hf⟩ := hmd
  simp only [ho, opC] at hop
  split at hop
  · rename_i zs hz
    simp only [Option.some.injEq, Prod.mk.injEq] at hop
    obtain ⟨rfl, rfl⟩ := hop
    have := hv.inv0; subst this
    simp only [sem, Option.some.injEq] at hsem; subst hsem
    unfold zeroD at hz
    split at hz
    · rename_i i hi
      split at hz
      · rename_i z hzz
        simp only [Option.some.injEq] at hz; subst hz
        refine (Yields.box h hd (hdst d hd) hf (xs := z.cells.toList) (T := t) (by rw [run_alloc ho hi hzz, Array.toArray_toList]) ?_ ?_).sound (by simp [ho])
        · generalize z.cells.toList = l
          induction l with
          | nil => exact DenL.nil
          | cons x l ih =>
            rw [List.map_cons]
            refine DenL.cons ?_ ih
            split
            · rename_i v hv
              split
              · exact valV_den x v hv
              · simp [Den]
            · simp [Den]
        · intro v hv
          obtain ⟨x, _, rfl⟩ := List.mem_map.1 hv
          split
          · split
            · rename_i hc; exact .inl hc
            · exact .inr rfl
          · exact .inr rfl
      · cases hz
    · cases hz
  · cases hop
theorem sound_box (hop : opC P o.op dr al mk root = some (k, xs)) (hmd : ∃ d, o.dst = some d ∧ Fresh Ω d) {t : TypeId} {x : Operand} (ho : o.op = .box t x) : Sound P X w0 Ω w a σ o true e := by
  obtain ⟨d, hd, hf⟩ := hmd
  simp only [ho, opC] at hop
  split at hop
  · simp only [Option.some.injEq, Prod.mk.injEq] at hop
    obtain ⟨rfl, rfl⟩ := hop
    obtain ⟨v, rfl, h1⟩ := hv.inv1
    simp only [sem] at hsem
    split at hsem
    · rename_i hc
      simp only [Option.some.injEq] at hsem; subst hsem
      exact (Yields.box h hd (hdst d hd) hf (xs := (a.eval x).cells.toList) (T := t) (by rw [run_box ho, Array.toArray_toList]) (Den.cells hc h1) (cells_cellOk hc)).sound (by simp [ho])
    · cases hsem
  · cases hop
theorem sound_store (hop : opC P o.op dr al mk root = some (k, xs)) {t : TypeId} {x y : Operand} (ho : o.op = .store t x y) : Sound P X w0 Ω w a σ o mk e := by
  simp only [ho, opC] at hop
  split at hop
  · rename_i n hn
    simp only [Option.some.injEq, Prod.mk.injEq] at hop
    obtain ⟨rfl, rfl⟩ := hop
    obtain ⟨v, u, rfl, h1, h2⟩ := hv.inv2
    cases v <;> (try (simp only [sem, reduceCtorEq] at hsem; done))
    case ref s off =>
      simp only [sem] at hsem
      split at hsem
      · rename_i hc
        split at hsem
        · rename_i cs hb
          split at hsem
          · rename_i cs' hs
            simp only [Option.some.injEq] at hsem; subst hsem
            exact (yields_store h hdst ho hn h1 h2 hc.1 hc.2.1 hb hs).sound (by simp [ho])
          · cases hsem
        · cases hsem
      · cases hsem
    case eref u' m i off cs =>
      cases root with
      | some r => simp only [sem, reduceCtorEq] at hsem
      | none =>
        simp only [sem] at hsem
        split at hsem
        · rename_i v' m' hfz htk
          split at hsem
          · rename_i hc
            obtain ⟨rfl, hc2, hc3⟩ := hc
            split at hsem
            · rename_i cs' hs
              simp only [Option.some.injEq] at hsem; subst hsem
              exact (yields_est h hdst ho hn h1 h2 hfz hc2 hc3 htk hs).sound (by simp [ho])
            · cases hsem
          · cases hsem
        · cases hsem
  · cases hop
theorem sound_buildSlice (hop : opC P o.op dr al mk root = some (k, xs)) (hmd : ∃ d, o.dst = some d ∧ Fresh Ω d) {t : TypeId} {len : Nat} {ps : Array (Nat × Operand)} (ho : o.op = .buildSlice t len ps) : Sound P X w0 Ω w a σ o true e := by
  obtain ⟨d, hd, hf⟩ := hmd
  simp only [ho, opC] at hop
  split at hop
  · rename_i el he
    split at hop
    · rename_i n z hs hz
      split at hop
      · rename_i hn
        simp only [Option.some.injEq, Prod.mk.injEq] at hop
        obtain ⟨rfl, rfl⟩ := hop
        simp only [sem] at hsem
        split at hsem
        · rename_i es ts hfl
          split at hsem
          · simp only [Option.some.injEq] at hsem; subst hsem
            rw [hd]
            simp only [Option.getD_some]
            have := yields_buildSlice (P := P) h ho he hs hz hn hd (hdst d hd) hf hv hfl
            exact this.sound (by simp [ho])
          · cases hsem
        · cases hsem
      · cases hop
    · cases hop
  · cases hop
theorem sound_makeSlice (hop : opC P o.op dr al mk root = some (k, xs)) (hmd : ∃ d, o.dst = some d ∧ Fresh Ω d) {t : TypeId} {x y : Operand} (ho : o.op = .makeSlice t x y) : Sound P X w0 Ω w a σ o true e := by
  obtain ⟨d, hd, hf⟩ := hmd
  simp only [ho, opC] at hop
  split at hop
  · rename_i el he
    split at hop
    · rename_i n b z hs hb hz
      split at hop
      · rename_i hn
        simp only [Option.some.injEq, Prod.mk.injEq] at hop
        obtain ⟨rfl, rfl⟩ := hop
        obtain ⟨v, u, rfl, h1, h2⟩ := hv.inv2
        cases v <;> (try (simp only [sem, reduceCtorEq] at hsem; done)) <;> cases u <;> simp only [sem, reduceCtorEq] at hsem
        split at hsem
        · rename_i hc
          simp only [Option.some.injEq] at hsem; subst hsem
          rw [hd]
          simp only [Option.getD_some]
          have := yields_makeSlice (P := P) h ho he hs hb hz hn hd (hdst d hd) hf h1 h2 hc
          exact this.sound (by simp [ho])
        · cases hsem
      · cases hop
    · cases hop
  · cases hop
theorem sound_append {x y : Operand} {t el : TypeId} {n b : Nat} {z : V} (hap : AppOp P o x y t el n b z) (hk : k = .append dr n b) (hxs : xs = [x, y]) (hmd : ∃ d, o.dst = some d ∧ (dr = true → Fresh Ω d)) : Sound P X w0 Ω w a σ o true e := by
  obtain ⟨d, hd, hf⟩ := hmd
  subst hk; subst hxs
  have hnd : ∀ c, o.op ≠ .defer c := by
    obtain ⟨c, _, _, ho, _⟩ := hap.op
    simp [ho]
  obtain ⟨v, u, rfl, h1, h2⟩ := hv.inv2
  have emptyY : ∀ {q : Option Nat} {sz : Nat}, Den Ω w (.sl q sz []) (a.eval y) → ∃ q c, a.eval y = .slice q 0 c := fun hy => by
    obtain ⟨p, k, hk⟩ := sl_len hy
    exact ⟨p, k, hk⟩
  have nilY : Den Ω w .nil (a.eval y) → ∃ q c, a.eval y = .slice q 0 c := fun hy => by
    simp only [Den] at hy
    exact ⟨_, _, hy⟩
  have nilX : Den Ω w .nil (a.eval x) → ∃ p n k, a.eval x = .slice p n k ∧ n ≤ k := fun hx => by
    simp only [Den] at hx
    exact ⟨_, _, _, hx, Nat.le_refl _⟩
  cases v <;> (try (simp only [sem, reduceCtorEq] at hsem; done))
  case nil =>
    cases u <;> (try (simp only [sem, reduceCtorEq] at hsem; done))
    case nil =>
      simp only [sem, Option.some.injEq] at hsem; subst hsem
      exact (yields_append_empty h hdst hap h1 (nilX h1) (nilY h2)).sound hnd
    case sl tok sz es =>
      simp only [sem] at hsem
      split at hsem
      · rename_i hsz
        subst hsz
        split at hsem
        · simp only [Option.some.injEq] at hsem; subst hsem
          exact (yields_append_empty h hdst hap h1 (nilX h1) (emptyY h2)).sound hnd
        · split at hsem
          · rename_i hb
            split at hsem
            · rename_i hdr
              simp only [Option.some.injEq] at hsem; subst hsem
              rw [hd]
              simp only [Option.getD_some]
              have := yields_append_new h hap hd (hdst d hd) (hf hdr) h1 h2 (by simp) hb
              exact this.sound hnd
            · simp only [Option.some.injEq] at hsem; subst hsem
              rw [hd]
              simp only [Option.getD_some]
              have := yields_append_prep h hap hd (hdst d hd) h1 h2 (by simp) hb
              exact this.sound hnd
          · cases hsem
      · cases hsem
  case sl tok sz es =>
    cases tok with
    | none => simp only [sem, reduceCtorEq] at hsem
    | some tk =>
      simp only [sem] at hsem
      split at hsem
      · rename_i m wr htk
        split at hsem
        · rename_i hc
          obtain ⟨hc1, rfl⟩ := hc
          obtain ⟨htk', _⟩ := tkOf_get htk
          have ownX : ∃ p n k, a.eval x = .slice p n k ∧ n ≤ k := by
            obtain ⟨c, k, T, xs, g1, ⟨p, g2⟩, g3, g4, g5, g6, g7, g8⟩ := h.tok tk m wr htk'
            simp only [Den] at h1
            obtain ⟨b', cap', p', hx1, hx2, hx3, hx4, hx5⟩ := h1
            exact ⟨_, _, _, hx1, Nat.le_add_right _ _⟩
          cases u <;> (try (simp only [reduceCtorEq] at hsem; done))
          case nil =>
            simp only [Option.some.injEq] at hsem; subst hsem
            exact (yields_append_empty h hdst hap h1 ownX (nilY h2)).sound hnd
          case sl tok2 sz2 ys =>
            simp only at hsem
            split at hsem
            · rename_i hc2
              obtain ⟨rfl, hb⟩ := hc2
              split at hsem
              · simp only [Option.some.injEq] at hsem; subst hsem
                exact (yields_append_empty h hdst hap h1 ownX (emptyY h2)).sound hnd
              · simp only [Option.some.injEq] at hsem; subst hsem
                exact (yields_append_more h hdst hap h1 htk' hc1 h2 (by simp) hb).sound hnd
            · cases hsem
        · cases hsem
      · cases hsem
theorem sound_appz {x y : Operand} {t el : TypeId} {n b : Nat} {z : V} (hap : AppZ P o x y t el n b z) (hk : k = .appz n b z.cells) (hxs : xs = [x, y]) (hmd : ∃ d, o.dst = some d) : Sound P X w0 Ω w a σ o true e := by
  obtain ⟨d, hd⟩ := hmd
  subst hk; subst hxs
  obtain ⟨c, u0, q, ho, hc, ha1, ha2, hu⟩ := hap.op
  have hnd : ∀ c, o.op ≠ .defer c := by simp [ho]
  obtain ⟨v, u, rfl, h1, h2⟩ := hv.inv2
  cases v <;> (try (simp only [sem, reduceCtorEq] at hsem; done)) <;> cases u <;> simp only [sem, reduceCtorEq] at hsem
  rename_i k m
  split at hsem
  · rename_i hc0
    split at hsem
    · rename_i hz0
      subst hz0
      simp only [Option.some.injEq] at hsem; subst hsem
      refine sound_val h hdst hnd ⟨.slice none 0 0, ?_, by simp [Den]⟩
      simp only [Den] at h1 h2
      obtain ⟨i, hi, _⟩ := info_size hap.size
      have ha1 : c.args = #[x, y] := Array.ext' (by simp [ha1])
      have ha2 : c.argTypes = #[t, u0] := Array.ext' (by simp [ha2])
      have hw : IntKind.i64.wrap 0 = 0 := by rw [IntKind.wrap_i64]; omega
      simp [execOp, ho, resolve, invoke, hc, builtin, ha1, ha2, h1, h2, Builtin.append_, run_underlying (elemC_spec hap.elem), run_underlying hu, sizeOf, typeInfo, hi, asInt, asIntOf, hw]
    · rename_i hz0
      simp only [Option.some.injEq] at hsem; subst hsem
      rw [hd]
      simp only [Option.getD_some]
      have := yields_appz h hap hd (hdst d hd) h1 h2 (by omega) hc0.2
      exact this.sound hnd
  · cases hsem
end ops
end
end Go.Lo
