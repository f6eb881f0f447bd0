/- Every operation does what the logical machine says. -/
import Derived.Test.YtifanigkolnedaaLt
namespace Go.Lo
open Go.RowKit (Below)
section
variable {P : Program} {X : Sc} {w0 w : World} {Ω : Own} {a : Act} {σ : St} {o : Oper} {mk : Bool}

theorem DenL.inv0 {vs : List V} (h : DenL Ω w vs []) : vs = [] := by
  cases vs with
  | nil => rfl
  | cons v vs => simp [DenL] at h
theorem DenL.invS {vs : List V} {x : Value} {xs : List Value} (h : DenL Ω w vs (x :: xs)) : ∃ v us, vs = v :: us ∧ Den Ω w v x ∧ DenL Ω w us xs := by
  cases vs with
  | nil => simp [DenL] at h
  | cons v vs =>
    simp only [DenL] at h
    obtain ⟨y, ys, e, h1, h2⟩ := h
    injection e with e1 e2
    subst e1; subst e2
    exact ⟨v, vs, rfl, h1, h2⟩
theorem DenL.inv1 {vs : List V} {x : Value} (h : DenL Ω w vs [x]) : ∃ v, vs = [v] ∧ Den Ω w v x := by
  obtain ⟨v, us, rfl, h1, h2⟩ := h.invS
  have := h2.inv0; subst this
  exact ⟨v, rfl, h1⟩
theorem DenL.inv2 {vs : List V} {x y : Value} (h : DenL Ω w vs [x, y]) : ∃ v u, vs = [v, u] ∧ Den Ω w v x ∧ Den Ω w u y := by
  obtain ⟨v, us, rfl, h1, h2⟩ := h.invS
  obtain ⟨u, rfl, h3⟩ := h2.inv1
  exact ⟨v, u, rfl, h1, h3⟩
theorem DenL.inv3 {vs : List V} {x y z : Value} (h : DenL Ω w vs [x, y, z]) : ∃ v u t, vs = [v, u, t] ∧ Den Ω w v x ∧ Den Ω w u y ∧ Den Ω w t z := by
  obtain ⟨v, us, rfl, h1, h2⟩ := h.invS
  obtain ⟨u, t, rfl, h3, h4⟩ := h2.inv2
  exact ⟨v, u, t, rfl, h1, h3, h4⟩
/-- What an operation of this form comes to, whatever follows. -/
def Sound (P : Program) (X : Sc) (w0 : World) (Ω : Own) (w : World) (a : Act) (σ : St) (o : Oper) (mk : Bool) (e : Eff) : Prop :=
  ∀ (ro : Option Nat) (n : Nat) (K : Act → World → Prop) (Q : Exit → Act → World → Prop),
    (∀ x w' Ω', Inv X w0 Ω' w' (a.put o.dst x).tmps (apply σ o.dst e) → (∀ d, Fresh Ω d → (mk = true → o.dst ≠ some d) → Fresh Ω' d) → K (a.put o.dst x) w') → o.wpIn (wideR ro) n P a w K Q
theorem Yields.sound {e : Eff} (hy : Yields P X w0 Ω w a o (apply σ o.dst e) mk) (hd : ∀ c, o.op ≠ .defer c) : Sound P X w0 Ω w a σ o mk e := fun _ _ _ _ hK => hy.wp hd hK
theorem sound_val (h : Inv X w0 Ω w a.tmps σ) (hdst : ∀ d, o.dst = some d → d < a.tmps.size) (hd : ∀ c, o.op ≠ .defer c) {v : V} (hr : ∃ x, (execOp a.eval o).run P w = .ok (.value x) w ∧ Den Ω w v x) : Sound P X w0 Ω w a σ o mk (.val v) := by
  obtain ⟨x, h1, h2⟩ := hr
  exact (Yields.val h hdst h1 h2).sound hd
theorem valO_some {x : Option V} {e : Eff} (h : valO x = some e) : ∃ v, x = some v ∧ e = .val v := by
  cases x with
  | none => simp [valO] at h
  | some v => simp only [valO, Option.some.injEq] at h; exact ⟨v, rfl, h.symm⟩
section ops
variable {call : Nat → List V → Option V} {dr al : Bool} {root : Option Nat} {k : K} {xs : List Operand} {vs : List V} {e : Eff} {ex : List Nat}
  (h : Inv X w0 Ω w a.tmps σ) (hdst : ∀ d, o.dst = some d → d < a.tmps.size) (hop : opC P o.op dr al mk root = some (k, xs)) (hv : DenL Ω w vs (xs.map a.eval))
  (hsem : sem call (bxOf σ.fr ex) (tkOf σ.tk ex) (o.dst.getD 0) k vs = some e) (hmd : mk = true → ∃ d, o.dst = some d ∧ Fresh Ω d)
include h hdst hop hv hsem

theorem sound_move {x : Operand} (ho : o.op = .move x) : Sound P X w0 Ω w a σ o mk e := by
  simp only [ho, opC, Option.some.injEq, Prod.mk.injEq] at hop
  obtain ⟨rfl, rfl⟩ := hop
  obtain ⟨v, rfl, h1⟩ := hv.inv1
  simp only [sem, Option.some.injEq] at hsem; subst hsem
  exact sound_val h hdst (by simp [ho]) ⟨_, run_move ho, h1⟩
theorem sound_assign {x : Operand} (ho : o.op = .assign x) : Sound P X w0 Ω w a σ o mk e := by
  simp only [ho, opC, Option.some.injEq, Prod.mk.injEq] at hop
  obtain ⟨rfl, rfl⟩ := hop
  obtain ⟨v, rfl, h1⟩ := hv.inv1
  simp only [sem, Option.some.injEq] at hsem; subst hsem
  exact sound_val h hdst (by simp [ho]) ⟨_, run_assign ho, h1⟩
theorem sound_pick {x y z : Operand} (ho : o.op = .pick x y z) : Sound P X w0 Ω w a σ o mk e := by
  simp only [ho, opC, Option.some.injEq, Prod.mk.injEq] at hop
  obtain ⟨rfl, rfl⟩ := hop
  obtain ⟨v, u, t, rfl, h1, h2, h3⟩ := hv.inv3
  cases v <;> simp only [sem, Option.some.injEq, reduceCtorEq] at hsem
  subst hsem
  simp only [Den] at h1
  refine sound_val h hdst (by simp [ho]) ⟨_, run_pick ho h1, ?_⟩
  split <;> assumption
theorem sound_load {t : TypeId} {x : Operand} (ho : o.op = .load t x) : Sound P X w0 Ω w a σ o mk e := by
  simp only [ho, opC] at hop
  split at hop
  · rename_i n hn
    simp only [Option.some.injEq, Prod.mk.injEq] at hop
    obtain ⟨rfl, rfl⟩ := hop
    obtain ⟨v, rfl, h1⟩ := hv.inv1
    simp only [sem] at hsem
    obtain ⟨r, h2, rfl⟩ := valO_some hsem
    exact (yields_load h hdst ho hn h1 h2).sound (by simp [ho])
  · cases hop
theorem sound_bin {op : BinOp} {t u : TypeId} {x y : Operand} (ho : o.op = .binOp op t x y u) : Sound P X w0 Ω w a σ o mk e := by
  have plain : ∀ ty, binTy P t ty → k = .bin ty op → xs = [x, y] → Sound P X w0 Ω w a σ o mk e := by
    rintro ty ht rfl rfl
    obtain ⟨v, v', rfl, h1, h2⟩ := hv.inv2
    simp only [sem] at hsem
    obtain ⟨r, h3, rfl⟩ := valO_some hsem
    exact sound_val h hdst (by simp [ho]) (run_bin ho ht h1 h2 h3)
  have aggr : (∃ d, P.underlying t = some d ∧ d.isRow = true) → eqsC P op t x y = some (k, xs) → Sound P X w0 Ω w a σ o mk e := by
    intro hrow he
    unfold eqsC at he
    split at he
    · rename_i ne sh hop' hsh
      split at he
      · rename_i hg
        simp only [Option.some.injEq, Prod.mk.injEq] at he
        obtain ⟨rfl, rfl⟩ := he
        obtain ⟨v, v', rfl, h1, h2⟩ := hv.inv2
        cases v <;> cases v' <;> simp only [sem, reduceCtorEq] at hsem
        split at hsem
        · rename_i r hr
          simp only [Option.some.injEq] at hsem; subst hsem
          exact sound_val h hdst (by simp [ho]) ⟨_, run_eqs ho hop' hsh hg hrow h1 h2 hr, by simp [Den]⟩
        · cases hsem
      · cases he
    · cases he
  simp only [ho, opC] at hop
  cases hu : P.underlying t with
  | none => simp [hu] at hop
  | some d =>
    cases d <;> simp only [hu, Option.some.injEq, Prod.mk.injEq, reduceCtorEq] at hop
    case int q => exact plain 0 ⟨by simp, by simp⟩ hop.1.symm hop.2.symm
    case bool => exact plain 1 ⟨fun _ => hu, by simp⟩ hop.1.symm hop.2.symm
    case slice el => exact plain 2 ⟨by simp, fun _ => ⟨el, hu⟩⟩ hop.1.symm hop.2.symm
    case struct fs => exact aggr ⟨_, hu, rfl⟩ hop
    case array q el => exact aggr ⟨_, hu, rfl⟩ hop
theorem sound_un {op : UnOp} {t : TypeId} {x : Operand} (ho : o.op = .unOp op t x) : Sound P X w0 Ω w a σ o mk e := by
  simp only [ho, opC, Option.some.injEq, Prod.mk.injEq] at hop
  obtain ⟨rfl, rfl⟩ := hop
  obtain ⟨v, rfl, h1⟩ := hv.inv1
  simp only [sem] at hsem
  obtain ⟨r, h3, rfl⟩ := valO_some hsem
  exact sound_val h hdst (by simp [ho]) (run_un ho h1 h3)
theorem sound_conv {s d : TypeId} {x : Operand} (ho : o.op = .convert s d x) : Sound P X w0 Ω w a σ o mk e := by
  simp only [ho, opC] at hop
  split at hop
  · rename_i q q' h1 h2
    simp only [Option.some.injEq, Prod.mk.injEq] at hop
    obtain ⟨rfl, rfl⟩ := hop
    obtain ⟨v, rfl, hv1⟩ := hv.inv1
    cases v <;> simp only [sem, Option.some.injEq, reduceCtorEq] at hsem
    subst hsem
    simp only [Den] at hv1
    exact sound_val h hdst (by simp [ho]) ⟨_, run_convI ho h1 h2 hv1, by simp [Den]⟩
  · cases hop
theorem sound_mkf {f : Fn} {first caps : Array Operand} (ho : o.op = .makeFunc f first caps) : Sound P X w0 Ω w a σ o mk e := by
  simp only [ho, opC] at hop
  cases f <;> simp only [reduceCtorEq] at hop
  split at hop
  · rename_i hf
    simp only [Option.some.injEq, Prod.mk.injEq] at hop
    obtain ⟨rfl, rfl⟩ := hop
    simp only [sem, Option.some.injEq] at hsem; subst hsem
    refine sound_val h hdst (by simp [ho]) ⟨_, run_mkf ho hf, ?_⟩
    simp only [Den]
    exact ⟨caps.toList.map a.eval, by rw [← Array.toList_map]; simp only [Fk.Is, Array.toArray_toList], hv⟩
  · split at hop
    · rename_i hf
      simp only [Option.some.injEq, Prod.mk.injEq] at hop
      obtain ⟨rfl, rfl⟩ := hop
      simp only [sem, Option.some.injEq] at hsem; subst hsem
      refine sound_val h hdst (by simp [ho]) ⟨_, run_mkm ho hf, ?_⟩
      simp only [Den]
      exact ⟨first.toList.map a.eval, by rw [← Array.toList_map]; simp only [Fk.Is, Array.toArray_toList], hv⟩
    · cases hop
theorem sound_ext {x : Operand} {i : Nat} (ho : o.op = .extract x i) : Sound P X w0 Ω w a σ o mk e := by
  simp only [ho, opC, Option.some.injEq, Prod.mk.injEq] at hop
  obtain ⟨rfl, rfl⟩ := hop
  obtain ⟨v, rfl, h1⟩ := hv.inv1
  cases v <;> simp only [sem, reduceCtorEq] at hsem
  obtain ⟨r, h3, rfl⟩ := valO_some hsem
  simp only [Den] at h1
  obtain ⟨ys, h4, h5⟩ := h1
  obtain ⟨y, h6, h7⟩ := h5.get h3
  exact sound_val h hdst (by simp [ho]) ⟨y, run_ext ho h4 (by simpa using h6), h7⟩
theorem sound_field {t : TypeId} {x : Operand} {i : Nat} (ho : o.op = .field t x i) : Sound P X w0 Ω w a σ o mk e := by
  simp only [ho, opC] at hop
  split at hop
  · rename_i off u hf
    split at hop
    · rename_i n hn
      simp only [Option.some.injEq, Prod.mk.injEq] at hop
      obtain ⟨rfl, rfl⟩ := hop
      obtain ⟨v, rfl, h1⟩ := hv.inv1
      cases v <;> simp only [sem, reduceCtorEq] at hsem
      obtain ⟨r, h3, rfl⟩ := valO_some hsem
      exact sound_val h hdst (by simp [ho]) (run_field ho hf hn h1 h3)
    · cases hop
  · cases hop
theorem sound_index {t : TypeId} {x y : Operand} (ho : o.op = .index t x y) : Sound P X w0 Ω w a σ o mk e := by
  simp only [ho, opC] at hop
  split at hop
  · rename_i len el ht
    split at hop
    · rename_i n m hs hn
      simp only [Option.some.injEq, Prod.mk.injEq] at hop
      obtain ⟨rfl, rfl⟩ := hop
      obtain ⟨v, u, rfl, h1, h2⟩ := hv.inv2
      cases v <;> cases u <;> simp only [sem, reduceCtorEq] at hsem
      split at hsem
      · rename_i hc
        obtain ⟨r, h3, rfl⟩ := valO_some hsem
        exact sound_val h hdst (by simp [ho]) (run_index ho ht hs hn h1 h2 hc h3)
      · cases hsem
    · cases hop
  · cases hop
theorem sound_build {t : TypeId} {ps : Array (Nat × Operand)} (ho : o.op = .build t ps) : Sound P X w0 Ω w a σ o mk e := by
  simp only [ho, opC] at hop
  have hop' := hop
  unfold buildC at hop
  split at hop
  · rename_i zs place hz hpl
    split at hop
    · rename_i pl hp
      simp only [Option.some.injEq, Prod.mk.injEq] at hop
      obtain ⟨hk, hxs⟩ := hop
      subst hk
      simp only [sem] at hsem
      split at hsem
      · rename_i cs hcs
        simp only [Option.some.injEq] at hsem; subst hsem
        exact sound_val h hdst (by simp [ho]) (run_build ho hop' hv rfl hcs)
      · cases hsem
    · cases hop
  · cases hop
theorem sound_slice {t : TypeId} {x : Operand} {lo hi mx : Option Operand} (ho : o.op = .slice t x lo hi mx) : Sound P X w0 Ω w a σ o mk e := by
  simp only [ho, opC] at hop
  split at hop
  · rename_i el he
    split at hop
    · rename_i n hs
      split at hop
      · rename_i hn
        split at hop
        · rename_i lo' hi' mx' r0 y
          simp only [Option.some.injEq, Prod.mk.injEq] at hop
          obtain ⟨rfl, rfl⟩ := hop
          obtain ⟨v, u, rfl, h1, h2⟩ := hv.inv2
          cases v <;> (try (simp only [sem, reduceCtorEq] at hsem; done))
          rename_i tok sz es
          cases tok <;> (try (simp only [sem, reduceCtorEq] at hsem; done))
          cases u <;> simp only [sem, reduceCtorEq] at hsem
          split at hsem
          · rename_i m htk
            split at hsem
            · rename_i hc
              obtain ⟨rfl, rfl, h3, h4⟩ := hc
              simp only [Option.some.injEq] at hsem; subst hsem
              exact (yields_trunc h hdst ho he hs h1 h2 (tkOf_get htk).1 h3 h4).sound (by simp [ho])
            · cases hsem
          · cases hsem
        simp only [Option.some.injEq, Prod.mk.injEq] at hop
        obtain ⟨rfl, rfl⟩ := hop
        rw [List.map_cons] at hv
        obtain ⟨v, us, rfl, h1, h2⟩ := hv.invS
        cases v <;> (try (simp only [sem, reduceCtorEq] at hsem; done))
        case nil =>
          simp only [sem] at hsem
          split at hsem
          · rename_i b hb
            simp only [Option.some.injEq] at hsem; subst hsem
            exact (yields_slice_nil h hdst ho he hs hn.2 h1 h2 hb).sound (by simp [ho])
          · cases hsem
        case sl tok sz es =>
          cases tok with
          | none =>
            simp only [sem] at hsem
            split at hsem
            · rename_i hsz
              subst hsz
              split at hsem
              · rename_i l r hb
                simp only [Option.some.injEq] at hsem; subst hsem
                exact (yields_slice_none h hdst ho he hs hn.2 h1 h2 hb).sound (by simp [ho])
              · cases hsem
            · cases hsem
          | some tk =>
            simp only [sem] at hsem
            split at hsem
            · rename_i hsz
              subst hsz
              split at hsem
              · rename_i l r hb
                split at hsem
                · simp only [Option.some.injEq] at hsem; subst hsem
                  exact (yields_slice_some h hdst ho he hs hn.2 h1 h2 hb).sound (by simp [ho])
                · cases hsem
              · cases hsem
            · cases hsem
      · cases hop
    · cases hop
  · cases hop
theorem sound_fa {t : TypeId} {x : Operand} {i : Nat} (ho : o.op = .fieldAddr t x i) : Sound P X w0 Ω w a σ o mk e := by
  simp only [ho, opC] at hop
  split at hop
  · rename_i off u hf
    split at hop
    · rename_i n hn
      split at hop
      · rename_i hn0
        simp only [Option.some.injEq, Prod.mk.injEq] at hop
        obtain ⟨rfl, rfl⟩ := hop
        obtain ⟨v, rfl, h1⟩ := hv.inv1
        cases v <;> simp only [sem, Option.some.injEq, reduceCtorEq] at hsem
        · subst hsem
          obtain ⟨b, h3, h4⟩ := den_move_ref (off := off) h1
          exact sound_val h hdst (by simp [ho]) ⟨_, run_faOp ho hf hn hn0 h3, h4⟩
        · subst hsem
          obtain ⟨b, q, h3, h4⟩ := den_move_cref (off := off) h1
          exact sound_val h hdst (by simp [ho]) ⟨_, run_faOp ho hf hn hn0 h3, h4⟩
        · subst hsem
          obtain ⟨b, q, h3, h4⟩ := den_move_eref (off := off) h1
          exact sound_val h hdst (by simp [ho]) ⟨_, run_faOp ho hf hn hn0 h3, h4⟩
      · cases hop
    · cases hop
  · cases hop
theorem sound_ia {t : TypeId} {x y : Operand} (ho : o.op = .indexAddr t x y) : Sound P X w0 Ω w a σ o mk e := by
  simp only [ho, opC] at hop
  split at hop
  · rename_i el ht
    split at hop
    · rename_i n hs
      split at hop
      · simp only [Option.some.injEq, Prod.mk.injEq] at hop
        obtain ⟨rfl, rfl⟩ := hop
        obtain ⟨v, u, rfl, h1, h2⟩ := hv.inv2
        cases v <;> (try (simp only [sem, reduceCtorEq] at hsem; done))
        rename_i tok sz es
        cases u <;> (try (cases tok <;> simp only [sem, reduceCtorEq] at hsem; done))
        rename_i q i
        cases tok with
        | none =>
          simp only [sem] at hsem
          split at hsem
          · rename_i hc
            obtain ⟨rfl, h0⟩ := hc
            split at hsem
            · rename_i cs hcs
              simp only [Option.some.injEq] at hsem; subst hsem
              exact sound_val h hdst (by simp [ho]) (ixs_none ho ht hs h2 h1 h0 hcs)
            · cases hsem
          · cases hsem
        | some tk =>
          simp only [sem] at hsem
          split at hsem
          · rename_i hc
            obtain ⟨rfl, h0⟩ := hc
            split at hsem
            · rename_i cs hcs
              simp only [Option.some.injEq] at hsem; subst hsem
              exact sound_val h hdst (by simp [ho]) (ixs_some ho ht hs h2 h1 h0 hcs)
            · cases hsem
          · cases hsem
      · cases hop
    · cases hop
  · rename_i len el ht
    split at hop
    · rename_i n hs
      split at hop
      · simp only [Option.some.injEq, Prod.mk.injEq] at hop
        obtain ⟨rfl, rfl⟩ := hop
        obtain ⟨v, u, rfl, h1, h2⟩ := hv.inv2
        cases v <;> (try (simp only [sem, reduceCtorEq] at hsem; done)) <;> cases u <;> (try (simp only [sem, reduceCtorEq] at hsem; done)) <;> simp only [sem] at hsem <;> split at hsem <;> (try (cases hsem; done))
        · rename_i hc
          simp only [Option.some.injEq] at hsem; subst hsem
          obtain ⟨b, h3, h4⟩ := den_move_ref h1
          exact sound_val h hdst (by simp [ho]) ⟨_, run_ixaOp ho ht hs h2 hc h3, h4⟩
        · rename_i hc
          simp only [Option.some.injEq] at hsem; subst hsem
          obtain ⟨b, q, h3, h4⟩ := den_move_cref h1
          exact sound_val h hdst (by simp [ho]) ⟨_, run_ixaOp ho ht hs h2 hc h3, h4⟩
        · rename_i hc
          simp only [Option.some.injEq] at hsem; subst hsem
          obtain ⟨b, q, h3, h4⟩ := den_move_eref h1
          exact sound_val h hdst (by simp [ho]) ⟨_, run_ixaOp ho ht hs h2 hc h3, h4⟩
      · cases hop
    · cases hop
  · cases hop
theorem sound_nilc {x : Operand} (ho : o.op = .nilCheck x) : Sound P X w0 Ω w a σ o mk e := by
  simp only [ho, opC, Option.some.injEq, Prod.mk.injEq] at hop
  obtain ⟨rfl, rfl⟩ := hop
  obtain ⟨v, rfl, h1⟩ := hv.inv1
  have : v.isPtr = true ∧ e = .val v := by
    cases v <;> simp only [sem, Option.some.injEq, reduceCtorEq] at hsem <;> exact ⟨rfl, hsem.symm⟩
  obtain ⟨h2, rfl⟩ := this
  exact sound_val h hdst (by simp [ho]) ⟨_, run_nilcOp ho h2 h1, h1⟩
end ops
end
end Go.Lo
