/- Binary operations. -/
import Derived.Test.YtifanigkolnedaaLn
import Derived.Laws.Cover3
namespace Go.Lo
section
variable {P : Program} {X : Sc} {w0 w : World} {Ω : Own} {a : Act} {σ : St} {o : Oper} {mk : Bool}

theorem run_binOp {op : BinOp} {t u : TypeId} {x y : Operand} (ho : o.op = .binOp op t x y u) :
    (execOp a.eval o).run P w = ((eqGuard op t x y (a.eval x) (a.eval y)).run P w).andThen fun _ w => ((binOp op t (a.eval x) (a.eval y)).run P w).andThen fun v w => .ok (.value v) w := by
  simp only [execOp, ho, Sem.run_bind]
  cases (eqGuard op t x y (a.eval x) (a.eval y)).run P w with
  | ok _ w =>
    simp only [Result.andThen_ok]
    congr 1
  | halt _ _ => rfl
theorem run_eqGuard_int (op : BinOp) (t : TypeId) (x y : Operand) (k k' : IntKind) (n m : Int) (w : World) : (eqGuard op t x y (.int k n) (.int k' m)).run P w = .ok () w := by
  cases op <;> simp [eqGuard]
theorem run_eqGuard_bool (op : BinOp) (t : TypeId) (x y : Operand) (n m : Bool) (w : World) : (eqGuard op t x y (.bool n) (.bool m)).run P w = .ok () w := by
  cases op <;> simp [eqGuard]
theorem run_eqGuard_sl (op : BinOp) (t : TypeId) (x y : Operand) (b c : Option Addr) (n m n' m' : Nat) (w : World) : (eqGuard op t x y (.slice b n m) (.slice c n' m')).run P w = .ok () w := by
  cases op <;> simp [eqGuard]
theorem run_binI {op : BinOp} {k : IntKind} {n m : Int} {r : V} (h : binI op k n m = some r) (t : TypeId) (w : World) : ∃ z, (binOp op t (.int k n) (.int k m)).run P w = .ok z w ∧ Den Ω w r z := by
  cases op <;> simp only [binI, reduceCtorEq, Option.some.injEq] at h
  all_goals first
    | (subst h
       refine ⟨_, ?_, (by simp only [Den]; rfl)⟩
       simp [binOp, Op.intArith, Op.intCmp]
       done)
    | (split at h
       · cases h
       · simp only [Option.some.injEq] at h
         subst h
         refine ⟨_, ?_, (by simp only [Den]; rfl)⟩
         simp [binOp, Op.intDiv, *]
         done)
    | (simp only [intBits, Option.some.injEq] at h
       subst h
       refine ⟨_, ?_, (by simp only [Den]; rfl)⟩
       simp [binOp, Op.intBits]
       done)
    | (subst h
       refine ⟨_, ?_, (by simp only [Den]; rfl)⟩
       simp only [binOp, ne_eq, not_true_eq_false, if_false, Op.intCmp, Sem.run_pure]
       congr 2
       first | done | (by_cases e : n = m <;> simp [e]))
theorem run_binS {op : BinOp} {k k' : IntKind} {n m : Int} {r : V} (h : binS op k n m = some r) (t : TypeId) (w : World) : ∃ z, (binOp op t (.int k n) (.int k' m)).run P w = .ok z w ∧ Den Ω w r z := by
  unfold binS at h
  split at h
  · cases h
  · cases op <;> simp only [reduceCtorEq, Option.some.injEq] at h
    all_goals
      subst h
      refine ⟨_, ?_, (by simp only [Den]; rfl)⟩
      simp [binOp, Op.shift, *]
/-- What the type of the operands tells. -/
def binTy (P : Program) (t : TypeId) (ty : Nat) : Prop := (ty = 1 → P.underlying t = some .bool) ∧ (ty = 2 → ∃ e, P.underlying t = some (.slice e))
theorem run_bin {op : BinOp} {t u : TypeId} {x y : Operand} (ho : o.op = .binOp op t x y u) {ty : Nat} (ht : binTy P t ty) {v v' r : V} (hx : Den Ω w v (a.eval x)) (hy : Den Ω w v' (a.eval y)) (h : binV ty op v v' = some r) :
    ∃ z, (execOp a.eval o).run P w = .ok (.value z) w ∧ Den Ω w r z := by
  rw [run_binOp ho]
  have fin : ∀ {s : V}, (eqGuard op t x y (a.eval x) (a.eval y)).run P w = .ok () w → (∃ z, (binOp op t (a.eval x) (a.eval y)).run P w = .ok z w ∧ Den Ω w s z) →
      ∃ z, ((eqGuard op t x y (a.eval x) (a.eval y)).run P w).andThen (fun _ w => ((binOp op t (a.eval x) (a.eval y)).run P w).andThen fun v w => .ok (Next.value v) w) = .ok (Next.value z) w ∧ Den Ω w s z := by
    rintro s h0 ⟨z, h1, h2⟩
    exact ⟨z, by rw [h0]; simp only [Result.andThen_ok]; rw [h1]; rfl, h2⟩
  have eqlNil : ∀ (p : Option Addr) (l c : Nat) (s : V), a.eval x = .slice p l c → a.eval y = .slice none 0 0 → ty = 2 → nilCmp op p.isNone = some s →
      ∃ z, ((eqGuard op t x y (a.eval x) (a.eval y)).run P w).andThen (fun _ w => ((binOp op t (a.eval x) (a.eval y)).run P w).andThen fun v w => .ok (Next.value v) w) = .ok (Next.value z) w ∧ Den Ω w s z := by
    intro p l c s h1 h2 h3 h4
    refine fin (by rw [h1, h2]; exact run_eqGuard_sl _ _ _ _ _ _ _ _ _ _ _) ?_
    rw [h1, h2]
    obtain ⟨e, he⟩ := ht.2 h3
    cases op <;> simp only [nilCmp, reduceCtorEq, Option.some.injEq] at h4
    · subst h4
      refine ⟨.bool p.isNone, ?_, by simp [Den]⟩
      simp [binOp, run_equal_slice_nil w t e p l c he]
    · subst h4
      refine ⟨.bool !p.isNone, ?_, by simp [Den]⟩
      simp [binOp, run_equal_slice_nil w t e p l c he]
  cases v with
  | int k n =>
    cases v' <;> simp only [binV, reduceCtorEq] at h
    rename_i k' m
    simp only [Den] at hx hy
    refine fin (by rw [hx, hy]; exact run_eqGuard_int _ _ _ _ _ _ _ _ _) ?_
    rw [hx, hy]
    split at h
    · exact run_binS h t w
    · exact run_binS h t w
    · split at h
      · rename_i hk
        subst hk
        exact run_binI h t w
      · cases h
  | bool b =>
    cases v' <;> simp only [binV, reduceCtorEq] at h
    rename_i c
    simp only [Den] at hx hy
    refine fin (by rw [hx, hy]; exact run_eqGuard_bool _ _ _ _ _ _ _) ?_
    rw [hx, hy]
    split at h
    · rename_i h1
      have hb := ht.1 h1
      cases op <;> simp only [reduceCtorEq, Option.some.injEq] at h
      · subst h; exact ⟨_, run_eql_bool w t b c hb, by simp [Den]⟩
      · subst h; exact ⟨_, run_neq_bool w t b c hb, by simp [Den]⟩
    · cases h
  | nil =>
    cases v' <;> simp only [binV, reduceCtorEq] at h
    simp only [Den] at hx hy
    split at h
    · rename_i h2
      exact eqlNil none 0 0 r hx hy h2 h
    · cases h
  | sl tok sz es =>
    cases tok <;> cases v' <;> simp only [binV, reduceCtorEq] at h
    simp only [Den] at hx hy
    obtain ⟨b, cap, p, h1, _⟩ := hx
    split at h
    · rename_i h2
      exact eqlNil _ _ _ r h1 hy h2 h
    · cases h
  | _ => cases v' <;> simp only [binV, reduceCtorEq] at h
/-- Structs and arrays, cell by cell. -/
theorem run_eqs {op : BinOp} {t u : TypeId} {x y : Operand} (ho : o.op = .binOp op t x y u) {ne : Bool} {sh : List (Option IntKind)} (hop : eqOpC op = some ne) (hs : shapeC P 12 t = some sh) (hg : P.eqGuardType P.depth t = false)
    (hr : ∃ k, P.underlying t = some k ∧ k.isRow = true)
    {cs ds : List V} {r : Bool} (hx : Den Ω w (.agg cs) (a.eval x)) (hy : Den Ω w (.agg ds) (a.eval y)) (h : eqSh sh cs ds = some r) :
    (execOp a.eval o).run P w = .ok (.value (.bool (ne != r))) w := by
  rw [run_binOp ho]
  simp only [Den] at hx hy
  obtain ⟨xs, hx1, hx2⟩ := hx
  obtain ⟨ys, hy1, hy2⟩ := hy
  have hv := eqVals_den h hx2 hy2
  rw [hx1, hy1, run_eqGuard_agg w op t x y _ _ hg]
  simp only [Result.andThen_ok]
  obtain ⟨k, hk1, hk2⟩ := hr
  have isv : ∀ zs : List Value, IsVal P t zs (.agg zs.toArray) := fun zs => by
    unfold IsVal
    cases k <;> simp at hk2 <;> simp [hk1]
  have he := run_equalIn_shape 12 t sh hs 9988 xs ys r _ _ w hv (isv xs) (isv ys)
  rw [show 9988 + 12 = 10000 from rfl] at he
  cases op <;> simp only [eqOpC, reduceCtorEq, Option.some.injEq] at hop
  · subst hop
    rw [run_eql_struct w, he]
    simp
  · subst hop
    rw [run_neq_struct w, he]
    simp
end
end Go.Lo
