/- From the logical machine's word to a row. -/
import Derived.Test.YtifanigkolnedaaMh
import Derived.Handed
import Derived.Carry
import Derived.RowKit
import Derived.ChangeShapes
namespace Go.Lo
open Go.RowKit (Below)

/-- A value of the type. -/
def HasV : Ty → V → Prop
  | .st fs, v => ∃ cs, v = .agg cs ∧ HasCs fs cs
  | .arr n e, v => ∃ cs, v = .agg cs ∧ HasC (.arr n e) cs
  | .bool, v => HasC .bool [v]
  | .int k, v => HasC (.int k) [v]
  | .sl e, v => HasC (.sl e) [v]
def HasVs : List Ty → List V → Prop
  | [], vs => vs = []
  | t :: ts, vs => ∃ v us, vs = v :: us ∧ HasV t v ∧ HasVs ts us
theorem plain_pureL : ∀ {vs : List V}, PlainL vs → pureL vs = true
  | [], _ => rfl
  | v :: vs, h => by
    simp only [pureL, (h v (by simp)).1, if_true]
    exact plain_pureL fun u hu => h u (by simp [hu])
section
variable {H : Type} {enc : TypeId × Value → H} {P : Program} {W : World} {held : Bool}
theorem val_of_data {r : Reach} {base d : Nat} {t : TypeId} {ty : Ty} {x : Value} {dd : DataW H} {p : List MemPlace} (hok : Value.okWide P W r base t x) (hty : tyC P d t = some ty) (h : DataW.Trod enc P W 0 (fun _ => true) held t x dd p) :
    ∃ v, Den (allFrz W) W v x ∧ HasV ty v ∧ v.pure = true := by
  obtain ⟨fuel, hf⟩ := h
  obtain ⟨vs, h1, h2, h3⟩ := trod_cells fuel d t ty _ _ hty hf
  have one : (∀ cs, x ≠ .agg cs) → ∃ v, vs = [v] ∧ Den (allFrz W) W v x ∧ v.pure = true := by
    intro hne
    have hc : x.cells.toList = [x] := by cases x <;> first | rfl | (exact absurd rfl (hne _))
    rw [hc] at h1
    cases vs with
    | nil => simp [DenL] at h1
    | cons v vs =>
      simp only [DenL] at h1
      obtain ⟨y, ys, e, g1, g2⟩ := h1
      injection e with e1 e2
      subst e1; subst e2
      cases vs with
      | nil => exact ⟨v, rfl, g1, (h3 v (by simp)).1⟩
      | cons u us => simp [DenL] at g2
  have agg : (∃ cs, x = .agg cs) → Den (allFrz W) W (.agg vs) x ∧ (V.agg vs).pure = true := by
    rintro ⟨cs, rfl⟩
    refine ⟨?_, by simp only [V.pure]; exact plain_pureL h3⟩
    simp only [Den]
    exact ⟨cs.toList, by simp, by simpa [Value.cells] using h1⟩
  unfold Value.okWide at hok
  have hty' := hty
  cases d with
  | zero => simp [tyC] at hty
  | succ d =>
    unfold tyC at hty
    simp only at hty
    cases hu : P.underlying t with
    | none => simp [hu] at hty
    | some k =>
      cases k <;> simp only [hu, reduceCtorEq] at hty hok
      case bool =>
        split at hty
        · simp only [Option.some.injEq] at hty; subst hty
          obtain ⟨v, rfl, g1, g2⟩ := one (fun cs e => by subst e; simp [Cell.okWide, Cell.ok, hu] at hok)
          exact ⟨v, g1, h2, g2⟩
        · cases hty
      case int q =>
        split at hty
        · simp only [Option.some.injEq] at hty; subst hty
          obtain ⟨v, rfl, g1, g2⟩ := one (fun cs e => by subst e; simp [Cell.okWide, Cell.ok, hu] at hok)
          exact ⟨v, g1, h2, g2⟩
        · cases hty
      case slice e =>
        obtain ⟨v, rfl, g1, g2⟩ := one (fun cs e => by subst e; simp [Cell.okWide, Cell.ok, hu] at hok)
        refine ⟨v, g1, ?_, g2⟩
        split at hty
        · rename_i ty' hr
          split at hty
          · simp only [Option.some.injEq] at hty; subst hty
            split at hr
            · split at hr
              · simp only [Option.some.injEq] at hr; subst hr; exact h2
              · cases hr
            · cases hr
          · cases hty
        · cases hty
      case struct fs =>
        obtain ⟨cs, hx, _⟩ := hok
        obtain ⟨g1, g2⟩ := agg ⟨cs, hx⟩
        refine ⟨_, g1, ?_, g2⟩
        split at hty
        · rename_i ty' hr
          split at hty
          · simp only [Option.some.injEq] at hty; subst hty
            split at hr
            · simp only [Option.some.injEq] at hr; subst hr; exact ⟨vs, rfl, h2⟩
            · cases hr
          · cases hty
        · cases hty
      case array m e =>
        obtain ⟨cs, hx, _⟩ := hok
        obtain ⟨g1, g2⟩ := agg ⟨cs, hx⟩
        refine ⟨_, g1, ?_, g2⟩
        split at hty
        · rename_i ty' hr
          split at hty
          · simp only [Option.some.injEq] at hty; subst hty
            split at hr
            · simp only [Option.some.injEq] at hr; subst hr; exact ⟨vs, rfl, h2⟩
            · cases hr
          · cases hty
        · cases hty
theorem vals_of_data {r : Reach} {base d : Nat} : ∀ {ts : List TypeId} {tys : List Ty} {xs : List Value} {ds : List (DataW H)} {p : List MemPlace}, ts.mapM (tyC P d) = some tys → (∀ (j : Nat) t v, ts[j]? = some t → xs[j]? = some v → Value.okWide P W r base t v) →
    DataW.TrodAll enc P W 0 (fun _ => true) held ts xs ds p → ∃ vs, DenL (allFrz W) W vs xs ∧ HasVs tys vs ∧ pureL vs = true
  | [], tys, xs, ds, p, h1, _, h3 => by
    simp at h1; subst h1
    cases xs <;> cases ds <;> simp [DataW.TrodAll] at h3
    exact ⟨[], DenL.nil, rfl, rfl⟩
  | t :: ts, tys, xs, ds, p, h1, h2, h3 => by
    rw [List.mapM_cons] at h1
    simp only [bind, Option.bind_eq_some_iff, pure, Option.some.injEq] at h1
    obtain ⟨ty, hty, tys', htys, rfl⟩ := h1
    cases xs with
    | nil => cases ds <;> simp [DataW.TrodAll] at h3
    | cons x xs =>
      cases ds with
      | nil => simp [DataW.TrodAll] at h3
      | cons dd ds =>
        obtain ⟨p1, p2, g1, g2, _⟩ := h3
        obtain ⟨v, a1, a2, a3⟩ := val_of_data (h2 0 t x rfl rfl) hty g1
        obtain ⟨vs, b1, b2, b3⟩ := vals_of_data htys (fun j t v hj hv => h2 (j + 1) t v (by simpa using hj) (by simpa using hv)) g2
        exact ⟨v :: vs, DenL.cons a1 b1, ⟨v, vs, rfl, a2, b2⟩, by simp only [pureL, a3, if_true]; exact b3⟩
theorem args_stay {W' : World} (hl : laidOutB P = true) (hb : Below W.heap.size W W') : ∀ {ts : List TypeId} {xs : List Value} {ds : List (DataW H)} {p : List MemPlace}, (∀ t ∈ ts, P.readableRec t = true ∧ t < P.types.size) → (∀ x ∈ p, x.block < W.heap.size) →
    DataW.TrodAll enc P W 0 (fun _ => true) true ts xs ds p → DataW.TrodAll enc P W' 0 (fun b => decide (b < W.heap.size)) true ts xs ds p
  | [], xs, ds, p, _, _, h => by
    cases xs <;> cases ds <;> simp [DataW.TrodAll] at h ⊢
    exact h
  | t :: ts, xs, ds, p, ht, hp, h => by
    cases xs with
    | nil => cases ds <;> simp [DataW.TrodAll] at h
    | cons x xs =>
      cases ds with
      | nil => simp [DataW.TrodAll] at h
      | cons dd ds =>
        obtain ⟨p1, p2, g1, g2, rfl⟩ := h
        obtain ⟨h1, h2⟩ := ht t (by simp)
        exact ⟨p1, p2, Below.trod hl h1 h2 g1 hb (fun x hx => hp x (by simp [hx])), args_stay hl hb (fun t ht' => ht t (by simp [ht'])) (fun x hx => hp x (by simp [hx])) g2, rfl⟩
end
/-- The contract of a law: whatever the input, true; and the input reads as it did. -/
theorem law_contract {H : Type} {enc : TypeId × Value → H} {P : Program} (hl : laidOutB P = true) {f : Nat} {fn : Func} {s : ChangeSpec} (hvars : s.vars = []) {tb : TypeId} (hres : fn.resultTypes = #[tb]) (htb : P.underlying tb = some .bool) {d : Nat} {tys : List Ty} (htys : fn.params.toList.mapM (tyC P d) = some tys)
    (hread : ∀ t ∈ fn.params.toList, P.readableRec t = true ∧ t < P.types.size) (hspec : ∀ ds : List (DataW H), ds.length = fn.params.size → (s.fn H ds).results = [.lit (.bool true)] ∧ (s.fn H ds).args = ds ∧ (s.fn H ds).vars = [])
    (hrun : ∀ vs, HasVs tys vs → CallOk P f vs (.bool true)) :
    ∀ (W : World) (base : Nat) (args : Array Value) (ds gs : List (DataW H)) (before : List MemPlace), (∀ (j : Nat) t v, fn.params[j]? = some t → args[j]? = some v → Value.okWide P W .any base t v) → DataW.Whole enc P fn.params.toList s.vars false W args.toList ds gs before →
      Calls P f args W fun e W' => ∃ v, e = .returned v ∧ s.post enc P fn false true false false W args v W' := by
  intro W base args ds gs before hval hW
  have hW' := hW
  have hlt := hW.lt
  obtain ⟨p, q, hA, hV, rfl, _, _⟩ := hW
  rw [hvars] at hV
  obtain ⟨rfl, rfl⟩ := ChangeShapes.trodVars_none hV
  simp only [List.append_nil] at hlt
  obtain ⟨vs, h1, h2, h3⟩ := vals_of_data htys (fun j t v hj hv => hval j t v (by simpa using hj) (by simpa using hv)) hA
  have hc := (hrun vs h2).1 h3 (allFrz W) W args.toList (base_allFrz W) h1
  rw [Array.toArray_toList] at hc
  refine hc.mono fun e W1 ⟨x, Ω1, he, hb, hd, _⟩ => ⟨x, he, ?_⟩
  simp only [Den] at hd
  subst hd
  have hdl : ds.length = fn.params.size := by
    have key : ∀ (ts : List TypeId) (xs : List Value) (ds : List (DataW H)) (p : List MemPlace), DataW.TrodAll enc P W 0 (fun _ => true) true ts xs ds p → ds.length = ts.length := by
      intro ts
      induction ts with
      | nil => intro xs ds p h; cases xs <;> cases ds <;> simp [DataW.TrodAll] at h ⊢
      | cons t ts ih =>
        intro xs ds p h
        cases xs with
        | nil => cases ds <;> simp [DataW.TrodAll] at h
        | cons x xs =>
          cases ds with
          | nil => simp [DataW.TrodAll] at h
          | cons d ds =>
            obtain ⟨p1, p2, _, g2, _⟩ := h
            simp [ih _ _ _ g2]
    have := key _ _ _ _ hA
    simpa using this
  obtain ⟨k1, k2, k3⟩ := hspec ds hdl
  refine ⟨ds, [], _, [], p, [], hW', ?_, ?_, ?_, hb.frame _, fun h => by cases h⟩
  · rw [List.append_nil, k1, hres]
    exact ChangeShapes.trodAll_mk1 (RowKit.shut_bool htb true)
  · rw [List.append_nil, k2]
    exact args_stay hl hb hread hlt hA
  · rw [List.append_nil, k3, hvars]
    rfl
end Go.Lo
