/- Instructions that stand apart do not see each other; any order comes to the same. -/
import Derived.Test.YtifanigkolnedaaLy
namespace Go.Lo

def SameAt (fr fr' : List (Nat × V)) (g : Nat) : Prop := get fr' g = get fr g ∨ ∃ cs cs0, get fr' g = some (.box cs) ∧ get fr g = some (.box cs0)
theorem opd_same {fr fr' : List (Nat × V)} {g : Nat} (h : SameAt fr fr' g) : opd fr' (.t g) = opd fr (.t g) := by
  rcases h with h | ⟨cs, cs0, h1, h2⟩
  · simp only [opd, h]
  · simp only [opd, h1, h2]
theorem opds_same {fr fr' : List (Nat × V)} : ∀ {xs : List Opd}, (∀ g, memN g (slotsL xs) = true → SameAt fr fr' g) → opds fr' xs = opds fr xs
  | [], _ => rfl
  | x :: xs, h => by
    cases x with
    | t n =>
      simp only [slotsL, memN] at h
      simp only [opds]
      rw [opd_same (h n (by simp)), opds_same (fun g hg => h g (by split <;> simp_all))]
    | c v =>
      simp only [slotsL] at h
      simp only [opds]
      rw [opds_same h]; rfl
    | f n =>
      simp only [slotsL] at h
      simp only [opds]
      rw [opds_same h]; rfl
theorem wanted_same {fr fr' : List (Nat × V)} {g : Option (Nat × Bool)} (h : ∀ s b, g = some (s, b) → SameAt fr fr' s) : wanted fr' g = wanted fr g := by
  cases g with
  | none => rfl
  | some p =>
    obtain ⟨s, b⟩ := p
    rcases h s b rfl with h | ⟨cs, cs0, h1, h2⟩
    · simp only [wanted, h]
    · simp only [wanted, h1, h2]
theorem get_putO {l : List (Nat × V)} {x : Option Nat} {v : V} {g : Nat} (h : x ≠ some g) : get (putO l x v) g = get l g := by
  cases x with
  | none => rfl
  | some d => exact get_put_other l d v g (fun e => h (by rw [e]))
theorem get_addT_other : ∀ {ts : List (Nat × Nat)} {l : List (Nat × Nat × Bool)} {t : Nat}, (∀ p ∈ ts, p.1 ≠ t) → get (addT ts l) t = get l t
  | [], l, t, _ => rfl
  | (k, n) :: ts, l, t, h => by
    simp only [addT]
    rw [get_addT_other (fun p hp => h p (by simp [hp])), get_put_other _ _ _ _ (h (k, n) (by simp))]
theorem effI_indep {call : Nat → List V → Option V} {x y : LIns} {e : Option Eff} {σ : St} (hxy : Quiet x y) (hy : drawK y.k = true) (hap : isAppK x.k = true → isAppK y.k = true → False) (he : DrawEffO x e)
    (hb : ∀ s, rootE e = some s → ∃ cs cs0, boxE e = .box cs ∧ get σ.fr s = some (.box cs0)) : effI call y (applyO σ x.dst e) = effI call y σ := by
  rw [applyO_eq he]
  have hsame : ∀ g, memN g (looksL y) = true → SameAt σ.fr (putO (putO σ.fr (rootE e) (boxE e)) x.dst (vE e)) g := by
    intro g hg
    have hd : x.dst ≠ some g := fun h => by
      have := (hxy.dst g h).1
      rw [hg] at this
      cases this
    unfold SameAt
    rw [get_putO hd]
    by_cases hr : rootE e = some g
    · obtain ⟨cs, cs0, h1, h2⟩ := hb g hr
      rw [hr, h1]
      exact .inr ⟨cs, cs0, get_put_same _ _ _, h2⟩
    · exact .inl (get_putO hr)
  have hbx : bxOf (putO (putO σ.fr (rootE e) (boxE e)) x.dst (vE e)) y.ex = bxOf σ.fr y.ex := by
    funext s
    unfold bxOf
    split
    · rfl
    · rename_i hm
      have hd : x.dst ≠ some s := fun h => hm (hxy.dst s h).2.2.2
      have hr : rootE e ≠ some s := fun h => hm (hxy.root s (rootE_root he s h)).1
      rw [get_putO hd, get_putO hr]
  have htk : ∀ t, memN (t / 100) y.ex = false → ((get (tkE e σ.tk) t).isSome = (get σ.tk t).isSome ∧ (isAppK y.k = true → (get (tkE e σ.tk) t).map (·.1) = (get σ.tk t).map (·.1))) := by
    intro t ht
    cases e with
    | none => exact ⟨rfl, fun _ => rfl⟩
    | some e =>
      simp only [DrawEffO] at he
      cases e <;> (try (exact ⟨rfl, fun _ => rfl⟩)) <;> simp only [tkE]
      case mk v u n ps =>
        obtain ⟨⟨d, h1, h2⟩, _⟩ := he
        have hne := ne_tok (hxy.dst d h1).2.2.2 h2 ht
        rw [get_put_other _ _ _ _ hne, get_protT]
        refine ⟨by simp, fun _ => ?_⟩
        cases get σ.tk t with
        | none => rfl
        | some p => simp only [Option.map_some]; split <;> rfl
      case app v u n =>
        obtain ⟨_, h2⟩ := he
        rw [get_lenT]
        refine ⟨by split <;> simp, fun h => (hap h2 h).elim⟩
      case prot v ps =>
        rw [get_protT]
        refine ⟨by simp, fun _ => ?_⟩
        cases get σ.tk t with
        | none => rfl
        | some p => simp only [Option.map_some]; split <;> rfl
      case res v al =>
        obtain ⟨_, d, h1, h2⟩ := he
        rw [get_addT_other (fun p hp => ne_tok (hxy.dst d h1).2.2.2 (h2 p hp) ht)]
        exact ⟨rfl, fun _ => rfl⟩
  unfold effI
  simp only
  rw [wanted_same (fun s b hs => hsame s (by unfold looksL; rw [hs]; simp [memN])), opds_same (fun g hg => hsame g (by
    unfold looksL
    split
    · simp only [memN]; split
      · rfl
      · exact hg
    · exact hg)), hbx]
  cases wanted σ.fr y.guard with
  | none => rfl
  | some b =>
    cases b with
    | false => rfl
    | true =>
      simp only
      cases opds σ.fr y.xs with
      | none => rfl
      | some vs =>
        simp only
        rw [sem_tk (tk := tkOf (tkE e σ.tk) y.ex) (tk' := tkOf σ.tk y.ex) hy (fun t => ?_) (fun h t => ?_)]
        · unfold tkOf
          split
          · rfl
          · rename_i hm; exact (htk t (by simpa using hm)).1
        · unfold tkOf
          split
          · rfl
          · rename_i hm; exact (htk t (by simpa using hm)).2 h
theorem sem_sto {call : Nat → List V → Option V} {bx : Nat → Option (List V)} {tk : Nat → Option (Nat × Bool)} {d s : Nat} {k : K} {vs cs : List V} (h : sem call bx tk d k vs = some (.sto s cs)) : ∃ cs0, bx s = some cs0 := by
  have hval : ∀ {x : Option V}, valO x = some (.sto s cs) → False := fun hx => by
    obtain ⟨v, _, hv⟩ := valO_some hx
    cases hv
  cases k <;> simp only [sem, callE] at h
  case store n root =>
    split at h
    · split at h
      · split at h
        · rename_i cs0 hb
          split at h
          · simp only [Option.some.injEq, Eff.sto.injEq] at h
            obtain ⟨rfl, _⟩ := h
            exact ⟨cs0, hb⟩
          · cases h
        · cases h
      · cases h
    · repeat' split at h
      all_goals cases h
    · cases h
  all_goals
    repeat' split at h
    all_goals first
      | (cases h; done)
      | exact (hval h).elim
theorem effI_ok {call : Nat → List V → Option V} {x : LIns} {e : Option Eff} {σ : St} (hd : drawK x.k = true) (hm : mkK x.k = true → x.dst.isSome = true) (h : effI call x σ = some e) :
    DrawEffO x e ∧ ∀ s, rootE e = some s → ∃ cs cs0, boxE e = .box cs ∧ get σ.fr s = some (.box cs0) := by
  unfold effI at h
  split at h
  · split at h
    · split at h
      · rename_i e' he
        simp only [Option.some.injEq] at h; subst h
        refine ⟨drawEff hd hm he, fun s hs => ?_⟩
        cases e' <;> simp only [rootE, reduceCtorEq, Option.some.injEq] at hs
        subst hs
        obtain ⟨cs0, hb⟩ := sem_sto he
        exact ⟨_, cs0, rfl, (bxOf_get hb).1⟩
      · cases h
    · cases h
  · simp only [Option.some.injEq] at h; subst h
    exact ⟨trivial, fun s hs => by simp [rootE] at hs⟩
  · cases h
theorem apartL_spec {x y : LIns} (h : apartL x y = true) : Quiet x y ∧ Quiet y x ∧ (isAppK x.k = true → isAppK y.k = true → False) := by
  unfold apartL at h
  simp only [Bool.and_eq_true, Bool.not_eq_true'] at h
  refine ⟨quietL_spec h.1.1, quietL_spec h.1.2, fun h1 h2 => ?_⟩
  rw [h1, h2] at h
  simp at h
/-- Two that stand apart may change places. -/
theorem step_comm {call : Nat → List V → Option V} {x y : LIns} (h : apartL x y = true) (σ : St) : (stepI call x σ).bind (stepI call y) = (stepI call y σ).bind (stepI call x) := by
  obtain ⟨hxy, hyx, hap⟩ := apartL_spec h
  rw [stepI_eff, stepI_eff]
  cases hx : effI call x σ with
  | none =>
    cases hy : effI call y σ with
    | none => rfl
    | some f =>
      obtain ⟨k1, k2⟩ := effI_ok hyx.draw hyx.made hy
      simp only [Option.map_none, Option.bind_none, Option.map_some, Option.bind_some]
      rw [stepI_eff, effI_indep hyx hxy.draw (fun a b => hap b a) k1 k2, hx]
      rfl
  | some e =>
    obtain ⟨j1, j2⟩ := effI_ok hxy.draw hxy.made hx
    simp only [Option.map_some, Option.bind_some]
    rw [stepI_eff, effI_indep hxy hyx.draw hap j1 j2]
    cases hy : effI call y σ with
    | none => rfl
    | some f =>
      obtain ⟨k1, k2⟩ := effI_ok hyx.draw hyx.made hy
      simp only [Option.map_some, Option.bind_some]
      rw [stepI_eff, effI_indep hyx hxy.draw (fun a b => hap b a) k1 k2, hx, Option.map_some, applyO_comm j1 k1 hxy hyx hap]

/-! ### By number -/
def stepIx (call : Nat → List V → Option V) (is : List LIns) : List Nat → St → Option St
  | [], σ => some σ
  | i :: r, σ => match is[i]? with
    | some l => (match stepI call l σ with
      | some σ' => stepIx call is r σ'
      | none => none)
    | none => none
theorem stepIx_append (call : Nat → List V → Option V) (is : List LIns) : ∀ (r s : List Nat) (σ : St), stepIx call is (r ++ s) σ = (stepIx call is r σ).bind (stepIx call is s)
  | [], s, σ => rfl
  | i :: r, s, σ => by
    simp only [List.cons_append, stepIx]
    split
    · split
      · exact stepIx_append call is r s _
      · rfl
    · rfl
theorem stepIx_first {call : Nat → List V → Option V} {is : List LIns} {i : Nat} {y : LIns} (hi : is[i]? = some y) : ∀ (r s : List Nat) (σ : St), (∀ k ∈ r, ∀ x, is[k]? = some x → apartL x y = true) →
    (∀ k ∈ r, k < is.length) → stepIx call is (r ++ i :: s) σ = stepIx call is (i :: (r ++ s)) σ
  | [], s, σ, _, _ => rfl
  | k :: r, s, σ, h, hl => by
    have hk : k < is.length := hl k (by simp)
    have hkk : is[k]? = some is[k] := List.getElem?_eq_getElem hk
    have hc := step_comm (call := call) (h k (by simp) _ hkk) σ
    simp only [List.cons_append]
    rw [stepIx, hkk]
    simp only
    have ih := fun σ => stepIx_first (call := call) hi r s σ (fun k hk => h k (by simp [hk])) (fun k hk => hl k (by simp [hk]))
    rw [stepIx, hi]
    simp only
    cases h1 : stepI call is[k] σ with
    | none =>
      rw [h1] at hc
      cases h2 : stepI call y σ with
      | none => rfl
      | some σ2 =>
        rw [h2] at hc
        simp only [Option.bind_none, Option.bind_some] at hc
        simp only [stepIx, hkk, ← hc]
    | some σ1 =>
      rw [h1] at hc
      simp only
      rw [ih]
      simp only [stepIx, hi]
      cases h2 : stepI call y σ with
      | none =>
        rw [h2] at hc
        simp only [Option.bind_none, Option.bind_some] at hc
        rw [hc]
      | some σ2 =>
        rw [h2] at hc
        simp only [Option.bind_some] at hc
        simp only [hkk, hc]
theorem stepL_ix (call : Nat → List V → Option V) (is : List LIns) : ∀ (l : List LIns) (k : Nat) (σ : St), (∀ j, l[j]? = is[k + j]?) → stepL call l σ = stepIx call is (List.range' k l.length) σ
  | [], k, σ, _ => rfl
  | x :: l, k, σ, h => by
    have h0 : is[k]? = some x := by simpa using (h 0).symm
    simp only [stepL, List.length_cons, List.range'_succ, stepIx, h0]
    cases stepI call x σ with
    | none => rfl
    | some σ' => exact stepL_ix call is l (k + 1) σ' (fun j => by have := h (j + 1); simpa [Nat.add_assoc, Nat.add_comm 1 j] using this)
end Go.Lo
