/- Texts put together. -/
import Derived.Test.YtcihkhhkppjcmaaPc
import Derived.ChangeArms
import Derived.Handed
import Derived.Carry
import Derived.RowKit
import Derived.ChangeShapes
/- The evaluator is sound; its limit. -/
namespace Go.Lo

/-! ### More fuel -/
def Le (c c' : Nat → List V → Option V) : Prop := ∀ f as r, c f as = some r → c' f as = some r
section
variable {c c' : Nat → List V → Option V}
theorem sem_le (h : Le c c') {bx : Nat → Option (List V)} {tk : Nat → Option (Nat × Bool)} {d : Nat} {k : K} {vs : List V} {e : Eff} (he : sem c bx tk d k vs = some e) : sem c' bx tk d k vs = some e := by
  cases k with
  | call dr al mk =>
    have key : ∀ {f : Nat} {us : List V}, callE c bx d dr al mk f us = some e → callE c' bx d dr al mk f us = some e := fun he => by
      unfold callE at he ⊢
      split at he
      · rename_i as has
        split at he
        · rename_i r hr
          simp only [h _ as r hr]
          exact he
        · cases he
      · cases he
    simp only [sem] at he ⊢
    split at he
    · exact key he
    · exact key he
    · exact he
    · exact he
  | callp =>
    simp only [sem] at he ⊢
    split at he
    case h_2 => cases he
    split at he
    case isFalse => cases he
    rename_i hc1
    simp only [if_pos hc1]
    split at he
    case h_2 => cases he
    split at he
    case h_2 => cases he
    split at he
    case isFalse => cases he
    rename_i hc2
    simp only [if_pos hc2]
    split at he
    case h_2 => cases he
    rename_i cs2 r hr
    simp only [h _ _ _ hr]
    exact he
  | _ => exact he
theorem stepI_le (h : Le c c') {i : LIns} {σ σ' : St} (hs : stepI c i σ = some σ') : stepI c' i σ = some σ' := by
  unfold stepI at hs ⊢
  cases hw : wanted σ.fr i.guard with
  | none => rw [hw] at hs; cases hs
  | some b =>
    rw [hw] at hs
    cases b with
    | false => exact hs
    | true =>
      simp only at hs ⊢
      cases hvs : opds σ.fr i.xs with
      | none => rw [hvs] at hs; cases hs
      | some vs =>
        rw [hvs] at hs
        simp only at hs ⊢
        cases he : sem c (bxOf σ.fr i.ex) (tkOf σ.tk i.ex) (i.dst.getD 0) i.k vs with
        | none => rw [he] at hs; cases hs
        | some e =>
          rw [he] at hs
          rw [sem_le h he]
          exact hs
theorem stepL_le (h : Le c c') : ∀ {is : List LIns} {σ σ' : St}, stepL c is σ = some σ' → stepL c' is σ = some σ'
  | [], _, _, hs => hs
  | i :: is, σ, σ', hs => by
    simp only [stepL] at hs ⊢
    split at hs
    · rename_i σ1 h1
      rw [stepI_le h h1]
      exact stepL_le h hs
    · cases hs
theorem iter_le {f g : St → Option (Ex × St)} (h : ∀ σ x, f σ = some x → g σ = some x) : ∀ {n m : Nat} {σ : St} {x : Ex × St}, n ≤ m → iter f n σ = some x → iter g m σ = some x
  | 0, _, _, _, _, hs => by simp [iter] at hs
  | n + 1, 0, _, _, hl, _ => by omega
  | n + 1, m + 1, σ, x, hl, hs => by
    simp only [iter] at hs ⊢
    split at hs
    · rename_i σ1 h1
      rw [h _ _ h1]
      exact iter_le h (by omega) hs
    · rename_i hne
      rw [h _ _ hs]
      split
      · rename_i σ1 h1
        injection h1 with h1
        subst h1
        exact (hne _ hs).elim
      · rfl
theorem roundE_le {evA evB evA' evB' : St → Option (Ex × St)} (hA : ∀ σ x, evA σ = some x → evA' σ = some x) (hB : ∀ σ x, evB σ = some x → evB' σ = some x) {ps wr : List Nat} {σ : St} {as : List V} {x : Ex × St}
    (h : roundE evA evB ps wr σ as = some x) : roundE evA' evB' ps wr σ as = some x := by
  unfold roundE at h ⊢
  split at h
  · rename_i hl
    rw [if_pos hl]
    split at h
    · rename_i σ1 h1
      rw [hA _ _ h1]
      simp only
      split at h
      · rename_i ex σ2 h2
        rw [hB _ _ h2]
        exact h
      · cases h
    · cases h
  · cases h
theorem foldR_le {f f' : St → List V → Option (Ex × St)} (h : ∀ σ as x, f σ as = some x → f' σ as = some x) : ∀ {t : List (List V)} {k : Nat} {σ : St} {r : Option (Nat × Ex) × St}, foldR f k σ t = some r → foldR f' k σ t = some r
  | [], _, _, _, hs => hs
  | x :: t, k, σ, r, hs => by
    simp only [foldR] at hs ⊢
    split at hs
    · rename_i σ1 h1
      rw [h _ _ _ h1]
      exact foldR_le h hs
    · rename_i ex σ1 hne h1
      rw [h _ _ _ h1]
      cases ex with
      | normal => exact (hne rfl).elim
      | exit id => exact hs
      | ret => exact hs
    · cases hs
theorem itemsOf_le {o o' : Option V} (h : ∀ R, o = some R → o' = some R) {T : List (List V)} (ho : itemsOf o = some T) : itemsOf o' = some T := by
  cases o with
  | none => cases ho
  | some R => rw [h R rfl]; exact ho
theorem rngE_le {f f' : St → List V → Option (Ex × St)} {it it' : Nat → Option V} (h : ∀ σ as x, f σ as = some x → f' σ as = some x) (hi : ∀ a R, it a = some R → it' a = some R) {σ : St} {x : Ex × St} (hs : rngE f it σ = some x) : rngE f' it' σ = some x := by
  unfold rngE at hs ⊢
  split at hs
  · cases hs
  · rename_i items h1
    rw [itemsOf_le (hi 0) h1]
    simp only
    split at hs
    · rename_i σ1 h2
      rw [foldR_le h h2]
      exact hs
    · rename_i k e σ1 h2
      rw [foldR_le h h2]
      simp only
      split at hs
      · cases hs
      · rename_i items' h3
        rw [itemsOf_le (hi (k + 1)) h3]
        simp only
        split at hs
        · rename_i k' ex σ2 h4
          rw [foldR_le h h4]
          exact hs
        · cases hs
    · cases hs
theorem evC_le (h : Le c c') {N N' : Nat} (hN : N ≤ N') : ∀ (lc : LCode) {σ : St} {x : Ex × St}, evC c N lc σ = some x → evC c' N' lc σ = some x := by
  intro lc
  induction lc with
  | skip => intro σ x hs; exact hs
  | exit id => intro σ x hs; exact hs
  | ret => intro σ x hs; exact hs
  | bad => intro σ x hs; exact hs
  | reg lp ds pp ops kn kp =>
    intro σ x hs
    simp only [evC] at hs ⊢
    split at hs
    · rename_i σ1 h1
      rw [stepL_le h h1]
      exact hs
    · cases hs
  | seq a b iha ihb =>
    intro σ x hs
    simp only [evC] at hs ⊢
    split at hs
    · rename_i σ1 h1
      rw [iha h1]
      exact ihb hs
    · rename_i hne
      rw [iha hs]
      split
      · rename_i σ1 h1
        injection h1 with h1
        subst h1
        exact (hne _ hs).elim
      · rfl
  | alt ts ks a b iha ihb =>
    intro σ x hs
    simp only [evC] at hs ⊢
    split at hs
    · rename_i hb; simp only [if_pos hb]; exact ihb hs
    · rename_i hb; simp only [if_neg hb]; exact iha hs
  | cond cc a b iha ihb =>
    intro σ x hs
    simp only [evC] at hs ⊢
    split at hs
    · rename_i t ht
      cases t with
      | true => simp only [if_true] at hs ⊢; exact iha hs
      | false => simp only [Bool.false_eq_true, if_false] at hs ⊢; exact ihb hs
    · cases hs
  | block id a ih =>
    intro σ x hs
    simp only [evC] at hs ⊢
    split at hs
    · rename_i j σ1 h1
      rw [ih h1]
      exact hs
    · rename_i hne
      rw [ih hs]
      split
      · rename_i j σ1 h1
        injection h1 with h1
        subst h1
        exact (hne _ _ hs).elim
      · rfl
  | loop a ih =>
    intro σ x hs
    simp only [evC] at hs ⊢
    exact iter_le (fun _ _ h => ih h) hN hs
  | rng g ps wr a b iha ihb =>
    intro σ x hs
    simp only [evC] at hs ⊢
    split at hs
    · split at hs
      · split at hs
        · rename_i hc
          rw [if_pos hc]
          exact rngE_le (fun _ _ _ h => roundE_le (fun _ _ h => iha h) (fun _ _ h => ihb h) h) (fun _ R hR => h _ _ R hR) hs
        · cases hs
      · cases hs
    · split at hs
      · split at hs
        · rename_i hc
          rw [if_pos hc]
          exact rngE_le (fun _ _ _ h => roundE_le (fun _ _ h => iha h) (fun _ _ h => ihb h) h) (fun _ R hR => h _ _ R hR) hs
        · cases hs
      · cases hs
    · cases hs
theorem evBody_le (h : Le c c') {N N' : Nat} (hN : N ≤ N') {lf : LFun} {args : List V} {r : V} (hs : evBody c N lf args = some r) : evBody c' N' lf args = some r := by
  unfold evBody at hs ⊢
  split at hs
  · rename_i hl
    rw [if_pos hl]
    split at hs
    · rename_i σ h1; rw [evC_le h hN _ h1]; exact hs
    · rename_i σ h1; rw [evC_le h hN _ h1]; exact hs
    · cases hs
  · cases hs
end
section
variable {F : Nat → Option (List V → Option V)} {C : Nat → Option LFun}
theorem evF_succ : ∀ (n : Nat), Le (evF F C n) (evF F C (n + 1))
  | 0, f, as, r, h => by simp [evF] at h
  | n + 1, f, as, r, h => by
    rw [evF] at h ⊢
    split at h
    · exact h
    · split at h
      · exact evBody_le (evF_succ n) (Nat.le_succ n) h
      · cases h
theorem evF_le {n m : Nat} (h : n ≤ m) : Le (evF F C n) (evF F C m) := by
  induction h with
  | refl => exact fun _ _ _ h => h
  | step _ ih => exact fun f as r hr => evF_succ _ f as r (ih f as r hr)
/-- What a function gives back, if it ends: whatever the fuel. -/
noncomputable def run (F : Nat → Option (List V → Option V)) (C : Nat → Option LFun) (f : Nat) (as : List V) : Option V :=
  open Classical in if h : ∃ r n, evF F C n f as = some r then some (Classical.choose h) else none
theorem run_of {n f : Nat} {as : List V} {r : V} (h : evF F C n f as = some r) : run F C f as = some r := by
  unfold run
  have hex : ∃ r n, evF F C n f as = some r := ⟨r, n, h⟩
  rw [dif_pos hex]
  obtain ⟨m, hm⟩ := Classical.choose_spec hex
  have h1 := evF_le (Nat.le_max_left n m) f as r h
  have h2 := evF_le (Nat.le_max_right n m) f as _ hm
  rw [h1] at h2
  exact h2.symm
theorem of_run {f : Nat} {as : List V} {r : V} (h : run F C f as = some r) : ∃ n, evF F C n f as = some r := by
  unfold run at h
  split at h
  · rename_i hex
    injection h with h; subst h
    exact Classical.choose_spec hex
  · cases h
/-! Few calls need little fuel. -/
theorem sem_fin {bx : Nat → Option (List V)} {tk : Nat → Option (Nat × Bool)} {d : Nat} {k : K} {vs : List V} {e : Eff} (he : sem (run F C) bx tk d k vs = some e) : ∃ n, sem (evF F C n) bx tk d k vs = some e := by
  cases k with
  | call dr al mk =>
    have key : ∀ {f : Nat} {us : List V}, callE (run F C) bx d dr al mk f us = some e → ∃ n, callE (evF F C n) bx d dr al mk f us = some e := fun he => by
      unfold callE at he ⊢
      split at he
      · rename_i as has
        split at he
        · rename_i r hr
          obtain ⟨n, hn⟩ := of_run hr
          refine ⟨n, ?_⟩
          simp only [hn]
          exact he
        · cases he
      · cases he
    simp only [sem] at he ⊢
    split at he
    · exact key he
    · exact key he
    · exact ⟨0, he⟩
    · exact ⟨0, he⟩
  | callp =>
    simp only [sem] at he ⊢
    split at he
    case h_2 => cases he
    split at he
    case isFalse => cases he
    rename_i hc1
    split at he
    case h_2 => cases he
    split at he
    case h_2 => cases he
    split at he
    case isFalse => cases he
    rename_i hc2
    split at he
    case h_2 => cases he
    rename_i cs2 r hr
    obtain ⟨n, hn⟩ := of_run hr
    refine ⟨n, ?_⟩
    simp only [if_pos hc1, if_pos hc2, hn]
    exact he
  | _ => exact ⟨0, he⟩
theorem stepI_fin {i : LIns} {σ σ' : St} (hs : stepI (run F C) i σ = some σ') : ∃ n, stepI (evF F C n) i σ = some σ' := by
  unfold stepI at hs ⊢
  cases hw : wanted σ.fr i.guard with
  | none => rw [hw] at hs; cases hs
  | some b =>
    rw [hw] at hs
    cases b with
    | false => exact ⟨0, hs⟩
    | true =>
      simp only at hs ⊢
      cases hvs : opds σ.fr i.xs with
      | none => rw [hvs] at hs; cases hs
      | some vs =>
        rw [hvs] at hs
        simp only at hs ⊢
        cases he : sem (run F C) (bxOf σ.fr i.ex) (tkOf σ.tk i.ex) (i.dst.getD 0) i.k vs with
        | none => rw [he] at hs; cases hs
        | some e =>
          rw [he] at hs
          obtain ⟨n, hn⟩ := sem_fin he
          exact ⟨n, by rw [hn]; exact hs⟩
theorem stepL_fin : ∀ {is : List LIns} {σ σ' : St}, stepL (run F C) is σ = some σ' → ∃ n, stepL (evF F C n) is σ = some σ'
  | [], _, _, hs => ⟨0, hs⟩
  | i :: is, σ, σ', hs => by
    simp only [stepL] at hs ⊢
    split at hs
    · rename_i σ1 h1
      obtain ⟨n, hn⟩ := stepI_fin h1
      obtain ⟨m, hm⟩ := stepL_fin hs
      refine ⟨max n m, ?_⟩
      rw [stepI_le (evF_le (Nat.le_max_left n m)) hn]
      exact stepL_le (evF_le (Nat.le_max_right n m)) hm
    · cases hs
theorem iter_fin {g : St → Option (Ex × St)} {f : Nat → St → Option (Ex × St)} (hf : ∀ n m, n ≤ m → ∀ σ x, f n σ = some x → f m σ = some x) (h : ∀ σ x, g σ = some x → ∃ n, f n σ = some x) : ∀ {k : Nat} {σ : St} {x : Ex × St}, iter g k σ = some x → ∃ n, iter (f n) k σ = some x
  | 0, _, _, hs => by simp [iter] at hs
  | k + 1, σ, x, hs => by
    simp only [iter] at hs ⊢
    split at hs
    · rename_i σ1 h1
      obtain ⟨n, hn⟩ := h _ _ h1
      obtain ⟨m, hm⟩ := iter_fin hf h hs
      refine ⟨max n m, ?_⟩
      rw [hf n _ (Nat.le_max_left n m) _ _ hn]
      exact iter_le (hf m _ (Nat.le_max_right n m)) (Nat.le_refl _) hm
    · rename_i hne
      obtain ⟨n, hn⟩ := h _ _ hs
      refine ⟨n, ?_⟩
      rw [hn]
      split
      · rename_i σ1 h1
        injection h1 with h1
        subst h1
        exact (hne _ hs).elim
      · rfl
theorem roundE_fin {gA gB : St → Option (Ex × St)} {fA fB : Nat → St → Option (Ex × St)} (mA : ∀ n m, n ≤ m → ∀ σ x, fA n σ = some x → fA m σ = some x) (mB : ∀ n m, n ≤ m → ∀ σ x, fB n σ = some x → fB m σ = some x)
    (hA : ∀ σ x, gA σ = some x → ∃ n, fA n σ = some x) (hB : ∀ σ x, gB σ = some x → ∃ n, fB n σ = some x) {ps wr : List Nat} {σ : St} {as : List V} {x : Ex × St} (h : roundE gA gB ps wr σ as = some x) : ∃ n, roundE (fA n) (fB n) ps wr σ as = some x := by
  unfold roundE at h
  split at h
  · rename_i hl
    split at h
    · rename_i σ1 h1
      split at h
      · rename_i ex σ2 h2
        obtain ⟨n, hn⟩ := hA _ _ h1
        obtain ⟨m, hm⟩ := hB _ _ h2
        refine ⟨max n m, ?_⟩
        unfold roundE
        rw [if_pos hl, mA n _ (Nat.le_max_left n m) _ _ hn]
        simp only
        rw [mB m _ (Nat.le_max_right n m) _ _ hm]
        exact h
      · cases h
    · cases h
  · cases h
theorem foldR_fin {g : St → List V → Option (Ex × St)} {f : Nat → St → List V → Option (Ex × St)} (hf : ∀ n m, n ≤ m → ∀ σ as x, f n σ as = some x → f m σ as = some x) (h : ∀ σ as x, g σ as = some x → ∃ n, f n σ as = some x) :
    ∀ {t : List (List V)} {k : Nat} {σ : St} {r : Option (Nat × Ex) × St}, foldR g k σ t = some r → ∃ n, foldR (f n) k σ t = some r
  | [], _, _, _, hs => ⟨0, hs⟩
  | x :: t, k, σ, r, hs => by
    simp only [foldR] at hs ⊢
    split at hs
    · rename_i σ1 h1
      obtain ⟨n, hn⟩ := h _ _ _ h1
      obtain ⟨m, hm⟩ := foldR_fin hf h hs
      refine ⟨max n m, ?_⟩
      rw [hf n _ (Nat.le_max_left n m) _ _ _ hn]
      exact foldR_le (hf m _ (Nat.le_max_right n m)) hm
    · rename_i ex σ1 hne h1
      obtain ⟨n, hn⟩ := h _ _ _ h1
      refine ⟨n, ?_⟩
      rw [hn]
      cases ex with
      | normal => exact (hne rfl).elim
      | exit id => exact hs
      | ret => exact hs
    · cases hs
theorem rngE_fin {g : St → List V → Option (Ex × St)} {f : Nat → St → List V → Option (Ex × St)} {it : Nat → Option V} {jt : Nat → Nat → Option V} (hf : ∀ n m, n ≤ m → ∀ σ as x, f n σ as = some x → f m σ as = some x) (h : ∀ σ as x, g σ as = some x → ∃ n, f n σ as = some x)
    (hj : ∀ n m, n ≤ m → ∀ a R, jt n a = some R → jt m a = some R) (hi : ∀ a R, it a = some R → ∃ n, jt n a = some R) {σ : St} {x : Ex × St} (hs : rngE g it σ = some x) : ∃ n, rngE (f n) (jt n) σ = some x := by
  have hit : ∀ a T, itemsOf (it a) = some T → ∃ n, itemsOf (jt n a) = some T := fun a T hT => by
    cases hR : it a with
    | none => rw [hR] at hT; cases hT
    | some R =>
      rw [hR] at hT
      obtain ⟨n, hn⟩ := hi a R hR
      exact ⟨n, by rw [hn]; exact hT⟩
  unfold rngE at hs
  split at hs
  · cases hs
  · rename_i items h1
    obtain ⟨n1, k1⟩ := hit _ _ h1
    split at hs
    · rename_i σ1 h2
      obtain ⟨n2, k2⟩ := foldR_fin hf h h2
      refine ⟨max n1 n2, ?_⟩
      unfold rngE
      rw [itemsOf_le (hj n1 _ (Nat.le_max_left n1 n2) 0) k1]
      simp only
      rw [foldR_le (hf n2 _ (Nat.le_max_right n1 n2)) k2]
      exact hs
    · rename_i k e σ1 h2
      obtain ⟨n2, k2⟩ := foldR_fin hf h h2
      split at hs
      · cases hs
      · rename_i items' h3
        obtain ⟨n3, k3⟩ := hit _ _ h3
        split at hs
        · rename_i k' ex σ2 h4
          obtain ⟨n4, k4⟩ := foldR_fin hf h h4
          refine ⟨max (max n1 n2) (max n3 n4), ?_⟩
          unfold rngE
          rw [itemsOf_le (hj n1 _ (by omega) 0) k1]
          simp only
          rw [foldR_le (hf n2 _ (by omega)) k2]
          simp only
          rw [itemsOf_le (hj n3 _ (by omega) (k + 1)) k3]
          simp only
          rw [foldR_le (hf n4 _ (by omega)) k4]
          exact hs
        · cases hs
    · cases hs
theorem evC_fin {N : Nat} : ∀ (lc : LCode) {σ : St} {x : Ex × St}, evC (run F C) N lc σ = some x → ∃ n, evC (evF F C n) N lc σ = some x := by
  intro lc
  induction lc with
  | skip => intro σ x hs; exact ⟨0, hs⟩
  | exit id => intro σ x hs; exact ⟨0, hs⟩
  | ret => intro σ x hs; exact ⟨0, hs⟩
  | bad => intro σ x hs; exact ⟨0, hs⟩
  | reg lp ds pp ops kn kp =>
    intro σ x hs
    simp only [evC] at hs ⊢
    split at hs
    · rename_i σ1 h1
      obtain ⟨n, hn⟩ := stepL_fin h1
      exact ⟨n, by rw [hn]; exact hs⟩
    · cases hs
  | seq a b iha ihb =>
    intro σ x hs
    simp only [evC] at hs ⊢
    split at hs
    · rename_i σ1 h1
      obtain ⟨n, hn⟩ := iha h1
      obtain ⟨m, hm⟩ := ihb hs
      refine ⟨max n m, ?_⟩
      rw [evC_le (evF_le (Nat.le_max_left n m)) (Nat.le_refl N) _ hn]
      exact evC_le (evF_le (Nat.le_max_right n m)) (Nat.le_refl N) _ hm
    · rename_i hne
      obtain ⟨n, hn⟩ := iha hs
      refine ⟨n, ?_⟩
      rw [hn]
      split
      · rename_i σ1 h1
        injection h1 with h1
        subst h1
        exact (hne _ hs).elim
      · rfl
  | alt ts ks a b iha ihb =>
    intro σ x hs
    simp only [evC] at hs ⊢
    split at hs
    · rename_i hb; simp only [if_pos hb]; exact ihb hs
    · rename_i hb; simp only [if_neg hb]; exact iha hs
  | cond cc a b iha ihb =>
    intro σ x hs
    simp only [evC] at hs ⊢
    split at hs
    · rename_i t ht
      cases t with
      | true => simp only [if_true] at hs ⊢; exact iha hs
      | false => simp only [Bool.false_eq_true, if_false] at hs ⊢; exact ihb hs
    · cases hs
  | block id a ih =>
    intro σ x hs
    simp only [evC] at hs ⊢
    split at hs
    · rename_i j σ1 h1
      obtain ⟨n, hn⟩ := ih h1
      exact ⟨n, by rw [hn]; exact hs⟩
    · rename_i hne
      obtain ⟨n, hn⟩ := ih hs
      refine ⟨n, ?_⟩
      rw [hn]
      split
      · rename_i j σ1 h1
        injection h1 with h1
        subst h1
        exact (hne _ _ hs).elim
      · rfl
  | loop a ih =>
    intro σ x hs
    simp only [evC] at hs ⊢
    exact iter_fin (f := fun n => evC (evF F C n) N a) (fun n m hnm σ x h => evC_le (evF_le hnm) (Nat.le_refl N) a h) (fun σ x h => ih h) hs
  | rng g ps wr a b iha ihb =>
    intro σ x hs
    have key : ∀ {f : Nat} {mkA : Nat → List V} {τ : St}, rngE (roundE (evC (run F C) N a) (evC (run F C) N b) ps wr) (fun a => run F C f (mkA a)) τ = some x → ∃ n, rngE (roundE (evC (evF F C n) N a) (evC (evF F C n) N b) ps wr) (fun a => evF F C n f (mkA a)) τ = some x := by
      intro f mkA τ hs
      refine rngE_fin (it := fun a => run F C f (mkA a)) (jt := fun n a => evF F C n f (mkA a)) (f := fun n => roundE (evC (evF F C n) N a) (evC (evF F C n) N b) ps wr) (fun n m hnm σ as x h => ?_) (fun σ as x h => ?_) (fun n m hnm a R h => evF_le hnm _ _ R h) (fun a R h => of_run h) hs
      · exact roundE_le (fun _ _ h => evC_le (evF_le hnm) (Nat.le_refl N) a h) (fun _ _ h => evC_le (evF_le hnm) (Nat.le_refl N) b h) h
      · exact roundE_fin (fA := fun n => evC (evF F C n) N a) (fB := fun n => evC (evF F C n) N b) (fun n m hnm σ x h => evC_le (evF_le hnm) (Nat.le_refl N) a h) (fun n m hnm σ x h => evC_le (evF_le hnm) (Nat.le_refl N) b h) (fun _ _ h => iha h) (fun _ _ h => ihb h) h
    simp only [evC] at hs ⊢
    split at hs
    · split at hs
      · split at hs
        · rename_i hc
          simp only [if_pos hc]
          exact key (mkA := fun a => .fn (.y a) [] :: _) hs
        · cases hs
      · cases hs
    · split at hs
      · split at hs
        · rename_i hc
          simp only [if_pos hc]
          exact key (mkA := fun a => _ ++ [.fn (.y a) []]) hs
        · cases hs
      · cases hs
    · cases hs
/-- A body's equation: the calls in it may be told by theirs. -/
theorem run_of_body {f N : Nat} {lf : LFun} {as : List V} {r : V} (hF : F f = none) (hC : C f = some lf) (h : evBody (run F C) N lf as = some r) : run F C f as = some r := by
  have key : ∃ n, evBody (evF F C n) N lf as = some r := by
    unfold evBody at h ⊢
    split at h
    · rename_i hl
      split at h
      · rename_i σ h1
        obtain ⟨n, hn⟩ := evC_fin _ h1
        exact ⟨n, by rw [if_pos hl, hn]; exact h⟩
      · rename_i σ h1
        obtain ⟨n, hn⟩ := evC_fin _ h1
        exact ⟨n, by rw [if_pos hl, hn]; exact h⟩
      · cases h
    · cases h
  obtain ⟨n, hn⟩ := key
  refine run_of (n := max n N + 1) ?_
  rw [evF, hF]
  simp only [hC]
  exact evBody_le (evF_le (Nat.le_max_left n N)) (Nat.le_max_right n N) hn
theorem run_told {f : Nat} {g : List V → Option V} {as : List V} (hF : F f = some g) : run F C f as = g as := by
  cases hg : g as with
  | some r => exact run_of (n := 1) (by rw [evF, hF]; exact hg)
  | none =>
    cases hr : run F C f as with
    | none => rfl
    | some r =>
      obtain ⟨n, hn⟩ := of_run hr
      cases n with
      | zero => simp [evF] at hn
      | succ n =>
        rw [evF, hF] at hn
        simp only at hn
        rw [hg] at hn
        cases hn
/-- The tables are those of the program. -/
structure TabOk (P : Program) (F : Nat → Option (List V → Option V)) (C : Nat → Option LFun) : Prop where
  mixed : P.follows .mixedOrders = true
  told : ∀ f g as r, F f = some g → g as = some r → Enters P f ∧ CallOk P f as r
  code : ∀ f lf, C f = some lf → ∃ fn kp, P.funcs[f]? = some fn ∧ fn.name ≠ "runtime.NumGoroutine" ∧ funC P kp fn = some lf
theorem evF_sound {P : Program} (h : TabOk P F C) : ∀ (n : Nat), CallsOk P (evF F C n)
  | 0, f, as, r, hr => by simp [evF] at hr
  | n + 1, f, as, r, hr => by
    rw [evF] at hr
    split at hr
    · rename_i g hg
      exact h.told f g as r hg hr
    · split at hr
      · rename_i lf hlf
        obtain ⟨fn, kp, h1, h2, h3⟩ := h.code f lf hlf
        exact fun_sound h.mixed (evF_sound h n) h1 h2 h3 hr
      · cases hr
theorem run_sound {P : Program} (h : TabOk P F C) : CallsOk P (run F C) := fun f as r hr =>
  let ⟨n, hn⟩ := of_run hr
  evF_sound h n f as r hn
end
end Go.Lo

/- Arguments that read as data are logical values. -/
namespace Go.Lo
inductive Ty where
  | bool
  | int (k : IntKind)
  | st (fs : List Ty)
  | arr (n : Nat) (e : Ty)
  | sl (e : Ty)
  deriving Inhabited
mutual
def Ty.cells : Ty → Nat
  | .bool => 1
  | .int _ => 1
  | .st fs => cellsL fs
  | .arr n e => n * e.cells
  | .sl _ => 1
def cellsL : List Ty → Nat
  | [] => 0
  | t :: ts => t.cells + cellsL ts
end
mutual
/-- Cells of the type. -/
def HasC : Ty → List V → Prop
  | .bool, cs => ∃ b, cs = [.bool b]
  | .int k, cs => ∃ n, cs = [.int k n] ∧ (Lit.int k n).wf = true
  | .st fs, cs => HasCs fs cs
  | .arr n e, cs => ∃ es : List (List V), es.length = n ∧ cs = es.flatten ∧ ∀ x ∈ es, HasC e x
  | .sl e, cs => cs = [.nil] ∨ ∃ es, cs = [.sl none e.cells es] ∧ es.length ≤ maxLen ∧ ∀ x ∈ es, HasC e x
def HasCs : List Ty → List V → Prop
  | [], cs => cs = []
  | t :: ts, cs => ∃ a b, cs = a ++ b ∧ HasC t a ∧ HasCs ts b
end
def tysC (f : TypeId → Option Ty) : List Field → Nat → Option (List Ty)
  | [], _ => some []
  | x :: xs, o => match f x.type with
    | some t => if x.offset = o then (match tysC f xs (o + t.cells) with
      | some ts => some (t :: ts)
      | none => none) else none
    | none => none
def tyC (P : Program) : Nat → TypeId → Option Ty
  | 0, _ => none
  | d + 1, t =>
    let r : Option Ty := match P.underlying t with
      | some .bool => some .bool
      | some (.int k) => some (.int k)
      | some (.struct fs) => match tysC (tyC P d) fs.toList 0 with
        | some ts => some (.st ts)
        | none => none
      | some (.array n e) => match tyC P d e with
        | some ty => some (.arr n ty)
        | none => none
      | some (.slice e) => match tyC P d e with
        | some ty => if ty.cells ≠ 0 then some (.sl ty) else none
        | none => none
      | _ => none
    match r with
    | some ty => if P.cellsOf t = ty.cells then some ty else none
    | none => none
def allFrz (W : World) : Own where
  o b := if b < W.heap.size then .frz else .out
  lim b := blkSize W b
  cur _ := none
  tsz _ := 0
theorem base_allFrz (W : World) : Base (allFrz W) W := ⟨fun b => by simp only [allFrz]; split <;> simp, fun b h => by
  simp only [allFrz] at h
  split at h
  · assumption
  · exact absurd rfl h⟩
theorem tyC_cells {P : Program} {d : Nat} {t : TypeId} {ty : Ty} (h : tyC P d t = some ty) : P.cellsOf t = ty.cells := by
  cases d with
  | zero => simp [tyC] at h
  | succ d =>
    unfold tyC at h
    simp only at h
    split at h
    · split at h
      · simp only [Option.some.injEq] at h; subst h; assumption
      · cases h
    · cases h
theorem choose_list {α : Type} {p : Nat → α → Prop} : ∀ (n : Nat), (∀ i, i < n → ∃ x, p i x) → ∃ l : List α, l.length = n ∧ ∀ i x, l[i]? = some x → p i x
  | 0, _ => ⟨[], rfl, fun i x h => by simp at h⟩
  | n + 1, h => by
    obtain ⟨l, h1, h2⟩ := choose_list n (fun i hi => h i (by omega))
    obtain ⟨x, hx⟩ := h n (by omega)
    refine ⟨l ++ [x], by simp [h1], fun i y hy => ?_⟩
    by_cases hi : i < l.length
    · rw [List.getElem?_append_left hi] at hy; exact h2 i y hy
    · rw [List.getElem?_append_right (by omega)] at hy
      have : i - l.length = 0 := by
        have := (List.getElem?_eq_some_iff.1 hy).1
        simp at this; omega
      rw [this] at hy
      simp only [List.getElem?_cons_zero, Option.some.injEq] at hy
      subst hy
      rw [show i = n by omega]; exact hx
/-- Plain cells. -/
def PlainL (vs : List V) : Prop := ∀ v ∈ vs, v.pure = true ∧ v.cellOk = true ∧ v.pm = true
section
variable {H : Type} {enc : TypeId × Value → H} {P : Program} {W : World} {held : Bool}
theorem cells_get {a : Addr} : ∀ {n : Nat} {cs : List Value}, W.cells? 0 a n = some cs → cs.length = n ∧ ∀ j, j < n → W.cell? (a.add j) = cs[j]? := by
  intro n cs h
  unfold World.cells? at h
  simp only [Nat.zero_le, if_true] at h
  have key : ∀ (l : List Nat) (cs : List Value), l.mapM (fun i => W.cell? (a.add i)) = some cs → cs.length = l.length ∧ ∀ (j i : Nat), l[j]? = some i → W.cell? (a.add i) = cs[j]? := by
    intro l
    induction l with
    | nil => intro cs h; simp at h; subst h; exact ⟨rfl, fun j i h => by simp at h⟩
    | cons k l ih =>
      intro cs h
      rw [List.mapM_cons] at h
      simp only [bind, Option.bind_eq_some_iff, pure, Option.some.injEq] at h
      obtain ⟨x, hx, ys, hy, rfl⟩ := h
      obtain ⟨h1, h2⟩ := ih ys hy
      refine ⟨by simp [h1], fun j i hj => ?_⟩
      cases j with
      | zero => simp only [List.getElem?_cons_zero, Option.some.injEq] at hj; subst hj; simpa using hx
      | succ j => simp only [List.getElem?_cons_succ] at hj ⊢; exact h2 j i hj
  obtain ⟨h1, h2⟩ := key _ _ h
  simp only [List.length_range] at h1
  exact ⟨h1, fun j hj => h2 j j (by rw [List.getElem?_range hj])⟩
theorem cell_spot {a : Addr} {x : Value} (h : W.cell? a = some x) : a.spot = none ∧ a.off < blkSize W a.block ∧ a.block < W.heap.size := by
  unfold World.cell? at h
  split at h
  · rename_i c t fz hc
    split at h
    · cases h
    · rename_i hs
      refine ⟨by cases hsp : a.spot <;> simp_all, ?_, (Array.getElem?_eq_some_iff.1 hc).1⟩
      unfold blkSize
      rw [hc]
      exact (Array.getElem?_eq_some_iff.1 h).1
  · cases h
theorem mapM_all {α β : Type} {f : α → Option β} : ∀ {l : List α} {ys : List β}, l.mapM f = some ys → ∀ a ∈ l, ∃ y, f a = some y
  | [], _, _, a, ha => by cases ha
  | b :: l, ys, h, a, ha => by
    rw [List.mapM_cons] at h
    simp only [bind, Option.bind_eq_some_iff, pure, Option.some.injEq] at h
    obtain ⟨y, hy, zs, hz, rfl⟩ := h
    rcases List.mem_cons.1 ha with rfl | ha
    · exact ⟨y, hy⟩
    · exact mapM_all hz a ha
theorem trod_arr {n : Nat} {t e : TypeId} {m : Nat} {cs : List Value} {x : DataW H × List MemPlace} (hu : P.underlying t = some (.array m e)) (h : DataW.trod enc P W 0 (fun _ => true) held (n + 1) t cs = some x) :
    cs.length = P.cellsOf t ∧ ∀ i, i < m → ∃ y, DataW.trod enc P W 0 (fun _ => true) held n e ((cs.drop (i * P.cellsOf e)).take (P.cellsOf e)) = some y := by
  unfold DataW.trod at h
  rw [hu] at h
  simp only at h
  split at h
  · rename_i hl
    refine ⟨hl, fun i hi => ?_⟩
    rw [Option.map_eq_some_iff] at h
    obtain ⟨ys, hy, _⟩ := h
    exact mapM_all hy i (List.mem_range.2 hi)
  · cases h
theorem plain_append {a b : List V} (ha : PlainL a) (hb : PlainL b) : PlainL (a ++ b) := fun v hv => by
  rcases List.mem_append.1 hv with h | h
  · exact ha v h
  · exact hb v h
theorem trod_cells : ∀ (n d : Nat) (t : TypeId) (ty : Ty) (cs : List Value) (x : DataW H × List MemPlace), tyC P d t = some ty → DataW.trod enc P W 0 (fun _ => true) held n t cs = some x →
    ∃ vs, DenL (allFrz W) W vs cs ∧ HasC ty vs ∧ PlainL vs
  | 0, _, _, _, _, _, _, h => by simp [DataW.trod] at h
  | n + 1, 0, _, _, _, _, hty, _ => by simp [tyC] at hty
  | n + 1, d + 1, t, ty, cs, x, hty, h => by
    have hce := tyC_cells hty
    unfold tyC at hty
    simp only at hty
    cases hu : P.underlying t with
    | none => simp [hu] at hty
    | some k =>
      cases k <;> simp only [hu, reduceCtorEq] at hty
      case bool =>
        split at hty
        · simp only [Option.some.injEq] at hty; subst hty
          obtain ⟨b, rfl, _⟩ := DataW.trod_bool hu h
          exact ⟨[.bool b], DenL.cons (by simp [Den]) DenL.nil, ⟨b, rfl⟩, fun v hv => by rw [List.mem_singleton] at hv; subst hv; exact ⟨rfl, rfl, rfl⟩⟩
        · cases hty
      case int q =>
        split at hty
        · simp only [Option.some.injEq] at hty; subst hty
          obtain ⟨m, rfl, _, hw⟩ := DataW.trod_int hu h
          exact ⟨[.int q m], DenL.cons (by simp [Den]) DenL.nil, ⟨m, rfl, hw⟩, fun v hv => by rw [List.mem_singleton] at hv; subst hv; exact ⟨rfl, rfl, rfl⟩⟩
        · cases hty
      case struct fs =>
        split at hty
        · rename_i ty' hr
          split at hty
          · simp only [Option.some.injEq] at hty; subst hty
            split at hr
            · rename_i ts hts
              simp only [Option.some.injEq] at hr; subst hr
              obtain ⟨xs, n', hn, hx, hlen, hxl, hall⟩ := DataW.trod_struct hu h
              have hn' : n' = n := by omega
              subst hn'
              have hall' : ∀ f ∈ fs.toList, ∃ y, DataW.trod enc P W 0 (fun _ => true) held n' f.type ((cs.drop f.offset).take (P.cellsOf f.type)) = some y := fun f hf => by
                obtain ⟨i, hi⟩ := List.getElem?_of_mem hf
                rw [Array.getElem?_toList] at hi
                have hlt : i < xs.length := by rw [hxl]; exact (Array.getElem?_eq_some_iff.1 hi).1
                exact ⟨xs[i], by rw [hall i f hi, List.getElem?_eq_getElem hlt]⟩
              have go : ∀ (l : List Field) (o : Nat) (ts : List Ty), tysC (tyC P d) l o = some ts → (∀ f ∈ l, ∃ y, DataW.trod enc P W 0 (fun _ => true) held n' f.type ((cs.drop f.offset).take (P.cellsOf f.type)) = some y) →
                  ∃ vs, DenL (allFrz W) W vs ((cs.drop o).take (cellsL ts)) ∧ HasCs ts vs ∧ PlainL vs := by
                intro l
                induction l with
                | nil =>
                  intro o ts h1 _
                  simp only [tysC, Option.some.injEq] at h1; subst h1
                  exact ⟨[], by simp [cellsL, DenL], rfl, fun v hv => by cases hv⟩
                | cons f l ih =>
                  intro o ts h1 h2
                  simp only [tysC] at h1
                  split at h1
                  · rename_i ty1 hty1
                    split at h1
                    · rename_i hof
                      split at h1
                      · rename_i ts' hts'
                        simp only [Option.some.injEq] at h1; subst h1
                        obtain ⟨y, hy⟩ := h2 f (by simp)
                        obtain ⟨v1, a1, a2, a3⟩ := trod_cells n' d f.type ty1 _ y hty1 hy
                        obtain ⟨v2, b1, b2, b3⟩ := ih _ _ hts' (fun g hg => h2 g (by simp [hg]))
                        refine ⟨v1 ++ v2, ?_, ⟨v1, v2, rfl, a2, b2⟩, plain_append a3 b3⟩
                        rw [cellsL, List.take_add]
                        rw [hof, tyC_cells hty1] at a1
                        rw [← List.drop_drop] at b1
                        exact a1.append b1
                      · cases h1
                    · cases h1
                  · cases h1
              obtain ⟨vs, g1, g2, g3⟩ := go fs.toList 0 ts hts hall'
              refine ⟨vs, ?_, g2, g3⟩
              rw [List.drop_zero, List.take_of_length_le (by rw [hlen, hce]; exact Nat.le_refl _)] at g1
              exact g1
            · cases hr
          · cases hty
        · cases hty
      case array m e =>
        split at hty
        · rename_i ty' hr
          split at hty
          · simp only [Option.some.injEq] at hty; subst hty
            split at hr
            · rename_i te hte
              simp only [Option.some.injEq] at hr; subst hr
              obtain ⟨hlen, hall⟩ := trod_arr hu h
              have hcs := tyC_cells hte
              obtain ⟨es, h1, h2⟩ := choose_list (p := fun i vs => DenL (allFrz W) W vs ((cs.drop (i * P.cellsOf e)).take (P.cellsOf e)) ∧ HasC te vs ∧ PlainL vs) m (fun i hi => by
                obtain ⟨y, hy⟩ := hall i hi
                exact trod_cells n d e te _ y hte hy)
              have key : ∀ (l : List (List V)) (k : Nat), (∀ i vs, l[i]? = some vs → DenL (allFrz W) W vs ((cs.drop ((k + i) * P.cellsOf e)).take (P.cellsOf e))) → DenL (allFrz W) W l.flatten ((cs.drop (k * P.cellsOf e)).take (l.length * P.cellsOf e)) := by
                intro l
                induction l with
                | nil => intro k _; simp [DenL]
                | cons v l ih =>
                  intro k hk
                  rw [List.flatten_cons, List.length_cons, Nat.succ_mul, Nat.add_comm, List.take_add, List.drop_drop]
                  refine DenL.append (hk 0 v rfl) ?_
                  have := ih (k + 1) (fun i vs hi => by
                    have := hk (i + 1) vs (by simpa using hi)
                    rwa [show k + (i + 1) = k + 1 + i by omega] at this)
                  rwa [Nat.succ_mul] at this
              have hmem : ∀ vs ∈ es, HasC te vs ∧ PlainL vs := fun vs hv => by
                obtain ⟨i, hi⟩ := List.getElem?_of_mem hv
                exact (h2 i vs hi).2
              refine ⟨es.flatten, ?_, ⟨es, h1, rfl, fun v hv => (hmem v hv).1⟩, fun v hv => ?_⟩
              · have := key es 0 (fun i vs hi => by rw [Nat.zero_add]; exact (h2 i vs hi).1)
                rw [Nat.zero_mul, List.drop_zero, h1, List.take_of_length_le (by rw [hlen, hce, Ty.cells, hcs]; exact Nat.le_refl _)] at this
                exact this
              · obtain ⟨l, hl, hvl⟩ := List.mem_flatten.1 hv
                exact (hmem l hl).2 v hvl
            · cases hr
          · cases hty
        · cases hty
      case slice e =>
        split at hty
        · rename_i ty' hr
          split at hty
          · simp only [Option.some.injEq] at hty; subst hty
            split at hr
            · rename_i te hte
              split at hr
              · rename_i hnz
                simp only [Option.some.injEq] at hr; subst hr
                have hcs := tyC_cells hte
                rcases DataW.trod_slice hu h with ⟨rfl, _⟩ | ⟨a, len, cap, elems, rest, n', hn, rfl, hx, _, hlc, hmx, hel, hget, hspare, _⟩
                · exact ⟨[.nil], DenL.cons (by simp [Den]) DenL.nil, .inl rfl, fun v hv => by rw [List.mem_singleton] at hv; subst hv; exact ⟨rfl, rfl, rfl⟩⟩
                · have hn' : n' = n := by omega
                  subst hn'
                  have hplain : ∀ es : List (List V), PlainL [V.sl none te.cells es] := fun es v hv => by rw [List.mem_singleton] at hv; subst hv; exact ⟨rfl, rfl, rfl⟩
                  by_cases hcap : cap = 0
                  · have : len = 0 := by omega
                    subst this; subst hcap
                    refine ⟨[.sl none te.cells []], DenL.cons ?_ DenL.nil, .inr ⟨[], rfl, Nat.zero_le _, fun x hx => by cases hx⟩, hplain []⟩
                    simp only [Den]
                    exact .inl ⟨trivial, _, rfl⟩
                  · -- some cell is there: the address is plain
                    have hcell : ∃ y, W.cell? a = some y := by
                      by_cases hl : len = 0
                      · have := (hspare rfl).2 0 (by omega)
                        have hr0 : ∃ z, rest[0]? = some z := ⟨_, List.getElem?_eq_getElem (by rw [(hspare rfl).1]; omega)⟩
                        obtain ⟨z, hz⟩ := hr0
                        rw [hz, hl] at this
                        rw [Option.bind_eq_some_iff] at this
                        obtain ⟨c0, hc0, _⟩ := this
                        obtain ⟨g1, g2⟩ := cells_get hc0
                        have := g2 0 (by omega)
                        rw [List.getElem?_eq_getElem (by omega)] at this
                        simp only [Nat.add_zero, Nat.zero_mul, Addr.add, if_true] at this
                        exact ⟨_, this⟩
                      · have := hget 0 (by omega)
                        have hr0 : ∃ z, elems[0]? = some z := ⟨_, List.getElem?_eq_getElem (by omega)⟩
                        obtain ⟨z, hz⟩ := hr0
                        rw [hz] at this
                        rw [Option.bind_eq_some_iff] at this
                        obtain ⟨c0, hc0, _⟩ := this
                        obtain ⟨g1, g2⟩ := cells_get hc0
                        have := g2 0 (by omega)
                        rw [List.getElem?_eq_getElem (by omega)] at this
                        simp only [Nat.zero_mul, Addr.add, if_true] at this
                        exact ⟨_, this⟩
                    obtain ⟨y0, hy0⟩ := hcell
                    obtain ⟨hsp, _, hbs⟩ := cell_spot hy0
                    obtain ⟨b, off, sp⟩ := a
                    simp only at hsp hbs
                    subst hsp
                    obtain ⟨es, h1, h2⟩ := choose_list (p := fun i vs => DenC (allFrz W) W vs b (off + i * P.cellsOf e) ∧ HasC te vs ∧ PlainL vs ∧ vs.length = P.cellsOf e) len (fun i hi => by
                      have := hget i hi
                      have hr0 : ∃ z, elems[i]? = some z := ⟨_, List.getElem?_eq_getElem (by omega)⟩
                      obtain ⟨z, hz⟩ := hr0
                      rw [hz, Option.bind_eq_some_iff] at this
                      obtain ⟨c0, hc0, hc1⟩ := this
                      obtain ⟨g1, g2⟩ := cells_get hc0
                      obtain ⟨vs, a1, a2, a3⟩ := trod_cells n' d e te c0 z hte hc1
                      have hvl : vs.length = P.cellsOf e := by rw [← a1.length, g1]
                      refine ⟨vs, rowC a1 (fun v hv => ⟨(a3 v hv).1, (a3 v hv).2.1⟩) (fun j y hj => ?_), a2, a3, hvl⟩
                      have hjl : j < P.cellsOf e := by
                        have := (List.getElem?_eq_some_iff.1 hj).1
                        omega
                      have := g2 j hjl
                      rw [hj, addr_add, addr_add] at this
                      obtain ⟨_, q2, _⟩ := cell_spot this
                      exact ⟨q2, this⟩)
                    have hmem : ∀ vs ∈ es, HasC te vs := fun vs hv => by
                      obtain ⟨i, hi⟩ := List.getElem?_of_mem hv
                      exact (h2 i vs hi).2.1
                    refine ⟨[.sl none te.cells es], DenL.cons ?_ DenL.nil, .inr ⟨es, rfl, by rw [h1]; omega, hmem⟩, hplain es⟩
                    simp only [Den]
                    refine .inr ⟨b, off, cap - len, ?_, .inl (by simp only [allFrz, if_pos hbs]), ?_⟩
                    · rw [h1]; congr 1; omega
                    · have key : ∀ (l : List (List V)) (k : Nat), (∀ i vs, l[i]? = some vs → DenC (allFrz W) W vs b (off + (k + i) * P.cellsOf e) ∧ HasC te vs ∧ PlainL vs ∧ vs.length = P.cellsOf e) → DenE (allFrz W) W l te.cells b (off + k * P.cellsOf e) := by
                        intro l
                        induction l with
                        | nil => intro k _; trivial
                        | cons v l ih =>
                          intro k hk
                          obtain ⟨q1, q2, q3, q4⟩ := hk 0 v rfl
                          simp only [DenE]
                          refine ⟨by rw [q4, hcs], List.all_eq_true.2 fun u hu => (q3 u hu).2.2, q1, ?_⟩
                          have := ih (k + 1) (fun i vs hi => by
                            have := hk (i + 1) vs (by simpa using hi)
                            rwa [show k + (i + 1) = k + 1 + i by omega] at this)
                          rw [Nat.succ_mul, hcs, ← Nat.add_assoc] at this
                          rw [hcs]
                          exact this
                      have := key es 0 (fun i vs hi => by rw [Nat.zero_add]; exact h2 i vs hi)
                      rwa [Nat.zero_mul, Nat.add_zero] at this
              · cases hr
            · cases hr
          · cases hty
        · cases hty
end
end Go.Lo

/- From the logical machine's word to a row. -/
namespace Go.Lo
open Go.RowKit (Below)

/-- A value of the type. -/
def HasV : Ty → V → Prop
  | .st fs, v => ∃ cs, v = .agg cs ∧ HasCs fs cs
  | .arr n e, v => ∃ cs, v = .agg cs ∧ HasC (.arr n e) cs
  | .bool, v => HasC .bool [v]
  | .int k, v => HasC (.int k) [v]
  | .sl e, v => HasC (.sl e) [v]
def HasVs : List Ty → List V → Prop
  | [], vs => vs = []
  | t :: ts, vs => ∃ v us, vs = v :: us ∧ HasV t v ∧ HasVs ts us
theorem plain_pureL : ∀ {vs : List V}, PlainL vs → pureL vs = true
  | [], _ => rfl
  | v :: vs, h => by
    simp only [pureL, (h v (by simp)).1, if_true]
    exact plain_pureL fun u hu => h u (by simp [hu])
section
variable {H : Type} {enc : TypeId × Value → H} {P : Program} {W : World} {held : Bool}
theorem val_of_data {r : Reach} {base d : Nat} {t : TypeId} {ty : Ty} {x : Value} {dd : DataW H} {p : List MemPlace} (hok : Value.okWide P W r base t x) (hty : tyC P d t = some ty) (h : DataW.Trod enc P W 0 (fun _ => true) held t x dd p) :
    ∃ v, Den (allFrz W) W v x ∧ HasV ty v ∧ v.pure = true := by
  obtain ⟨fuel, hf⟩ := h
  obtain ⟨vs, h1, h2, h3⟩ := trod_cells fuel d t ty _ _ hty hf
  have one : (∀ cs, x ≠ .agg cs) → ∃ v, vs = [v] ∧ Den (allFrz W) W v x ∧ v.pure = true := by
    intro hne
    have hc : x.cells.toList = [x] := by cases x <;> first | rfl | (exact absurd rfl (hne _))
    rw [hc] at h1
    cases vs with
    | nil => simp [DenL] at h1
    | cons v vs =>
      simp only [DenL] at h1
      obtain ⟨y, ys, e, g1, g2⟩ := h1
      injection e with e1 e2
      subst e1; subst e2
      cases vs with
      | nil => exact ⟨v, rfl, g1, (h3 v (by simp)).1⟩
      | cons u us => simp [DenL] at g2
  have agg : (∃ cs, x = .agg cs) → Den (allFrz W) W (.agg vs) x ∧ (V.agg vs).pure = true := by
    rintro ⟨cs, rfl⟩
    refine ⟨?_, by simp only [V.pure]; exact plain_pureL h3⟩
    simp only [Den]
    exact ⟨cs.toList, by simp, by simpa [Value.cells] using h1⟩
  unfold Value.okWide at hok
  have hty' := hty
  cases d with
  | zero => simp [tyC] at hty
  | succ d =>
    unfold tyC at hty
    simp only at hty
    cases hu : P.underlying t with
    | none => simp [hu] at hty
    | some k =>
      cases k <;> simp only [hu, reduceCtorEq] at hty hok
      case bool =>
        split at hty
        · simp only [Option.some.injEq] at hty; subst hty
          obtain ⟨v, rfl, g1, g2⟩ := one (fun cs e => by subst e; simp [Cell.okWide, Cell.ok, hu] at hok)
          exact ⟨v, g1, h2, g2⟩
        · cases hty
      case int q =>
        split at hty
        · simp only [Option.some.injEq] at hty; subst hty
          obtain ⟨v, rfl, g1, g2⟩ := one (fun cs e => by subst e; simp [Cell.okWide, Cell.ok, hu] at hok)
          exact ⟨v, g1, h2, g2⟩
        · cases hty
      case slice e =>
        obtain ⟨v, rfl, g1, g2⟩ := one (fun cs e => by subst e; simp [Cell.okWide, Cell.ok, hu] at hok)
        refine ⟨v, g1, ?_, g2⟩
        split at hty
        · rename_i ty' hr
          split at hty
          · simp only [Option.some.injEq] at hty; subst hty
            split at hr
            · split at hr
              · simp only [Option.some.injEq] at hr; subst hr; exact h2
              · cases hr
            · cases hr
          · cases hty
        · cases hty
      case struct fs =>
        obtain ⟨cs, hx, _⟩ := hok
        obtain ⟨g1, g2⟩ := agg ⟨cs, hx⟩
        refine ⟨_, g1, ?_, g2⟩
        split at hty
        · rename_i ty' hr
          split at hty
          · simp only [Option.some.injEq] at hty; subst hty
            split at hr
            · simp only [Option.some.injEq] at hr; subst hr; exact ⟨vs, rfl, h2⟩
            · cases hr
          · cases hty
        · cases hty
      case array m e =>
        obtain ⟨cs, hx, _⟩ := hok
        obtain ⟨g1, g2⟩ := agg ⟨cs, hx⟩
        refine ⟨_, g1, ?_, g2⟩
        split at hty
        · rename_i ty' hr
          split at hty
          · simp only [Option.some.injEq] at hty; subst hty
            split at hr
            · simp only [Option.some.injEq] at hr; subst hr; exact ⟨vs, rfl, h2⟩
            · cases hr
          · cases hty
        · cases hty
theorem vals_of_data {r : Reach} {base d : Nat} : ∀ {ts : List TypeId} {tys : List Ty} {xs : List Value} {ds : List (DataW H)} {p : List MemPlace}, ts.mapM (tyC P d) = some tys → (∀ (j : Nat) t v, ts[j]? = some t → xs[j]? = some v → Value.okWide P W r base t v) →
    DataW.TrodAll enc P W 0 (fun _ => true) held ts xs ds p → ∃ vs, DenL (allFrz W) W vs xs ∧ HasVs tys vs ∧ pureL vs = true
  | [], tys, xs, ds, p, h1, _, h3 => by
    simp at h1; subst h1
    cases xs <;> cases ds <;> simp [DataW.TrodAll] at h3
    exact ⟨[], DenL.nil, rfl, rfl⟩
  | t :: ts, tys, xs, ds, p, h1, h2, h3 => by
    rw [List.mapM_cons] at h1
    simp only [bind, Option.bind_eq_some_iff, pure, Option.some.injEq] at h1
    obtain ⟨ty, hty, tys', htys, rfl⟩ := h1
    cases xs with
    | nil => cases ds <;> simp [DataW.TrodAll] at h3
    | cons x xs =>
      cases ds with
      | nil => simp [DataW.TrodAll] at h3
      | cons dd ds =>
        obtain ⟨p1, p2, g1, g2, _⟩ := h3
        obtain ⟨v, a1, a2, a3⟩ := val_of_data (h2 0 t x rfl rfl) hty g1
        obtain ⟨vs, b1, b2, b3⟩ := vals_of_data htys (fun j t v hj hv => h2 (j + 1) t v (by simpa using hj) (by simpa using hv)) g2
        exact ⟨v :: vs, DenL.cons a1 b1, ⟨v, vs, rfl, a2, b2⟩, by simp only [pureL, a3, if_true]; exact b3⟩
theorem args_stay {W' : World} (hl : laidOutB P = true) (hb : Below W.heap.size W W') : ∀ {ts : List TypeId} {xs : List Value} {ds : List (DataW H)} {p : List MemPlace}, (∀ t ∈ ts, P.readableRec t = true ∧ t < P.types.size) → (∀ x ∈ p, x.block < W.heap.size) →
    DataW.TrodAll enc P W 0 (fun _ => true) true ts xs ds p → DataW.TrodAll enc P W' 0 (fun b => decide (b < W.heap.size)) true ts xs ds p
  | [], xs, ds, p, _, _, h => by
    cases xs <;> cases ds <;> simp [DataW.TrodAll] at h ⊢
    exact h
  | t :: ts, xs, ds, p, ht, hp, h => by
    cases xs with
    | nil => cases ds <;> simp [DataW.TrodAll] at h
    | cons x xs =>
      cases ds with
      | nil => simp [DataW.TrodAll] at h
      | cons dd ds =>
        obtain ⟨p1, p2, g1, g2, rfl⟩ := h
        obtain ⟨h1, h2⟩ := ht t (by simp)
        exact ⟨p1, p2, Below.trod hl h1 h2 g1 hb (fun x hx => hp x (by simp [hx])), args_stay hl hb (fun t ht' => ht t (by simp [ht'])) (fun x hx => hp x (by simp [hx])) g2, rfl⟩
end
/-- The contract of a law: whatever the input, true; and the input reads as it did. -/
theorem law_contract {H : Type} {enc : TypeId × Value → H} {P : Program} (hl : laidOutB P = true) {f : Nat} {fn : Func} {s : ChangeSpec} (hvars : s.vars = []) {tb : TypeId} (hres : fn.resultTypes = #[tb]) (htb : P.underlying tb = some .bool) {d : Nat} {tys : List Ty} (htys : fn.params.toList.mapM (tyC P d) = some tys)
    (hread : ∀ t ∈ fn.params.toList, P.readableRec t = true ∧ t < P.types.size) (hspec : ∀ ds : List (DataW H), ds.length = fn.params.size → (s.fn H ds).results = [.lit (.bool true)] ∧ (s.fn H ds).args = ds ∧ (s.fn H ds).vars = [])
    (hrun : ∀ vs, HasVs tys vs → CallOk P f vs (.bool true)) :
    ∀ (W : World) (base : Nat) (args : Array Value) (ds gs : List (DataW H)) (before : List MemPlace), (∀ (j : Nat) t v, fn.params[j]? = some t → args[j]? = some v → Value.okWide P W .any base t v) → DataW.Whole enc P fn.params.toList s.vars false W args.toList ds gs before →
      Calls P f args W fun e W' => ∃ v, e = .returned v ∧ s.post enc P fn false true false false W args v W' := by
  intro W base args ds gs before hval hW
  have hW' := hW
  have hlt := hW.lt
  obtain ⟨p, q, hA, hV, rfl, _, _⟩ := hW
  rw [hvars] at hV
  obtain ⟨rfl, rfl⟩ := ChangeShapes.trodVars_none hV
  simp only [List.append_nil] at hlt
  obtain ⟨vs, h1, h2, h3⟩ := vals_of_data htys (fun j t v hj hv => hval j t v (by simpa using hj) (by simpa using hv)) hA
  have hc := (hrun vs h2).1 h3 (allFrz W) W args.toList (base_allFrz W) h1
  rw [Array.toArray_toList] at hc
  refine hc.mono fun e W1 ⟨x, Ω1, he, hb, hd, _⟩ => ⟨x, he, ?_⟩
  simp only [Den] at hd
  subst hd
  have hdl : ds.length = fn.params.size := by
    have key : ∀ (ts : List TypeId) (xs : List Value) (ds : List (DataW H)) (p : List MemPlace), DataW.TrodAll enc P W 0 (fun _ => true) true ts xs ds p → ds.length = ts.length := by
      intro ts
      induction ts with
      | nil => intro xs ds p h; cases xs <;> cases ds <;> simp [DataW.TrodAll] at h ⊢
      | cons t ts ih =>
        intro xs ds p h
        cases xs with
        | nil => cases ds <;> simp [DataW.TrodAll] at h
        | cons x xs =>
          cases ds with
          | nil => simp [DataW.TrodAll] at h
          | cons d ds =>
            obtain ⟨p1, p2, _, g2, _⟩ := h
            simp [ih _ _ _ g2]
    have := key _ _ _ _ hA
    simpa using this
  obtain ⟨k1, k2, k3⟩ := hspec ds hdl
  refine ⟨ds, [], _, [], p, [], hW', ?_, ?_, ?_, hb.frame _, fun h => by cases h⟩
  · rw [List.append_nil, k1, hres]
    exact ChangeShapes.trodAll_mk1 (RowKit.shut_bool htb true)
  · rw [List.append_nil, k2]
    exact args_stay hl hb hread hlt hA
  · rw [List.append_nil, k3, hvars]
    rfl
end Go.Lo

/- The plain machine: slices bear their tokens themselves, and nil is an empty slice; no table of arrays. -/
namespace Go.Lo

/-! ### Tokens: a number below a million says which array; above it stand marks -/
def tb (u : Nat) : Nat := u % 1000000
/-- It may be written. -/
def rwT (u : Nat) : Bool := decide (u / 1000000 % 2 = 0)
/-- It may be nil as long as it is empty. -/
def mbT (u : Nat) : Bool := decide (2 ≤ u / 1000000 % 4)
/-- Nobody may write it any more, for sure. -/
def roX (u : Nat) : Bool := decide (u / 1000000 % 2 = 1 ∧ u / 1000000 < 4)
def roT (u : Nat) : Nat := if rwT u = true then u + 1000000 else if 4000000 ≤ u then u - 4000000 else u
def ruT (u : Nat) : Nat := if rwT u = true then u + 5000000 else u
def unT (u : Nat) : Nat := if roX u = true then u + 4000000 else u

/-! ### All tokens of a value are turned -/
mutual
def V.mp (g : Nat → Nat → List (List V) → V) (h : Nat → Nat → Nat → Nat → List V → V) (r : Nat → Nat → V) : V → V
  | .agg cs => .agg (mpL g h r cs)
  | .tup cs => .tup (mpL g h r cs)
  | .box cs => .box (mpL g h r cs)
  | .mbox cs => .mbox (mpL g h r cs)
  | .mref s => match r s 0 with
    | .ref _ _ => .mref s
    | _ => .dead
  | .fn f cs => .fn f (mpL g h r cs)
  | .sl (some u) sz es => g u sz es
  | .ref s off => r s off
  | .eref u n i off cs => h u n i off cs
  | v => v
def mpL (g : Nat → Nat → List (List V) → V) (h : Nat → Nat → Nat → Nat → List V → V) (r : Nat → Nat → V) : List V → List V
  | [] => []
  | v :: vs => v.mp g h r :: mpL g h r vs
end
def mpF (g : Nat → Nat → List (List V) → V) (h : Nat → Nat → Nat → Nat → List V → V) (r : Nat → Nat → V) : List (Nat × V) → List (Nat × V)
  | [] => []
  | (k, v) :: t => (k, v.mp g h r) :: mpF g h r t
/-- The array t is somebody else's now. -/
def killT (t : Nat) : List (Nat × V) → List (Nat × V) :=
  mpF (fun u sz es => if tb u = t then .dead else .sl (some u) sz es) (fun u n i off cs => if tb u = t then .dead else .eref u n i off cs) .ref
/-- What lies in the slot d is made anew. -/
def killG (d : Nat) (fr : List (Nat × V)) : List (Nat × V) :=
  mpF (fun u sz es => if tb u / 100 = d then .dead else .sl (some u) sz es) (fun u n i off cs => if tb u / 100 = d then .dead else .eref u n i off cs) (fun s off => if s = d then .dead else .ref s off) (dropL [d] fr)
/-- The arrays of these tokens are written no more; of one that may be nil this is not sure. -/
def exB : List Nat → List Nat
  | [] => []
  | p :: ps => if mbT p = true then exB ps else tb p :: exB ps
def roU (ps : List Nat) (u : Nat) : Nat := if memN (tb u) (exB ps) = true then roT u else if memN (tb u) (ps.map tb) = true then ruT u else u
/-- An empty one that may be nil is nil: it has no array that could be marked. -/
def keepN (f : Nat → Nat) (u : Nat) (es : List (List V)) : Nat := if mbT u = true then (match es with
  | [] => u
  | _ :: _ => f u) else f u
def roF (ps : List Nat) (fr : List (Nat × V)) : List (Nat × V) :=
  match ps with
  | [] => fr
  | p :: ps => mpF (fun u sz es => .sl (some (keepN (roU (p :: ps)) u es)) sz es) (fun u n i off cs => .eref (roU (p :: ps) u) n i off cs) .ref fr
def roA : List (Nat × V) → List (Nat × V) :=
  mpF (fun u sz es => .sl (some (keepN roT u es)) sz es) (fun u n i off cs => .eref (roT u) n i off cs) .ref
def ruA : List (Nat × V) → List (Nat × V) :=
  mpF (fun u sz es => .sl (some (keepN ruT u es)) sz es) (fun u n i off cs => .eref (ruT u) n i off cs) .ref
def estT (t n i : Nat) (e : List V) : List (Nat × V) → List (Nat × V) :=
  mpF (fun u sz es => if tb u = t then (if es.length = n then .sl (some u) sz (es.set i e) else .dead) else .sl (some u) sz es) (fun u n i off cs => if tb u = t then .dead else .eref u n i off cs) .ref
/-- An empty one that may be nil is nil: it has no array that could be made anew. -/
def prS (u sz : Nat) (es : List (List V)) : V := if mbT u = true then (match es with
  | [] => .sl (some u) sz []
  | e :: es => .sl none sz (e :: es)) else .sl none sz es
def prepG (ds : List Nat) (fr : List (Nat × V)) : List (Nat × V) :=
  mpF (fun u sz es => if memN (tb u / 100) ds = true then prS u sz es else .sl (some u) sz es) (fun u n i off cs => if memN (tb u / 100) ds = true then .dead else .eref u n i off cs) (fun s off => if memN s ds = true then .dead else .ref s off) (dropL ds fr)
def prep2 (lp : Bool) (ds : List Nat) (σ : St) : St :=
  match lp, ds with
  | true, d :: l => { σ with fr := prepG (d :: l) σ.fr }
  | _, _ => σ

/-! ### Operations -/
inductive Eff2 where
  | val (v : V)
  | mk (v : V) (t : Nat) (ps : List Nat)
  | mkg (v : V) (d : Nat)
  | app (v : V) (t : Nat)
  | prot (v : V) (ps : List Nat)
  | yld (a : Nat) (as9 : List V) (ps : List Nat)
  | sto (s : Nat) (cs : List V)
  | msto (s : Nat) (cs : List V)
  | est (t n i : Nat) (e : List V)
  | res (v : V) (d : Nat) (m : Nat)
def valO2 : Option V → Option Eff2
  | some v => some (.val v)
  | none => none
def binV2 (ty : Nat) (op : BinOp) : V → V → Option V
  | .sl (some u) _ es, .nil => if ty = 2 ∧ (mbT u = false ∨ es ≠ []) then nilCmp op false else none
  | x, y => binV ty op x y
def callE2 (call : Nat → List V → Option V) (bx : Nat → Option (List V)) (d : Nat) (dr al mk : Bool) (f : Nat) (vs : List V) : Option Eff2 :=
  match frzL (bxF bx 4) vs with
  | some as9 => (match call f as9 with
    | some r => if r.pureR = true then (if mk = true then (if distinctN (r.tks.map fun x => tb x.1) = true ∧ (r.tks.all fun x => decide (tb x.1 < 100)) = true ∧ d < 9999 then
        (if al = true then some (.res (r.rn d) d 1) else if r.al = true then (if dr = true then none else some (.res (r.rn d) d 2)) else some (.res (r.rn d) d 0)) else none) else
        (if r.tks.isEmpty = true ∧ r.al = false ∧ r.nb = true then some (.val r) else none)) else none
    | none => none)
  | none => none
/-- The elements of what is appended. -/
def elsOf (sz : Nat) : V → Option (List (List V))
  | .nil => some []
  | .sl _ sz' ys => if sz = sz' then some ys else none
  | _ => none
mutual
/-- The arrays of its slices that are not empty. -/
def V.neT : V → List Nat
  | .sl (some u) _ (_ :: _) => [tb u]
  | .agg cs => neTL cs
  | _ => []
def neTL : List V → List Nat
  | [] => []
  | v :: vs => v.neT ++ neTL vs
end
/-- A token that may be nil, but is known to be one of these. -/
def surP (ns : List Nat) (p : Nat) : Nat := if mbT p = true then (if memN (tb p) ns = true then tb p else p) else p
/-- All keys are known. -/
def wellM : List V → Bool
  | [] => true
  | .int _ _ :: _ :: cs => wellM cs
  | _ => false
def sem2 (call : Nat → List V → Option V) (bx : Nat → Option (List V)) (ex : List Nat) (d : Nat) (k : K) (vs : List V) : Option Eff2 :=
  match k with
  | .mv => match vs with
    | [v] => some (.val v)
    | _ => none
  | .pick => match vs with
    | [.bool c, a, b] => some (.val (if c = true then a else b))
    | _ => none
  | .box => match vs with
    | [v] => if v.cells.all V.cellOk = true then some (.val (.box v.cells)) else none
    | _ => none
  | .alloc zs => match vs with
    | [] => some (.val (.box zs))
    | _ => none
  | .build zs pl => match fill pl vs zs with
    | some cs => some (.val (.agg cs))
    | none => none
  | .bsl sz z len ix => match fillE sz ix vs (List.replicate len z) with
    | some (es, ps) => if ps.all (fun u => !memN (tb u / 100) ex) = true ∧ d < 9999 then some (.mk (.sl (some (d * 100)) sz es) (d * 100) (ps.map (surP (neTL vs)))) else none
    | none => none
  | .load n => match vs with
    | [v] => valO2 (loadV bx n v)
    | _ => none
  | .store n root => match vs with
    | [.ref s off, v] => if s < 1000000 ∧ v.cells.length = n ∧ v.cells.all V.cellOk = true ∧ (root = none ∨ root = some s) then (match bx s with
      | some cs => (match splice cs off v.cells with | some cs' => some (.sto s cs') | none => none)
      | none => none) else none
    | [.eref u m i off cs, v] => (match root with
      | some _ => none
      | none => (match v.frzE with
        | some (v', []) => if rwT u = true ∧ memN (tb u / 100) ex = false ∧ v'.cells.length = n ∧ v'.cells.all V.pm = true then (match splice cs off v'.cells with
          | some cs' => some (.est (tb u) m i cs')
          | none => none) else none
        | _ => none))
    | _ => none
  | .bin ty op => match vs with
    | [x, y] => valO2 (binV2 ty op x y)
    | _ => none
  | .eqs ne sh => match vs with
    | [.agg cs, .agg ds] => (match eqSh sh cs ds with
      | some r => some (.val (.bool (ne != r)))
      | none => none)
    | _ => none
  | .un op => match vs with
    | [x] => valO2 (unV op x)
    | _ => none
  | .conv k => match vs with
    | [.int _ n] => some (.val (.int k (k.wrap n)))
    | _ => none
  | .mkf f => some (.val (.fn (.f f) vs))
  | .mkm f => some (.val (.fn (.m f) vs))
  | .fa off => match vs with
    | [.ref s o] => some (.val (.ref s (o + off)))
    | [.cref cs] => some (.val (.cref (cs.drop off)))
    | [.gref cs] => some (.val (.gref (cs.drop off)))
    | [.eref t n i o cs] => some (.val (.eref t n i (o + off) cs))
    | _ => none
  | .fld off n => match vs with
    | [.agg cs] => valO2 (partV cs off n)
    | _ => none
  | .ixs sz => match vs with
    | [.sl none sz' es, .int _ i] => if sz = sz' ∧ 0 ≤ i then (match es[i.toNat]? with
      | some cs => some (.val (.cref cs)) | none => none) else none
    | [.sl (some u) sz' es, .int _ i] => if sz = sz' ∧ 0 ≤ i then (match es[i.toNat]? with
      | some cs => some (.val (.eref u es.length i.toNat 0 cs)) | none => none) else none
    | _ => none
  | .ixa len sz => match vs with
    | [.ref s o, .int _ i] => if 0 ≤ i ∧ i < len then some (.val (.ref s (o + i.toNat * sz))) else none
    | [.cref cs, .int _ i] => if 0 ≤ i ∧ i < len then some (.val (.cref (cs.drop (i.toNat * sz)))) else none
    | [.gref cs, .int _ i] => if 0 ≤ i ∧ i < len then some (.val (.gref (cs.drop (i.toNat * sz)))) else none
    | [.eref t n j o cs, .int _ i] => if 0 ≤ i ∧ i < len then some (.val (.eref t n j (o + i.toNat * sz) cs)) else none
    | _ => none
  | .idx len sz n => match vs with
    | [.agg cs, .int _ i] => if 0 ≤ i ∧ i < len then valO2 (partV cs (i.toNat * sz) n) else none
    | _ => none
  | .mks sz bytes z => match vs with
    | [.int _ l, .int _ c] => if 0 ≤ l ∧ l ≤ c ∧ c * bytes ≤ 140737488355328 ∧ d < 9999 then
      some (.mk (.sl (some (d * 100)) sz (List.replicate l.toNat z)) (d * 100) []) else none
    | _ => none
  | .sls sz0 lo hi mx => match vs with
    | .sl none sz es :: vs => if sz0 = sz then (match bounds es.length es.length lo hi mx vs with
      | some (l, h) => some (.val (.sl none sz ((es.take h).drop l)))
      | none => none) else none
    | .sl (some u) sz es :: vs => if sz0 = sz ∧ memN (tb u / 100) ex = false then (match bounds es.length es.length lo hi mx vs with
      | some (l, h) => some (.prot (.sl none sz ((es.take h).drop l)) [u])
      | none => none) else none
    | .nil :: vs => (match bounds 0 0 lo hi mx vs with
      | some _ => some (.val .nil)
      | none => none)
    | _ => none
  | .ext i => match vs with
    | [.tup cs] => valO2 cs[i]?
    | _ => none
  | .call dr al mk => match vs with
    | .fn (.f f) caps :: vs => callE2 call bx d dr al mk f (vs ++ caps)
    | .fn (.m f) caps :: vs => callE2 call bx d dr al mk f (caps ++ vs)
    | .fn (.y a) [] :: vs => if dr = true then none else (match frzEL vs with
      | some (as9, ps) => if ps.all (fun u => !memN (tb u / 100) ex) = true ∧ (as9.all fun v => v.cells.all V.pm) = true then some (.yld a as9 ps) else none
      | none => none)
    | _ => none
  | .len => match vs with
    | [.sl _ _ es] => some (.val (.int .i64 es.length))
    | [.nil] => some (.val (.int .i64 0))
    | _ => none
  | .cap => match vs with
    | [.nil] => some (.val (.int .i64 0))
    | _ => none
  | .append dr sz bytes => match vs with
    | [.nil, y] => (match elsOf sz y with
      | some ys => if ys.length * bytes ≤ 140737488355328 ∧ d < 9999 then (if dr = true then some (.mk (.sl (some (2000000 + d * 100)) sz ys) (d * 100) []) else some (.mkg (.sl (some (2000000 + d * 100)) sz ys) d)) else none
      | none => none)
    | [.sl (some u) sz1 xs, y] => if sz = sz1 ∧ memN (tb u / 100) ex = false then (match elsOf sz y with
      | some ys => if (xs.length + ys.length) * bytes ≤ 140737488355328 then
        (if mbT u = true then (if tb u = d * 100 then (if dr = true then some (.app (.sl (some (unT u)) sz1 (xs ++ ys)) (d * 100)) else some (.mkg (.sl (some (unT u)) sz1 (xs ++ ys)) d)) else none)
          else some (.app (.sl (some u) sz1 (xs ++ ys)) (tb u))) else none
      | none => none) else none
    | _ => none
  | .appo sz bytes => match vs with
    | [.sl (some u) sz1 xs, y] => if sz = sz1 ∧ memN (tb u / 100) ex = false ∧ (mbT u = false ∨ xs ≠ []) then (match elsOf sz y with
      | some ys => if (xs.length + ys.length) * bytes ≤ 140737488355328 then some (.app (.sl (some u) sz1 (xs ++ ys)) (tb u)) else none
      | none => none) else none
    | _ => none
  | .appz sz bytes z => match vs with
    | [.nil, .int _ n] => if 0 ≤ n ∧ n * bytes ≤ 140737488355328 ∧ d < 9999 then some (.mkg (.sl (some (2000000 + d * 100)) sz (List.replicate n.toNat z)) d) else none
    | _ => none
  | .trunc sz => match vs with
    | [.sl (some u) sz' es, .int _ h] => if rwT u = true ∧ memN (tb u / 100) ex = false ∧ (mbT u = false ∨ 0 < h) ∧ sz = sz' ∧ 0 ≤ h ∧ h ≤ es.length then some (.app (.sl (some u) sz' (es.take h.toNat)) (tb u)) else none
    | _ => none
  | .max => match intsOf vs with
    | some (k, n :: ns) => some (.val (.int k (maxL n ns)))
    | _ => none
  | .min => match intsOf vs with
    | some (k, n :: ns) => some (.val (.int k (minL n ns)))
    | _ => none
  | .nilc => match vs with
    | [.ref s o] => some (.val (.ref s o))
    | [.cref cs] => some (.val (.cref cs))
    | [.gref cs] => some (.val (.gref cs))
    | [.eref t n i o cs] => some (.val (.eref t n i o cs))
    | [.fn f cs] => some (.val (.fn f cs))
    | _ => none
  | .mkmp => match vs with
    | [] => some (.val (.mbox []))
    | _ => none
  | .mlook => match vs with
    | [.mref s, .int .i64 n] => if -9223372036854775808 ≤ n ∧ n ≤ 9223372036854775807 then (match bx (s + 1000000) with
      | some cs => (match lookM cs n with
        | some .dead => none
        | some v => some (.val v)
        | none => if wellM cs = true then some (.val .nil) else none)
      | none => none) else none
    | _ => none
  | .mput => match vs with
    | [.mref s, .int .i64 n, .nil] => if -9223372036854775808 ≤ n ∧ n ≤ 9223372036854775807 then (match bx (s + 1000000) with
      | some cs => if wellM cs = true then some (.msto s (setM cs n .nil)) else none
      | none => none) else none
    | [.mref s, .int .i64 n, .sl t sz es] => if -9223372036854775808 ≤ n ∧ n ≤ 9223372036854775807 then (match bx (s + 1000000) with
      | some cs => if wellM cs = true then some (.msto s (setM cs n (.sl t sz es))) else none
      | none => none) else none
    | _ => none
  | .sla _ _ _ _ _ => none
  | .callp => none
  | .bad => none
def apply2 (σ : St) (dst : Option Nat) : Eff2 → St
  | .val v => { σ with fr := putO σ.fr dst v }
  | .mk v t ps => { σ with fr := putO (killT t (roF ps σ.fr)) dst v }
  | .mkg v d => { σ with fr := putO (killG d σ.fr) dst v }
  | .app v t => { σ with fr := putO (killT t σ.fr) dst v }
  | .prot v ps => { σ with fr := putO (roF ps σ.fr) dst v }
  | .yld a as9 ps => { σ with fr := putO (roF ps σ.fr) dst (.bool (goesOn a σ.tr)), tr := σ.tr.map (· ++ [as9]) }
  | .sto s cs => { σ with fr := putO (put σ.fr s (.box cs)) dst .und }
  | .msto s cs => { σ with fr := putO (put σ.fr s (.mbox cs)) dst .und }
  | .est t n i e => { σ with fr := putO (estT t n i e σ.fr) dst .und }
  | .res v d m => { σ with fr := putO (killG d (if m = 0 then σ.fr else if m = 1 then roA σ.fr else ruA σ.fr)) dst v }
def stepI2 (call : Nat → List V → Option V) (i : LIns) (σ : St) : Option St :=
  match wanted σ.fr i.guard with
  | some true => match opds σ.fr i.xs with
    | some vs => (match sem2 call (bxOf σ.fr i.ex) i.ex (i.dst.getD 0) i.k vs with
      | some e => some (apply2 σ i.dst e)
      | none => none)
    | none => none
  | some false => some { σ with fr := putO σ.fr i.dst .und }
  | none => none
def stepL2 (call : Nat → List V → Option V) : List LIns → St → Option St
  | [], σ => some σ
  | i :: is, σ => match stepI2 call i σ with
    | some σ' => stepL2 call is σ'
    | none => none
/-! Which way a region is taken, if that is known -/
def andO : Option Bool → Option Bool → Option Bool
  | some a, some b => some (a || b)
  | _, _ => none
def slT2 (ts : List Nat) : V → Option Bool
  | .dead => none
  | .sl (some u) _ [] => some (!mbT u && memN (tb u / 100) ts)
  | .sl (some u) _ (_ :: _) => some (memN (tb u / 100) ts)
  | _ => some false
def slTL2 (ts : List Nat) : List V → Option Bool
  | [] => some false
  | v :: vs => andO (slT2 ts v) (slTL2 ts vs)
def hasT2 (ts : List Nat) : V → Option Bool
  | .box cs => slTL2 ts cs
  | v => slT2 ts v
def altT2 (ts : List Nat) (fr : List (Nat × V)) : List Nat → Option Bool
  | [] => some false
  | k :: ks => match getR fr k with
    | some v => andO (hasT2 ts v) (altT2 ts fr ks)
    | none => none
def evC2 (call : Nat → List V → Option V) (N : Nat) : LCode → St → Option (Ex × St)
  | .skip, σ => some (.normal, σ)
  | .reg lp _ pp ops kn kp, σ => match stepL2 call ops (prep2 lp pp σ) with
    | some σ' => some (.normal, { σ' with fr := keepL kn kp σ'.fr })
    | none => none
  | .seq a b, σ => match evC2 call N a σ with
    | some (.normal, σ') => evC2 call N b σ'
    | r => r
  | .cond c a b, σ => match opd σ.fr c with
    | some (.bool t) => if t = true then evC2 call N a σ else evC2 call N b σ
    | _ => none
  | .block id a, σ => match evC2 call N a σ with
    | some (.exit j, σ') => if j = id then some (.normal, σ') else some (.exit j, σ')
    | r => r
  | .loop a, σ => iter (evC2 call N a) N σ
  | .rng g ps wr asg body, σ => match σ.tr, opd σ.fr g with
    | none, some (.fn (.f f) caps) => (match frzEL caps with
      | some (cs, ts) => if (cs.all fun v => v.cells.all V.pm) = true then
          rngE (roundE (evC2 call N asg) (evC2 call N body) ps wr) (fun a => call f (.fn (.y a) [] :: cs)) { σ with fr := dropL wr (roF ts σ.fr) } else none
      | none => none)
    | none, some (.fn (.m f) caps) => (match frzEL caps with
      | some (cs, ts) => if (cs.all fun v => v.cells.all V.pm) = true then
          rngE (roundE (evC2 call N asg) (evC2 call N body) ps wr) (fun a => call f (cs ++ [.fn (.y a) []])) { σ with fr := dropL wr (roF ts σ.fr) } else none
      | none => none)
    | _, _ => none
  | .alt ts ks a b, σ => match altT2 ts σ.fr ks with
    | some true => evC2 call N b σ
    | some false => evC2 call N a σ
    | none => none
  | .exit id, σ => some (.exit id, σ)
  | .ret, σ => some (.ret, σ)
  | .bad, _ => none

/-! ### Functions -/
mutual
/-- A result: its arrays are numbered by their places. -/
def V.fin2 : V → Nat × List Nat → Option (V × Nat × List Nat)
  | .bool b, us => some (.bool b, us)
  | .int k n, us => some (.int k n, us)
  | .gref cs, us => some (.gref cs, us)
  | .np, us => some (.np, us)
  | .fn (.f f) cs, us => if cs.all V.pm = true then some (.fn (.f f) cs, us) else none
  | .nil, (c, us) => some (.nil, c + 1, us)
  | .sl none sz es, (c, us) => some (.sl none sz es, c + 1, us)
  | .sl (some u) sz es, (c, us) => if memN (tb u) us = true then none else
    if rwT u = true ∧ c < 1000000 then some (.sl (some (if mbT u = true then 2000000 + c else c)) sz es, c + 1, tb u :: us) else
    if roX u = true then some (.sl none sz es, c + 1, us) else none
  | .agg cs, us => match finL2 cs us with
    | some (cs', us') => some (.agg cs', us')
    | none => none
  | _, _ => none
def finL2 : List V → Nat × List Nat → Option (List V × Nat × List Nat)
  | [], us => some ([], us)
  | v :: vs, us => match v.fin2 us with
    | some (v', us') => (match finL2 vs us' with
      | some (vs', us'') => some (v' :: vs', us'')
      | none => none)
    | none => none
end
/-- The arrays that are given away with boxes are given in no other way. -/
def apartT (ts : List Nat) (us : List Nat) : Bool := ts.all fun t => !memN (tb t) us
def result2 (res : List RV) (σ : St) : Option V :=
  match rvs σ.fr res with
  | some vs => (match givL (bxOf σ.fr []) vs with
    | some (vs1, _, ts) => if apartT ts ((tksL vs1).map fun x => tb x.1) = true then (match finL2 vs1 (0, []) with
      | some (vs', _) => some (one vs')
      | none => none) else none
    | none => none)
  | none => none
def finish2 (it : Bool) (res : List RV) (σ : St) : Option V :=
  if it = true then (if res.isEmpty = true then (match σ.tr with
    | some l => some (.tup (tupsL l))
    | none => none) else none) else result2 res σ
/-- No argument is unknown. -/
def liveL : List V → Bool
  | [] => true
  | .dead :: _ => false
  | .box _ :: _ => false
  | _ :: vs => liveL vs
def evBody2 (call : Nat → List V → Option V) (N : Nat) (lf : LFun) (args : List V) : Option V :=
  if args.length = lf.np ∧ liveL args = true then
    match evC2 call N lf.body { fr := params 0 args ++ deadL lf.sl, tk := [], tr := if ranged args = true then some [] else none } with
    | some (.normal, σ) => finish2 (ranged args) lf.res σ
    | some (.ret, σ) => finish2 (ranged args) lf.res σ
    | _ => none
  else none
/-! ### The code of the logical machine: constants that stand for nil are nil -/
mutual
def V.unV : V → V
  | .sl _ _ [] => .nil
  | .agg cs => .agg (unVL cs)
  | v => v
def unVL : List V → List V
  | [] => []
  | v :: vs => v.unV :: unVL vs
end
mutual
def V.okV : V → Bool
  | .und => true
  | .dead => true
  | .bool _ => true
  | .int _ _ => true
  | .nil => true
  | .np => true
  | .sl none _ [] => true
  | .sl (some u) _ [] => mbT u
  | .agg cs => okVL cs
  | .fn _ [] => true
  | _ => false
def okVL : List V → Bool
  | [] => true
  | v :: vs => v.okV && okVL vs
end
def unO : Opd → Opd
  | .c v => .c v.unV
  | o => o
def okO : Opd → Bool
  | .c v => v.okV
  | _ => true
def unK : K → K
  | .alloc zs => .alloc (unVL zs)
  | .build zs pl => .build (unVL zs) pl
  | .bsl sz z len ix => .bsl sz (unVL z) len ix
  | .mks sz b z => .mks sz b (unVL z)
  | .appz sz b z => .appz sz b (unVL z)
  | k => k
def okK : K → Bool
  | .alloc zs => okVL zs
  | .build zs _ => okVL zs
  | .bsl _ z _ _ => okVL z
  | .mks _ _ z => okVL z
  | .appz _ _ z => okVL z
  | _ => true
def unI (i : LIns) : LIns := { dst := i.dst, k := unK i.k, xs := i.xs.map unO, guard := i.guard, ex := i.ex }
def okI (i : LIns) : Bool := okK i.k && i.xs.all okO
def unC : LCode → LCode
  | .reg lp ds pp ops kn kp => .reg lp ds pp (ops.map unI) kn kp
  | .seq a b => .seq (unC a) (unC b)
  | .cond c a b => .cond (unO c) (unC a) (unC b)
  | .block id a => .block id (unC a)
  | .loop a => .loop (unC a)
  | .alt ts ks a b => .alt ts ks (unC a) (unC b)
  | .rng g ps wr a b => .rng (unO g) ps wr (unC a) (unC b)
  | c => c
def okC : LCode → Bool
  | .reg _ _ _ ops _ _ => ops.all okI
  | .seq a b => okC a && okC b
  | .cond c a b => okO c && okC a && okC b
  | .block _ a => okC a
  | .loop a => okC a
  | .alt _ _ a b => okC a && okC b
  | .rng g _ _ a b => okO g && okC a && okC b
  | _ => true
def unF (f : LFun) : LFun := { np := f.np, nt := f.nt, sl := f.sl, body := unC f.body, res := f.res }
def evF2 (F : Nat → Option (List V → Option V)) (C : Nat → Option LFun) : Nat → Nat → List V → Option V
  | 0, _, _ => none
  | n + 1, f, args => match F f with
    | some g => g args
    | none => match C f with
      | some lf => evBody2 (evF2 F C n) n lf args
      | none => none
end Go.Lo

/- What a value of the plain machine says of one of the logical machine. -/
namespace Go.Lo

abbrev TkF := Nat → Option (Nat × Bool)
def noT : TkF := fun _ => none
/-- The array of a token: so many elements; the marks are right. -/
def TokR (tk : TkF) (u n : Nat) : Prop := ∃ w, tk (tb u) = some (n, w) ∧ (rwT u = true → w = true) ∧ (roX u = true → w = false) ∧ (mbT u = true → n ≠ 0)

mutual
def Rel : V → TkF → V → Prop
  | .und, _, v => v = .und
  | .dead, _, _ => True
  | .bool b, _, v => v = .bool b
  | .int k n, _, v => v = .int k n
  | .agg cs, tk, v => ∃ ds, v = .agg ds ∧ RelL cs tk ds
  | .tup cs, tk, v => ∃ ds, v = .tup ds ∧ RelL cs tk ds
  | .nil, _, v => v = .nil
  | .sl none sz es, _, v => (es = [] ∧ v = .nil) ∨ ∃ es', v = .sl none sz es' ∧ RelE es es'
  | .sl (some u) sz es, tk, v => (mbT u = true ∧ es = [] ∧ v = .nil) ∨ ∃ es', v = .sl (some (tb u)) sz es' ∧ RelE es es' ∧ TokR tk u es.length
  | .fn f cs, tk, v => ∃ ds, v = .fn f ds ∧ RelL cs tk ds
  | .ref s o, _, v => v = .ref s o
  | .cref cs, _, v => ∃ ds, v = .cref ds ∧ RelL cs noT ds
  | .gref cs, _, v => ∃ ds, v = .gref ds ∧ RelL cs noT ds
  | .np, _, v => v = .np
  | .bag sz es, _, v => v = .bag sz es
  | .eref u n i o cs, tk, v => ∃ ds, v = .eref (tb u) n i o ds ∧ RelL cs noT ds ∧ TokR tk u n
  | .box cs, tk, v => ∃ ds, v = .box ds ∧ RelL cs tk ds
  | .mref s, _, v => v = .mref s
  | .mbox cs, tk, v => ∃ ds, v = .mbox ds ∧ RelL cs tk ds
def RelL : List V → TkF → List V → Prop
  | [], _, ds => ds = []
  | c :: cs, tk, ds => ∃ d r, ds = d :: r ∧ Rel c tk d ∧ RelL cs tk r
def RelE : List (List V) → List (List V) → Prop
  | [], ds => ds = []
  | c :: cs, ds => ∃ d r, ds = d :: r ∧ RelL c noT d ∧ RelE cs r
end

section
variable {tk tk' : TkF}
/-! ### Lists -/
theorem RelL.length : ∀ {cs ds : List V}, RelL cs tk ds → ds.length = cs.length
  | [], _, h => by simp only [RelL] at h; subst h; rfl
  | c :: cs, _, h => by
    simp only [RelL] at h
    obtain ⟨d, r, rfl, _, h⟩ := h
    simp [RelL.length h]
theorem RelE.length : ∀ {cs ds : List (List V)}, RelE cs ds → ds.length = cs.length
  | [], _, h => by simp only [RelE] at h; subst h; rfl
  | c :: cs, _, h => by
    simp only [RelE] at h
    obtain ⟨d, r, rfl, _, h⟩ := h
    simp [RelE.length h]
theorem RelL.nil : RelL [] tk [] := by simp [RelL]
theorem RelL.cons {c d : V} {cs ds : List V} (h : Rel c tk d) (k : RelL cs tk ds) : RelL (c :: cs) tk (d :: ds) := by
  simp only [RelL]; exact ⟨d, ds, rfl, h, k⟩
theorem RelE.nil : RelE [] [] := by simp [RelE]
theorem RelE.cons {c d : List V} {cs ds : List (List V)} (h : RelL c noT d) (k : RelE cs ds) : RelE (c :: cs) (d :: ds) := by
  simp only [RelE]; exact ⟨d, ds, rfl, h, k⟩
theorem RelL.one {c d : V} (h : Rel c tk d) : RelL [c] tk [d] := RelL.cons h RelL.nil
theorem RelL.append : ∀ {cs ds cs' ds' : List V}, RelL cs tk ds → RelL cs' tk ds' → RelL (cs ++ cs') tk (ds ++ ds')
  | [], _, _, _, h, k => by simp only [RelL] at h; subst h; exact k
  | c :: cs, _, _, _, h, k => by
    simp only [RelL] at h
    obtain ⟨d, r, rfl, h1, h⟩ := h
    exact RelL.cons h1 (h.append k)
theorem RelE.append : ∀ {cs ds cs' ds' : List (List V)}, RelE cs ds → RelE cs' ds' → RelE (cs ++ cs') (ds ++ ds')
  | [], _, _, _, h, k => by simp only [RelE] at h; subst h; exact k
  | c :: cs, _, _, _, h, k => by
    simp only [RelE] at h
    obtain ⟨d, r, rfl, h1, h⟩ := h
    exact RelE.cons h1 (h.append k)
theorem RelL.drop : ∀ {cs ds : List V}, RelL cs tk ds → ∀ n, RelL (cs.drop n) tk (ds.drop n)
  | [], _, h, n => by simp only [RelL] at h; subst h; simpa using RelL.nil
  | c :: cs, _, h, 0 => h
  | c :: cs, _, h, n + 1 => by
    simp only [RelL] at h
    obtain ⟨d, r, rfl, _, h⟩ := h
    exact h.drop n
theorem RelL.take : ∀ {cs ds : List V}, RelL cs tk ds → ∀ n, RelL (cs.take n) tk (ds.take n)
  | [], _, h, n => by simp only [RelL] at h; subst h; simpa using RelL.nil
  | c :: cs, _, h, 0 => by simpa using RelL.nil
  | c :: cs, _, h, n + 1 => by
    simp only [RelL] at h
    obtain ⟨d, r, rfl, h1, h⟩ := h
    exact RelL.cons h1 (h.take n)
theorem RelE.drop : ∀ {cs ds : List (List V)}, RelE cs ds → ∀ n, RelE (cs.drop n) (ds.drop n)
  | [], _, h, n => by simp only [RelE] at h; subst h; simpa using RelE.nil
  | c :: cs, _, h, 0 => h
  | c :: cs, _, h, n + 1 => by
    simp only [RelE] at h
    obtain ⟨d, r, rfl, _, h⟩ := h
    exact h.drop n
theorem RelE.take : ∀ {cs ds : List (List V)}, RelE cs ds → ∀ n, RelE (cs.take n) (ds.take n)
  | [], _, h, n => by simp only [RelE] at h; subst h; simpa using RelE.nil
  | c :: cs, _, h, 0 => by simpa using RelE.nil
  | c :: cs, _, h, n + 1 => by
    simp only [RelE] at h
    obtain ⟨d, r, rfl, h1, h⟩ := h
    exact RelE.cons h1 (h.take n)
theorem RelL.get : ∀ {cs ds : List V}, RelL cs tk ds → ∀ {i : Nat} {c : V}, cs[i]? = some c → ∃ d, ds[i]? = some d ∧ Rel c tk d
  | [], _, _, _, _, hi => by simp at hi
  | c :: cs, _, h, i, x, hi => by
    simp only [RelL] at h
    obtain ⟨d, r, rfl, h1, h⟩ := h
    cases i with
    | zero => simp at hi; subst hi; exact ⟨d, rfl, h1⟩
    | succ i => simpa using h.get (by simpa using hi)
theorem RelE.get : ∀ {cs ds : List (List V)}, RelE cs ds → ∀ {i : Nat} {c : List V}, cs[i]? = some c → ∃ d, ds[i]? = some d ∧ RelL c noT d
  | [], _, _, _, _, hi => by simp at hi
  | c :: cs, _, h, i, x, hi => by
    simp only [RelE] at h
    obtain ⟨d, r, rfl, h1, h⟩ := h
    cases i with
    | zero => simp at hi; subst hi; exact ⟨d, rfl, h1⟩
    | succ i => simpa using h.get (by simpa using hi)
theorem RelE.set : ∀ {cs ds : List (List V)}, RelE cs ds → ∀ (i : Nat) {e f : List V}, RelL e noT f → RelE (cs.set i e) (ds.set i f)
  | [], _, h, _, _, _, _ => by simp only [RelE] at h; subst h; simpa using RelE.nil
  | c :: cs, _, h, i, e, f, he => by
    simp only [RelE] at h
    obtain ⟨d, r, rfl, h1, h⟩ := h
    cases i with
    | zero => exact RelE.cons he h
    | succ i => exact RelE.cons h1 (h.set i he)
theorem RelE.replicate {z z' : List V} (h : RelL z noT z') : ∀ n, RelE (List.replicate n z) (List.replicate n z')
  | 0 => by simpa using RelE.nil
  | n + 1 => by simp only [List.replicate_succ]; exact RelE.cons h (RelE.replicate h n)
theorem RelE.nil_left {ds : List (List V)} (h : RelE [] ds) : ds = [] := by simpa [RelE] using h
theorem RelE.nil_right {cs : List (List V)} (h : RelE cs []) : cs = [] := by
  have := h.length
  simpa using this.symm
/-! ### Tokens alone are turned -/
theorem TokR.mono {u n : Nat} (h : TokR tk u n) (k : ∀ t x, tk t = some x → tk' t = some x) : TokR tk' u n := by
  obtain ⟨w, h1, h2⟩ := h
  exact ⟨w, k _ _ h1, h2⟩
theorem no_tok {u n : Nat} (h : TokR noT u n) : False := by
  obtain ⟨w, h, _⟩ := h
  cases h
/-- What turns values of the logical machine, part by part. -/
structure Hom (φ : V → V) : Prop where
  und : φ .und = .und
  bool : ∀ b, φ (.bool b) = .bool b
  int : ∀ k n, φ (.int k n) = .int k n
  nil : φ .nil = .nil
  sl : ∀ sz es, φ (.sl none sz es) = .sl none sz es
  cref : ∀ cs, φ (.cref cs) = .cref cs
  gref : ∀ cs, φ (.gref cs) = .gref cs
  np : φ .np = .np
  bag : ∀ sz es, φ (.bag sz es) = .bag sz es
  agg : ∀ cs, φ (.agg cs) = .agg (cs.map φ)
  tup : ∀ cs, φ (.tup cs) = .tup (cs.map φ)
  box : ∀ cs, φ (.box cs) = .box (cs.map φ)
  fn : ∀ f cs, φ (.fn f cs) = .fn f (cs.map φ)
  mbox : ∀ cs, φ (.mbox cs) = .mbox (cs.map φ)
  mref : ∀ s a b, φ (.ref s 0) = .ref a b → φ (.mref s) = .mref s
theorem Hom.id : Hom fun v => v := ⟨rfl, fun _ => rfl, fun _ _ => rfl, rfl, fun _ _ => rfl, fun _ => rfl, fun _ => rfl, rfl, fun _ _ => rfl, fun _ => by simp, fun _ => by simp, fun _ => by simp, fun _ _ => by simp, fun _ => by simp, fun _ _ _ _ => rfl⟩
theorem prepL_map (ds : List Nat) : ∀ cs, prepL ds cs = cs.map (V.prep ds)
  | [] => rfl
  | c :: cs => by simp only [prepL, List.map_cons, prepL_map ds cs]
theorem Hom.prep (ds : List Nat) : Hom (V.prep ds) := ⟨rfl, fun _ => rfl, fun _ _ => rfl, rfl, fun _ _ => rfl, fun _ => rfl, fun _ => rfl, rfl, fun _ _ => rfl, fun _ => by simp only [V.prep, prepL_map], fun _ => by simp only [V.prep, prepL_map], fun _ => by simp only [V.prep, prepL_map], fun _ _ => by simp only [V.prep, prepL_map], fun _ => by simp only [V.prep, prepL_map], fun s a b h => by
  simp only [V.prep] at h ⊢
  split at h
  · cases h
  · rename_i hm; rw [if_neg hm]⟩
theorem killL_map (t : Nat) : ∀ cs, killL t cs = cs.map (V.kill t)
  | [] => rfl
  | c :: cs => by simp only [killL, List.map_cons, killL_map t cs]
theorem Hom.kill (t : Nat) : Hom (V.kill t) := ⟨rfl, fun _ => rfl, fun _ _ => rfl, rfl, fun _ _ => rfl, fun _ => rfl, fun _ => rfl, rfl, fun _ _ => rfl, fun _ => by simp only [V.kill, killL_map], fun _ => by simp only [V.kill, killL_map], fun _ => by simp only [V.kill, killL_map], fun _ _ => by simp only [V.kill, killL_map], fun _ => by simp only [V.kill, killL_map], fun _ _ _ _ => rfl⟩
theorem estL_map (t n i : Nat) (e : List V) : ∀ cs, estL t n i e cs = cs.map (V.est t n i e)
  | [] => rfl
  | c :: cs => by simp only [estL, List.map_cons, estL_map t n i e cs]
theorem Hom.est (t n i : Nat) (e : List V) : Hom (V.est t n i e) := ⟨rfl, fun _ => rfl, fun _ _ => rfl, rfl, fun _ _ => rfl, fun _ => rfl, fun _ => rfl, rfl, fun _ _ => rfl, fun _ => by simp only [V.est, estL_map], fun _ => by simp only [V.est, estL_map], fun _ => by simp only [V.est, estL_map], fun _ _ => by simp only [V.est, estL_map], fun _ => by simp only [V.est, estL_map], fun _ _ _ _ => rfl⟩
mutual
theorem Rel.mp {φ : V → V} (hφ : Hom φ) {g : Nat → Nat → List (List V) → V} {h : Nat → Nat → Nat → Nat → List V → V} {r : Nat → Nat → V}
    (hg : ∀ u sz es v, Rel (.sl (some u) sz es) tk v → Rel (g u sz es) tk' (φ v)) (hh : ∀ u n i o cs v, Rel (.eref u n i o cs) tk v → Rel (h u n i o cs) tk' (φ v)) (hr : ∀ s o, Rel (r s o) tk' (φ (.ref s o))) : ∀ (w v : V), Rel w tk v → Rel (w.mp g h r) tk' (φ v)
  | .und, v, hv => by simp only [Rel] at hv; subst hv; simp only [V.mp, Rel, hφ.und]
  | .dead, v, hv => by simp only [V.mp, Rel]
  | .bool b, v, hv => by simp only [Rel] at hv; subst hv; simp only [V.mp, Rel, hφ.bool]
  | .int k n, v, hv => by simp only [Rel] at hv; subst hv; simp only [V.mp, Rel, hφ.int]
  | .nil, v, hv => by simp only [Rel] at hv; subst hv; simp only [V.mp, Rel, hφ.nil]
  | .sl none sz es, v, hv => by
    simp only [Rel] at hv
    simp only [V.mp, Rel]
    rcases hv with ⟨h1, rfl⟩ | ⟨es', rfl, h1⟩
    · exact .inl ⟨h1, hφ.nil⟩
    · exact .inr ⟨es', hφ.sl _ _, h1⟩
  | .sl (some u) sz es, v, hv => by simp only [V.mp]; exact hg u sz es v hv
  | .ref s o, v, hv => by simp only [Rel] at hv; subst hv; simp only [V.mp]; exact hr s o
  | .cref cs, v, hv => by
    simp only [Rel] at hv
    obtain ⟨ds, rfl, h1⟩ := hv
    simp only [V.mp, Rel]
    exact ⟨ds, hφ.cref _, h1⟩
  | .gref cs, v, hv => by
    simp only [Rel] at hv
    obtain ⟨ds, rfl, h1⟩ := hv
    simp only [V.mp, Rel]
    exact ⟨ds, hφ.gref _, h1⟩
  | .np, v, hv => by simp only [Rel] at hv; subst hv; simp only [V.mp, Rel]; exact hφ.np
  | .bag sz es, v, hv => by simp only [Rel] at hv; subst hv; simp only [V.mp, Rel]; exact hφ.bag _ _
  | .eref u n i o cs, v, hv => by simp only [V.mp]; exact hh u n i o cs v hv
  | .agg cs, v, hv => by
    simp only [Rel] at hv
    obtain ⟨ds, rfl, h1⟩ := hv
    simp only [V.mp, Rel]
    exact ⟨_, hφ.agg _, RelL.mp hφ hg hh hr cs ds h1⟩
  | .tup cs, v, hv => by
    simp only [Rel] at hv
    obtain ⟨ds, rfl, h1⟩ := hv
    simp only [V.mp, Rel]
    exact ⟨_, hφ.tup _, RelL.mp hφ hg hh hr cs ds h1⟩
  | .box cs, v, hv => by
    simp only [Rel] at hv
    obtain ⟨ds, rfl, h1⟩ := hv
    simp only [V.mp, Rel]
    exact ⟨_, hφ.box _, RelL.mp hφ hg hh hr cs ds h1⟩
  | .mbox cs, v, hv => by
    simp only [Rel] at hv
    obtain ⟨ds, rfl, h1⟩ := hv
    simp only [V.mp, Rel]
    exact ⟨_, hφ.mbox _, RelL.mp hφ hg hh hr cs ds h1⟩
  | .mref s, v, hv => by
    simp only [Rel] at hv; subst hv
    have k := hr s 0
    simp only [V.mp]
    split
    · rename_i a b e
      rw [e] at k
      simp only [Rel] at k ⊢
      exact hφ.mref s a b k
    · simp only [Rel]
  | .fn f cs, v, hv => by
    simp only [Rel] at hv
    obtain ⟨ds, rfl, h1⟩ := hv
    simp only [V.mp, Rel]
    exact ⟨_, hφ.fn _ _, RelL.mp hφ hg hh hr cs ds h1⟩
theorem RelL.mp {φ : V → V} (hφ : Hom φ) {g : Nat → Nat → List (List V) → V} {h : Nat → Nat → Nat → Nat → List V → V} {r : Nat → Nat → V}
    (hg : ∀ u sz es v, Rel (.sl (some u) sz es) tk v → Rel (g u sz es) tk' (φ v)) (hh : ∀ u n i o cs v, Rel (.eref u n i o cs) tk v → Rel (h u n i o cs) tk' (φ v)) (hr : ∀ s o, Rel (r s o) tk' (φ (.ref s o))) : ∀ (ws vs : List V), RelL ws tk vs → RelL (mpL g h r ws) tk' (vs.map φ)
  | [], vs, hv => by simp only [RelL] at hv; subst hv; simpa [mpL] using RelL.nil
  | w :: ws, vs, hv => by
    simp only [RelL] at hv
    obtain ⟨d, q, rfl, h1, h2⟩ := hv
    simp only [mpL, List.map_cons]
    exact RelL.cons (Rel.mp hφ hg hh hr w d h1) (RelL.mp hφ hg hh hr ws q h2)
end
mutual
theorem mp_id : ∀ v : V, v.mp (fun u sz es => .sl (some u) sz es) (fun u n i o cs => .eref u n i o cs) .ref = v
  | .agg cs => by simp only [V.mp, mpL_id cs]
  | .tup cs => by simp only [V.mp, mpL_id cs]
  | .box cs => by simp only [V.mp, mpL_id cs]
  | .mbox cs => by simp only [V.mp, mpL_id cs]
  | .mref _ => rfl
  | .fn f cs => by simp only [V.mp, mpL_id cs]
  | .sl (some u) sz es => rfl
  | .sl none _ _ => rfl
  | .ref _ _ => rfl
  | .eref _ _ _ _ _ => rfl
  | .und => rfl
  | .dead => rfl
  | .bool _ => rfl
  | .int _ _ => rfl
  | .nil => rfl
  | .cref _ => rfl
  | .gref _ => rfl
  | .np => rfl
  | .bag _ _ => rfl
theorem mpL_id : ∀ vs : List V, mpL (fun u sz es => .sl (some u) sz es) (fun u n i o cs => .eref u n i o cs) .ref vs = vs
  | [] => rfl
  | v :: vs => by simp only [mpL, mp_id v, mpL_id vs]
end
theorem Rel.mono {w v : V} (h : Rel w tk v) (k : ∀ t x, tk t = some x → tk' t = some x) : Rel w tk' v := by
  have := Rel.mp (tk := tk) (tk' := tk') Hom.id (g := fun u sz es => .sl (some u) sz es) (h := fun u n i o cs => .eref u n i o cs) (r := .ref) (fun u sz es v hv => by
    simp only [Rel] at hv ⊢
    rcases hv with hv | ⟨es', h1, h2, h3⟩
    · exact .inl hv
    · exact .inr ⟨es', h1, h2, h3.mono k⟩) (fun u n i o cs v hv => by
    simp only [Rel] at hv ⊢
    obtain ⟨ds, h1, h2, h3⟩ := hv
    exact ⟨ds, h1, h2, h3.mono k⟩) (fun s o => by simp only [Rel]) w v h
  rwa [mp_id] at this
theorem RelL.mono {ws vs : List V} (h : RelL ws tk vs) (k : ∀ t x, tk t = some x → tk' t = some x) : RelL ws tk' vs := by
  induction ws generalizing vs with
  | nil => simpa [RelL] using h
  | cons w ws ih =>
    simp only [RelL] at h
    obtain ⟨d, q, rfl, h1, h2⟩ := h
    exact RelL.cons (h1.mono k) (ih h2)
theorem RelL.wk {ws vs : List V} (h : RelL ws noT vs) : RelL ws tk vs := h.mono fun _ _ h => by cases h
theorem Rel.wk {w v : V} (h : Rel w noT v) : Rel w tk v := h.mono fun _ _ h => by cases h
/-! ### Parts -/
theorem Rel.cells {w v : V} (h : Rel w tk v) (hd : w.cells.all V.cellOk = true) : RelL w.cells tk v.cells := by
  cases w with
  | agg cs => simp only [Rel] at h; obtain ⟨ds, rfl, h1⟩ := h; exact h1
  | und => simp [V.cells, V.cellOk] at hd
  | dead => simp [V.cells, V.cellOk] at hd
  | box cs => simp [V.cells, V.cellOk] at hd
  | tup cs => simp [V.cells, V.cellOk] at hd
  | bool b => simp only [Rel] at h; subst h; exact RelL.one (by simp only [Rel])
  | int k n => simp only [Rel] at h; subst h; exact RelL.one (by simp only [Rel])
  | nil => simp only [Rel] at h; subst h; exact RelL.one (by simp only [Rel])
  | ref s o => simp only [Rel] at h; subst h; exact RelL.one (by simp only [Rel])
  | sl t sz es =>
    have : v.cells = [v] := by
      cases t with
      | none => simp only [Rel] at h; rcases h with ⟨_, rfl⟩ | ⟨_, rfl, _⟩ <;> rfl
      | some u => simp only [Rel] at h; rcases h with ⟨_, _, rfl⟩ | ⟨_, rfl, _⟩ <;> rfl
    rw [this]; exact RelL.one h
  | fn f cs =>
    have : v.cells = [v] := by simp only [Rel] at h; obtain ⟨_, rfl, _⟩ := h; rfl
    rw [this]; exact RelL.one h
  | cref cs =>
    have : v.cells = [v] := by simp only [Rel] at h; obtain ⟨_, rfl, _⟩ := h; rfl
    rw [this]; exact RelL.one h
  | gref cs =>
    have : v.cells = [v] := by simp only [Rel] at h; obtain ⟨_, rfl, _⟩ := h; rfl
    rw [this]; exact RelL.one h
  | np =>
    have : v.cells = [v] := by simp only [Rel] at h; subst h; rfl
    rw [this]; exact RelL.one h
  | bag sz es =>
    have : v.cells = [v] := by simp only [Rel] at h; subst h; rfl
    rw [this]; exact RelL.one h
  | mref s =>
    have : v.cells = [v] := by simp only [Rel] at h; subst h; rfl
    rw [this]; exact RelL.one h
  | mbox cs =>
    have : v.cells = [v] := by simp only [Rel] at h; obtain ⟨_, rfl, _⟩ := h; rfl
    rw [this]; exact RelL.one h
  | eref t n i o cs =>
    have : v.cells = [v] := by simp only [Rel] at h; obtain ⟨_, rfl, _⟩ := h; rfl
    rw [this]; exact RelL.one h
theorem Rel.cellOk {w v : V} (h : Rel w tk v) (hd : w.cellOk = true) : v.cellOk = true := by
  cases w with
  | sl t sz es =>
    cases t with
    | none => simp only [Rel] at h; rcases h with ⟨_, rfl⟩ | ⟨_, rfl, _⟩ <;> rfl
    | some u => simp only [Rel] at h; rcases h with ⟨_, _, rfl⟩ | ⟨_, rfl, _⟩ <;> rfl
  | bool b => simp only [Rel] at h; subst h; rfl
  | int k n => simp only [Rel] at h; subst h; rfl
  | nil => simp only [Rel] at h; subst h; rfl
  | ref s o => simp only [Rel] at h; subst h; rfl
  | fn f cs => simp only [Rel] at h; obtain ⟨_, rfl, _⟩ := h; rfl
  | cref cs => simp only [Rel] at h; obtain ⟨_, rfl, _⟩ := h; rfl
  | gref cs => simp only [Rel] at h; obtain ⟨_, rfl, _⟩ := h; rfl
  | np => simp only [Rel] at h; subst h; rfl
  | bag _ _ => simp only [Rel] at h; subst h; rfl
  | eref t n i o cs => simp only [Rel] at h; obtain ⟨_, rfl, _⟩ := h; rfl
  | _ => simp [V.cellOk] at hd
theorem RelL.cellOk : ∀ {cs ds : List V}, RelL cs tk ds → cs.all V.cellOk = true → ds.all V.cellOk = true
  | [], _, h, _ => by simp only [RelL] at h; subst h; rfl
  | c :: cs, _, h, k => by
    simp only [RelL] at h
    obtain ⟨d, r, rfl, h1, h2⟩ := h
    simp only [List.all_cons, Bool.and_eq_true] at k ⊢
    exact ⟨h1.cellOk k.1, h2.cellOk k.2⟩
/-- What may lie in an array leads to no array of the frame. -/
theorem Rel.pm {w v : V} (h : Rel w tk v) (hd : w.pm = true) : v.pm = true ∧ Rel w noT v := by
  cases w with
  | sl t sz es =>
    cases t with
    | none => simp only [Rel] at h ⊢; refine ⟨?_, h⟩; rcases h with ⟨_, rfl⟩ | ⟨_, rfl, _⟩ <;> rfl
    | some u => simp [V.pm] at hd
  | gref cs => simp only [Rel] at h ⊢; refine ⟨?_, h⟩; obtain ⟨_, rfl, _⟩ := h; rfl
  | np => simp only [Rel] at h ⊢; subst h; exact ⟨rfl, rfl⟩
  | bool b => simp only [Rel] at h ⊢; subst h; exact ⟨rfl, rfl⟩
  | int k n => simp only [Rel] at h ⊢; subst h; exact ⟨rfl, rfl⟩
  | nil => simp only [Rel] at h ⊢; subst h; exact ⟨rfl, rfl⟩
  | fn f cs =>
    cases f <;> cases cs <;> simp [V.pm] at hd
    simp only [Rel] at h ⊢
    obtain ⟨_, rfl, h⟩ := h
    simp only [RelL] at h; subst h
    exact ⟨rfl, _, rfl, RelL.nil⟩
  | _ => simp [V.pm] at hd
theorem RelL.pm : ∀ {cs ds : List V}, RelL cs tk ds → cs.all V.pm = true → ds.all V.pm = true ∧ RelL cs noT ds
  | [], _, h, _ => by simp only [RelL] at h; subst h; exact ⟨rfl, RelL.nil⟩
  | c :: cs, _, h, k => by
    simp only [RelL] at h
    obtain ⟨d, r, rfl, h1, h2⟩ := h
    simp only [List.all_cons, Bool.and_eq_true] at k ⊢
    obtain ⟨a1, a2⟩ := h1.pm k.1
    obtain ⟨b1, b2⟩ := h2.pm k.2
    exact ⟨⟨a1, b1⟩, RelL.cons a2 b2⟩
theorem pm_cellOk {v : V} (h : v.pm = true) : v.cellOk = true := by
  cases v <;> first | rfl | (simp [V.pm] at h)
theorem all_pm_cellOk {vs : List V} (h : vs.all V.pm = true) : vs.all V.cellOk = true := by
  rw [List.all_eq_true] at h ⊢
  exact fun v hv => pm_cellOk (h v hv)
theorem partV_rel {cs ds : List V} (h : RelL cs tk ds) {off : Nat} {n : Option Nat} {w : V} (hw : partV cs off n = some w) : ∃ v, partV ds off n = some v ∧ Rel w tk v := by
  cases n with
  | none => exact h.get hw
  | some n =>
    simp only [partV] at hw ⊢
    split at hw
    · rename_i hl
      injection hw with hw; subst hw
      rw [if_pos (by rw [h.length]; exact hl)]
      refine ⟨_, rfl, ?_⟩
      simp only [Rel]
      exact ⟨_, rfl, (h.drop off).take n⟩
    · cases hw
theorem splice_rel {cs ds new new' cs' : List V} (h : RelL cs tk ds) (hn : RelL new tk new') {off : Nat} (hs : splice cs off new = some cs') : ∃ ds', splice ds off new' = some ds' ∧ RelL cs' tk ds' := by
  unfold splice at hs ⊢
  split at hs
  · rename_i hl
    injection hs with hs; subst hs
    rw [if_pos (by rw [h.length, hn.length]; exact hl)]
    refine ⟨_, rfl, ?_⟩
    rw [hn.length]
    exact ((h.take off).append hn).append (h.drop _)
  · cases hs
theorem fill_rel : ∀ {pl : List (Nat × Nat)} {ws vs cs ds cs' : List V}, RelL ws tk vs → RelL cs tk ds → fill pl ws cs = some cs' → ∃ ds', fill pl vs ds = some ds' ∧ RelL cs' tk ds'
  | [], [], vs, cs, ds, cs', h, k, hf => by
    simp only [RelL] at h; subst h
    simp only [fill, Option.some.injEq] at hf ⊢
    subst hf
    exact ⟨ds, rfl, k⟩
  | [], w :: ws, vs, cs, ds, cs', h, k, hf => by simp [fill] at hf
  | (off, n) :: pl, [], vs, cs, ds, cs', h, k, hf => by simp [fill] at hf
  | (off, n) :: pl, w :: ws, vs, cs, ds, cs', h, k, hf => by
    simp only [RelL] at h
    obtain ⟨v, r, rfl, h1, h2⟩ := h
    simp only [fill] at hf ⊢
    split at hf
    · rename_i hc
      have hcl := h1.cells hc.2
      rw [if_pos ⟨by rw [hcl.length]; exact hc.1, hcl.cellOk hc.2⟩]
      split at hf
      · rename_i c1 hs
        obtain ⟨d1, e1, e2⟩ := splice_rel k hcl hs
        rw [e1]
        exact fill_rel h2 e2 hf
      · cases hf
    · cases hf
theorem popI_ints {c : Bool} {df i : Int} {vs r : List V} (h : popI c df vs = some (i, r)) : vs = r ∨ ∃ k, vs = .int k i :: r := by
  unfold popI at h
  split at h
  · split at h
    · simp only [Option.some.injEq, Prod.mk.injEq] at h
      obtain ⟨rfl, rfl⟩ := h
      exact .inr ⟨_, rfl⟩
    · cases h
  · simp only [Option.some.injEq, Prod.mk.injEq] at h
    exact .inl h.2
theorem bounds_eq {len n : Nat} {lo hi mx : Bool} {vs : List V} : bounds len n lo hi mx vs = (match popI lo 0 vs with
    | none => none
    | some (l, vs) => match popI hi len vs with
      | none => none
      | some (h, vs) => match popI mx n vs with
        | some (m, []) => if 0 ≤ l ∧ l ≤ h ∧ h ≤ m ∧ m ≤ n then some (l.toNat, h.toNat) else none
        | _ => none) := rfl
theorem bounds_ints {len n : Nat} {lo hi mx : Bool} {ws : List V} {x : Nat × Nat} (h : bounds len n lo hi mx ws = some x) : ∀ w ∈ ws, ∃ k i, w = .int k i := by
  rw [bounds_eq] at h
  split at h
  · cases h
  · rename_i l v1 h1
    split at h
    · cases h
    · rename_i hh v2 h2
      split at h
      · rename_i m h3
        intro w hw
        rcases popI_ints h1 with rfl | ⟨k1, rfl⟩ <;> rcases popI_ints h2 with rfl | ⟨k2, rfl⟩ <;> rcases popI_ints h3 with rfl | ⟨k3, rfl⟩ <;> simp at hw <;>
          first | (subst hw; exact ⟨_, _, rfl⟩) | (rcases hw with rfl | rfl | rfl <;> exact ⟨_, _, rfl⟩) | (rcases hw with rfl | rfl <;> exact ⟨_, _, rfl⟩)
      · cases h
theorem ints_rel : ∀ {ws vs : List V}, RelL ws tk vs → (∀ w ∈ ws, ∃ k i, w = .int k i) → vs = ws
  | [], vs, h, _ => by simpa [RelL] using h
  | w :: ws, vs, h, k => by
    obtain ⟨q, i, rfl⟩ := k w (by simp)
    simp only [RelL, Rel] at h
    obtain ⟨d, r, rfl, rfl, h⟩ := h
    rw [ints_rel h fun w hw => k w (by simp [hw])]
theorem bounds_rel {len n : Nat} {lo hi mx : Bool} {ws vs : List V} {x : Nat × Nat} (h : RelL ws tk vs) (hb : bounds len n lo hi mx ws = some x) : bounds len n lo hi mx vs = some x := by
  rw [ints_rel h (bounds_ints hb)]; exact hb
theorem intsOf_rel : ∀ {ws vs : List V} {x : IntKind × List Int}, RelL ws tk vs → intsOf ws = some x → vs = ws
  | [], vs, x, h, hi => by simp [intsOf] at hi
  | [.int k n], vs, x, h, hi => by
    simp only [RelL, Rel] at h
    obtain ⟨d, r, rfl, rfl, rfl⟩ := h
    rfl
  | .int k n :: v :: ws, vs, x, h, hi => by
    simp only [intsOf] at hi
    rw [RelL] at h
    obtain ⟨d, r, rfl, h1, h⟩ := h
    simp only [Rel] at h1; subst h1
    split at hi
    · rename_i k' ns h2
      rw [intsOf_rel h h2]
    · cases hi
  | .und :: _, vs, x, h, hi => by simp [intsOf] at hi
  | .dead :: _, vs, x, h, hi => by simp [intsOf] at hi
  | .bool _ :: _, vs, x, h, hi => by simp [intsOf] at hi
  | .agg _ :: _, vs, x, h, hi => by simp [intsOf] at hi
  | .tup _ :: _, vs, x, h, hi => by simp [intsOf] at hi
  | .nil :: _, vs, x, h, hi => by simp [intsOf] at hi
  | .sl _ _ _ :: _, vs, x, h, hi => by simp [intsOf] at hi
  | .fn _ _ :: _, vs, x, h, hi => by simp [intsOf] at hi
  | .ref _ _ :: _, vs, x, h, hi => by simp [intsOf] at hi
  | .cref _ :: _, vs, x, h, hi => by simp [intsOf] at hi
  | .gref _ :: _, vs, x, h, hi => by simp [intsOf] at hi
  | .np :: _, vs, x, h, hi => by simp [intsOf] at hi
  | .bag _ _ :: _, vs, x, h, hi => by simp [intsOf] at hi
  | .eref _ _ _ _ _ :: _, vs, x, h, hi => by simp [intsOf] at hi
  | .box _ :: _, vs, x, h, hi => by simp [intsOf] at hi
  | .mbox _ :: _, vs, x, h, hi => by simp [intsOf] at hi
  | .mref _ :: _, vs, x, h, hi => by simp [intsOf] at hi
theorem eqSh_flat : ∀ {sh : List (Option IntKind)} {cs ds : List V} {r : Bool}, eqSh sh cs ds = some r → cs.all V.flat = true ∧ ds.all V.flat = true
  | [], cs, ds, r, h => by cases cs <;> cases ds <;> simp [eqSh] at h ⊢
  | s :: sh, [], ds, r, h => by cases s <;> simp [eqSh] at h
  | s :: sh, c :: cs, [], r, h => by cases s <;> cases c <;> simp [eqSh] at h
  | none :: sh, c :: cs, d :: ds, r, h => by
    cases c <;> (try (simp [eqSh] at h; done)) <;> cases d <;> (try (simp [eqSh] at h; done))
    simp only [eqSh] at h
    split at h
    · rename_i q hq
      obtain ⟨h1, h2⟩ := eqSh_flat hq
      simp [V.flat, h1, h2]
    · cases h
  | some k :: sh, c :: cs, d :: ds, r, h => by
    cases c <;> (try (simp [eqSh] at h; done)) <;> cases d <;> (try (simp [eqSh] at h; done))
    simp only [eqSh] at h
    split at h
    · split at h
      · rename_i q hq
        obtain ⟨h1, h2⟩ := eqSh_flat hq
        simp [V.flat, h1, h2]
      · cases h
    · cases h
theorem flat_rel : ∀ {ws vs : List V}, RelL ws tk vs → ws.all V.flat = true → vs = ws
  | [], vs, h, _ => by simpa [RelL] using h
  | w :: ws, vs, h, k => by
    simp only [RelL] at h
    obtain ⟨d, r, rfl, h1, h⟩ := h
    simp only [List.all_cons, Bool.and_eq_true] at k
    rw [flat_rel h k.2]
    cases w <;> simp [V.flat] at k <;> simp only [Rel] at h1 <;> rw [h1]
theorem eqSh_rel {sh : List (Option IntKind)} {cs cs' ds ds' : List V} {r : Bool} (h : RelL cs tk cs') (k : RelL ds tk ds') (he : eqSh sh cs ds = some r) : eqSh sh cs' ds' = some r := by
  obtain ⟨h1, h2⟩ := eqSh_flat he
  rw [flat_rel h h1, flat_rel k h2]; exact he
end
end Go.Lo

/- Values that are handed on: frozen, given back. -/
namespace Go.Lo
section
variable {tk tk' : TkF}
/-! ### Marks -/
theorem tb_lt (u : Nat) : tb u < 1000000 := Nat.mod_lt _ (by decide)
theorem tb_roT (u : Nat) : tb (roT u) = tb u := by unfold roT tb; split <;> (try split) <;> omega
theorem tb_ruT (u : Nat) : tb (ruT u) = tb u := by unfold ruT tb; split <;> omega
theorem tb_unT (u : Nat) : tb (unT u) = tb u := by unfold unT tb; split <;> omega
theorem rw_roT (u : Nat) : rwT (roT u) = false := by
  unfold roT
  split
  · rename_i h; simp only [rwT, decide_eq_true_eq] at h; simp only [rwT, decide_eq_false_iff_not]; omega
  · rename_i h
    simp only [rwT, decide_eq_true_eq] at h
    split <;> simp only [rwT, decide_eq_false_iff_not] <;> omega
theorem rw_ruT (u : Nat) : rwT (ruT u) = false := by
  unfold ruT
  split
  · rename_i h; simp only [rwT, decide_eq_true_eq] at h; simp only [rwT, decide_eq_false_iff_not]; omega
  · rename_i h; simpa using h
theorem mb_roT (u : Nat) : mbT (roT u) = mbT u := by
  unfold roT
  split
  · rename_i h; simp only [rwT, decide_eq_true_eq] at h; simp only [mbT, decide_eq_decide]; omega
  · split <;> simp only [mbT, decide_eq_decide]
    omega
theorem mb_ruT (u : Nat) : mbT (ruT u) = mbT u := by
  unfold ruT
  split
  · rename_i h; simp only [rwT, decide_eq_true_eq] at h; simp only [mbT, decide_eq_decide]; omega
  · rfl
theorem mb_unT (u : Nat) : mbT (unT u) = mbT u := by
  unfold unT
  split
  · simp only [mbT, decide_eq_decide]; omega
  · rfl
theorem rw_unT {u : Nat} (h : rwT (unT u) = true) : rwT u = true := by
  unfold unT at h
  split at h
  · rename_i k; simp only [roX, decide_eq_true_eq] at k; simp only [rwT, decide_eq_true_eq] at h ⊢; omega
  · exact h
theorem ro_unT (u : Nat) : roX (unT u) = false := by
  unfold unT
  split
  · rename_i k; simp only [roX, decide_eq_true_eq] at k; simp only [roX, decide_eq_false_iff_not]; omega
  · rename_i k; simpa using k
theorem ro_ruT {u : Nat} (h : roX (ruT u) = true) : roX u = true := by
  unfold ruT at h
  split at h
  · rename_i k; simp only [rwT, decide_eq_true_eq] at k; simp only [roX, decide_eq_true_eq] at h ⊢; omega
  · exact h
theorem not_rw_ro {u : Nat} (h : rwT u = true) : roX u = false := by
  simp only [rwT, decide_eq_true_eq] at h; simp only [roX, decide_eq_false_iff_not]; omega

/-! ### Frozen -/
/-- What is read of boxes. -/
def RdR (r2 r1 : Nat → Option (List V)) : Prop := ∀ s cs, r2 s = some cs → ∃ ds, r1 s = some ds ∧ RelL cs noT ds
mutual
theorem frz_rel {r2 r1 : Nat → Option (List V)} (hr : RdR r2 r1) : ∀ (w v w' : V), Rel w tk v → w.frz r2 = some w' → ∃ v', v.frz r1 = some v' ∧ Rel w' noT v'
  | .bool b, v, w', h, hf => by
    simp only [Rel] at h; subst h
    simp only [V.frz, Option.some.injEq] at hf; subst hf
    exact ⟨_, rfl, by simp only [Rel]⟩
  | .int k n, v, w', h, hf => by
    simp only [Rel] at h; subst h
    simp only [V.frz, Option.some.injEq] at hf; subst hf
    exact ⟨_, rfl, by simp only [Rel]⟩
  | .nil, v, w', h, hf => by
    simp only [Rel] at h; subst h
    simp only [V.frz, Option.some.injEq] at hf; subst hf
    exact ⟨_, rfl, by simp only [Rel]⟩
  | .sl t sz es, v, w', h, hf => by
    simp only [V.frz, Option.some.injEq] at hf; subst hf
    have key : (es = [] ∧ v = .nil) ∨ ∃ t' es', v = .sl t' sz es' ∧ RelE es es' := by
      cases t with
      | none =>
        simp only [Rel] at h
        rcases h with h | ⟨es', h1, h2⟩
        · exact .inl h
        · exact .inr ⟨_, es', h1, h2⟩
      | some u =>
        simp only [Rel] at h
        rcases h with h | ⟨es', h1, h2, _⟩
        · exact .inl h.2
        · exact .inr ⟨_, es', h1, h2⟩
    rcases key with ⟨h1, rfl⟩ | ⟨t', es', rfl, h2⟩
    · exact ⟨.nil, rfl, by simp only [Rel]; exact .inl ⟨h1, trivial⟩⟩
    · exact ⟨.sl none sz es', rfl, by simp only [Rel]; exact .inr ⟨es', rfl, h2⟩⟩
  | .fn (.f f) cs, v, w', h, hf => by
    simp only [Rel] at h
    obtain ⟨ds, rfl, h⟩ := h
    simp only [V.frz] at hf ⊢
    split at hf
    · rename_i cs' h1
      simp only [Option.some.injEq] at hf; subst hf
      obtain ⟨ds', g1, g2⟩ := frzL_rel hr cs ds cs' h h1
      rw [g1]
      exact ⟨_, rfl, by simp only [Rel]; exact ⟨ds', rfl, g2⟩⟩
    · cases hf
  | .fn (.m f) cs, v, w', h, hf => by
    simp only [Rel] at h
    obtain ⟨ds, rfl, h⟩ := h
    simp only [V.frz] at hf ⊢
    split at hf
    · rename_i cs' h1
      simp only [Option.some.injEq] at hf; subst hf
      obtain ⟨ds', g1, g2⟩ := frzL_rel hr cs ds cs' h h1
      rw [g1]
      exact ⟨_, rfl, by simp only [Rel]; exact ⟨ds', rfl, g2⟩⟩
    · cases hf
  | .fn (.y _) cs, v, w', h, hf => by simp [V.frz] at hf
  | .agg cs, v, w', h, hf => by
    simp only [Rel] at h
    obtain ⟨ds, rfl, h⟩ := h
    simp only [V.frz] at hf ⊢
    split at hf
    · rename_i cs' h1
      simp only [Option.some.injEq] at hf; subst hf
      obtain ⟨ds', g1, g2⟩ := frzL_rel hr cs ds cs' h h1
      rw [g1]
      exact ⟨_, rfl, by simp only [Rel]; exact ⟨ds', rfl, g2⟩⟩
    · cases hf
  | .ref s off, v, w', h, hf => by
    simp only [Rel] at h; subst h
    simp only [V.frz] at hf ⊢
    split at hf
    · rename_i cs h1
      simp only [Option.some.injEq] at hf; subst hf
      obtain ⟨ds, g1, g2⟩ := hr s cs h1
      rw [g1]
      exact ⟨_, rfl, by simp only [Rel]; exact ⟨_, rfl, g2.drop off⟩⟩
    · cases hf
  | .cref cs, v, w', h, hf => by
    simp only [Rel] at h
    obtain ⟨ds, rfl, h⟩ := h
    simp only [V.frz, Option.some.injEq] at hf ⊢; subst hf
    exact ⟨_, rfl, by simp only [Rel]; exact ⟨_, rfl, h⟩⟩
  | .gref cs, v, w', h, hf => by
    simp only [Rel] at h
    obtain ⟨ds, rfl, h⟩ := h
    simp only [V.frz, Option.some.injEq] at hf ⊢; subst hf
    exact ⟨_, rfl, by simp only [Rel]; exact ⟨_, rfl, h⟩⟩
  | .bag sz es, v, w', h, hf => by
    simp only [Rel] at h
    subst h
    simp only [V.frz, Option.some.injEq] at hf ⊢; subst hf
    exact ⟨_, rfl, by simp only [Rel]⟩
  | .np, v, w', h, hf => by
    simp only [Rel] at h
    subst h
    simp only [V.frz, Option.some.injEq] at hf ⊢; subst hf
    exact ⟨_, rfl, by simp only [Rel]⟩
  | .und, v, w', h, hf => by simp [V.frz] at hf
  | .dead, v, w', h, hf => by simp [V.frz] at hf
  | .tup _, v, w', h, hf => by simp [V.frz] at hf
  | .eref _ _ _ _ _, v, w', h, hf => by simp [V.frz] at hf
  | .box _, v, w', h, hf => by simp [V.frz] at hf
  | .mbox _, v, w', h, hf => by simp [V.frz] at hf
  | .mref _, v, w', h, hf => by simp [V.frz] at hf
theorem frzL_rel {r2 r1 : Nat → Option (List V)} (hr : RdR r2 r1) : ∀ (ws vs ws' : List V), RelL ws tk vs → frzL r2 ws = some ws' → ∃ vs', frzL r1 vs = some vs' ∧ RelL ws' noT vs'
  | [], vs, ws', h, hf => by
    simp only [RelL] at h; subst h
    simp only [frzL, Option.some.injEq] at hf; subst hf
    exact ⟨[], rfl, RelL.nil⟩
  | w :: ws, vs, ws', h, hf => by
    simp only [RelL] at h
    obtain ⟨d, r, rfl, h1, h2⟩ := h
    simp only [frzL] at hf ⊢
    split at hf
    · rename_i w1 ws1 e1 e2
      simp only [Option.some.injEq] at hf; subst hf
      obtain ⟨v1, g1, g2⟩ := frz_rel hr w d w1 h1 e1
      obtain ⟨vs1, g3, g4⟩ := frzL_rel hr ws r ws1 h2 e2
      rw [g1, g3]
      exact ⟨_, rfl, RelL.cons g2 g4⟩
    · cases hf
end
theorem bxF_rel {b2 b1 : Nat → Option (List V)} (hb : ∀ s cs, b2 s = some cs → ∃ ds, b1 s = some ds ∧ RelL cs tk ds) : ∀ n, RdR (bxF b2 n) (bxF b1 n)
  | 0, s, cs, h => by simp [bxF] at h
  | n + 1, s, cs, h => by
    simp only [bxF] at h ⊢
    split at h
    case isFalse => cases h
    rename_i hlt
    rw [if_pos hlt]
    split at h
    · rename_i c1 h1
      obtain ⟨d1, g1, g2⟩ := hb s c1 h1
      rw [g1]
      exact frzL_rel (bxF_rel hb n) c1 d1 cs g2 h
    · cases h
/-! ### Elements -/
/-- The tokens that are listed: those of the logical machine are among them, and none that is sure is left out. -/
structure Toks (tk : TkF) (us ts : List Nat) : Prop where
  sub : ∀ t ∈ ts, t ∈ us.map tb
  all : ∀ t ∈ exB us, t ∈ ts
  has : ∀ t ∈ ts, (tk t).isSome = true
theorem Toks.nil : Toks tk [] [] := ⟨fun _ h => (by cases h), fun _ h => (by simp [exB] at h), fun _ h => (by cases h)⟩
theorem exB_append : ∀ (a b : List Nat), exB (a ++ b) = exB a ++ exB b
  | [], b => rfl
  | p :: a, b => by simp only [List.cons_append, exB, exB_append a b]; split <;> rfl
theorem Toks.append {us ts us' ts' : List Nat} (h : Toks tk us ts) (k : Toks tk us' ts') : Toks tk (us ++ us') (ts ++ ts') := by
  refine ⟨fun t ht => ?_, fun t ht => ?_, fun t ht => ?_⟩
  · rw [List.map_append, List.mem_append]
    rcases List.mem_append.1 ht with ht | ht
    · exact .inl (h.sub t ht)
    · exact .inr (k.sub t ht)
  · rw [exB_append] at ht
    rw [List.mem_append]
    rcases List.mem_append.1 ht with ht | ht
    · exact .inl (h.all t ht)
    · exact .inr (k.all t ht)
  · rcases List.mem_append.1 ht with ht | ht
    · exact h.has t ht
    · exact k.has t ht
mutual
theorem frzE_rel : ∀ (w v w' : V) (us : List Nat), Rel w tk v → w.frzE = some (w', us) → ∃ v' ts, v.frzE = some (v', ts) ∧ Rel w' noT v' ∧ Toks tk us ts
  | .bool b, v, w', us, h, hf => by
    simp only [Rel] at h; subst h
    simp only [V.frzE, Option.some.injEq, Prod.mk.injEq] at hf
    obtain ⟨rfl, rfl⟩ := hf
    exact ⟨_, _, rfl, by simp only [Rel], Toks.nil⟩
  | .int k n, v, w', us, h, hf => by
    simp only [Rel] at h; subst h
    simp only [V.frzE, Option.some.injEq, Prod.mk.injEq] at hf
    obtain ⟨rfl, rfl⟩ := hf
    exact ⟨_, _, rfl, by simp only [Rel], Toks.nil⟩
  | .gref cs, v, w', us, h, hf => by
    simp only [Rel] at h; obtain ⟨ds, rfl, h⟩ := h
    simp only [V.frzE, Option.some.injEq, Prod.mk.injEq] at hf
    obtain ⟨rfl, rfl⟩ := hf
    exact ⟨_, _, rfl, by simp only [Rel]; exact ⟨ds, rfl, h⟩, Toks.nil⟩
  | .bag _ _, v, w', us, h, hf => by simp [V.frzE] at hf
  | .np, v, w', us, h, hf => by
    simp only [Rel] at h; subst h
    simp only [V.frzE, Option.some.injEq, Prod.mk.injEq] at hf
    obtain ⟨rfl, rfl⟩ := hf
    exact ⟨_, _, rfl, by simp only [Rel], Toks.nil⟩
  | .nil, v, w', us, h, hf => by
    simp only [Rel] at h; subst h
    simp only [V.frzE, Option.some.injEq, Prod.mk.injEq] at hf
    obtain ⟨rfl, rfl⟩ := hf
    exact ⟨_, _, rfl, by simp only [Rel], Toks.nil⟩
  | .sl none sz es, v, w', us, h, hf => by
    simp only [V.frzE, Option.some.injEq, Prod.mk.injEq] at hf
    obtain ⟨rfl, rfl⟩ := hf
    simp only [Rel] at h
    rcases h with ⟨h1, rfl⟩ | ⟨es', rfl, h2⟩
    · exact ⟨.nil, [], rfl, by simp only [Rel]; exact .inl ⟨h1, trivial⟩, Toks.nil⟩
    · exact ⟨_, [], rfl, by simp only [Rel]; exact .inr ⟨es', rfl, h2⟩, Toks.nil⟩
  | .sl (some u) sz es, v, w', us, h, hf => by
    simp only [V.frzE, Option.some.injEq, Prod.mk.injEq] at hf
    obtain ⟨rfl, rfl⟩ := hf
    simp only [Rel] at h
    rcases h with ⟨h0, h1, rfl⟩ | ⟨es', rfl, h2, h3⟩
    · refine ⟨.nil, [], rfl, by simp only [Rel]; exact .inl ⟨h1, trivial⟩, fun _ h => (by cases h), fun t ht => ?_, fun _ h => (by cases h)⟩
      simp [exB, h0] at ht
    · refine ⟨.sl none sz es', [tb u], rfl, by simp only [Rel]; exact .inr ⟨es', rfl, h2⟩, fun t ht => by simpa using ht, fun t ht => ?_, fun t ht => ?_⟩
      · simp only [exB] at ht
        split at ht
        · simp at ht
        · simpa using ht
      · obtain ⟨w, h4, _⟩ := h3
        rw [List.mem_singleton] at ht; subst ht
        rw [h4]; rfl
  | .agg cs, v, w', us, h, hf => by
    simp only [Rel] at h
    obtain ⟨ds, rfl, h⟩ := h
    simp only [V.frzE] at hf ⊢
    split at hf
    · rename_i cs' us' h1
      simp only [Option.some.injEq, Prod.mk.injEq] at hf
      obtain ⟨rfl, rfl⟩ := hf
      obtain ⟨ds', ts, g1, g2, g3⟩ := frzEL_rel cs ds cs' us' h h1
      rw [g1]
      exact ⟨_, _, rfl, by simp only [Rel]; exact ⟨ds', rfl, g2⟩, g3⟩
    · cases hf
  | .und, v, w', us, h, hf => by simp [V.frzE] at hf
  | .dead, v, w', us, h, hf => by simp [V.frzE] at hf
  | .tup _, v, w', us, h, hf => by simp [V.frzE] at hf
  | .fn _ _, v, w', us, h, hf => by simp [V.frzE] at hf
  | .ref _ _, v, w', us, h, hf => by simp [V.frzE] at hf
  | .cref _, v, w', us, h, hf => by simp [V.frzE] at hf
  | .eref _ _ _ _ _, v, w', us, h, hf => by simp [V.frzE] at hf
  | .box _, v, w', us, h, hf => by simp [V.frzE] at hf
  | .mbox _, v, w', us, h, hf => by simp [V.frzE] at hf
  | .mref _, v, w', us, h, hf => by simp [V.frzE] at hf
theorem frzEL_rel : ∀ (ws vs ws' : List V) (us : List Nat), RelL ws tk vs → frzEL ws = some (ws', us) → ∃ vs' ts, frzEL vs = some (vs', ts) ∧ RelL ws' noT vs' ∧ Toks tk us ts
  | [], vs, ws', us, h, hf => by
    simp only [RelL] at h; subst h
    simp only [frzEL, Option.some.injEq, Prod.mk.injEq] at hf
    obtain ⟨rfl, rfl⟩ := hf
    exact ⟨[], [], rfl, RelL.nil, Toks.nil⟩
  | w :: ws, vs, ws', us, h, hf => by
    simp only [RelL] at h
    obtain ⟨d, r, rfl, h1, h2⟩ := h
    simp only [frzEL] at hf ⊢
    split at hf
    · rename_i w1 t1 ws1 t2 e1 e2
      simp only [Option.some.injEq, Prod.mk.injEq] at hf
      obtain ⟨rfl, rfl⟩ := hf
      obtain ⟨v1, s1, g1, g2, g3⟩ := frzE_rel w d w1 t1 h1 e1
      obtain ⟨vs1, s2, g4, g5, g6⟩ := frzEL_rel ws r ws1 t2 h2 e2
      rw [g1, g4]
      exact ⟨_, _, rfl, RelL.cons g2 g5, g3.append g6⟩
    · cases hf
end
theorem fillE_rel {sz : Nat} : ∀ {ix : List Nat} {ws vs : List V} {es ds es' : List (List V)} {us : List Nat}, RelL ws tk vs → RelE es ds → fillE sz ix ws es = some (es', us) → ∃ ds' ts, fillE sz ix vs ds = some (ds', ts) ∧ RelE es' ds' ∧ Toks tk us ts
  | [], [], vs, es, ds, es', us, h, k, hf => by
    simp only [RelL] at h; subst h
    simp only [fillE, Option.some.injEq, Prod.mk.injEq] at hf
    obtain ⟨rfl, rfl⟩ := hf
    exact ⟨ds, [], rfl, k, Toks.nil⟩
  | [], _ :: _, _, _, _, _, _, _, _, hf => by simp [fillE] at hf
  | _ :: _, [], _, _, _, _, _, _, _, hf => by simp [fillE] at hf
  | i :: ix, w :: ws, vs, es, ds, es', us, h, k, hf => by
    simp only [RelL] at h
    obtain ⟨v, r, rfl, h1, h2⟩ := h
    simp only [fillE] at hf ⊢
    split at hf
    · rename_i w1 u1 e1
      obtain ⟨v1, t1, g1, g2, g3⟩ := frzE_rel w v w1 u1 h1 e1
      rw [g1]
      simp only
      split at hf
      · rename_i hc
        have hcl := g2.cells (all_pm_cellOk hc.2.1)
        obtain ⟨q1, q2⟩ := hcl.pm hc.2.1
        rw [if_pos ⟨by rw [hcl.length]; exact hc.1, q1, by rw [k.length]; exact hc.2.2⟩]
        split at hf
        · rename_i es2 u2 e2
          simp only [Option.some.injEq, Prod.mk.injEq] at hf
          obtain ⟨rfl, rfl⟩ := hf
          obtain ⟨d2, t2, g4, g5, g6⟩ := fillE_rel h2 (k.set i hcl) e2
          rw [g4]
          exact ⟨_, _, rfl, g5, g3.append g6⟩
        · cases hf
      · cases hf
    · cases hf
mutual
theorem ne_frzE : ∀ (w v v' : V) (ts : List Nat), Rel w tk v → v.frzE = some (v', ts) → ∀ t ∈ w.neT, t ∈ ts
  | .sl (some u) sz (e :: es), v, v', ts, h, hf, t, ht => by
    simp only [Rel] at h
    rcases h with ⟨_, h1, _⟩ | ⟨es', rfl, _, _⟩
    · cases h1
    · simp only [V.frzE, Option.some.injEq, Prod.mk.injEq] at hf
      obtain ⟨_, rfl⟩ := hf
      simpa only [V.neT] using ht
  | .agg cs, v, v', ts, h, hf, t, ht => by
    simp only [Rel] at h
    obtain ⟨ds, rfl, h⟩ := h
    simp only [V.frzE] at hf
    split at hf
    · rename_i cs' us' h1
      simp only [Option.some.injEq, Prod.mk.injEq] at hf
      obtain ⟨_, rfl⟩ := hf
      exact ne_frzEL cs ds _ _ h h1 t (by simpa only [V.neT] using ht)
    · cases hf
  | .sl (some u) sz [], _, _, _, _, _, _, ht => by simp [V.neT] at ht
  | .sl none _ _, _, _, _, _, _, _, ht => by simp [V.neT] at ht
  | .bool _, _, _, _, _, _, _, ht => by simp [V.neT] at ht
  | .int _ _, _, _, _, _, _, _, ht => by simp [V.neT] at ht
  | .nil, _, _, _, _, _, _, ht => by simp [V.neT] at ht
  | .gref _, _, _, _, _, _, _, ht => by simp [V.neT] at ht
  | .np, _, _, _, _, _, _, ht => by simp [V.neT] at ht
  | .bag _ _, _, _, _, _, _, _, ht => by simp [V.neT] at ht
  | .und, _, _, _, _, _, _, ht => by simp [V.neT] at ht
  | .dead, _, _, _, _, _, _, ht => by simp [V.neT] at ht
  | .tup _, _, _, _, _, _, _, ht => by simp [V.neT] at ht
  | .fn _ _, _, _, _, _, _, _, ht => by simp [V.neT] at ht
  | .ref _ _, _, _, _, _, _, _, ht => by simp [V.neT] at ht
  | .cref _, _, _, _, _, _, _, ht => by simp [V.neT] at ht
  | .eref _ _ _ _ _, _, _, _, _, _, _, ht => by simp [V.neT] at ht
  | .box _, _, _, _, _, _, _, ht => by simp [V.neT] at ht
  | .mbox _, _, _, _, _, _, _, ht => by simp [V.neT] at ht
  | .mref _, _, _, _, _, _, _, ht => by simp [V.neT] at ht
theorem ne_frzEL : ∀ (ws vs vs' : List V) (ts : List Nat), RelL ws tk vs → frzEL vs = some (vs', ts) → ∀ t ∈ neTL ws, t ∈ ts
  | [], _, _, _, _, _, t, ht => by simp [neTL] at ht
  | w :: ws, vs, vs', ts, h, hf, t, ht => by
    simp only [RelL] at h
    obtain ⟨d, r, rfl, h1, h2⟩ := h
    simp only [frzEL] at hf
    split at hf
    · rename_i w1 t1 ws1 t2 e1 e2
      simp only [Option.some.injEq, Prod.mk.injEq] at hf
      obtain ⟨_, rfl⟩ := hf
      simp only [neTL, List.mem_append] at ht
      rw [List.mem_append]
      rcases ht with ht | ht
      · exact .inl (ne_frzE w d _ _ h1 e1 t ht)
      · exact .inr (ne_frzEL ws r _ _ h2 e2 t ht)
    · cases hf
end
theorem ne_fillE {sz : Nat} : ∀ {ix : List Nat} {ws vs : List V} {es es' : List (List V)} {ts : List Nat}, RelL ws tk vs → fillE sz ix vs es = some (es', ts) → ∀ t ∈ neTL ws, t ∈ ts
  | _, [], _, _, _, _, _, _, t, ht => by simp [neTL] at ht
  | [], _ :: _, vs, _, _, _, h, hf, _, _ => by
    simp only [RelL] at h
    obtain ⟨v, r, rfl, _, _⟩ := h
    simp [fillE] at hf
  | i :: ix, w :: ws, vs, es, es', ts, h, hf, t, ht => by
    simp only [RelL] at h
    obtain ⟨v, r, rfl, h1, h2⟩ := h
    simp only [fillE] at hf
    split at hf
    · rename_i w1 u1 e1
      split at hf
      · split at hf
        · rename_i es2 u2 e2
          simp only [Option.some.injEq, Prod.mk.injEq] at hf
          obtain ⟨_, rfl⟩ := hf
          simp only [neTL, List.mem_append] at ht
          rw [List.mem_append]
          rcases ht with ht | ht
          · exact .inl (ne_frzE w v _ _ h1 e1 t ht)
          · exact .inr (ne_fillE h2 e2 t ht)
        · cases hf
      · cases hf
    · cases hf
theorem tb_tb (p : Nat) : tb (tb p) = tb p := by unfold tb; omega
theorem mb_tb (p : Nat) : mbT (tb p) = false := by
  unfold mbT tb
  rw [decide_eq_false_iff_not]
  omega
theorem tb_surP (ns : List Nat) (p : Nat) : tb (surP ns p) = tb p := by
  unfold surP
  split
  · split
    · exact tb_tb p
    · rfl
  · rfl
theorem Toks.sure {us ts ns : List Nat} (h : Toks tk us ts) (hn : ∀ t, memN t ns = true → t ∈ ts) : Toks tk (us.map (surP ns)) ts := by
  refine ⟨fun t ht => ?_, ?_, h.has⟩
  · rw [List.map_map, show (tb ∘ surP ns) = tb from funext (tb_surP ns)]
    exact h.sub t ht
  · have key : ∀ us : List Nat, (∀ t ∈ exB us, t ∈ ts) → ∀ t ∈ exB (us.map (surP ns)), t ∈ ts := by
      intro us
      induction us with
      | nil => intro _ t ht; simp [exB] at ht
      | cons p us ih =>
        intro hu t ht
        simp only [List.map_cons, exB] at ht hu
        by_cases hm : mbT p = true
        · rw [if_pos hm] at hu
          by_cases hp : memN (tb p) ns = true
          · have e : surP ns p = tb p := by unfold surP; rw [if_pos hm, if_pos hp]
            rw [e, mb_tb, if_neg (by simp), tb_tb, List.mem_cons] at ht
            rcases ht with rfl | ht
            · exact hn _ hp
            · exact ih hu t ht
          · have e : surP ns p = p := by unfold surP; rw [if_pos hm, if_neg hp]
            rw [e, if_pos hm] at ht
            exact ih hu t ht
        · rw [if_neg hm] at hu
          have e : surP ns p = p := by unfold surP; rw [if_neg hm]
          rw [e, if_neg hm, List.mem_cons] at ht
          rcases ht with rfl | ht
          · exact hu _ (by simp)
          · exact ih (fun t ht => hu t (by simp [ht])) t ht
    exact key us h.all
/-! ### Results -/
mutual
theorem pureR_rel : ∀ (w v : V), Rel w tk v → w.pureR = true → v.pureR = true
  | .bool b, v, h, _ => by simp only [Rel] at h; subst h; rfl
  | .int k n, v, h, _ => by simp only [Rel] at h; subst h; rfl
  | .nil, v, h, _ => by simp only [Rel] at h; subst h; rfl
  | .gref _, v, h, _ => by simp only [Rel] at h; obtain ⟨_, rfl, _⟩ := h; rfl
  | .np, v, h, _ => by simp only [Rel] at h; subst h; rfl
  | .bag _ _, v, h, _ => by simp only [Rel] at h; subst h; rfl
  | .sl none sz es, v, h, _ => by simp only [Rel] at h; rcases h with ⟨_, rfl⟩ | ⟨_, rfl, _⟩ <;> rfl
  | .sl (some u) sz es, v, h, _ => by simp only [Rel] at h; rcases h with ⟨_, _, rfl⟩ | ⟨_, rfl, _⟩ <;> rfl
  | .agg cs, v, h, k => by
    simp only [Rel] at h; obtain ⟨ds, rfl, h⟩ := h
    simp only [V.pureR] at k ⊢
    exact pureRL_rel cs ds h k
  | .tup cs, v, h, k => by
    simp only [Rel] at h; obtain ⟨ds, rfl, h⟩ := h
    simp only [V.pureR] at k ⊢
    exact pureRL_rel cs ds h k
  | .und, v, h, k => by simp [V.pureR] at k
  | .dead, v, h, k => by simp [V.pureR] at k
  | .fn (.f _) cs, v, h, k => by
    simp only [Rel] at h; obtain ⟨ds, rfl, h⟩ := h
    simp only [V.pureR] at k ⊢
    exact (h.pm k).1
  | .fn (.m _) _, v, h, k => by simp [V.pureR] at k
  | .fn (.y _) _, v, h, k => by simp [V.pureR] at k
  | .ref _ _, v, h, k => by simp [V.pureR] at k
  | .cref _, v, h, k => by simp [V.pureR] at k
  | .eref _ _ _ _ _, v, h, k => by simp [V.pureR] at k
  | .box _, v, h, k => by simp [V.pureR] at k
  | .mbox _, v, h, k => by simp [V.pureR] at k
  | .mref _, v, h, k => by simp [V.pureR] at k
theorem pureRL_rel : ∀ (ws vs : List V), RelL ws tk vs → pureRL ws = true → pureRL vs = true
  | [], vs, h, _ => by simp only [RelL] at h; subst h; rfl
  | w :: ws, vs, h, k => by
    simp only [RelL] at h
    obtain ⟨d, r, rfl, h1, h2⟩ := h
    simp only [pureRL] at k ⊢
    split at k
    · rename_i hw
      rw [pureR_rel w d h1 hw, if_pos rfl]
      exact pureRL_rel ws r h2 k
    · cases k
end
theorem flat_eq {ws vs : List V} (h : RelL ws noT vs) : ws.all V.flat = true → vs.all V.flat = true := fun k => by rw [flat_rel h k]; exact k
theorem flatE_rel : ∀ {es ds : List (List V)}, RelE es ds → flatE es = true → flatE ds = true
  | [], _, h, _ => by simp only [RelE] at h; subst h; rfl
  | e :: es, _, h, k => by
    simp only [RelE] at h
    obtain ⟨d, r, rfl, h1, h2⟩ := h
    simp only [flatE, List.all_cons, Bool.and_eq_true] at k ⊢
    exact ⟨flat_eq h1 k.1, flatE_rel h2 k.2⟩
mutual
theorem al_rel : ∀ (w v : V), Rel w tk v → w.pureR = true → w.al = false → v.al = false
  | .bool b, v, h, _, _ => by simp only [Rel] at h; subst h; rfl
  | .int k n, v, h, _, _ => by simp only [Rel] at h; subst h; rfl
  | .nil, v, h, _, _ => by simp only [Rel] at h; subst h; rfl
  | .gref _, v, h, _, k => by simp [V.al] at k
  | .np, v, h, _, _ => by simp only [Rel] at h; subst h; rfl
  | .bag _ _, v, h, _, _ => by simp only [Rel] at h; subst h; rfl
  | .sl none sz es, v, h, _, k => by simp [V.al] at k
  | .sl (some u) sz es, v, h, _, k => by
    simp only [Rel] at h
    rcases h with ⟨_, _, rfl⟩ | ⟨es', rfl, h1, _⟩
    · rfl
    · simp only [V.al, Bool.not_eq_false'] at k ⊢
      exact flatE_rel h1 k
  | .agg cs, v, h, p, k => by
    simp only [Rel] at h; obtain ⟨ds, rfl, h⟩ := h
    simp only [V.al, V.pureR] at k p ⊢
    exact alL_rel cs ds h p k
  | .tup cs, v, h, p, k => by
    simp only [Rel] at h; obtain ⟨ds, rfl, h⟩ := h
    simp only [V.al, V.pureR] at k p ⊢
    exact alL_rel cs ds h p k
  | .und, v, h, p, k => by simp [V.pureR] at p
  | .dead, v, h, p, k => by simp [V.pureR] at p
  | .fn _ _, v, h, p, k => by simp [V.al] at k
  | .ref _ _, v, h, p, k => by simp [V.pureR] at p
  | .cref _, v, h, p, k => by simp [V.pureR] at p
  | .eref _ _ _ _ _, v, h, p, k => by simp [V.pureR] at p
  | .box _, v, h, p, k => by simp [V.pureR] at p
  | .mbox _, v, h, p, k => by simp [V.pureR] at p
  | .mref _, v, h, p, k => by simp [V.pureR] at p
theorem alL_rel : ∀ (ws vs : List V), RelL ws tk vs → pureRL ws = true → alL ws = false → alL vs = false
  | [], vs, h, _, _ => by simp only [RelL] at h; subst h; rfl
  | w :: ws, vs, h, p, k => by
    simp only [RelL] at h
    obtain ⟨d, r, rfl, h1, h2⟩ := h
    simp only [alL, pureRL] at k p ⊢
    split at p
    · rename_i hw
      split at k
      · cases k
      · rename_i hk
        rw [al_rel w d h1 hw (by simpa using hk), if_neg (by simp)]
        exact alL_rel ws r h2 p k
    · cases p
end
mutual
theorem nb_rel : ∀ (w v : V), Rel w tk v → w.pureR = true → w.nb = true → v.nb = true
  | .bool b, v, h, _, _ => by simp only [Rel] at h; subst h; rfl
  | .int k n, v, h, _, _ => by simp only [Rel] at h; subst h; rfl
  | .nil, v, h, _, _ => by simp only [Rel] at h; subst h; rfl
  | .gref _, v, h, _, _ => by simp only [Rel] at h; obtain ⟨_, rfl, _⟩ := h; rfl
  | .np, v, h, _, _ => by simp only [Rel] at h; subst h; rfl
  | .bag _ _, v, _, _, k => by simp [V.nb] at k
  | .sl none sz es, v, h, _, _ => by simp only [Rel] at h; rcases h with ⟨_, rfl⟩ | ⟨_, rfl, _⟩ <;> rfl
  | .sl (some u) sz es, v, h, _, _ => by simp only [Rel] at h; rcases h with ⟨_, _, rfl⟩ | ⟨_, rfl, _⟩ <;> rfl
  | .agg cs, v, h, p, k => by
    simp only [Rel] at h; obtain ⟨ds, rfl, h⟩ := h
    simp only [V.nb, V.pureR] at k p ⊢
    exact nbL_rel cs ds h p k
  | .tup cs, v, h, p, k => by
    simp only [Rel] at h; obtain ⟨ds, rfl, h⟩ := h
    simp only [V.nb, V.pureR] at k p ⊢
    exact nbL_rel cs ds h p k
  | .und, v, h, p, k => by simp [V.pureR] at p
  | .dead, v, h, p, k => by simp [V.pureR] at p
  | .fn _ _, v, h, _, _ => by simp only [Rel] at h; obtain ⟨_, rfl, _⟩ := h; rfl
  | .ref _ _, v, h, p, k => by simp [V.pureR] at p
  | .cref _, v, h, p, k => by simp [V.pureR] at p
  | .eref _ _ _ _ _, v, h, p, k => by simp [V.pureR] at p
  | .box _, v, h, p, k => by simp [V.pureR] at p
  | .mbox _, v, h, p, k => by simp [V.pureR] at p
  | .mref _, v, h, p, k => by simp [V.pureR] at p
theorem nbL_rel : ∀ (ws vs : List V), RelL ws tk vs → pureRL ws = true → nbL ws = true → nbL vs = true
  | [], vs, h, _, _ => by simp only [RelL] at h; subst h; rfl
  | w :: ws, vs, h, p, k => by
    simp only [RelL] at h
    obtain ⟨d, r, rfl, h1, h2⟩ := h
    simp only [nbL, pureRL] at k p ⊢
    split at p
    · rename_i hw
      split at k
      · rename_i hk
        rw [if_pos (nb_rel w d h1 hw hk)]
        exact nbL_rel ws r h2 p k
      · cases k
    · cases p
end
mutual
/-- The arrays of the one are among those of the other. -/
theorem tks_rel : ∀ (w v : V), Rel w tk v → w.pureR = true → List.Sublist v.tks (w.tks.map fun x => (tb x.1, x.2))
  | .bool b, v, h, _ => by simp only [Rel] at h; subst h; exact List.Sublist.refl _
  | .int k n, v, h, _ => by simp only [Rel] at h; subst h; exact List.Sublist.refl _
  | .nil, v, h, _ => by simp only [Rel] at h; subst h; exact List.Sublist.refl _
  | .gref _, v, h, _ => by simp only [Rel] at h; obtain ⟨_, rfl, _⟩ := h; exact List.Sublist.refl _
  | .np, v, h, _ => by simp only [Rel] at h; subst h; exact List.Sublist.refl _
  | .bag _ _, v, h, _ => by simp only [Rel] at h; subst h; exact List.Sublist.refl _
  | .sl none sz es, v, h, _ => by simp only [Rel] at h; rcases h with ⟨_, rfl⟩ | ⟨_, rfl, _⟩ <;> exact List.Sublist.refl _
  | .sl (some u) sz es, v, h, _ => by
    simp only [Rel] at h
    rcases h with ⟨_, _, rfl⟩ | ⟨es', rfl, h1, _⟩
    · exact List.nil_sublist _
    · simp only [V.tks, List.map_cons, List.map_nil, h1.length]
      exact List.Sublist.refl _
  | .agg cs, v, h, p => by
    simp only [Rel] at h; obtain ⟨ds, rfl, h⟩ := h
    simp only [V.tks, V.pureR] at p ⊢
    exact tksL_rel cs ds h p
  | .tup cs, v, h, p => by
    simp only [Rel] at h; obtain ⟨ds, rfl, h⟩ := h
    simp only [V.tks, V.pureR] at p ⊢
    exact tksL_rel cs ds h p
  | .und, v, h, p => by simp [V.pureR] at p
  | .dead, v, h, p => by simp [V.pureR] at p
  | .fn _ _, v, h, p => by simp only [Rel] at h; obtain ⟨_, rfl, _⟩ := h; exact List.Sublist.refl _
  | .ref _ _, v, h, p => by simp [V.pureR] at p
  | .cref _, v, h, p => by simp [V.pureR] at p
  | .eref _ _ _ _ _, v, h, p => by simp [V.pureR] at p
  | .box _, v, h, p => by simp [V.pureR] at p
  | .mbox _, v, h, p => by simp [V.pureR] at p
  | .mref _, v, h, p => by simp [V.pureR] at p
theorem tksL_rel : ∀ (ws vs : List V), RelL ws tk vs → pureRL ws = true → List.Sublist (tksL vs) ((tksL ws).map fun x => (tb x.1, x.2))
  | [], vs, h, _ => by simp only [RelL] at h; subst h; exact List.Sublist.refl _
  | w :: ws, vs, h, p => by
    simp only [RelL] at h
    obtain ⟨d, r, rfl, h1, h2⟩ := h
    simp only [pureRL] at p
    split at p
    · rename_i hw
      simp only [tksL, List.map_append]
      exact (tks_rel w d h1 hw).append (tksL_rel ws r h2 p)
    · cases p
end
theorem tb_add {d u : Nat} (hu : tb u < 100) (hd : d < 9999) : tb (d * 100 + u) = d * 100 + tb u ∧ (d * 100 + u) / 1000000 = u / 1000000 := by
  unfold tb at hu ⊢; omega
mutual
theorem rn_rel {d : Nat} (hd : d < 9999) : ∀ (w v : V), (∀ x ∈ w.tks, tb x.1 < 100) → (∀ k n w, tk k = some (n, w) → k < 100 → tk' (d * 100 + k) = some (n, w)) → Rel w tk v → w.pureR = true → Rel (w.rn d) tk' (v.rn d)
  | .bool b, v, _, _, h, _ => by simp only [Rel] at h; subst h; simp only [V.rn, Rel]
  | .int k n, v, _, _, h, _ => by simp only [Rel] at h; subst h; simp only [V.rn, Rel]
  | .nil, v, _, _, h, _ => by simp only [Rel] at h; subst h; simp only [V.rn, Rel]
  | .gref cs, v, _, _, h, _ => by simp only [Rel] at h; obtain ⟨ds, rfl, h⟩ := h; simp only [V.rn, Rel]; exact ⟨ds, rfl, h⟩
  | .np, v, _, _, h, _ => by simp only [Rel] at h; subst h; simp only [V.rn, Rel]
  | .bag _ _, v, _, _, h, _ => by simp only [Rel] at h; subst h; simp only [V.rn, Rel]
  | .sl none sz es, v, _, _, h, _ => by
    simp only [Rel] at h
    rcases h with ⟨h1, rfl⟩ | ⟨es', rfl, h1⟩
    · simp only [V.rn, Rel]; exact .inl ⟨h1, trivial⟩
    · simp only [V.rn, Rel]; exact .inr ⟨es', rfl, h1⟩
  | .sl (some u) sz es, v, hs, ht, h, _ => by
    have hu : tb u < 100 := hs (u, es.length) (by simp [V.tks])
    obtain ⟨k1, k2⟩ := tb_add hu hd
    simp only [Rel] at h
    rcases h with ⟨h0, h1, rfl⟩ | ⟨es', rfl, h1, w, g1, g2, g3, g4⟩
    · simp only [V.rn, Rel]
      exact .inl ⟨by simpa only [mbT, k2] using h0, h1, trivial⟩
    · simp only [V.rn, Rel]
      refine .inr ⟨es', by rw [k1], h1, w, ?_, fun x => g2 (by simpa only [rwT, k2] using x), fun x => g3 (by simpa only [roX, k2] using x), fun x => g4 (by simpa only [mbT, k2] using x)⟩
      rw [k1]; exact ht _ _ _ g1 hu
  | .agg cs, v, hs, ht, h, p => by
    simp only [Rel] at h; obtain ⟨ds, rfl, h⟩ := h
    simp only [V.rn, Rel]
    exact ⟨_, rfl, rnL_rel hd cs ds (by simpa [V.tks] using hs) ht h (by simpa only [V.pureR] using p)⟩
  | .tup cs, v, hs, ht, h, p => by
    simp only [Rel] at h; obtain ⟨ds, rfl, h⟩ := h
    simp only [V.rn, Rel]
    exact ⟨_, rfl, rnL_rel hd cs ds (by simpa [V.tks] using hs) ht h (by simpa only [V.pureR] using p)⟩
  | .und, v, _, _, h, p => by simp [V.pureR] at p
  | .dead, v, _, _, h, p => by simp [V.pureR] at p
  | .fn (.f _) cs, v, _, _, h, p => by
    simp only [Rel] at h; obtain ⟨ds, rfl, h⟩ := h
    simp only [V.rn, Rel]
    exact ⟨ds, rfl, (h.pm (by simpa only [V.pureR] using p)).2.mono fun t x ht => by cases ht⟩
  | .fn (.m _) _, v, _, _, h, p => by simp [V.pureR] at p
  | .fn (.y _) _, v, _, _, h, p => by simp [V.pureR] at p
  | .ref _ _, v, _, _, h, p => by simp [V.pureR] at p
  | .cref _, v, _, _, h, p => by simp [V.pureR] at p
  | .eref _ _ _ _ _, v, _, _, h, p => by simp [V.pureR] at p
  | .box _, v, _, _, h, p => by simp [V.pureR] at p
  | .mbox _, v, _, _, h, p => by simp [V.pureR] at p
  | .mref _, v, _, _, h, p => by simp [V.pureR] at p
theorem rnL_rel {d : Nat} (hd : d < 9999) : ∀ (ws vs : List V), (∀ x ∈ tksL ws, tb x.1 < 100) → (∀ k n w, tk k = some (n, w) → k < 100 → tk' (d * 100 + k) = some (n, w)) → RelL ws tk vs → pureRL ws = true → RelL (rnL d ws) tk' (rnL d vs)
  | [], vs, _, _, h, _ => by simp only [RelL] at h; subst h; exact RelL.nil
  | w :: ws, vs, hs, ht, h, p => by
    simp only [RelL] at h
    obtain ⟨e, r, rfl, h1, h2⟩ := h
    simp only [pureRL] at p
    split at p
    · rename_i hw
      simp only [rnL]
      exact RelL.cons (rn_rel hd w e (fun x hx => hs x (by simp [tksL, hx])) ht h1 hw) (rnL_rel hd ws r (fun x hx => hs x (by simp [tksL, hx])) ht h2 p)
    · cases p
end
mutual
theorem rn_tksE (d : Nat) : ∀ v : V, (v.rn d).tks = v.tks.map fun x => (d * 100 + x.1, x.2)
  | .agg cs => by simp only [V.rn, V.tks, rnL_tksE d cs]
  | .tup cs => by simp only [V.rn, V.tks, rnL_tksE d cs]
  | .sl (some k) _ _ => by simp [V.rn, V.tks]
  | .sl none _ _ => rfl
  | .bool _ => rfl
  | .int _ _ => rfl
  | .nil => rfl
  | .gref _ => rfl
  | .np => rfl
  | .bag _ _ => rfl
  | .und => rfl
  | .dead => rfl
  | .fn _ _ => rfl
  | .ref _ _ => rfl
  | .cref _ => rfl
  | .eref _ _ _ _ _ => rfl
  | .box _ => rfl
  | .mbox _ => rfl
  | .mref _ => rfl
theorem rnL_tksE (d : Nat) : ∀ vs : List V, tksL (rnL d vs) = (tksL vs).map fun x => (d * 100 + x.1, x.2)
  | [] => rfl
  | v :: vs => by simp only [rnL, tksL, rn_tksE d v, rnL_tksE d vs, List.map_append]
end
end
end Go.Lo

/- Frames of the plain machine. -/
namespace Go.Lo
section
variable {tk tk' : TkF} {fr2 fr fr' : List (Nat × V)}

def RelFr (fr2 fr : List (Nat × V)) (tk : TkF) : Prop := ∀ s w, get fr2 s = some w → w = .dead ∨ ∃ v, get fr s = some v ∧ Rel w tk v
def RelTr : Option (List (List V)) → Option (List (List V)) → Prop
  | none, none => True
  | some a, some b => RelE a b
  | _, _ => False
structure RelS (σ2 σ : St) : Prop where
  fr : RelFr σ2.fr σ.fr (get σ.tk)
  tr : RelTr σ2.tr σ.tr

/-! ### What lies in a slot -/
theorem get_mpF {g : Nat → Nat → List (List V) → V} {h : Nat → Nat → Nat → Nat → List V → V} {r : Nat → Nat → V} (s : Nat) : ∀ l : List (Nat × V), get (mpF g h r l) s = (get l s).map (V.mp g h r)
  | [] => rfl
  | (k, v) :: t => by
    simp only [mpF, get]
    split
    · rfl
    · exact get_mpF s t
theorem get_dropL_eq {α : Type} (ks : List Nat) (s : Nat) : ∀ l : List (Nat × α), get (dropL ks l) s = if memN s ks = true then none else get l s
  | [] => by simp [dropL, get]
  | (k, v) :: t => by
    have ih := get_dropL_eq ks s t
    simp only [dropL]
    split
    · rename_i hk
      rw [ih]
      simp only [get]
      split
      · rfl
      · rename_i hs
        rw [if_neg (fun e => by subst e; exact hs hk)]
    · rename_i hk
      simp only [get]
      split
      · rename_i e; subst e; rw [if_neg hk]
      · exact ih
theorem get_keepL_eq {α : Type} (n : Nat) (ks : List Nat) (s : Nat) : ∀ l : List (Nat × α), get (keepL n ks l) s = if s < n ∨ memN s ks = true then get l s else none
  | [] => by simp [keepL, get]
  | (k, v) :: t => by
    have ih := get_keepL_eq n ks s t
    simp only [keepL]
    split
    · rename_i hk
      simp only [get]
      split
      · rename_i e; subst e; rw [if_pos (.inl hk)]
      · exact ih
    · split
      · rename_i hk
        simp only [get]
        split
        · rename_i e; subst e; rw [if_pos (.inr hk)]
        · exact ih
      · rename_i h1 h2
        rw [ih]
        simp only [get]
        split
        · rename_i hs
          rw [if_neg (fun e => by subst e; exact hs.elim h1 h2)]
        · rfl
theorem get_prepF_eq (ds : List Nat) (s : Nat) : ∀ l : List (Nat × V), get (prepF ds l) s = if memN s ds = true then none else (get l s).map (V.prep ds)
  | [] => by simp [prepF, get]
  | (k, v) :: t => by
    have ih := get_prepF_eq ds s t
    simp only [prepF]
    split
    · rename_i hk
      rw [ih]
      simp only [get]
      split
      · rfl
      · rename_i hs
        rw [if_neg (fun e => by subst e; exact hs hk)]
    · rename_i hk
      simp only [get]
      split
      · rename_i e; subst e; rw [if_neg hk]; rfl
      · exact ih
theorem get_killF_eq (t s : Nat) : ∀ l : List (Nat × V), get (killF t l) s = (get l s).map (V.kill t)
  | [] => rfl
  | (k, v) :: l => by
    simp only [killF, get]
    split
    · rfl
    · exact get_killF_eq t s l
theorem get_estF_eq (t n i : Nat) (e : List V) (s : Nat) : ∀ l : List (Nat × V), get (estF t n i e l) s = (get l s).map (V.est t n i e)
  | [] => rfl
  | (k, v) :: l => by
    simp only [estF, get]
    split
    · rfl
    · exact get_estF_eq t n i e s l
theorem get_prepT_eq (ds : List Nat) (s : Nat) : ∀ l : List (Nat × Nat × Bool), get (prepT ds l) s = if memN (s / 100) ds = true then none else get l s
  | [] => by simp [prepT, get]
  | (k, v) :: t => by
    have ih := get_prepT_eq ds s t
    simp only [prepT]
    split
    · rename_i hk
      rw [ih]
      simp only [get]
      split
      · rfl
      · rename_i hs
        rw [if_neg (fun e => by subst e; exact hs hk)]
    · rename_i hk
      simp only [get]
      split
      · rename_i e; subst e; rw [if_neg hk]
      · exact ih
theorem RelFr.put (h : RelFr fr2 fr tk) {w v : V} (hw : Rel w tk v) (s : Nat) : RelFr (put fr2 s w) (put fr s v) tk := by
  intro s' w' hs
  rw [get_put] at hs ⊢
  split at hs
  · rename_i e
    rw [if_pos e]
    injection hs with hs; subst hs
    exact .inr ⟨v, rfl, hw⟩
  · rename_i e
    rw [if_neg e]
    exact h s' w' hs
theorem RelFr.putO (h : RelFr fr2 fr tk) {w v : V} (hw : Rel w tk v) (dst : Option Nat) : RelFr (putO fr2 dst w) (putO fr dst v) tk := by
  cases dst with
  | none => exact h
  | some d => exact h.put hw d
theorem RelFr.keep (h : RelFr fr2 fr tk) (n : Nat) (ks : List Nat) : RelFr (keepL n ks fr2) (keepL n ks fr) tk := by
  intro s w hs
  rw [get_keepL_eq] at hs ⊢
  split at hs
  · rename_i e; rw [if_pos e]; exact h s w hs
  · cases hs
theorem RelFr.drop (h : RelFr fr2 fr tk) (ks : List Nat) : RelFr (dropL ks fr2) (dropL ks fr) tk := by
  intro s w hs
  rw [get_dropL_eq] at hs ⊢
  split at hs
  · cases hs
  · rename_i e; rw [if_neg e]; exact h s w hs
theorem RelFr.dropLeft (h : RelFr fr2 fr tk) (ks : List Nat) : RelFr (dropL ks fr2) fr tk := by
  intro s w hs
  rw [get_dropL_eq] at hs
  split at hs
  · cases hs
  · exact h s w hs
theorem RelFr.mp (k : RelFr fr2 fr tk) {φ : V → V} (hφ : Hom φ) {g : Nat → Nat → List (List V) → V} {h : Nat → Nat → Nat → Nat → List V → V} {r : Nat → Nat → V}
    (hg : ∀ u sz es v, Rel (.sl (some u) sz es) tk v → Rel (g u sz es) tk' (φ v)) (hh : ∀ u n i o cs v, Rel (.eref u n i o cs) tk v → Rel (h u n i o cs) tk' (φ v)) (hr : ∀ s o, Rel (r s o) tk' (φ (.ref s o)))
    (hf : ∀ s v, (get fr2 s).isSome = true → get fr s = some v → get fr' s = some (φ v)) : RelFr (mpF g h r fr2) fr' tk' := by
  intro s w hs
  rw [get_mpF] at hs
  cases hw : get fr2 s with
  | none => rw [hw] at hs; cases hs
  | some w0 =>
    rw [hw] at hs
    simp only [Option.map_some, Option.some.injEq] at hs
    subst hs
    rcases k s w0 hw with rfl | ⟨v, h1, h2⟩
    · exact .inl rfl
    · exact .inr ⟨φ v, hf s v (by rw [hw]; rfl) h1, Rel.mp hφ hg hh hr w0 v h2⟩
/-! ### Turned frames -/
theorem TokR.same {u n : Nat} (h : TokR tk u n) (k : tk' (tb u) = tk (tb u)) : TokR tk' u n := by
  obtain ⟨w, h1, h2⟩ := h
  exact ⟨w, by rw [k, h1], h2⟩
theorem killT_rel (k : RelFr fr2 fr tk) {t : Nat} (ht : ∀ s, s ≠ t → tk' s = tk s) : RelFr (killT t fr2) fr tk' := by
  refine k.mp (tk' := tk') Hom.id (fun u sz es v h => ?_) (fun u n i o cs v h => ?_) (fun s o => by simp only [Rel]) fun s v _ h => h
  · split
    · simp only [Rel]
    · rename_i hu
      simp only [Rel] at h ⊢
      rcases h with h | ⟨es', h1, h2, h3⟩
      · exact .inl h
      · exact .inr ⟨es', h1, h2, h3.same (ht _ hu)⟩
  · split
    · simp only [Rel]
    · rename_i hu
      simp only [Rel] at h ⊢
      obtain ⟨ds, h1, h2, h3⟩ := h
      exact ⟨ds, h1, h2, h3.same (ht _ hu)⟩
theorem killT_kill (k : RelFr fr2 fr tk) {t : Nat} (ht : ∀ s, s ≠ t → tk' s = tk s) : RelFr (killT t fr2) (killF t fr) tk' := by
  refine k.mp (tk' := tk') (Hom.kill t) (fun u sz es v h => ?_) (fun u n i o cs v h => ?_) (fun s o => by simp only [Rel, V.kill]) fun s v _ h => by rw [get_killF_eq, h]; rfl
  · split
    · simp only [Rel]
    · rename_i hu
      simp only [Rel] at h ⊢
      rcases h with ⟨h0, h1, rfl⟩ | ⟨es', rfl, h2, h3⟩
      · exact .inl ⟨h0, h1, rfl⟩
      · exact .inr ⟨es', by simp only [V.kill, if_neg hu], h2, h3.same (ht _ hu)⟩
  · split
    · simp only [Rel]
    · rename_i hu
      simp only [Rel] at h ⊢
      obtain ⟨ds, rfl, h2, h3⟩ := h
      exact ⟨ds, by simp only [V.kill, if_neg hu], h2, h3.same (ht _ hu)⟩
theorem killG_rel (k : RelFr fr2 fr tk) {d : Nat} (ht : ∀ s, s / 100 ≠ d → tk' s = tk s) : RelFr (killG d fr2) fr tk' := by
  refine (k.dropLeft [d]).mp (tk' := tk') Hom.id (fun u sz es v h => ?_) (fun u n i o cs v h => ?_) (fun s o => ?_) fun s v _ h => h
  · split
    · simp only [Rel]
    · rename_i hu
      simp only [Rel] at h ⊢
      rcases h with h | ⟨es', h1, h2, h3⟩
      · exact .inl h
      · exact .inr ⟨es', h1, h2, h3.same (ht _ hu)⟩
  · split
    · simp only [Rel]
    · rename_i hu
      simp only [Rel] at h ⊢
      obtain ⟨ds, h1, h2, h3⟩ := h
      exact ⟨ds, h1, h2, h3.same (ht _ hu)⟩
  · split <;> simp only [Rel]
theorem memN_one {s d : Nat} : memN s [d] = true ↔ s = d := by rw [memN_iff, List.mem_singleton]
theorem killG_prep (k : RelFr fr2 fr tk) {d : Nat} (ht : ∀ s, s / 100 ≠ d → tk' s = tk s) : RelFr (killG d fr2) (prepF [d] fr) tk' := by
  refine (k.dropLeft [d]).mp (tk' := tk') (Hom.prep [d]) (fun u sz es v h => ?_) (fun u n i o cs v h => ?_) (fun s o => ?_) fun s v hs h => ?_
  · split
    · simp only [Rel]
    · rename_i hu
      have hu' : ¬ memN (tb u / 100) [d] = true := fun e => hu (memN_one.1 e)
      simp only [Rel] at h ⊢
      rcases h with ⟨h0, h1, rfl⟩ | ⟨es', rfl, h2, h3⟩
      · exact .inl ⟨h0, h1, rfl⟩
      · exact .inr ⟨es', by simp only [V.prep, if_neg hu'], h2, h3.same (ht _ hu)⟩
  · split
    · simp only [Rel]
    · rename_i hu
      have hu' : ¬ memN (tb u / 100) [d] = true := fun e => hu (memN_one.1 e)
      simp only [Rel] at h ⊢
      obtain ⟨ds, rfl, h2, h3⟩ := h
      exact ⟨ds, by simp only [V.prep, if_neg hu'], h2, h3.same (ht _ hu)⟩
  · split
    · simp only [Rel]
    · rename_i hs
      simp only [V.prep, if_neg (fun e => hs (memN_one.1 e)), Rel]
  · rw [get_dropL_eq] at hs
    split at hs
    · cases hs
    · rename_i hm; rw [get_prepF_eq, if_neg hm, h]; rfl
theorem TokR.roT {u n : Nat} (h : TokR tk u n) (k : ∀ x w, tk (tb u) = some (x, w) → tk' (tb u) = some (x, false)) : TokR tk' (roT u) n := by
  obtain ⟨w, h1, _, _, h4⟩ := h
  refine ⟨false, by rw [tb_roT]; exact k _ _ h1, fun x => ?_, fun _ => rfl, fun x => h4 (by rw [mb_roT] at x; exact x)⟩
  rw [rw_roT] at x; cases x
theorem TokR.ruT {u n : Nat} (h : TokR tk u n) (k : ∀ x w, tk (tb u) = some (x, w) → tk' (tb u) = some (x, false) ∨ tk' (tb u) = some (x, w)) : TokR tk' (ruT u) n := by
  obtain ⟨w, h1, _, h3, h4⟩ := h
  have h4' : mbT (Lo.ruT u) = true → n ≠ 0 := fun x => h4 (by rw [mb_ruT] at x; exact x)
  rcases k _ _ h1 with k | k
  · refine ⟨false, by rw [tb_ruT]; exact k, fun x => ?_, fun _ => rfl, h4'⟩
    rw [rw_ruT] at x; cases x
  · refine ⟨w, by rw [tb_ruT]; exact k, fun x => ?_, fun x => h3 (ro_ruT x), h4'⟩
    rw [rw_ruT] at x; cases x
theorem memN_false {s : Nat} {l : List Nat} : memN s l ≠ true ↔ s ∉ l := by rw [ne_eq, memN_iff]
theorem exB_mem : ∀ {us : List Nat} {t : Nat}, t ∈ exB us → t ∈ us.map tb
  | [], _, h => by simp [exB] at h
  | u :: us, t, h => by
    simp only [exB] at h
    simp only [List.map_cons, List.mem_cons]
    split at h
    · exact .inr (exB_mem h)
    · rcases List.mem_cons.1 h with h | h
      · exact .inl h
      · exact .inr (exB_mem h)
theorem TokR.roU {us ts : List Nat} {l : List (Nat × Nat × Bool)} (hT : Toks (get l) us ts) {u n : Nat} (h : TokR (get l) u n) : TokR (get (protT ts l)) (roU us u) n := by
  have key : ∀ t x w, get l t = some (x, w) → get (protT ts l) t = some (x, if memN t ts = true then false else w) := fun t x w h => by
    rw [get_protT, h]
    simp only [Option.map_some]
    split <;> rfl
  unfold Lo.roU
  split
  · rename_i hm
    refine h.roT fun x w hx => ?_
    rw [key _ _ _ hx, if_pos ((memN_iff _ _).2 (hT.all _ ((memN_iff _ _).1 hm)))]
  · split
    · refine h.ruT fun x w hx => ?_
      rw [key _ _ _ hx]
      split
      · exact .inl rfl
      · exact .inr rfl
    · rename_i hm
      refine h.same ?_
      obtain ⟨w, h1, _⟩ := h
      rw [key _ _ _ h1, if_neg (fun e => memN_false.1 hm (hT.sub _ ((memN_iff _ _).1 e))), h1]
theorem mb_roU (us : List Nat) (u : Nat) : mbT (roU us u) = mbT u := by
  unfold roU; split
  · exact mb_roT u
  · split
    · exact mb_ruT u
    · rfl
theorem tb_roU (us : List Nat) (u : Nat) : tb (roU us u) = tb u := by
  unfold roU; split
  · exact tb_roT u
  · split
    · exact tb_ruT u
    · rfl
theorem tb_keepN {f : Nat → Nat} (h : ∀ u, tb (f u) = tb u) (u : Nat) (es : List (List V)) : tb (keepN f u es) = tb u := by
  unfold keepN; split
  · cases es <;> simp [h]
  · exact h u
theorem mb_keepN {f : Nat → Nat} (h : ∀ u, mbT (f u) = mbT u) (u : Nat) (es : List (List V)) : mbT (keepN f u es) = mbT u := by
  unfold keepN; split
  · cases es <;> simp [h]
  · exact h u
/-- The marks alone are turned. -/
theorem marks_rel (k : RelFr fr2 fr tk) {f : Nat → Nat} (h1 : ∀ u, tb (f u) = tb u) (h2 : ∀ u, mbT (f u) = mbT u) (h3 : ∀ u n, TokR tk u n → TokR tk' (f u) n) :
    RelFr (mpF (fun u sz es => .sl (some (keepN f u es)) sz es) (fun u n i off cs => .eref (f u) n i off cs) .ref fr2) fr tk' := by
  refine k.mp (tk' := tk') Hom.id (fun u sz es v h => ?_) (fun u n i o cs v h => ?_) (fun s o => by simp only [Rel]) fun s v _ h => h
  · simp only [Rel] at h ⊢
    rcases h with ⟨h0, h⟩ | ⟨es', g1, g2, g3⟩
    · exact .inl ⟨by rw [mb_keepN h2]; exact h0, h⟩
    · refine .inr ⟨es', by rw [tb_keepN h1]; exact g1, g2, ?_⟩
      have : keepN f u es = f u := by
        unfold keepN
        split
        · rename_i hm
          obtain ⟨_, _, _, _, h4⟩ := g3
          cases es with
          | nil => exact absurd rfl (h4 hm)
          | cons _ _ => rfl
        · rfl
      rw [this]
      exact h3 _ _ g3
  · simp only [Rel] at h ⊢
    obtain ⟨ds, g1, g2, g3⟩ := h
    exact ⟨ds, by rw [h1]; exact g1, g2, h3 _ _ g3⟩
theorem roF_rel {l : List (Nat × Nat × Bool)} (k : RelFr fr2 fr (get l)) {us ts : List Nat} (hT : Toks (get l) us ts) : RelFr (roF us fr2) fr (get (protT ts l)) := by
  cases us with
  | nil =>
    have : ts = [] := by
      cases ts with
      | nil => rfl
      | cons t ts => exact absurd (hT.sub t (by simp)) (by simp)
    subst this
    have e : get (protT [] l) = get l := by
      funext t
      rw [get_protT]
      cases get l t <;> simp [memN]
    rw [e]; exact k
  | cons u us => exact marks_rel k (fun _ => tb_roU _ _) (fun _ => mb_roU _ _) fun _ _ h => h.roU hT
theorem roA_rel {l : List (Nat × Nat × Bool)} (k : RelFr fr2 fr (get l)) : RelFr (roA fr2) fr (get (protAll l)) :=
  marks_rel k tb_roT mb_roT fun _ _ h => h.roT fun x w hx => by rw [get_protAll, hx]; rfl
theorem ruA_rel {l : List (Nat × Nat × Bool)} (k : RelFr fr2 fr (get l)) (b : Bool) : RelFr (ruA fr2) fr (get (if b = true then protAll l else l)) := by
  refine marks_rel k tb_ruT mb_ruT fun u n h => h.ruT fun x w hx => ?_
  cases b with
  | true => left; rw [if_pos rfl, get_protAll, hx]; rfl
  | false => right; rw [if_neg (by simp)]; exact hx
theorem estT_rel (k : RelFr fr2 fr tk) (t n i : Nat) {e e' : List V} (he : RelL e noT e') : RelFr (estT t n i e fr2) (estF t n i e' fr) tk := by
  refine k.mp (tk' := tk) (Hom.est t n i e') (fun u sz es v h => ?_) (fun u n i o cs v h => ?_) (fun s o => by simp only [Rel, V.est]) fun s v _ h => by rw [get_estF_eq, h]; rfl
  · split
    · rename_i hu
      split
      · rename_i hn
        simp only [Rel] at h ⊢
        rcases h with ⟨h0, rfl, rfl⟩ | ⟨es', rfl, h2, h3⟩
        · exact .inl ⟨h0, by simp, rfl⟩
        · refine .inr ⟨es'.set i e', ?_, h2.set i he, by simpa using h3⟩
          simp only [V.est, if_pos hu, h2.length, if_pos hn]
      · simp only [Rel]
    · rename_i hu
      simp only [Rel] at h ⊢
      rcases h with ⟨h0, h1, rfl⟩ | ⟨es', rfl, h2, h3⟩
      · exact .inl ⟨h0, h1, rfl⟩
      · exact .inr ⟨es', by simp only [V.est, if_neg hu], h2, h3⟩
  · split
    · simp only [Rel]
    · rename_i hu
      simp only [Rel] at h ⊢
      obtain ⟨ds, rfl, h2, h3⟩ := h
      exact ⟨ds, by simp only [V.est, if_neg hu], h2, h3⟩
theorem prepG_rel {l : List (Nat × Nat × Bool)} (k : RelFr fr2 fr (get l)) (ds : List Nat) : RelFr (prepG ds fr2) (prepF ds fr) (get (prepT ds l)) := by
  have same : ∀ u, ¬ memN (tb u / 100) ds = true → get (prepT ds l) (tb u) = get l (tb u) := fun u hu => by rw [get_prepT_eq, if_neg hu]
  refine (k.dropLeft ds).mp (tk' := get (prepT ds l)) (Hom.prep ds) (fun u sz es v h => ?_) (fun u n i o cs v h => ?_) (fun s o => ?_) fun s v hs h => ?_
  · split
    · rename_i hu
      simp only [Rel] at h
      rcases h with ⟨h0, rfl, rfl⟩ | ⟨es', rfl, h2, h3⟩
      · simp only [prS, if_pos h0, V.prep, Rel]
        exact .inl ⟨h0, trivial, trivial⟩
      · have hv : V.prep ds (.sl (some (tb u)) sz es') = .sl none sz es' := by simp only [V.prep, if_pos hu]
        rw [hv]
        unfold prS
        split
        · rename_i h0
          split
          · obtain ⟨_, _, _, _, h4⟩ := h3
            exact absurd rfl (h4 h0)
          · simp only [Rel]; exact .inr ⟨es', rfl, h2⟩
        · simp only [Rel]; exact .inr ⟨es', rfl, h2⟩
    · rename_i hu
      simp only [Rel] at h ⊢
      rcases h with ⟨h0, h1, rfl⟩ | ⟨es', rfl, h2, h3⟩
      · exact .inl ⟨h0, h1, rfl⟩
      · exact .inr ⟨es', by simp only [V.prep, if_neg hu], h2, h3.same (same u hu)⟩
  · split
    · simp only [Rel]
    · rename_i hu
      simp only [Rel] at h ⊢
      obtain ⟨ds', rfl, h2, h3⟩ := h
      exact ⟨ds', by simp only [V.prep, if_neg hu], h2, h3.same (same u hu)⟩
  · split
    · simp only [Rel]
    · rename_i hs
      simp only [V.prep, if_neg hs, Rel]
  · rw [get_dropL_eq] at hs
    split at hs
    · cases hs
    · rename_i hm; rw [get_prepF_eq, if_neg hm, h]; rfl
theorem prep_rel {σ2 σ : St} (h : RelS σ2 σ) (lp : Bool) (ds : List Nat) : RelS (prep2 lp ds σ2) (prep lp ds σ) := by
  cases lp with
  | false => exact h
  | true =>
    cases ds with
    | nil => exact h
    | cons d ds => exact ⟨prepG_rel h.fr _, h.tr⟩
/-! ### Operands -/
mutual
theorem unV_rel : ∀ w : V, w.okV = true → Rel w noT w.unV
  | .und, _ => by simp only [V.unV, Rel]
  | .dead, _ => by simp only [Rel]
  | .bool _, _ => by simp only [V.unV, Rel]
  | .int _ _, _ => by simp only [V.unV, Rel]
  | .nil, _ => by simp only [V.unV, Rel]
  | .sl none sz [], _ => by simp only [V.unV, Rel]; exact .inl ⟨trivial, trivial⟩
  | .sl (some u) sz [], h => by
    simp only [V.okV] at h
    simp only [V.unV, Rel]; exact .inl ⟨h, trivial, trivial⟩
  | .sl none sz (_ :: _), h => by simp [V.okV] at h
  | .sl (some u) sz (_ :: _), h => by simp [V.okV] at h
  | .agg cs, h => by
    simp only [V.okV] at h
    simp only [V.unV, Rel]; exact ⟨_, rfl, unVL_rel cs h⟩
  | .fn f [], _ => by simp only [V.unV, Rel]; exact ⟨[], rfl, RelL.nil⟩
  | .fn f (_ :: _), h => by simp [V.okV] at h
  | .tup _, h => by simp [V.okV] at h
  | .ref _ _, h => by simp [V.okV] at h
  | .cref _, h => by simp [V.okV] at h
  | .gref _, h => by simp [V.okV] at h
  | .bag _ _, h => by simp [V.okV] at h
  | .np, _ => by simp only [V.unV, Rel]
  | .eref _ _ _ _ _, h => by simp [V.okV] at h
  | .box _, h => by simp [V.okV] at h
  | .mbox _, h => by simp [V.okV] at h
  | .mref _, h => by simp [V.okV] at h
theorem unVL_rel : ∀ ws : List V, okVL ws = true → RelL ws noT (unVL ws)
  | [], _ => RelL.nil
  | w :: ws, h => by
    simp only [okVL, Bool.and_eq_true] at h
    simp only [unVL]
    exact RelL.cons (unV_rel w h.1) (unVL_rel ws h.2)
end
theorem opd_rel (k : RelFr fr2 fr tk) {x : Opd} {w : V} (hx : okO x = true) (h : opd fr2 x = some w) : ∃ v, opd fr (unO x) = some v ∧ Rel w tk v := by
  cases x with
  | c c =>
    simp only [opd, Option.some.injEq] at h; subst h
    exact ⟨_, rfl, (unV_rel c hx).wk⟩
  | f n =>
    simp only [opd, Option.some.injEq] at h; subst h
    exact ⟨_, rfl, by simp only [Rel]; exact ⟨[], rfl, RelL.nil⟩⟩
  | t s =>
    simp only [opd] at h
    cases hw : get fr2 s with
    | none => rw [hw] at h; cases h
    | some w0 =>
      rw [hw] at h
      rcases k s w0 hw with rfl | ⟨v, h1, h2⟩
      · cases h
      · simp only [unO, opd, h1]
        cases w0 with
        | box cs =>
          simp only [Rel] at h2; obtain ⟨ds, rfl, _⟩ := h2
          simp only [Option.some.injEq] at h; subst h
          exact ⟨_, rfl, by simp only [Rel]⟩
        | mbox cs =>
          simp only [Rel] at h2; obtain ⟨ds, rfl, _⟩ := h2
          simp only [Option.some.injEq] at h; subst h
          exact ⟨_, rfl, by simp only [Rel]⟩
        | mref _ => simp only [Option.some.injEq] at h; subst h; simp only [Rel] at h2; subst h2; exact ⟨_, rfl, by simp only [Rel]⟩
        | dead => cases h
        | sl t sz es =>
          simp only [Option.some.injEq] at h; subst h
          cases t with
          | none =>
            have h3 := h2
            simp only [Rel] at h3
            rcases h3 with ⟨_, rfl⟩ | ⟨_, rfl, _⟩ <;> exact ⟨_, rfl, h2⟩
          | some u =>
            have h3 := h2
            simp only [Rel] at h3
            rcases h3 with ⟨_, _, rfl⟩ | ⟨_, rfl, _⟩ <;> exact ⟨_, rfl, h2⟩
        | und => simp only [Option.some.injEq] at h; subst h; simp only [Rel] at h2; subst h2; exact ⟨_, rfl, by simp only [Rel]⟩
        | bool b => simp only [Option.some.injEq] at h; subst h; simp only [Rel] at h2; subst h2; exact ⟨_, rfl, by simp only [Rel]⟩
        | int _ _ => simp only [Option.some.injEq] at h; subst h; simp only [Rel] at h2; subst h2; exact ⟨_, rfl, by simp only [Rel]⟩
        | nil => simp only [Option.some.injEq] at h; subst h; simp only [Rel] at h2; subst h2; exact ⟨_, rfl, by simp only [Rel]⟩
        | ref _ _ => simp only [Option.some.injEq] at h; subst h; simp only [Rel] at h2; subst h2; exact ⟨_, rfl, by simp only [Rel]⟩
        | agg cs => simp only [Option.some.injEq] at h; subst h; have h3 := h2; simp only [Rel] at h3; obtain ⟨ds, rfl, _⟩ := h3; exact ⟨_, rfl, h2⟩
        | tup cs => simp only [Option.some.injEq] at h; subst h; have h3 := h2; simp only [Rel] at h3; obtain ⟨ds, rfl, _⟩ := h3; exact ⟨_, rfl, h2⟩
        | fn f cs => simp only [Option.some.injEq] at h; subst h; have h3 := h2; simp only [Rel] at h3; obtain ⟨ds, rfl, _⟩ := h3; exact ⟨_, rfl, h2⟩
        | cref cs => simp only [Option.some.injEq] at h; subst h; have h3 := h2; simp only [Rel] at h3; obtain ⟨ds, rfl, _⟩ := h3; exact ⟨_, rfl, h2⟩
        | gref cs => simp only [Option.some.injEq] at h; subst h; have h3 := h2; simp only [Rel] at h3; obtain ⟨ds, rfl, _⟩ := h3; exact ⟨_, rfl, h2⟩
        | np => simp only [Option.some.injEq] at h; subst h; have h3 := h2; simp only [Rel] at h3; subst h3; exact ⟨_, rfl, h2⟩
        | bag _ _ => simp only [Option.some.injEq] at h; subst h; have h3 := h2; simp only [Rel] at h3; subst h3; exact ⟨_, rfl, h2⟩
        | eref a b c d cs => simp only [Option.some.injEq] at h; subst h; have h3 := h2; simp only [Rel] at h3; obtain ⟨ds, rfl, _⟩ := h3; exact ⟨_, rfl, h2⟩
theorem opds_rel (k : RelFr fr2 fr tk) : ∀ {xs : List Opd} {ws : List V}, xs.all okO = true → opds fr2 xs = some ws → ∃ vs, opds fr (xs.map unO) = some vs ∧ RelL ws tk vs
  | [], ws, _, h => by
    simp only [opds, Option.some.injEq] at h; subst h
    exact ⟨[], rfl, RelL.nil⟩
  | x :: xs, ws, hx, h => by
    simp only [List.all_cons, Bool.and_eq_true] at hx
    simp only [opds, List.map_cons] at h ⊢
    split at h
    · rename_i w1 ws1 e1 e2
      simp only [Option.some.injEq] at h; subst h
      obtain ⟨v, g1, g2⟩ := opd_rel k hx.1 e1
      obtain ⟨vs, g3, g4⟩ := opds_rel k hx.2 e2
      rw [g1, g3]
      exact ⟨_, rfl, RelL.cons g2 g4⟩
    · cases h
theorem wanted_rel (k : RelFr fr2 fr tk) {g : Option (Nat × Bool)} {b : Bool} (h : wanted fr2 g = some b) : wanted fr g = some b := by
  cases g with
  | none => exact h
  | some p =>
    obtain ⟨s, c⟩ := p
    simp only [wanted] at h ⊢
    cases hw : get fr2 s with
    | none => rw [hw] at h; cases h
    | some w =>
      rw [hw] at h
      rcases k s w hw with rfl | ⟨v, h1, h2⟩
      · cases h
      · rw [h1]
        cases w <;> first | (cases h; done) | skip
        · simp only [Rel] at h2; subst h2; exact h
        · simp only [Rel] at h2; subst h2; exact h
theorem bxOf_rel (k : RelFr fr2 fr tk) {ex : List Nat} {s : Nat} {cs : List V} (h : bxOf fr2 ex s = some cs) : ∃ ds, bxOf fr ex s = some ds ∧ RelL cs tk ds := by
  unfold bxOf at h ⊢
  split at h
  · rename_i hlt
    rw [if_pos hlt]
    split at h
    · cases h
    · rename_i hm
      rw [if_neg hm]
      cases hw : get fr2 s with
      | none => rw [hw] at h; cases h
      | some w =>
        rw [hw] at h
        rcases k s w hw with rfl | ⟨v, h1, h2⟩
        · cases h
        · rw [h1]
          cases w <;> first | (cases h; done) | skip
          simp only [Option.some.injEq] at h; subst h
          simp only [Rel] at h2
          obtain ⟨ds, rfl, h2⟩ := h2
          exact ⟨ds, rfl, h2⟩
  · rename_i hlt
    rw [if_neg hlt]
    split at h
    · cases h
    · rename_i hm
      rw [if_neg hm]
      cases hw : get fr2 (s - 1000000) with
      | none => rw [hw] at h; cases h
      | some w =>
        rw [hw] at h
        rcases k (s - 1000000) w hw with rfl | ⟨v, h1, h2⟩
        · cases h
        · rw [h1]
          cases w <;> first | (cases h; done) | skip
          simp only [Option.some.injEq] at h; subst h
          simp only [Rel] at h2
          obtain ⟨ds, rfl, h2⟩ := h2
          exact ⟨ds, rfl, h2⟩

end
end Go.Lo

/- One operation of the plain machine, and of the logical one. -/
namespace Go.Lo

/-- Of results: whatever is known of the arrays that are given back. -/
structure RelR (r2 r : V) : Prop where
  ex : ∃ ρ : TkF, Rel r2 ρ r
  all : ∀ ρ : TkF, (∀ k n, (k, n) ∈ r.tks → ρ k = some (n, true)) → Rel r2 ρ r
def CallSim (call2 call : Nat → List V → Option V) : Prop := ∀ f as2 r2 as9, call2 f as2 = some r2 → RelL as2 noT as9 →
  ∃ r, call f as9 = some r ∧ RelR r2 r ∧ ∀ l2, itemsOf (some r2) = some l2 → ∃ l, itemsOf (some r) = some l ∧ RelE l2 l
section
variable {call2 call : Nat → List V → Option V} {σ2 σ : St} {tk : TkF}

theorem RelL.inv1 {w : V} {vs : List V} (h : RelL [w] tk vs) : ∃ v, vs = [v] ∧ Rel w tk v := by
  simp only [RelL] at h; obtain ⟨v, r, rfl, h1, rfl⟩ := h; exact ⟨v, rfl, h1⟩
theorem RelL.inv2 {w w' : V} {vs : List V} (h : RelL [w, w'] tk vs) : ∃ v v', vs = [v, v'] ∧ Rel w tk v ∧ Rel w' tk v' := by
  simp only [RelL] at h; obtain ⟨v, r, rfl, h1, v', r', rfl, h2, rfl⟩ := h; exact ⟨v, v', rfl, h1, h2⟩
theorem RelL.inv {w : V} {ws vs : List V} (h : RelL (w :: ws) tk vs) : ∃ v r, vs = v :: r ∧ Rel w tk v ∧ RelL ws tk r := by
  simp only [RelL] at h; exact h
theorem RelL.inv0 {vs : List V} (h : RelL [] tk vs) : vs = [] := by simpa only [RelL] using h
theorem val_sim (h : RelS σ2 σ) {w v : V} (hw : Rel w (get σ.tk) v) (dst : Option Nat) : RelS (apply2 σ2 dst (.val w)) (apply σ dst (.val v)) := ⟨h.fr.putO hw dst, h.tr⟩
theorem valO_sim (h : RelS σ2 σ) {ow : Option V} {ov : Option V} {e2 : Eff2} (he : valO2 ow = some e2) (ho : ∀ w, ow = some w → ∃ v, ov = some v ∧ Rel w (get σ.tk) v) (dst : Option Nat) : ∃ e, valO ov = some e ∧ RelS (apply2 σ2 dst e2) (apply σ dst e) := by
  cases ow with
  | none => simp [valO2] at he
  | some w =>
    simp only [valO2, Option.some.injEq] at he; subst he
    obtain ⟨v, rfl, hv⟩ := ho w rfl
    exact ⟨_, rfl, val_sim h hv dst⟩
theorem tkOf_of {l : List (Nat × Nat × Bool)} {ex : List Nat} {t : Nat} (h : memN (t / 100) ex = false) : tkOf l ex t = get l t := by
  unfold tkOf; rw [if_neg (by rw [h]; simp)]
theorem loadV_rel {b2 b1 : Nat → Option (List V)} (hb : ∀ s cs, b2 s = some cs → ∃ ds, b1 s = some ds ∧ RelL cs tk ds) {n : Option Nat} {w v x : V} (h : Rel w tk v) (hl : loadV b2 n w = some x) : ∃ y, loadV b1 n v = some y ∧ Rel x tk y := by
  cases w <;> simp only [loadV, reduceCtorEq] at hl
  · simp only [Rel] at h; subst h
    simp only [loadV]
    split at hl
    case isFalse => cases hl
    rename_i hlt
    rw [if_pos hlt]
    split at hl
    · rename_i cs h1
      obtain ⟨ds, g1, g2⟩ := hb _ cs h1
      rw [g1]
      exact partV_rel g2 hl
    · cases hl
  · simp only [Rel] at h; obtain ⟨ds, rfl, h1⟩ := h
    exact partV_rel h1.wk hl
  · simp only [Rel] at h; obtain ⟨ds, rfl, h1⟩ := h
    exact partV_rel h1.wk hl
  · simp only [Rel] at h; obtain ⟨ds, rfl, h1, _⟩ := h
    exact partV_rel h1.wk hl
theorem binV_rel {ty : Nat} {op : BinOp} {w w' v v' x : V} (h : Rel w tk v) (h' : Rel w' tk v') (hb : binV2 ty op w w' = some x) : binV ty op v v' = some x ∧ Rel x tk x := by
  have out : ∀ {a b : V}, binV ty op a b = some x → Rel x tk x := by
    intro a b hx
    have : (∃ b, x = .bool b) ∨ ∃ k n, x = .int k n := by
      unfold binV at hx
      split at hx
      · split at hx
        · unfold binS at hx
          split at hx
          · cases hx
          · simp only [Option.some.injEq] at hx; exact .inr ⟨_, _, hx.symm⟩
        · unfold binS at hx
          split at hx
          · cases hx
          · simp only [Option.some.injEq] at hx; exact .inr ⟨_, _, hx.symm⟩
        · split at hx
          · unfold binI at hx
            split at hx <;> (try split at hx) <;> first | (cases hx; done) | (simp only [Option.some.injEq] at hx; first | exact .inl ⟨_, hx.symm⟩ | exact .inr ⟨_, _, hx.symm⟩)
          · cases hx
      · split at hx
        · split at hx <;> first | (cases hx; done) | (simp only [Option.some.injEq] at hx; exact .inl ⟨_, hx.symm⟩)
        · cases hx
      · split at hx
        · unfold nilCmp at hx
          split at hx <;> first | (cases hx; done) | (simp only [Option.some.injEq] at hx; exact .inl ⟨_, hx.symm⟩)
        · cases hx
      · split at hx
        · unfold nilCmp at hx
          split at hx <;> first | (cases hx; done) | (simp only [Option.some.injEq] at hx; exact .inl ⟨_, hx.symm⟩)
        · cases hx
      · cases hx
    rcases this with ⟨b, rfl⟩ | ⟨k, n, rfl⟩ <;> simp only [Rel]
  unfold binV2 at hb
  split at hb
  · rename_i u sz es
    split at hb
    · rename_i hc
      simp only [Rel] at h h'; subst h'
      rcases h with ⟨h0, h1, rfl⟩ | ⟨es', rfl, h1, _⟩
      · rcases hc.2 with hc | hc
        · rw [h0] at hc; cases hc
        · exact absurd h1 hc
      · have : binV ty op (.sl (some (tb u)) sz es') .nil = some x := by
          simp only [binV, if_pos hc.1]; exact hb
        exact ⟨this, out this⟩
    · cases hb
  · rename_i hne
    have key : ∀ {a b : V}, binV ty op a b = some x → (∃ k i, a = .int k i) ∨ (∃ c, a = .bool c) ∨ a = .nil ∨ ∃ t sz es, a = .sl (some t) sz es ∧ b = .nil := by
      intro a b hx
      unfold binV at hx
      split at hx
      · exact .inl ⟨_, _, rfl⟩
      · exact .inr (.inl ⟨_, rfl⟩)
      · exact .inr (.inr (.inl rfl))
      · exact .inr (.inr (.inr ⟨_, _, _, rfl, rfl⟩))
      · cases hx
    have hv : v = w := by
      rcases key hb with ⟨k, i, rfl⟩ | ⟨c, rfl⟩ | rfl | ⟨t, sz, es, rfl, rfl⟩
      · simpa only [Rel] using h
      · simpa only [Rel] using h
      · simpa only [Rel] using h
      · exact (hne _ _ _ rfl rfl).elim
    have hv' : v' = w' := by
      unfold binV at hb
      split at hb
      · simpa only [Rel] using h'
      · simpa only [Rel] using h'
      · simpa only [Rel] using h'
      · exact (hne _ _ _ rfl rfl).elim
      · cases hb
    rw [hv, hv']
    exact ⟨hb, out hb⟩
theorem unop_rel {op : UnOp} {w v x : V} (h : Rel w tk v) (hb : unV op w = some x) : unV op v = some x ∧ Rel x tk x := by
  unfold unV at hb
  split at hb
  · split at hb
    · simp only [Option.some.injEq] at hb; subst hb
      simp only [Rel] at h; subst h
      exact ⟨rfl, by simp only [Rel]⟩
    · cases hb
  · split at hb
    · simp only [Option.some.injEq] at hb; subst hb
      simp only [Rel] at h; subst h
      exact ⟨rfl, by simp only [Rel]⟩
    · cases hb
  · cases hb
theorem get_addT_mem : ∀ {ts : List (Nat × Nat)} {l : List (Nat × Nat × Bool)} {k n : Nat}, (ts.map (·.1)).Nodup → (k, n) ∈ ts → get (addT ts l) k = some (n, true)
  | [], _, _, _, _, h => by cases h
  | (t, m) :: ts, l, k, n, hn, h => by
    simp only [List.map_cons, List.nodup_cons] at hn
    simp only [addT]
    rcases List.mem_cons.1 h with h | h
    · simp only [Prod.mk.injEq] at h
      obtain ⟨rfl, rfl⟩ := h
      rw [get_addT_other fun p hp e => hn.1 (List.mem_map.2 ⟨p, hp, e⟩), get_put_same]
    · exact get_addT_mem hn.2 h
/-- A call. -/
theorem callE_sim (hc : CallSim call2 call) (h : RelS σ2 σ) {b2 b1 : Nat → Option (List V)} (hb : ∀ s cs, b2 s = some cs → ∃ ds, b1 s = some ds ∧ RelL cs (get σ.tk) ds) {dst : Option Nat} {d : Nat} {dr al mk : Bool} {f : Nat} {ws vs : List V} (hw : RelL ws (get σ.tk) vs) {e2 : Eff2}
    (he : callE2 call2 b2 d dr al mk f ws = some e2) : ∃ e, callE call b1 d dr al mk f vs = some e ∧ RelS (apply2 σ2 dst e2) (apply σ dst e) := by
  unfold callE2 at he
  split at he
  case h_2 => cases he
  rename_i as2 h1
  obtain ⟨as9, g1, g2⟩ := frzL_rel (bxF_rel hb 4) ws vs as2 hw h1
  split at he
  case h_2 => cases he
  rename_i r2 h2
  obtain ⟨r, g3, g4, _⟩ := hc f as2 r2 as9 h2 g2
  obtain ⟨ρ, hρ⟩ := g4.ex
  split at he
  case isFalse => cases he
  rename_i hp
  have hp' := pureR_rel r2 r hρ hp
  have hsub := tks_rel r2 r hρ hp
  unfold callE
  rw [g1]
  simp only [g3, hp', if_true]
  split at he
  · rename_i hmk
    rw [if_pos hmk]
    split at he
    case isFalse => cases he
    rename_i hdis
    obtain ⟨k1, k2, k3⟩ := hdis
    have hfst : List.Sublist (r.tks.map (·.1)) (r2.tks.map fun x => tb x.1) := by
      have := hsub.map (·.1)
      rwa [List.map_map] at this
    have hnd : (r.tks.map (·.1)).Nodup := hfst.nodup (distinct_nodup k1)
    have hlt2 : ∀ x ∈ r2.tks, tb x.1 < 100 := fun x hx => by simpa using List.all_eq_true.1 k2 x hx
    have hlt : ∀ x ∈ r.tks, x.1 < 100 := fun x hx => by
      have := hsub.subset hx
      obtain ⟨y, hy, e⟩ := List.mem_map.1 this
      rw [← e]; exact hlt2 y hy
    have hdn : distinctN (r.tks.map (·.1)) = true := by
      have : ∀ l : List Nat, l.Nodup → distinctN l = true := by
        intro l
        induction l with
        | nil => exact fun _ => rfl
        | cons x l ih =>
          intro h
          rw [List.nodup_cons] at h
          simp only [distinctN]
          rw [if_neg (fun e => h.1 ((memN_iff _ _).1 e))]
          exact ih h.2
      exact this _ hnd
    have hal : (r.tks.all fun x => decide (x.1 < 100)) = true := List.all_eq_true.2 fun x hx => by simpa using hlt x hx
    rw [if_pos ⟨hdn, hal⟩]
    -- the frame behind
    have key : ∀ {m : Nat} {b : Bool} {fr2 : List (Nat × V)}, RelFr fr2 σ.fr (get (if b = true then protAll σ.tk else σ.tk)) → (∀ (x : List (Nat × V)), (if m = 0 then σ2.fr else if m = 1 then roA σ2.fr else ruA σ2.fr) = x → x = fr2) →
        RelS (apply2 σ2 dst (.res (r2.rn d) d m)) (apply σ dst (.res (r.rn d) b)) := by
      intro m b fr2 hF hx
      have hx := hx _ rfl
      refine ⟨?_, h.tr⟩
      simp only [apply2, apply]
      rw [hx]
      have hgrp : ∀ p ∈ (r.rn d).tks, p.1 / 100 = d := fun p hp => by
        rw [rn_tksE, List.mem_map] at hp
        obtain ⟨q, hq, e⟩ := hp
        have := hlt q hq
        rw [← e]
        show (d * 100 + q.1) / 100 = d
        omega
      refine RelFr.putO (killG_rel hF (d := d) fun s hs => ?_) ?_ dst
      · exact get_addT_other fun p hp e => hs (by rw [← e]; exact hgrp p hp)
      · refine rn_rel (tk := fun k => get (addT (r.rn d).tks (if b = true then protAll σ.tk else σ.tk)) (d * 100 + k)) k3 r2 r (fun x hx => hlt2 x hx) (fun k n w hk _ => hk) (g4.all _ fun k n hk => ?_) hp
        refine get_addT_mem ?_ ?_
        · rw [rn_tksE, List.map_map]
          have : (r.tks.map ((fun x => x.1) ∘ fun x => (d * 100 + x.1, x.2))) = (r.tks.map (·.1)).map (d * 100 + ·) := by rw [List.map_map]; rfl
          rw [this]
          exact List.Pairwise.map _ (fun a b h e => h (by omega)) hnd
        · rw [rn_tksE, List.mem_map]; exact ⟨(k, n), hk, rfl⟩
    split at he
    · rename_i hal1
      simp only [Option.some.injEq] at he; subst he
      rw [if_pos (.inl hal1), if_neg (fun x => by rw [hal1] at x; exact absurd x.2 (by simp))]
      refine ⟨_, rfl, key (m := 1) (b := true) (fr2 := roA σ2.fr) (roA_rel h.fr) fun x hx => by rw [← hx]; rfl⟩
    · rename_i hal1
      split at he
      · rename_i hal2
        split at he
        · cases he
        · rename_i hdr
          simp only [Option.some.injEq] at he; subst he
          have hru := ruA_rel h.fr
          cases hra : r.al with
          | true =>
            rw [if_pos (.inr rfl), if_neg (fun x => hdr x.1)]
            refine ⟨_, rfl, key (m := 2) (b := true) (fr2 := ruA σ2.fr) (hru true) fun x hx => by rw [← hx]; rfl⟩
          | false =>
            rw [if_neg (fun x => x.elim (fun y => hal1 y) (fun y => by cases y))]
            refine ⟨_, rfl, key (m := 2) (b := false) (fr2 := ruA σ2.fr) (hru false) fun x hx => by rw [← hx]; rfl⟩
      · rename_i hal2
        simp only [Option.some.injEq] at he; subst he
        have hra := al_rel r2 r hρ hp (by simpa using hal2)
        rw [if_neg (fun x => x.elim (fun y => hal1 y) (fun y => by rw [hra] at y; cases y))]
        refine ⟨_, rfl, key (m := 0) (b := false) (fr2 := σ2.fr) (by simpa using h.fr) fun x hx => by rw [← hx]; rfl⟩
  · rename_i hmk
    rw [if_neg hmk]
    split at he
    · rename_i hq
      simp only [Option.some.injEq] at he; subst he
      have ht : r.tks = [] := by
        have h2 : r2.tks = [] := by simpa using hq.1
        rw [h2] at hsub
        exact List.sublist_nil.1 hsub
      rw [if_pos ⟨by rw [ht]; rfl, al_rel r2 r hρ hp hq.2.1, nb_rel r2 r hρ hp hq.2.2⟩]
      exact ⟨_, rfl, val_sim h (g4.all _ fun k n hk => by rw [ht] at hk; cases hk) dst⟩
    · cases he
end
end Go.Lo

/- An instruction of the plain machine does what the logical one's does. -/
namespace Go.Lo
section
variable {call2 call : Nat → List V → Option V} {σ2 σ : St}

theorem els_rel {tk : TkF} {sz : Nat} {w v : V} {ys : List (List V)} (h : Rel w tk v) (he : elsOf sz w = some ys) : (ys = [] ∧ v = .nil) ∨ ∃ t ys', v = .sl t sz ys' ∧ RelE ys ys' := by
  unfold elsOf at he
  split at he
  · simp only [Option.some.injEq] at he; subst he
    simp only [Rel] at h
    exact .inl ⟨rfl, h⟩
  · split at he
    · rename_i t sz' es hs
      subst hs
      simp only [Option.some.injEq] at he; subst he
      cases t with
      | none =>
        simp only [Rel] at h
        rcases h with h | ⟨es', h1, h2⟩
        · exact .inl h
        · exact .inr ⟨_, es', h1, h2⟩
      | some u =>
        simp only [Rel] at h
        rcases h with h | ⟨es', h1, h2, _⟩
        · exact .inl h.2
        · exact .inr ⟨_, es', h1, h2⟩
    · cases he
  · cases he
theorem TokR.put {l : List (Nat × Nat × Bool)} {t u n : Nat} (hu : tb u = t) (hx : roX u = false) (hn : mbT u = true → n ≠ 0) : TokR (get (put l t (n, true))) u n :=
  ⟨true, by rw [hu, get_put_same], fun _ => rfl, fun h => (by rw [hx] at h; cases h), hn⟩
theorem tb_small {d : Nat} (h : d < 9999) : tb (d * 100) = d * 100 ∧ tb (2000000 + d * 100) = d * 100 ∧ mbT (2000000 + d * 100) = true ∧ roX (d * 100) = false ∧ roX (2000000 + d * 100) = false := by
  unfold tb mbT roX
  refine ⟨by omega, by omega, by simp only [decide_eq_true_eq]; omega, by simp only [decide_eq_false_iff_not]; omega, by simp only [decide_eq_false_iff_not]; omega⟩
theorem nn_small {d : Nat} (h : d < 9999) {n : Nat} : mbT (d * 100) = true → n ≠ 0 := by
  unfold mbT; simp only [decide_eq_true_eq]; omega
/-- Behind an append to what may be nil. -/
theorem app_sim (h : RelS σ2 σ) {dst : Option Nat} {w : V} {d : Nat} {v : V} {tk' : List (Nat × Nat × Bool)} (ht : ∀ s, s / 100 ≠ d → get tk' s = get σ.tk s) (hw : Rel w (get tk') v) : RelS (apply2 σ2 dst (.mkg w d)) { σ with fr := putO σ.fr dst v, tk := tk' } :=
  ⟨(killG_rel h.fr ht).putO hw dst, h.tr⟩
theorem appT_sim (h : RelS σ2 σ) {dst : Option Nat} {w : V} {t : Nat} {v : V} {tk' : List (Nat × Nat × Bool)} (ht : ∀ s, s ≠ t → get tk' s = get σ.tk s) (hw : Rel w (get tk') v) : RelS (apply2 σ2 dst (.app w t)) { σ with fr := putO σ.fr dst v, tk := tk' } :=
  ⟨(killT_rel h.fr ht).putO hw dst, h.tr⟩
theorem mkp_sim (h : RelS σ2 σ) {dst : Option Nat} {w : V} {d n : Nat} {v : V} (hw : Rel w (get (put (prepT [d] σ.tk) (d * 100) (n, true))) v) : RelS (apply2 σ2 dst (.mkg w d)) (apply σ dst (.mkp v d n)) := by
  refine ⟨?_, h.tr⟩
  show RelFr (putO (killG d σ2.fr) dst w) (putO (prepF [d] σ.fr) dst v) (get (put (prepT [d] σ.tk) (d * 100) (n, true)))
  refine (killG_prep h.fr (d := d) fun s hs => ?_).putO hw dst
  rw [get_put_other _ _ _ _ (fun e => hs (by omega)), get_prepT_eq, if_neg (fun e => hs (memN_one.1 e))]
theorem get_lenT_other {l : List (Nat × Nat × Bool)} {t m s : Nat} (h : s ≠ t) : get (lenT t m l) s = get l s := by rw [get_lenT, if_neg h]
theorem TokR.len {l : List (Nat × Nat × Bool)} {u n m : Nat} (h : TokR (get l) u n) (hm : mbT u = true → m ≠ 0) : TokR (get (lenT (tb u) m l)) u m := by
  obtain ⟨w, h1, h2, h3, _⟩ := h
  exact ⟨w, by rw [get_lenT, if_pos rfl, h1]; rfl, h2, h3, hm⟩
theorem TokR.un {tk : TkF} {u n : Nat} (h : TokR tk u n) : TokR tk (unT u) n := by
  obtain ⟨w, h1, h2, h3, h4⟩ := h
  exact ⟨w, by rw [tb_unT]; exact h1, fun x => h2 (rw_unT x), fun x => (by rw [ro_unT] at x; cases x), fun x => h4 (by rw [mb_unT] at x; exact x)⟩

set_option maxHeartbeats 1000000 in
theorem lookM_rel {tk : TkF} {n : Int} : ∀ {cs ds : List V} {v : V}, RelL cs tk ds → lookM cs n = some v → ∃ u, lookM ds n = some u ∧ Rel v tk u
  | [], _, _, _, h => by simp [lookM] at h
  | [c], _, _, _, h => by rw [lookM_one] at h; cases h
  | c :: x :: cs, ds, v, hr, h => by
    obtain ⟨d, r, rfl, h1, h2⟩ := hr.inv
    obtain ⟨y, q, rfl, h3, h4⟩ := h2.inv
    by_cases hc : ∃ a k, c = .int a k
    · obtain ⟨a, k, rfl⟩ := hc
      simp only [Rel] at h1; subst h1
      simp only [lookM] at h ⊢
      split at h
      · rename_i e
        rw [if_pos e]
        injection h with h; subst h
        exact ⟨y, rfl, h3⟩
      · rename_i e
        rw [if_neg e]
        exact lookM_rel h4 h
    · rw [lookM_non (fun q k e => hc ⟨q, k, e⟩)] at h; cases h
theorem lookM_none_rel {tk : TkF} {n : Int} : ∀ {cs ds : List V}, RelL cs tk ds → wellM cs = true → lookM cs n = none → lookM ds n = none
  | [], ds, hr, _, _ => by have := hr.inv0; subst this; rfl
  | [c], _, _, hw, _ => by cases c <;> simp [wellM] at hw
  | c :: x :: cs, ds, hr, hw, h => by
    obtain ⟨d, r, rfl, h1, h2⟩ := hr.inv
    obtain ⟨y, q, rfl, h3, h4⟩ := h2.inv
    cases c <;> simp only [wellM, Bool.false_eq_true] at hw
    simp only [Rel] at h1; subst h1
    simp only [lookM] at h ⊢
    split at h
    · cases h
    · rename_i e
      rw [if_neg e]
      exact lookM_none_rel h4 hw h
theorem setM_rel {tk : TkF} {n : Int} {x y : V} (hx : Rel x tk y) : ∀ {cs ds : List V}, RelL cs tk ds → wellM cs = true → RelL (setM cs n x) tk (setM ds n y)
  | [], ds, hr, _ => by
    have := hr.inv0; subst this
    exact RelL.cons (by simp only [Rel]) (RelL.one hx)
  | [c], _, _, hw => by cases c <;> simp [wellM] at hw
  | c :: u :: cs, ds, hr, hw => by
    obtain ⟨d, r, rfl, h1, h2⟩ := hr.inv
    obtain ⟨v, q, rfl, h3, h4⟩ := h2.inv
    cases c <;> simp only [wellM, Bool.false_eq_true] at hw
    simp only [Rel] at h1; subst h1
    simp only [setM]
    split
    · exact RelL.cons (by simp only [Rel]) (RelL.cons hx h4)
    · exact RelL.cons (by simp only [Rel]) (RelL.cons h3 (setM_rel hx h4 hw))
theorem rel_not_dead {tk : TkF} {v u : V} (h : Rel v tk u) (hd : v ≠ .dead) : u ≠ .dead := by
  intro e; subst e
  cases v
  case dead => exact hd rfl
  case sl t sz es =>
    cases t <;> simp only [Rel] at h
    · rcases h with ⟨_, h⟩ | ⟨_, h, _⟩ <;> cases h
    · rcases h with ⟨_, _, h⟩ | ⟨_, h, _⟩ <;> cases h
  all_goals
    simp only [Rel] at h
    first
      | (cases h; done)
      | (obtain ⟨_, h, _⟩ := h; cases h)
theorem sem_sim (hc : CallSim call2 call) (h : RelS σ2 σ) {dst : Option Nat} {ex : List Nat} {k : K} (hk : okK k = true) {ws vs : List V} (hw : RelL ws (get σ.tk) vs) {e2 : Eff2}
    (he : sem2 call2 (bxOf σ2.fr ex) ex (dst.getD 0) k ws = some e2) : ∃ e, sem call (bxOf σ.fr ex) (tkOf σ.tk ex) (dst.getD 0) (unK k) vs = some e ∧ RelS (apply2 σ2 dst e2) (apply σ dst e) := by
  have hbx : ∀ s cs, bxOf σ2.fr ex s = some cs → ∃ ds, bxOf σ.fr ex s = some ds ∧ RelL cs (get σ.tk) ds := fun s cs => bxOf_rel h.fr
  generalize hd : dst.getD 0 = d at *
  cases k with
  | mv =>
    simp only [sem2] at he
    split at he
    · simp only [Option.some.injEq] at he; subst he
      obtain ⟨v, rfl, h1⟩ := hw.inv1
      exact ⟨_, rfl, val_sim h h1 dst⟩
    · cases he
  | pick =>
    simp only [sem2] at he
    split at he
    · rename_i c a b
      simp only [Option.some.injEq] at he; subst he
      obtain ⟨v, r, rfl, h1, h2⟩ := hw.inv
      obtain ⟨a', b', rfl, h3, h4⟩ := h2.inv2
      simp only [Rel] at h1; subst h1
      exact ⟨_, rfl, val_sim h (by split <;> assumption) dst⟩
    · cases he
  | box =>
    simp only [sem2] at he
    split at he
    · rename_i w
      split at he
      · rename_i hok
        simp only [Option.some.injEq] at he; subst he
        obtain ⟨v, rfl, h1⟩ := hw.inv1
        have h2 := h1.cells hok
        refine ⟨.val (.box v.cells), by simp only [unK, sem]; rw [if_pos (h2.cellOk hok)], val_sim h (by simp only [Rel]; exact ⟨_, rfl, h2⟩) dst⟩
      · cases he
    · cases he
  | alloc zs =>
    simp only [sem2] at he
    split at he
    · simp only [Option.some.injEq] at he; subst he
      have := hw.inv0; subst this
      exact ⟨_, rfl, val_sim h (by simp only [Rel]; exact ⟨_, rfl, (unVL_rel zs hk).wk⟩) dst⟩
    · cases he
  | build zs pl =>
    simp only [sem2] at he
    split at he
    · rename_i cs hf
      simp only [Option.some.injEq] at he; subst he
      obtain ⟨ds, g1, g2⟩ := fill_rel hw (unVL_rel zs hk).wk hf
      refine ⟨.val (.agg ds), by simp only [unK, sem, g1], val_sim h (by simp only [Rel]; exact ⟨_, rfl, g2⟩) dst⟩
    · cases he
  | bsl sz z len ix =>
    simp only [sem2] at he
    split at he
    · rename_i es us hf
      split at he
      · rename_i hcond
        simp only [Option.some.injEq] at he; subst he
        obtain ⟨ds, ts, g1, g2, g3⟩ := fillE_rel hw (RelE.replicate (unVL_rel z hk) len) hf
        have hps : ts.all (fun t => (tkOf σ.tk ex t).isSome) = true := List.all_eq_true.2 fun t ht => by
          obtain ⟨u, hu, e⟩ := List.mem_map.1 (g3.sub t ht)
          have := List.all_eq_true.1 hcond.1 u hu
          simp only [Bool.not_eq_true'] at this
          rw [e] at this
          rw [tkOf_of this]; exact g3.has t ht
        obtain ⟨b1, _, _, b4, _⟩ := tb_small hcond.2
        refine ⟨.mk (.sl (some (d * 100)) sz ds) (d * 100) len ts, by simp only [unK, sem, g1]; rw [if_pos hps], ?_, h.tr⟩
        have g3 := g3.sure (ns := neTL ws) fun t ht => ne_fillE hw g1 t (mem_of_memN ht)
        have hF := killT_rel (roF_rel h.fr g3) (t := d * 100) (tk' := get (put (protT ts σ.tk) (d * 100) (len, true))) fun s hs => get_put_other _ _ _ _ (fun e => hs e.symm)
        refine hF.putO ?_ dst
        simp only [Rel]
        have hl : es.length = len := by
          have hh : ∀ {ix : List Nat} {ws : List V} {es es' : List (List V)} {us : List Nat}, fillE sz ix ws es = some (es', us) → es'.length = es.length := by
            intro ix
            induction ix with
            | nil =>
              intro ws es es' us hf
              cases ws with
              | nil => simp only [fillE, Option.some.injEq, Prod.mk.injEq] at hf; rw [hf.1]
              | cons w ws => simp [fillE] at hf
            | cons i ix ih =>
              intro ws es es' us hf
              cases ws with
              | nil => simp [fillE] at hf
              | cons w ws =>
                simp only [fillE] at hf
                split at hf
                · split at hf
                  · split at hf
                    · rename_i h5
                      simp only [Option.some.injEq, Prod.mk.injEq] at hf
                      rw [← hf.1, ih h5]; simp
                    · cases hf
                  · cases hf
                · cases hf
          rw [hh hf]; simp
        refine .inr ⟨ds, by rw [b1], g2, ?_⟩
        rw [hl]
        exact TokR.put b1 b4 (nn_small hcond.2)
      · cases he
    · cases he
  | load n =>
    simp only [sem2] at he
    split at he
    · obtain ⟨v, rfl, h1⟩ := hw.inv1
      exact valO_sim h he (fun x hx => loadV_rel hbx h1 hx) dst
    · cases he
  | store n root =>
    simp only [sem2] at he
    split at he
    · rename_i s off w
      split at he
      · rename_i hcond
        split at he
        · rename_i cs hb
          split at he
          · rename_i cs' hs
            simp only [Option.some.injEq] at he; subst he
            obtain ⟨v1, v2, rfl, h1, h2⟩ := hw.inv2
            simp only [Rel] at h1; subst h1
            have h3 := h2.cells hcond.2.2.1
            obtain ⟨ds, g1, g2⟩ := hbx s cs hb
            obtain ⟨ds', g3, g4⟩ := splice_rel g2 h3 hs
            refine ⟨.sto s ds', by simp only [unK, sem]; rw [if_pos ⟨hcond.1, by rw [h3.length]; exact hcond.2.1, h3.cellOk hcond.2.2.1, hcond.2.2.2⟩, g1]; simp only [g3], ?_, h.tr⟩
            exact (h.fr.put (w := .box cs') (v := .box ds') (by simp only [Rel]; exact ⟨_, rfl, g4⟩) s).putO (by simp only [Rel]) dst
          · cases he
        · cases he
      · cases he
    · rename_i u m i off cs w
      split at he
      · cases he
      · split at he
        · rename_i w' hfz
          split at he
          · rename_i hcond
            split at he
            · rename_i cs' hs
              simp only [Option.some.injEq] at he; subst he
              obtain ⟨v1, v2, rfl, h1, h2⟩ := hw.inv2
              simp only [Rel] at h1
              obtain ⟨ds, rfl, g1, w0, g2, g3, _⟩ := h1
              obtain ⟨v', ts, q1, q2, q3⟩ := frzE_rel _ _ _ _ h2 hfz
              have hts : ts = [] := by
                cases ts with
                | nil => rfl
                | cons t ts => exact absurd (q3.sub t (by simp)) (by simp)
              subst hts
              obtain ⟨c1, c2, c3, c4⟩ := hcond
              have h3 := q2.cells (all_pm_cellOk c4)
              obtain ⟨p1, p2⟩ := h3.pm c4
              obtain ⟨ds', g4, g5⟩ := splice_rel (tk := noT) g1 p2 hs
              refine ⟨.est (tb u) m i ds', ?_, ?_, h.tr⟩
              · simp only [unK, sem, q1, tkOf_of c2, g2, g3 c1]
                rw [if_pos ⟨trivial, by rw [h3.length]; exact c3, p1⟩]
                simp only [g4]
              · exact (estT_rel h.fr (tb u) m i g5).putO (by simp only [Rel]) dst
            · cases he
          · cases he
        · cases he
    · cases he
  | bin ty op =>
    simp only [sem2] at he
    split at he
    · rename_i x y
      obtain ⟨v1, v2, rfl, h1, h2⟩ := hw.inv2
      exact valO_sim h he (fun x hx => by obtain ⟨a, b⟩ := binV_rel h1 h2 hx; exact ⟨x, a, b⟩) dst
    · cases he
  | eqs ne sh =>
    simp only [sem2] at he
    split at he
    · split at he
      · rename_i r hr
        simp only [Option.some.injEq] at he; subst he
        obtain ⟨v1, v2, rfl, h1, h2⟩ := hw.inv2
        simp only [Rel] at h1 h2
        obtain ⟨a, rfl, h1⟩ := h1
        obtain ⟨b, rfl, h2⟩ := h2
        exact ⟨.val (.bool (ne != r)), by simp only [unK, sem, eqSh_rel h1 h2 hr], val_sim h (by simp only [Rel]) dst⟩
      · cases he
    · cases he
  | un op =>
    simp only [sem2] at he
    split at he
    · obtain ⟨v, rfl, h1⟩ := hw.inv1
      exact valO_sim h he (fun x hx => by obtain ⟨a, b⟩ := unop_rel h1 hx; exact ⟨x, a, b⟩) dst
    · cases he
  | conv q =>
    simp only [sem2] at he
    split at he
    · simp only [Option.some.injEq] at he; subst he
      obtain ⟨v, rfl, h1⟩ := hw.inv1
      simp only [Rel] at h1; subst h1
      exact ⟨_, rfl, val_sim h (by simp only [Rel]) dst⟩
    · cases he
  | mkf f =>
    simp only [sem2, Option.some.injEq] at he; subst he
    exact ⟨_, rfl, val_sim h (by simp only [Rel]; exact ⟨_, rfl, hw⟩) dst⟩
  | mkm f =>
    simp only [sem2, Option.some.injEq] at he; subst he
    exact ⟨_, rfl, val_sim h (by simp only [Rel]; exact ⟨_, rfl, hw⟩) dst⟩
  | fa off =>
    simp only [sem2] at he
    split at he
    · simp only [Option.some.injEq] at he; subst he
      obtain ⟨v, rfl, h1⟩ := hw.inv1
      simp only [Rel] at h1; subst h1
      exact ⟨_, rfl, val_sim h (by simp only [Rel]) dst⟩
    · simp only [Option.some.injEq] at he; subst he
      obtain ⟨v, rfl, h1⟩ := hw.inv1
      simp only [Rel] at h1; obtain ⟨ds, rfl, h1⟩ := h1
      exact ⟨_, rfl, val_sim h (by simp only [Rel]; exact ⟨_, rfl, h1.drop off⟩) dst⟩
    · simp only [Option.some.injEq] at he; subst he
      obtain ⟨v, rfl, h1⟩ := hw.inv1
      simp only [Rel] at h1; obtain ⟨ds, rfl, h1⟩ := h1
      exact ⟨_, rfl, val_sim h (by simp only [Rel]; exact ⟨_, rfl, h1.drop off⟩) dst⟩
    · simp only [Option.some.injEq] at he; subst he
      obtain ⟨v, rfl, h1⟩ := hw.inv1
      simp only [Rel] at h1; obtain ⟨ds, rfl, h1⟩ := h1
      exact ⟨_, rfl, val_sim h (by simp only [Rel]; exact ⟨_, rfl, h1⟩) dst⟩
    · cases he
  | fld off n =>
    simp only [sem2] at he
    split at he
    · obtain ⟨v, rfl, h1⟩ := hw.inv1
      simp only [Rel] at h1; obtain ⟨ds, rfl, h1⟩ := h1
      exact valO_sim h he (fun x hx => partV_rel h1 hx) dst
    · cases he
  | ixs sz =>
    simp only [sem2] at he
    split at he
    · rename_i sz' es _ i
      split at he
      · rename_i hcond
        split at he
        · rename_i cs hg
          simp only [Option.some.injEq] at he; subst he
          obtain ⟨v1, v2, rfl, h1, h2⟩ := hw.inv2
          simp only [Rel] at h2; subst h2
          simp only [Rel] at h1
          rcases h1 with ⟨rfl, rfl⟩ | ⟨es', rfl, h1⟩
          · simp at hg
          · obtain ⟨ds, g1, g2⟩ := h1.get hg
            refine ⟨.val (.cref ds), by simp only [unK, sem]; rw [if_pos hcond, g1], val_sim h (by simp only [Rel]; exact ⟨_, rfl, g2⟩) dst⟩
        · cases he
      · cases he
    · rename_i u sz' es _ i
      split at he
      · rename_i hcond
        split at he
        · rename_i cs hg
          simp only [Option.some.injEq] at he; subst he
          obtain ⟨v1, v2, rfl, h1, h2⟩ := hw.inv2
          simp only [Rel] at h2; subst h2
          simp only [Rel] at h1
          rcases h1 with ⟨_, rfl, rfl⟩ | ⟨es', rfl, h1, h3⟩
          · simp at hg
          · obtain ⟨ds, g1, g2⟩ := h1.get hg
            refine ⟨.val (.eref (tb u) es'.length i.toNat 0 ds), by simp only [unK, sem]; rw [if_pos hcond, g1], val_sim h (by simp only [Rel]; exact ⟨_, by rw [h1.length], g2, h3⟩) dst⟩
        · cases he
      · cases he
    · cases he
  | ixa len sz =>
    simp only [sem2] at he
    split at he
    · rename_i s o _ i
      split at he
      · rename_i hcond
        simp only [Option.some.injEq] at he; subst he
        obtain ⟨v1, v2, rfl, h1, h2⟩ := hw.inv2
        simp only [Rel] at h1 h2; subst h1; subst h2
        exact ⟨.val (.ref s (o + i.toNat * sz)), by simp only [unK, sem]; rw [if_pos hcond], val_sim h (by simp only [Rel]) dst⟩
      · cases he
    · rename_i cs _ i
      split at he
      · rename_i hcond
        simp only [Option.some.injEq] at he; subst he
        obtain ⟨v1, v2, rfl, h1, h2⟩ := hw.inv2
        simp only [Rel] at h1 h2; obtain ⟨ds, rfl, h1⟩ := h1; subst h2
        exact ⟨.val (.cref (ds.drop (i.toNat * sz))), by simp only [unK, sem]; rw [if_pos hcond], val_sim h (by simp only [Rel]; exact ⟨_, rfl, h1.drop _⟩) dst⟩
      · cases he
    · rename_i cs _ i
      split at he
      · rename_i hcond
        simp only [Option.some.injEq] at he; subst he
        obtain ⟨v1, v2, rfl, h1, h2⟩ := hw.inv2
        simp only [Rel] at h1 h2; obtain ⟨ds, rfl, h1⟩ := h1; subst h2
        exact ⟨.val (.gref (ds.drop (i.toNat * sz))), by simp only [unK, sem]; rw [if_pos hcond], val_sim h (by simp only [Rel]; exact ⟨_, rfl, h1.drop _⟩) dst⟩
      · cases he
    · rename_i t n j o cs _ i
      split at he
      · rename_i hcond
        simp only [Option.some.injEq] at he; subst he
        obtain ⟨v1, v2, rfl, h1, h2⟩ := hw.inv2
        simp only [Rel] at h1 h2; obtain ⟨ds, rfl, h1⟩ := h1; subst h2
        exact ⟨.val (.eref (tb t) n j (o + i.toNat * sz) ds), by simp only [unK, sem]; rw [if_pos hcond], val_sim h (by simp only [Rel]; exact ⟨_, rfl, h1⟩) dst⟩
      · cases he
    · cases he
  | idx len sz n =>
    simp only [sem2] at he
    split at he
    · rename_i cs _ i
      split at he
      · rename_i hcond
        obtain ⟨v1, v2, rfl, h1, h2⟩ := hw.inv2
        simp only [Rel] at h1 h2; obtain ⟨ds, rfl, h1⟩ := h1; subst h2
        simp only [unK, sem]
        rw [if_pos hcond]
        exact valO_sim h he (fun x hx => partV_rel h1 hx) dst
      · cases he
    · cases he
  | mks sz bytes z =>
    simp only [sem2] at he
    split at he
    · rename_i _ l _ c
      split at he
      · rename_i hcond
        simp only [Option.some.injEq] at he; subst he
        obtain ⟨v1, v2, rfl, h1, h2⟩ := hw.inv2
        simp only [Rel] at h1 h2; subst h1; subst h2
        obtain ⟨c1, c2, c3, c4⟩ := hcond
        obtain ⟨b1, _, _, b4, _⟩ := tb_small c4
        refine ⟨.mk (.sl (some (d * 100)) sz (List.replicate l.toNat (unVL z))) (d * 100) l.toNat [], by simp only [unK, sem]; rw [if_pos ⟨c1, c2, c3⟩], ?_, h.tr⟩
        have e : ∀ t, get (put (protT [] σ.tk) (d * 100) (l.toNat, true)) t = if d * 100 = t then some (l.toNat, true) else get σ.tk t := fun t => by
          rw [get_put]
          split
          · rfl
          · rw [get_protT]; cases get σ.tk t <;> simp [memN]
        have hF := killT_rel h.fr (t := d * 100) (tk' := get (put (protT [] σ.tk) (d * 100) (l.toNat, true))) fun s hs => by rw [e, if_neg (fun x => hs x.symm)]
        refine hF.putO ?_ dst
        simp only [Rel]
        refine .inr ⟨_, by rw [b1], RelE.replicate (unVL_rel z hk) _, ?_⟩
        rw [List.length_replicate]
        exact TokR.put b1 b4 (nn_small c4)
      · cases he
    · cases he
  | sls sz0 lo hi mx =>
    simp only [sem2] at he
    split at he
    · rename_i sz es ws
      split at he
      · rename_i hsz
        split at he
        · rename_i l hh hb
          simp only [Option.some.injEq] at he; subst he
          obtain ⟨v1, r, rfl, h1, h2⟩ := hw.inv
          have hb' := bounds_rel h2 hb
          simp only [Rel] at h1
          rcases h1 with ⟨rfl, rfl⟩ | ⟨es', rfl, h1⟩
          · refine ⟨.val .nil, by simp only [unK, sem]; simp only [List.length_nil] at hb'; rw [hb'], val_sim h (by simp [Rel]) dst⟩
          · refine ⟨.val (.sl none sz ((es'.take hh).drop l)), by simp only [unK, sem]; rw [if_pos hsz, h1.length, hb'], val_sim h (by simp only [Rel]; exact .inr ⟨_, rfl, (h1.take hh).drop l⟩) dst⟩
        · cases he
      · cases he
    · rename_i u sz es ws
      split at he
      · rename_i hsz
        split at he
        · rename_i l hh hb
          simp only [Option.some.injEq] at he; subst he
          obtain ⟨v1, r, rfl, h1, h2⟩ := hw.inv
          have hb' := bounds_rel h2 hb
          simp only [Rel] at h1
          rcases h1 with ⟨h0, rfl, rfl⟩ | ⟨es', rfl, h1, h3⟩
          · refine ⟨.val .nil, by simp only [unK, sem]; simp only [List.length_nil] at hb'; rw [hb'], ?_, h.tr⟩
            have hT : Toks (get σ.tk) [u] [] := ⟨fun _ h => (by cases h), fun t ht => (by simp [exB, h0] at ht), fun _ h => (by cases h)⟩
            have := roF_rel h.fr hT
            have e : get (protT [] σ.tk) = get σ.tk := by
              funext t
              rw [get_protT]
              cases get σ.tk t <;> simp [memN]
            rw [e] at this
            exact this.putO (by simp [Rel]) dst
          · have h3' := h3
            obtain ⟨w0, g1, _⟩ := h3'
            refine ⟨.prot (.sl none sz ((es'.take hh).drop l)) [tb u], by simp only [unK, sem]; rw [if_pos hsz.1, h1.length, hb']; simp only [tkOf_of hsz.2, g1, Option.isSome_some, if_true], ?_, h.tr⟩
            have hT : Toks (get σ.tk) [u] [tb u] := ⟨fun t ht => by simpa using ht, fun t ht => exB_mem ht |> fun x => by simpa using x, fun t ht => by rw [List.mem_singleton] at ht; subst ht; rw [g1]; rfl⟩
            exact (roF_rel h.fr hT).putO (by simp only [Rel]; exact .inr ⟨_, rfl, (h1.take hh).drop l⟩) dst
        · cases he
      · cases he
    · rename_i ws
      split at he
      · rename_i x hb
        simp only [Option.some.injEq] at he; subst he
        obtain ⟨v1, r, rfl, h1, h2⟩ := hw.inv
        simp only [Rel] at h1; subst h1
        have hb' := bounds_rel h2 hb
        exact ⟨.val .nil, by simp only [unK, sem]; rw [hb'], val_sim h (by simp only [Rel]) dst⟩
      · cases he
    · cases he
  | sla len sz lo hi mx => simp [sem2] at he
  | ext i =>
    simp only [sem2] at he
    split at he
    · obtain ⟨v, rfl, h1⟩ := hw.inv1
      simp only [Rel] at h1; obtain ⟨ds, rfl, h1⟩ := h1
      exact valO_sim h he (fun x hx => h1.get hx) dst
    · cases he
  | call dr al mk =>
    simp only [sem2] at he
    split at he
    · rename_i f caps ws
      obtain ⟨v, r, rfl, h1, h2⟩ := hw.inv
      simp only [Rel] at h1; obtain ⟨ds, rfl, h1⟩ := h1
      exact callE_sim hc h hbx (h2.append h1) he
    · rename_i f caps ws
      obtain ⟨v, r, rfl, h1, h2⟩ := hw.inv
      simp only [Rel] at h1; obtain ⟨ds, rfl, h1⟩ := h1
      exact callE_sim hc h hbx (h1.append h2) he
    · rename_i a ws
      split at he
      · cases he
      · rename_i hdr
        split at he
        · rename_i as9 us hf
          split at he
          · rename_i hcond
            simp only [Option.some.injEq] at he; subst he
            obtain ⟨v, r, rfl, h1, h2⟩ := hw.inv
            simp only [Rel] at h1; obtain ⟨ds, rfl, h1⟩ := h1
            have := h1.inv0; subst this
            obtain ⟨as9', ts, g1, g2, g3⟩ := frzEL_rel _ _ _ _ h2 hf
            have hps : ts.all (fun t => (tkOf σ.tk ex t).isSome) = true := List.all_eq_true.2 fun t ht => by
              obtain ⟨u, hu, e⟩ := List.mem_map.1 (g3.sub t ht)
              have := List.all_eq_true.1 hcond.1 u hu
              simp only [Bool.not_eq_true'] at this
              rw [e] at this
              rw [tkOf_of this]; exact g3.has t ht
            have hpm : (as9'.all fun v => v.cells.all V.pm) = true := by
              have : ∀ {a b : List V}, RelL a noT b → (a.all fun v => v.cells.all V.pm) = true → (b.all fun v => v.cells.all V.pm) = true := by
                intro a
                induction a with
                | nil => intro b hb _; have := hb.inv0; subst this; rfl
                | cons x a ih =>
                  intro b hb hp
                  obtain ⟨y, b', rfl, k1, k2⟩ := hb.inv
                  simp only [List.all_cons, Bool.and_eq_true] at hp ⊢
                  exact ⟨((k1.cells (all_pm_cellOk hp.1)).pm hp.1).1, ih k2 hp.2⟩
              exact this g2 hcond.2
            refine ⟨.yld a as9' ts, by simp only [unK, sem]; rw [if_neg hdr, g1]; simp only; rw [if_pos ⟨hps, hpm⟩], ?_, ?_⟩
            · have htr : goesOn a σ2.tr = goesOn a σ.tr := by
                have := h.tr
                cases h2 : σ2.tr <;> cases h1 : σ.tr <;> rw [h2, h1] at this <;> simp only [RelTr] at this
                simp only [goesOn, this.length]
              simp only [apply2, apply]
              rw [htr]
              exact (roF_rel h.fr g3).putO (by simp only [Rel]) dst
            · simp only [apply2, apply]
              have := h.tr
              cases h2 : σ2.tr <;> cases h1 : σ.tr <;> rw [h2, h1] at this <;> simp only [RelTr] at this
              · simp [RelTr]
              · simp only [Option.map_some, RelTr]
                exact this.append (RelE.cons g2 RelE.nil)
          · cases he
        · cases he
    · cases he
  | len =>
    simp only [sem2] at he
    split at he
    · rename_i t sz es
      simp only [Option.some.injEq] at he; subst he
      obtain ⟨v, rfl, h1⟩ := hw.inv1
      have key : (es = [] ∧ v = .nil) ∨ ∃ t es', v = .sl t sz es' ∧ RelE es es' := by
        cases t with
        | none =>
          simp only [Rel] at h1
          rcases h1 with h1 | ⟨es', a, b⟩
          · exact .inl h1
          · exact .inr ⟨_, _, a, b⟩
        | some u =>
          simp only [Rel] at h1
          rcases h1 with h1 | ⟨es', a, b, _⟩
          · exact .inl h1.2
          · exact .inr ⟨_, _, a, b⟩
      rcases key with ⟨rfl, rfl⟩ | ⟨t', es', rfl, g⟩
      · exact ⟨_, rfl, val_sim h (by simp [Rel]) dst⟩
      · exact ⟨_, rfl, val_sim h (by simp only [Rel, g.length]) dst⟩
    · simp only [Option.some.injEq] at he; subst he
      obtain ⟨v, rfl, h1⟩ := hw.inv1
      simp only [Rel] at h1; subst h1
      exact ⟨_, rfl, val_sim h (by simp only [Rel]) dst⟩
    · cases he
  | cap =>
    simp only [sem2] at he
    split at he
    · simp only [Option.some.injEq] at he; subst he
      obtain ⟨v, rfl, h1⟩ := hw.inv1
      simp only [Rel] at h1; subst h1
      exact ⟨_, rfl, val_sim h (by simp only [Rel]) dst⟩
    · cases he
  | append dr sz bytes =>
    simp only [sem2] at he
    split at he
    · rename_i y
      obtain ⟨v1, v2, rfl, h1, h2⟩ := hw.inv2
      simp only [Rel] at h1; subst h1
      split at he
      · rename_i ys hy
        split at he
        · rename_i hcond
          obtain ⟨b1, b2, b3, b4, b5⟩ := tb_small hcond.2
          have hnil : ys = [] → Rel (.sl (some (2000000 + d * 100)) sz ys) (get σ.tk) .nil := fun e => by simp only [Rel]; exact .inl ⟨b3, e, trivial⟩
          rcases els_rel h2 hy with ⟨rfl, rfl⟩ | ⟨t, ys', rfl, g⟩
          · refine ⟨.val .nil, rfl, ?_⟩
            split at he
            · simp only [Option.some.injEq] at he; subst he
              exact appT_sim (tk' := σ.tk) h (fun _ _ => rfl) (hnil rfl)
            · simp only [Option.some.injEq] at he; subst he
              exact app_sim (tk' := σ.tk) h (fun _ _ => rfl) (hnil rfl)
          · cases ys with
            | nil =>
              have := g.nil_left; subst this
              refine ⟨.val .nil, by simp only [unK, sem, if_true], ?_⟩
              split at he
              · simp only [Option.some.injEq] at he; subst he
                exact appT_sim (tk' := σ.tk) h (fun _ _ => rfl) (hnil rfl)
              · simp only [Option.some.injEq] at he; subst he
                exact app_sim (tk' := σ.tk) h (fun _ _ => rfl) (hnil rfl)
            | cons y0 ys0 =>
              have g' := g
              simp only [RelE] at g'
              obtain ⟨y1, ys1, rfl, _, _⟩ := g'
              have hl := g.length
              split at he
              · rename_i hdr
                simp only [Option.some.injEq] at he; subst he
                refine ⟨.mk (.sl (some (d * 100)) sz (y1 :: ys1)) (d * 100) (y1 :: ys1).length [], by simp only [unK, sem, if_true]; rw [hl, if_pos hcond.1, if_pos hdr, ← hl], ?_⟩
                have e : ∀ t, get (put (protT [] σ.tk) (d * 100) ((y1 :: ys1).length, true)) t = if d * 100 = t then some ((y1 :: ys1).length, true) else get σ.tk t := fun t => by
                  rw [get_put]
                  split
                  · rfl
                  · rw [get_protT]; cases get σ.tk t <;> simp [memN]
                refine appT_sim (t := d * 100) h (fun s hs => by rw [e, if_neg (fun x => hs x.symm)]) ?_
                simp only [Rel]
                refine .inr ⟨_, by rw [b2], g, ?_⟩
                rw [← hl]
                exact TokR.put b2 b5 (fun _ => by simp)
              · rename_i hdr
                simp only [Option.some.injEq] at he; subst he
                refine ⟨.mkp (.sl (some (d * 100)) sz (y1 :: ys1)) d (y1 :: ys1).length, by simp only [unK, sem, if_true]; rw [hl, if_pos hcond.1, if_neg hdr, ← hl], mkp_sim h ?_⟩
                simp only [Rel]
                refine .inr ⟨_, by rw [b2], g, ?_⟩
                rw [← hl]
                exact TokR.put b2 b5 (fun _ => by simp)
        · cases he
      · cases he
    · rename_i u sz1 xs y
      split at he
      · rename_i hsz
        obtain ⟨rfl, hex⟩ := hsz
        obtain ⟨v1, v2, rfl, h1, h2⟩ := hw.inv2
        split at he
        · rename_i ys hy
          split at he
          · rename_i hcond
            simp only [Rel] at h1
            rcases h1 with ⟨h0, rfl, rfl⟩ | ⟨xs', rfl, h1, h3⟩
            · -- nil
              rw [if_pos h0] at he
              split at he
              · rename_i htb
                simp only [List.nil_append, List.length_nil, Nat.zero_add] at he hcond
                have hnil : ys = [] → Rel (.sl (some (unT u)) sz ys) (get σ.tk) .nil := fun e => by simp only [Rel]; exact .inl ⟨by rw [mb_unT]; exact h0, e, trivial⟩
                have vnil : ys = [] → RelS (apply2 σ2 dst e2) (apply σ dst (.val .nil)) := fun e => by
                  split at he
                  · simp only [Option.some.injEq] at he; subst he
                    exact appT_sim (tk' := σ.tk) h (fun _ _ => rfl) (hnil e)
                  · simp only [Option.some.injEq] at he; subst he
                    exact app_sim (tk' := σ.tk) h (fun _ _ => rfl) (hnil e)
                rcases els_rel h2 hy with ⟨rfl, rfl⟩ | ⟨t, ys', rfl, g⟩
                · exact ⟨.val .nil, rfl, vnil rfl⟩
                · cases ys with
                  | nil =>
                    have := g.nil_left; subst this
                    exact ⟨.val .nil, by simp only [unK, sem, if_true], vnil rfl⟩
                  | cons y0 ys0 =>
                    have g' := g
                    simp only [RelE] at g'
                    obtain ⟨y1, ys1, rfl, _, _⟩ := g'
                    have hl := g.length
                    have btu : tb (unT u) = d * 100 := by rw [tb_unT]; exact htb
                    split at he
                    · rename_i hdr
                      simp only [Option.some.injEq] at he; subst he
                      refine ⟨.mk (.sl (some (d * 100)) sz (y1 :: ys1)) (d * 100) (y1 :: ys1).length [], by simp only [unK, sem, if_true]; rw [hl, if_pos hcond, if_pos hdr, ← hl], ?_⟩
                      have e : ∀ t, get (put (protT [] σ.tk) (d * 100) ((y1 :: ys1).length, true)) t = if d * 100 = t then some ((y1 :: ys1).length, true) else get σ.tk t := fun t => by
                        rw [get_put]
                        split
                        · rfl
                        · rw [get_protT]; cases get σ.tk t <;> simp [memN]
                      refine appT_sim (t := d * 100) h (fun s hs => by rw [e, if_neg (fun x => hs x.symm)]) ?_
                      simp only [Rel]
                      refine .inr ⟨_, by rw [btu], g, ?_⟩
                      rw [← hl]
                      exact TokR.put btu (ro_unT u) (fun _ => by simp)
                    · rename_i hdr
                      simp only [Option.some.injEq] at he; subst he
                      refine ⟨.mkp (.sl (some (d * 100)) sz (y1 :: ys1)) d (y1 :: ys1).length, by simp only [unK, sem, if_true]; rw [hl, if_pos hcond, if_neg hdr, ← hl], mkp_sim h ?_⟩
                      simp only [Rel]
                      refine .inr ⟨_, by rw [btu], g, ?_⟩
                      rw [← hl]
                      exact TokR.put btu (ro_unT u) (fun _ => by simp)
              · cases he
            · -- an array of one's own
              have h3' := h3
              obtain ⟨w0, g1, g2, g3, g4⟩ := h3'
              have hlx := h1.length
              have one : ∀ e, sem call (bxOf σ.fr ex) (tkOf σ.tk ex) d (.append dr sz bytes) [.sl (some (tb u)) sz xs', v2] = some e →
                  sem call (bxOf σ.fr ex) (tkOf σ.tk ex) d (unK (.append dr sz bytes)) [.sl (some (tb u)) sz xs', v2] = some e := fun e he => he
              -- what the logical machine does
              have two : ∃ e zs m, sem call (bxOf σ.fr ex) (tkOf σ.tk ex) d (unK (.append dr sz bytes)) [.sl (some (tb u)) sz xs', v2] = some e ∧ RelE (xs ++ ys) zs ∧
                  apply σ dst e = { σ with fr := putO σ.fr dst (.sl (some (tb u)) sz zs), tk := m } ∧ (∀ s, s ≠ tb u → get m s = get σ.tk s) ∧ TokR (get m) u (xs ++ ys).length := by
                rcases els_rel h2 hy with ⟨rfl, rfl⟩ | ⟨t, ys', rfl, g⟩
                · refine ⟨.val (.sl (some (tb u)) sz xs'), xs', σ.tk, ?_, by simpa using h1, rfl, fun _ _ => rfl, by simpa using h3⟩
                  simp only [unK, sem, tkOf_of hex, g1, hlx, true_and, if_true]
                · have hl := g.length
                  cases ys with
                  | nil =>
                    have := g.nil_left; subst this
                    refine ⟨.val (.sl (some (tb u)) sz xs'), xs', σ.tk, ?_, by simpa using h1, rfl, fun _ _ => rfl, by simpa using h3⟩
                    simp only [unK, sem, tkOf_of hex, g1, hlx, true_and, if_true]
                    rw [if_pos hcond]
                  | cons y0 ys0 =>
                    have g' := g
                    simp only [RelE] at g'
                    obtain ⟨y1, ys1, rfl, _, _⟩ := g'
                    refine ⟨.app (.sl (some (tb u)) sz (xs' ++ y1 :: ys1)) (tb u) (xs'.length + (y1 :: ys1).length), xs' ++ y1 :: ys1, lenT (tb u) (xs'.length + (y1 :: ys1).length) σ.tk, ?_, h1.append g, rfl, fun s hs => get_lenT_other hs, ?_⟩
                    · simp only [unK, sem, tkOf_of hex, g1, hlx, true_and, if_true]
                      rw [hl, if_pos hcond, ← hl]
                    · rw [List.length_append, hlx, hl]
                      exact h3.len (fun _ => by simp)
              obtain ⟨e, zs, m, q1, q2, q3, q4, q5⟩ := two
              refine ⟨e, q1, ?_⟩
              rw [q3]
              split at he
              · split at he
                · rename_i htb
                  have hR : Rel (.sl (some (unT u)) sz (xs ++ ys)) (get m) (.sl (some (tb u)) sz zs) := by
                    simp only [Rel]
                    exact .inr ⟨zs, by rw [tb_unT], q2, q5.un⟩
                  split at he
                  · simp only [Option.some.injEq] at he; subst he
                    exact appT_sim h (fun s hs => q4 s (by rw [htb]; exact hs)) hR
                  · simp only [Option.some.injEq] at he; subst he
                    exact app_sim h (fun s hs => q4 s (fun e => hs (by rw [e, htb]; omega))) hR
                · cases he
              · simp only [Option.some.injEq] at he; subst he
                exact appT_sim h q4 (by simp only [Rel]; exact .inr ⟨zs, rfl, q2, q5⟩)
          · cases he
        · cases he
      · cases he
    · cases he
  | appo sz bytes =>
    simp only [sem2] at he
    split at he
    · rename_i u sz1 xs y
      split at he
      · rename_i hsz
        obtain ⟨rfl, hex, hne⟩ := hsz
        obtain ⟨v1, v2, rfl, h1, h2⟩ := hw.inv2
        split at he
        · rename_i ys hy
          split at he
          · rename_i hcond
            simp only [Option.some.injEq] at he; subst he
            simp only [Rel] at h1
            rcases h1 with ⟨h0, rfl, rfl⟩ | ⟨xs', rfl, h1, h3⟩
            · rcases hne with hne | hne
              · rw [h0] at hne; cases hne
              · exact absurd rfl hne
            · have h3' := h3
              obtain ⟨w0, g1, g2, g3, g4⟩ := h3'
              have hlx := h1.length
              have two : ∃ e zs m, sem call (bxOf σ.fr ex) (tkOf σ.tk ex) d (unK (.appo sz bytes)) [.sl (some (tb u)) sz xs', v2] = some e ∧ RelE (xs ++ ys) zs ∧
                  apply σ dst e = { σ with fr := putO σ.fr dst (.sl (some (tb u)) sz zs), tk := m } ∧ (∀ s, s ≠ tb u → get m s = get σ.tk s) ∧ TokR (get m) u (xs ++ ys).length := by
                rcases els_rel h2 hy with ⟨rfl, rfl⟩ | ⟨t, ys', rfl, g⟩
                · refine ⟨.val (.sl (some (tb u)) sz xs'), xs', σ.tk, ?_, by simpa using h1, rfl, fun _ _ => rfl, by simpa using h3⟩
                  simp only [unK, sem, tkOf_of hex, g1, hlx, true_and, if_true]
                · have hl := g.length
                  cases ys with
                  | nil =>
                    have := g.nil_left; subst this
                    refine ⟨.val (.sl (some (tb u)) sz xs'), xs', σ.tk, ?_, by simpa using h1, rfl, fun _ _ => rfl, by simpa using h3⟩
                    simp only [unK, sem, tkOf_of hex, g1, hlx, true_and, if_true]
                    rw [if_pos hcond]
                  | cons y0 ys0 =>
                    have g' := g
                    simp only [RelE] at g'
                    obtain ⟨y1, ys1, rfl, _, _⟩ := g'
                    refine ⟨.app (.sl (some (tb u)) sz (xs' ++ y1 :: ys1)) (tb u) (xs'.length + (y1 :: ys1).length), xs' ++ y1 :: ys1, lenT (tb u) (xs'.length + (y1 :: ys1).length) σ.tk, ?_, h1.append g, rfl, fun s hs => get_lenT_other hs, ?_⟩
                    · simp only [unK, sem, tkOf_of hex, g1, hlx, true_and, if_true]
                      rw [hl, if_pos hcond, ← hl]
                    · rw [List.length_append, hlx, hl]
                      exact h3.len (fun _ => by simp)
              obtain ⟨e, zs, m, q1, q2, q3, q4, q5⟩ := two
              refine ⟨e, q1, ?_⟩
              rw [q3]
              exact appT_sim h q4 (by simp only [Rel]; exact .inr ⟨zs, rfl, q2, q5⟩)
          · cases he
        · cases he
      · cases he
    · cases he
  | mkmp =>
    simp only [sem2] at he
    split at he
    · have := hw.inv0; subst this
      simp only [Option.some.injEq] at he; subst he
      exact ⟨.val (.mbox []), rfl, val_sim h (by simp only [Rel]; exact ⟨[], rfl, RelL.nil⟩) dst⟩
    · cases he
  | mlook =>
    simp only [sem2] at he
    split at he
    · rename_i s n
      obtain ⟨v1, v2, rfl, h1, h2⟩ := hw.inv2
      simp only [Rel] at h1 h2; subst h1; subst h2
      split at he
      · rename_i hn
        split at he
        · rename_i cs hb
          obtain ⟨ds, g1, g2⟩ := hbx _ cs hb
          cases hl : lookM cs n with
          | none =>
            rw [hl] at he
            simp only at he
            split at he
            · rename_i hwl
              simp only [Option.some.injEq] at he; subst he
              refine ⟨.val .nil, ?_, val_sim h (by simp only [Rel]) dst⟩
              simp only [unK, sem]
              rw [if_pos hn, g1]
              have hl2 := lookM_none_rel g2 hwl hl
              simp only [hl2]
            · cases he
          | some v =>
            rw [hl] at he
            have hnd : v ≠ .dead := fun e => by subst e; cases he
            have he2 : some (Eff2.val v) = some e2 := by
              cases v <;> first
                | exact he
                | exact absurd rfl hnd
            injection he2 with he2; subst he2
            obtain ⟨u, q1, q2⟩ := lookM_rel g2 hl
            have hnu := rel_not_dead q2 hnd
            refine ⟨.val u, ?_, val_sim h q2 dst⟩
            simp only [unK, sem]
            rw [if_pos hn, g1]
            simp only [q1]
        · cases he
      · cases he
    · cases he
  | mput =>
    have fin : ∀ {s : Nat} {n : Int} {x y : V} {cs ds : List V}, wellM cs = true → Rel x (get σ.tk) y → RelL cs (get σ.tk) ds → RelS (apply2 σ2 dst (.msto s (setM cs n x))) (apply σ dst (.msto s (setM ds n y))) := fun {s n x y cs ds} hwl hx g2 =>
      ⟨(h.fr.put (w := .mbox (setM cs n x)) (v := .mbox (setM ds n y)) (by simp only [Rel]; exact ⟨_, rfl, setM_rel hx g2 hwl⟩) s).putO (by simp only [Rel]) dst, h.tr⟩
    simp only [sem2] at he
    split at he
    · rename_i s n
      obtain ⟨v1, r, rfl, h1, h2⟩ := hw.inv
      obtain ⟨v2, v3, rfl, h3, h4⟩ := h2.inv2
      simp only [Rel] at h1 h3 h4; subst h1; subst h3; subst h4
      split at he
      · rename_i hn
        split at he
        · rename_i cs hb
          obtain ⟨ds, g1, g2⟩ := hbx _ cs hb
          split at he
          · rename_i hwl
            simp only [Option.some.injEq] at he; subst he
            refine ⟨.msto s (setM ds n .nil), ?_, fin hwl (by simp only [Rel]) g2⟩
            simp only [unK, sem]
            rw [if_pos hn, g1]
          · cases he
        · cases he
      · cases he
    · rename_i s n t sz es
      obtain ⟨v1, r, rfl, h1, h2⟩ := hw.inv
      obtain ⟨v2, v3, rfl, h3, h4⟩ := h2.inv2
      simp only [Rel] at h1 h3; subst h1; subst h3
      split at he
      · rename_i hn
        split at he
        · rename_i cs hb
          obtain ⟨ds, g1, g2⟩ := hbx _ cs hb
          split at he
          · rename_i hwl
            simp only [Option.some.injEq] at he; subst he
            have hv3 : v3 = .nil ∨ ∃ t' sz' es', v3 = .sl t' sz' es' := by
              have h5 := h4
              cases t with
              | none => simp only [Rel] at h5; exact h5.elim (fun h => .inl h.2) (fun ⟨_, h, _⟩ => .inr ⟨_, _, _, h⟩)
              | some u => simp only [Rel] at h5; exact h5.elim (fun h => .inl h.2.2) (fun ⟨_, h, _⟩ => .inr ⟨_, _, _, h⟩)
            refine ⟨.msto s (setM ds n v3), ?_, fin hwl h4 g2⟩
            rcases hv3 with rfl | ⟨t', sz', es', rfl⟩
            · simp only [unK, sem]; rw [if_pos hn, g1]
            · simp only [unK, sem]; rw [if_pos hn, g1]
          · cases he
        · cases he
      · cases he
    · cases he
  | appz sz bytes z =>
    simp only [sem2] at he
    split at he
    · rename_i _ n
      split at he
      · rename_i hcond
        simp only [Option.some.injEq] at he; subst he
        obtain ⟨v1, v2, rfl, h1, h2⟩ := hw.inv2
        simp only [Rel] at h1 h2; subst h1; subst h2
        obtain ⟨b1, b2, b3, b4, b5⟩ := tb_small hcond.2.2
        by_cases hn : n = 0
        · subst hn
          refine ⟨.val .nil, by simp only [unK, sem]; rw [if_pos ⟨hcond.1, hcond.2.1⟩]; simp, ?_⟩
          refine app_sim (tk' := σ.tk) h (fun _ _ => rfl) ?_
          simp only [Rel]
          exact .inl ⟨b3, by simp, trivial⟩
        · refine ⟨.mkp (.sl (some (d * 100)) sz (List.replicate n.toNat (unVL z))) d n.toNat, by simp only [unK, sem]; rw [if_pos ⟨hcond.1, hcond.2.1⟩, if_neg hn], mkp_sim h ?_⟩
          simp only [Rel]
          refine .inr ⟨_, by rw [b2], RelE.replicate (unVL_rel z hk) _, ?_⟩
          rw [List.length_replicate]
          exact TokR.put b2 b5 (fun _ => by have := hcond.1; omega)
      · cases he
    · cases he
  | trunc sz =>
    simp only [sem2] at he
    split at he
    · rename_i u sz' es _ n
      split at he
      · rename_i hcond
        simp only [Option.some.injEq] at he; subst he
        obtain ⟨c1, c2, c3, c4, c5, c6⟩ := hcond
        obtain ⟨v1, v2, rfl, h1, h2⟩ := hw.inv2
        simp only [Rel] at h2; subst h2
        simp only [Rel] at h1
        rcases h1 with ⟨h0, rfl, rfl⟩ | ⟨es', rfl, h1, h3⟩
        · rcases c3 with c3 | c3
          · rw [h0] at c3; cases c3
          · simp only [List.length_nil] at c6; omega
        · have h3' := h3
          obtain ⟨w0, g1, g2, g3⟩ := h3'
          rw [g2 c1] at g1
          refine ⟨.trunc (.sl (some (tb u)) sz' (es'.take n.toNat)) (tb u) n.toNat, by simp only [unK, sem, tkOf_of c2, g1]; rw [if_pos ⟨c4, h1.length.symm, c5, by rw [h1.length]; exact c6⟩], ?_, h.tr⟩
          have hF := killT_kill h.fr (t := tb u) (tk' := get (lenT (tb u) n.toNat σ.tk)) fun s hs => get_lenT_other hs
          refine hF.putO ?_ dst
          simp only [Rel]
          refine .inr ⟨_, rfl, h1.take _, ?_⟩
          have : (es.take n.toNat).length = n.toNat := by rw [List.length_take]; omega
          rw [this]
          exact h3.len (fun hm => by
            rcases c3 with c3 | c3
            · rw [hm] at c3; cases c3
            · omega)
      · cases he
    · cases he
  | max =>
    simp only [sem2] at he
    split at he
    · rename_i q n ns hi
      simp only [Option.some.injEq] at he; subst he
      have := intsOf_rel hw hi; subst this
      exact ⟨.val (.int q (maxL n ns)), by simp only [unK, sem, hi], val_sim h (by simp only [Rel]) dst⟩
    · cases he
  | min =>
    simp only [sem2] at he
    split at he
    · rename_i q n ns hi
      simp only [Option.some.injEq] at he; subst he
      have := intsOf_rel hw hi; subst this
      exact ⟨.val (.int q (minL n ns)), by simp only [unK, sem, hi], val_sim h (by simp only [Rel]) dst⟩
    · cases he
  | nilc =>
    simp only [sem2] at he
    split at he
    · simp only [Option.some.injEq] at he; subst he
      obtain ⟨v, rfl, h1⟩ := hw.inv1
      simp only [Rel] at h1; subst h1
      exact ⟨_, rfl, val_sim h (by simp only [Rel]) dst⟩
    · simp only [Option.some.injEq] at he; subst he
      obtain ⟨v, rfl, h1⟩ := hw.inv1
      have h1' := h1
      simp only [Rel] at h1; obtain ⟨ds, rfl, _⟩ := h1
      exact ⟨_, rfl, val_sim h h1' dst⟩
    · simp only [Option.some.injEq] at he; subst he
      obtain ⟨v, rfl, h1⟩ := hw.inv1
      have h1' := h1
      simp only [Rel] at h1; obtain ⟨ds, rfl, _⟩ := h1
      exact ⟨_, rfl, val_sim h h1' dst⟩
    · simp only [Option.some.injEq] at he; subst he
      obtain ⟨v, rfl, h1⟩ := hw.inv1
      have h1' := h1
      simp only [Rel] at h1; obtain ⟨ds, rfl, _⟩ := h1
      exact ⟨_, rfl, val_sim h h1' dst⟩
    · simp only [Option.some.injEq] at he; subst he
      obtain ⟨v, rfl, h1⟩ := hw.inv1
      have h1' := h1
      simp only [Rel] at h1; obtain ⟨ds, rfl, _⟩ := h1
      exact ⟨_, rfl, val_sim h h1' dst⟩
    · cases he
  | bad => simp [sem2] at he
  | callp => simp [sem2] at he
end
end Go.Lo
