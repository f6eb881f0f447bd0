/- The evaluator is sound; its limit. -/
import Derived.Test.YtifanigkolnedaaMf
namespace Go.Lo

/-! ### More fuel -/
def Le (c c' : Nat → List V → Option V) : Prop := ∀ f as r, c f as = some r → c' f as = some r
section
variable {c c' : Nat → List V → Option V}
theorem sem_le (h : Le c c') {bx : Nat → Option (List V)} {tk : Nat → Option (Nat × Bool)} {d : Nat} {k : K} {vs : List V} {e : Eff} (he : sem c bx tk d k vs = some e) : sem c' bx tk d k vs = some e := by
  cases k with
  | call dr al mk =>
    have key : ∀ {f : Nat} {us : List V}, callE c bx d dr al mk f us = some e → callE c' bx d dr al mk f us = some e := fun he => by
      unfold callE at he ⊢
      split at he
      · rename_i as has
        split at he
        · rename_i r hr
          simp only [h _ as r hr]
          exact he
        · cases he
      · cases he
    simp only [sem] at he ⊢
    split at he
    · exact key he
    · exact key he
    · exact he
    · exact he
  | _ => exact he
theorem stepI_le (h : Le c c') {i : LIns} {σ σ' : St} (hs : stepI c i σ = some σ') : stepI c' i σ = some σ' := by
  unfold stepI at hs ⊢
  cases hw : wanted σ.fr i.guard with
  | none => rw [hw] at hs; cases hs
  | some b =>
    rw [hw] at hs
    cases b with
    | false => exact hs
    | true =>
      simp only at hs ⊢
      cases hvs : opds σ.fr i.xs with
      | none => rw [hvs] at hs; cases hs
      | some vs =>
        rw [hvs] at hs
        simp only at hs ⊢
        cases he : sem c (bxOf σ.fr i.ex) (tkOf σ.tk i.ex) (i.dst.getD 0) i.k vs with
        | none => rw [he] at hs; cases hs
        | some e =>
          rw [he] at hs
          rw [sem_le h he]
          exact hs
theorem stepL_le (h : Le c c') : ∀ {is : List LIns} {σ σ' : St}, stepL c is σ = some σ' → stepL c' is σ = some σ'
  | [], _, _, hs => hs
  | i :: is, σ, σ', hs => by
    simp only [stepL] at hs ⊢
    split at hs
    · rename_i σ1 h1
      rw [stepI_le h h1]
      exact stepL_le h hs
    · cases hs
theorem iter_le {f g : St → Option (Ex × St)} (h : ∀ σ x, f σ = some x → g σ = some x) : ∀ {n m : Nat} {σ : St} {x : Ex × St}, n ≤ m → iter f n σ = some x → iter g m σ = some x
  | 0, _, _, _, _, hs => by simp [iter] at hs
  | n + 1, 0, _, _, hl, _ => by omega
  | n + 1, m + 1, σ, x, hl, hs => by
    simp only [iter] at hs ⊢
    split at hs
    · rename_i σ1 h1
      rw [h _ _ h1]
      exact iter_le h (by omega) hs
    · rename_i hne
      rw [h _ _ hs]
      split
      · rename_i σ1 h1
        injection h1 with h1
        subst h1
        exact (hne _ hs).elim
      · rfl
theorem roundE_le {evA evB evA' evB' : St → Option (Ex × St)} (hA : ∀ σ x, evA σ = some x → evA' σ = some x) (hB : ∀ σ x, evB σ = some x → evB' σ = some x) {ps wr : List Nat} {σ : St} {as : List V} {x : Ex × St}
    (h : roundE evA evB ps wr σ as = some x) : roundE evA' evB' ps wr σ as = some x := by
  unfold roundE at h ⊢
  split at h
  · rename_i hl
    rw [if_pos hl]
    split at h
    · rename_i σ1 h1
      rw [hA _ _ h1]
      simp only
      split at h
      · rename_i ex σ2 h2
        rw [hB _ _ h2]
        exact h
      · cases h
    · cases h
  · cases h
theorem foldR_le {f f' : St → List V → Option (Ex × St)} (h : ∀ σ as x, f σ as = some x → f' σ as = some x) : ∀ {t : List (List V)} {k : Nat} {σ : St} {r : Option (Nat × Ex) × St}, foldR f k σ t = some r → foldR f' k σ t = some r
  | [], _, _, _, hs => hs
  | x :: t, k, σ, r, hs => by
    simp only [foldR] at hs ⊢
    split at hs
    · rename_i σ1 h1
      rw [h _ _ _ h1]
      exact foldR_le h hs
    · rename_i ex σ1 hne h1
      rw [h _ _ _ h1]
      cases ex with
      | normal => exact (hne rfl).elim
      | exit id => exact hs
      | ret => exact hs
    · cases hs
theorem itemsOf_le {o o' : Option V} (h : ∀ R, o = some R → o' = some R) {T : List (List V)} (ho : itemsOf o = some T) : itemsOf o' = some T := by
  cases o with
  | none => cases ho
  | some R => rw [h R rfl]; exact ho
theorem rngE_le {f f' : St → List V → Option (Ex × St)} {it it' : Nat → Option V} (h : ∀ σ as x, f σ as = some x → f' σ as = some x) (hi : ∀ a R, it a = some R → it' a = some R) {σ : St} {x : Ex × St} (hs : rngE f it σ = some x) : rngE f' it' σ = some x := by
  unfold rngE at hs ⊢
  split at hs
  · cases hs
  · rename_i items h1
    rw [itemsOf_le (hi 0) h1]
    simp only
    split at hs
    · rename_i σ1 h2
      rw [foldR_le h h2]
      exact hs
    · rename_i k e σ1 h2
      rw [foldR_le h h2]
      simp only
      split at hs
      · cases hs
      · rename_i items' h3
        rw [itemsOf_le (hi (k + 1)) h3]
        simp only
        split at hs
        · rename_i k' ex σ2 h4
          rw [foldR_le h h4]
          exact hs
        · cases hs
    · cases hs
theorem evC_le (h : Le c c') {N N' : Nat} (hN : N ≤ N') : ∀ (lc : LCode) {σ : St} {x : Ex × St}, evC c N lc σ = some x → evC c' N' lc σ = some x := by
  intro lc
  induction lc with
  | skip => intro σ x hs; exact hs
  | exit id => intro σ x hs; exact hs
  | ret => intro σ x hs; exact hs
  | bad => intro σ x hs; exact hs
  | reg lp ds pp ops kn kp =>
    intro σ x hs
    simp only [evC] at hs ⊢
    split at hs
    · rename_i σ1 h1
      rw [stepL_le h h1]
      exact hs
    · cases hs
  | seq a b iha ihb =>
    intro σ x hs
    simp only [evC] at hs ⊢
    split at hs
    · rename_i σ1 h1
      rw [iha h1]
      exact ihb hs
    · rename_i hne
      rw [iha hs]
      split
      · rename_i σ1 h1
        injection h1 with h1
        subst h1
        exact (hne _ hs).elim
      · rfl
  | cond cc a b iha ihb =>
    intro σ x hs
    simp only [evC] at hs ⊢
    split at hs
    · rename_i t ht
      cases t with
      | true => simp only [if_true] at hs ⊢; exact iha hs
      | false => simp only [Bool.false_eq_true, if_false] at hs ⊢; exact ihb hs
    · cases hs
  | block id a ih =>
    intro σ x hs
    simp only [evC] at hs ⊢
    split at hs
    · rename_i j σ1 h1
      rw [ih h1]
      exact hs
    · rename_i hne
      rw [ih hs]
      split
      · rename_i j σ1 h1
        injection h1 with h1
        subst h1
        exact (hne _ _ hs).elim
      · rfl
  | loop a ih =>
    intro σ x hs
    simp only [evC] at hs ⊢
    exact iter_le (fun _ _ h => ih h) hN hs
  | rng g ps wr a b iha ihb =>
    intro σ x hs
    simp only [evC] at hs ⊢
    split at hs
    · split at hs
      · split at hs
        · rename_i hc
          rw [if_pos hc]
          exact rngE_le (fun _ _ _ h => roundE_le (fun _ _ h => iha h) (fun _ _ h => ihb h) h) (fun _ R hR => h _ _ R hR) hs
        · cases hs
      · cases hs
    · split at hs
      · split at hs
        · rename_i hc
          rw [if_pos hc]
          exact rngE_le (fun _ _ _ h => roundE_le (fun _ _ h => iha h) (fun _ _ h => ihb h) h) (fun _ R hR => h _ _ R hR) hs
        · cases hs
      · cases hs
    · cases hs
theorem evBody_le (h : Le c c') {N N' : Nat} (hN : N ≤ N') {lf : LFun} {args : List V} {r : V} (hs : evBody c N lf args = some r) : evBody c' N' lf args = some r := by
  unfold evBody at hs ⊢
  split at hs
  · rename_i hl
    rw [if_pos hl]
    split at hs
    · rename_i σ h1; rw [evC_le h hN _ h1]; exact hs
    · rename_i σ h1; rw [evC_le h hN _ h1]; exact hs
    · cases hs
  · cases hs
end
section
variable {F : Nat → Option (List V → Option V)} {C : Nat → Option LFun}
theorem evF_succ : ∀ (n : Nat), Le (evF F C n) (evF F C (n + 1))
  | 0, f, as, r, h => by simp [evF] at h
  | n + 1, f, as, r, h => by
    rw [evF] at h ⊢
    split at h
    · exact h
    · split at h
      · exact evBody_le (evF_succ n) (Nat.le_succ n) h
      · cases h
theorem evF_le {n m : Nat} (h : n ≤ m) : Le (evF F C n) (evF F C m) := by
  induction h with
  | refl => exact fun _ _ _ h => h
  | step _ ih => exact fun f as r hr => evF_succ _ f as r (ih f as r hr)
/-- What a function gives back, if it ends: whatever the fuel. -/
noncomputable def run (F : Nat → Option (List V → Option V)) (C : Nat → Option LFun) (f : Nat) (as : List V) : Option V :=
  open Classical in if h : ∃ r n, evF F C n f as = some r then some (Classical.choose h) else none
theorem run_of {n f : Nat} {as : List V} {r : V} (h : evF F C n f as = some r) : run F C f as = some r := by
  unfold run
  have hex : ∃ r n, evF F C n f as = some r := ⟨r, n, h⟩
  rw [dif_pos hex]
  obtain ⟨m, hm⟩ := Classical.choose_spec hex
  have h1 := evF_le (Nat.le_max_left n m) f as r h
  have h2 := evF_le (Nat.le_max_right n m) f as _ hm
  rw [h1] at h2
  exact h2.symm
theorem of_run {f : Nat} {as : List V} {r : V} (h : run F C f as = some r) : ∃ n, evF F C n f as = some r := by
  unfold run at h
  split at h
  · rename_i hex
    injection h with h; subst h
    exact Classical.choose_spec hex
  · cases h
/-! Few calls need little fuel. -/
theorem sem_fin {bx : Nat → Option (List V)} {tk : Nat → Option (Nat × Bool)} {d : Nat} {k : K} {vs : List V} {e : Eff} (he : sem (run F C) bx tk d k vs = some e) : ∃ n, sem (evF F C n) bx tk d k vs = some e := by
  cases k with
  | call dr al mk =>
    have key : ∀ {f : Nat} {us : List V}, callE (run F C) bx d dr al mk f us = some e → ∃ n, callE (evF F C n) bx d dr al mk f us = some e := fun he => by
      unfold callE at he ⊢
      split at he
      · rename_i as has
        split at he
        · rename_i r hr
          obtain ⟨n, hn⟩ := of_run hr
          refine ⟨n, ?_⟩
          simp only [hn]
          exact he
        · cases he
      · cases he
    simp only [sem] at he ⊢
    split at he
    · exact key he
    · exact key he
    · exact ⟨0, he⟩
    · exact ⟨0, he⟩
  | _ => exact ⟨0, he⟩
theorem stepI_fin {i : LIns} {σ σ' : St} (hs : stepI (run F C) i σ = some σ') : ∃ n, stepI (evF F C n) i σ = some σ' := by
  unfold stepI at hs ⊢
  cases hw : wanted σ.fr i.guard with
  | none => rw [hw] at hs; cases hs
  | some b =>
    rw [hw] at hs
    cases b with
    | false => exact ⟨0, hs⟩
    | true =>
      simp only at hs ⊢
      cases hvs : opds σ.fr i.xs with
      | none => rw [hvs] at hs; cases hs
      | some vs =>
        rw [hvs] at hs
        simp only at hs ⊢
        cases he : sem (run F C) (bxOf σ.fr i.ex) (tkOf σ.tk i.ex) (i.dst.getD 0) i.k vs with
        | none => rw [he] at hs; cases hs
        | some e =>
          rw [he] at hs
          obtain ⟨n, hn⟩ := sem_fin he
          exact ⟨n, by rw [hn]; exact hs⟩
theorem stepL_fin : ∀ {is : List LIns} {σ σ' : St}, stepL (run F C) is σ = some σ' → ∃ n, stepL (evF F C n) is σ = some σ'
  | [], _, _, hs => ⟨0, hs⟩
  | i :: is, σ, σ', hs => by
    simp only [stepL] at hs ⊢
    split at hs
    · rename_i σ1 h1
      obtain ⟨n, hn⟩ := stepI_fin h1
      obtain ⟨m, hm⟩ := stepL_fin hs
      refine ⟨max n m, ?_⟩
      rw [stepI_le (evF_le (Nat.le_max_left n m)) hn]
      exact stepL_le (evF_le (Nat.le_max_right n m)) hm
    · cases hs
theorem iter_fin {g : St → Option (Ex × St)} {f : Nat → St → Option (Ex × St)} (hf : ∀ n m, n ≤ m → ∀ σ x, f n σ = some x → f m σ = some x) (h : ∀ σ x, g σ = some x → ∃ n, f n σ = some x) : ∀ {k : Nat} {σ : St} {x : Ex × St}, iter g k σ = some x → ∃ n, iter (f n) k σ = some x
  | 0, _, _, hs => by simp [iter] at hs
  | k + 1, σ, x, hs => by
    simp only [iter] at hs ⊢
    split at hs
    · rename_i σ1 h1
      obtain ⟨n, hn⟩ := h _ _ h1
      obtain ⟨m, hm⟩ := iter_fin hf h hs
      refine ⟨max n m, ?_⟩
      rw [hf n _ (Nat.le_max_left n m) _ _ hn]
      exact iter_le (hf m _ (Nat.le_max_right n m)) (Nat.le_refl _) hm
    · rename_i hne
      obtain ⟨n, hn⟩ := h _ _ hs
      refine ⟨n, ?_⟩
      rw [hn]
      split
      · rename_i σ1 h1
        injection h1 with h1
        subst h1
        exact (hne _ hs).elim
      · rfl
theorem roundE_fin {gA gB : St → Option (Ex × St)} {fA fB : Nat → St → Option (Ex × St)} (mA : ∀ n m, n ≤ m → ∀ σ x, fA n σ = some x → fA m σ = some x) (mB : ∀ n m, n ≤ m → ∀ σ x, fB n σ = some x → fB m σ = some x)
    (hA : ∀ σ x, gA σ = some x → ∃ n, fA n σ = some x) (hB : ∀ σ x, gB σ = some x → ∃ n, fB n σ = some x) {ps wr : List Nat} {σ : St} {as : List V} {x : Ex × St} (h : roundE gA gB ps wr σ as = some x) : ∃ n, roundE (fA n) (fB n) ps wr σ as = some x := by
  unfold roundE at h
  split at h
  · rename_i hl
    split at h
    · rename_i σ1 h1
      split at h
      · rename_i ex σ2 h2
        obtain ⟨n, hn⟩ := hA _ _ h1
        obtain ⟨m, hm⟩ := hB _ _ h2
        refine ⟨max n m, ?_⟩
        unfold roundE
        rw [if_pos hl, mA n _ (Nat.le_max_left n m) _ _ hn]
        simp only
        rw [mB m _ (Nat.le_max_right n m) _ _ hm]
        exact h
      · cases h
    · cases h
  · cases h
theorem foldR_fin {g : St → List V → Option (Ex × St)} {f : Nat → St → List V → Option (Ex × St)} (hf : ∀ n m, n ≤ m → ∀ σ as x, f n σ as = some x → f m σ as = some x) (h : ∀ σ as x, g σ as = some x → ∃ n, f n σ as = some x) :
    ∀ {t : List (List V)} {k : Nat} {σ : St} {r : Option (Nat × Ex) × St}, foldR g k σ t = some r → ∃ n, foldR (f n) k σ t = some r
  | [], _, _, _, hs => ⟨0, hs⟩
  | x :: t, k, σ, r, hs => by
    simp only [foldR] at hs ⊢
    split at hs
    · rename_i σ1 h1
      obtain ⟨n, hn⟩ := h _ _ _ h1
      obtain ⟨m, hm⟩ := foldR_fin hf h hs
      refine ⟨max n m, ?_⟩
      rw [hf n _ (Nat.le_max_left n m) _ _ _ hn]
      exact foldR_le (hf m _ (Nat.le_max_right n m)) hm
    · rename_i ex σ1 hne h1
      obtain ⟨n, hn⟩ := h _ _ _ h1
      refine ⟨n, ?_⟩
      rw [hn]
      cases ex with
      | normal => exact (hne rfl).elim
      | exit id => exact hs
      | ret => exact hs
    · cases hs
theorem rngE_fin {g : St → List V → Option (Ex × St)} {f : Nat → St → List V → Option (Ex × St)} {it : Nat → Option V} {jt : Nat → Nat → Option V} (hf : ∀ n m, n ≤ m → ∀ σ as x, f n σ as = some x → f m σ as = some x) (h : ∀ σ as x, g σ as = some x → ∃ n, f n σ as = some x)
    (hj : ∀ n m, n ≤ m → ∀ a R, jt n a = some R → jt m a = some R) (hi : ∀ a R, it a = some R → ∃ n, jt n a = some R) {σ : St} {x : Ex × St} (hs : rngE g it σ = some x) : ∃ n, rngE (f n) (jt n) σ = some x := by
  have hit : ∀ a T, itemsOf (it a) = some T → ∃ n, itemsOf (jt n a) = some T := fun a T hT => by
    cases hR : it a with
    | none => rw [hR] at hT; cases hT
    | some R =>
      rw [hR] at hT
      obtain ⟨n, hn⟩ := hi a R hR
      exact ⟨n, by rw [hn]; exact hT⟩
  unfold rngE at hs
  split at hs
  · cases hs
  · rename_i items h1
    obtain ⟨n1, k1⟩ := hit _ _ h1
    split at hs
    · rename_i σ1 h2
      obtain ⟨n2, k2⟩ := foldR_fin hf h h2
      refine ⟨max n1 n2, ?_⟩
      unfold rngE
      rw [itemsOf_le (hj n1 _ (Nat.le_max_left n1 n2) 0) k1]
      simp only
      rw [foldR_le (hf n2 _ (Nat.le_max_right n1 n2)) k2]
      exact hs
    · rename_i k e σ1 h2
      obtain ⟨n2, k2⟩ := foldR_fin hf h h2
      split at hs
      · cases hs
      · rename_i items' h3
        obtain ⟨n3, k3⟩ := hit _ _ h3
        split at hs
        · rename_i k' ex σ2 h4
          obtain ⟨n4, k4⟩ := foldR_fin hf h h4
          refine ⟨max (max n1 n2) (max n3 n4), ?_⟩
          unfold rngE
          rw [itemsOf_le (hj n1 _ (by omega) 0) k1]
          simp only
          rw [foldR_le (hf n2 _ (by omega)) k2]
          simp only
          rw [itemsOf_le (hj n3 _ (by omega) (k + 1)) k3]
          simp only
          rw [foldR_le (hf n4 _ (by omega)) k4]
          exact hs
        · cases hs
    · cases hs
theorem evC_fin {N : Nat} : ∀ (lc : LCode) {σ : St} {x : Ex × St}, evC (run F C) N lc σ = some x → ∃ n, evC (evF F C n) N lc σ = some x := by
  intro lc
  induction lc with
  | skip => intro σ x hs; exact ⟨0, hs⟩
  | exit id => intro σ x hs; exact ⟨0, hs⟩
  | ret => intro σ x hs; exact ⟨0, hs⟩
  | bad => intro σ x hs; exact ⟨0, hs⟩
  | reg lp ds pp ops kn kp =>
    intro σ x hs
    simp only [evC] at hs ⊢
    split at hs
    · rename_i σ1 h1
      obtain ⟨n, hn⟩ := stepL_fin h1
      exact ⟨n, by rw [hn]; exact hs⟩
    · cases hs
  | seq a b iha ihb =>
    intro σ x hs
    simp only [evC] at hs ⊢
    split at hs
    · rename_i σ1 h1
      obtain ⟨n, hn⟩ := iha h1
      obtain ⟨m, hm⟩ := ihb hs
      refine ⟨max n m, ?_⟩
      rw [evC_le (evF_le (Nat.le_max_left n m)) (Nat.le_refl N) _ hn]
      exact evC_le (evF_le (Nat.le_max_right n m)) (Nat.le_refl N) _ hm
    · rename_i hne
      obtain ⟨n, hn⟩ := iha hs
      refine ⟨n, ?_⟩
      rw [hn]
      split
      · rename_i σ1 h1
        injection h1 with h1
        subst h1
        exact (hne _ hs).elim
      · rfl
  | cond cc a b iha ihb =>
    intro σ x hs
    simp only [evC] at hs ⊢
    split at hs
    · rename_i t ht
      cases t with
      | true => simp only [if_true] at hs ⊢; exact iha hs
      | false => simp only [Bool.false_eq_true, if_false] at hs ⊢; exact ihb hs
    · cases hs
  | block id a ih =>
    intro σ x hs
    simp only [evC] at hs ⊢
    split at hs
    · rename_i j σ1 h1
      obtain ⟨n, hn⟩ := ih h1
      exact ⟨n, by rw [hn]; exact hs⟩
    · rename_i hne
      obtain ⟨n, hn⟩ := ih hs
      refine ⟨n, ?_⟩
      rw [hn]
      split
      · rename_i j σ1 h1
        injection h1 with h1
        subst h1
        exact (hne _ _ hs).elim
      · rfl
  | loop a ih =>
    intro σ x hs
    simp only [evC] at hs ⊢
    exact iter_fin (f := fun n => evC (evF F C n) N a) (fun n m hnm σ x h => evC_le (evF_le hnm) (Nat.le_refl N) a h) (fun σ x h => ih h) hs
  | rng g ps wr a b iha ihb =>
    intro σ x hs
    have key : ∀ {f : Nat} {mkA : Nat → List V} {τ : St}, rngE (roundE (evC (run F C) N a) (evC (run F C) N b) ps wr) (fun a => run F C f (mkA a)) τ = some x → ∃ n, rngE (roundE (evC (evF F C n) N a) (evC (evF F C n) N b) ps wr) (fun a => evF F C n f (mkA a)) τ = some x := by
      intro f mkA τ hs
      refine rngE_fin (it := fun a => run F C f (mkA a)) (jt := fun n a => evF F C n f (mkA a)) (f := fun n => roundE (evC (evF F C n) N a) (evC (evF F C n) N b) ps wr) (fun n m hnm σ as x h => ?_) (fun σ as x h => ?_) (fun n m hnm a R h => evF_le hnm _ _ R h) (fun a R h => of_run h) hs
      · exact roundE_le (fun _ _ h => evC_le (evF_le hnm) (Nat.le_refl N) a h) (fun _ _ h => evC_le (evF_le hnm) (Nat.le_refl N) b h) h
      · exact roundE_fin (fA := fun n => evC (evF F C n) N a) (fB := fun n => evC (evF F C n) N b) (fun n m hnm σ x h => evC_le (evF_le hnm) (Nat.le_refl N) a h) (fun n m hnm σ x h => evC_le (evF_le hnm) (Nat.le_refl N) b h) (fun _ _ h => iha h) (fun _ _ h => ihb h) h
    simp only [evC] at hs ⊢
    split at hs
    · split at hs
      · split at hs
        · rename_i hc
          simp only [if_pos hc]
          exact key (mkA := fun a => .fn (.y a) [] :: _) hs
        · cases hs
      · cases hs
    · split at hs
      · split at hs
        · rename_i hc
          simp only [if_pos hc]
          exact key (mkA := fun a => _ ++ [.fn (.y a) []]) hs
        · cases hs
      · cases hs
    · cases hs
/-- A body's equation: the calls in it may be told by theirs. -/
theorem run_of_body {f N : Nat} {lf : LFun} {as : List V} {r : V} (hF : F f = none) (hC : C f = some lf) (h : evBody (run F C) N lf as = some r) : run F C f as = some r := by
  have key : ∃ n, evBody (evF F C n) N lf as = some r := by
    unfold evBody at h ⊢
    split at h
    · rename_i hl
      split at h
      · rename_i σ h1
        obtain ⟨n, hn⟩ := evC_fin _ h1
        exact ⟨n, by rw [if_pos hl, hn]; exact h⟩
      · rename_i σ h1
        obtain ⟨n, hn⟩ := evC_fin _ h1
        exact ⟨n, by rw [if_pos hl, hn]; exact h⟩
      · cases h
    · cases h
  obtain ⟨n, hn⟩ := key
  refine run_of (n := max n N + 1) ?_
  rw [evF, hF]
  simp only [hC]
  exact evBody_le (evF_le (Nat.le_max_left n N)) (Nat.le_max_right n N) hn
theorem run_told {f : Nat} {g : List V → Option V} {as : List V} (hF : F f = some g) : run F C f as = g as := by
  cases hg : g as with
  | some r => exact run_of (n := 1) (by rw [evF, hF]; exact hg)
  | none =>
    cases hr : run F C f as with
    | none => rfl
    | some r =>
      obtain ⟨n, hn⟩ := of_run hr
      cases n with
      | zero => simp [evF] at hn
      | succ n =>
        rw [evF, hF] at hn
        simp only at hn
        rw [hg] at hn
        cases hn
/-- The tables are those of the program. -/
structure TabOk (P : Program) (F : Nat → Option (List V → Option V)) (C : Nat → Option LFun) : Prop where
  mixed : P.follows .mixedOrders = true
  told : ∀ f g as r, F f = some g → g as = some r → Enters P f ∧ CallOk P f as r
  code : ∀ f lf, C f = some lf → ∃ fn kp, P.funcs[f]? = some fn ∧ fn.name ≠ "runtime.NumGoroutine" ∧ funC P kp fn = some lf
theorem evF_sound {P : Program} (h : TabOk P F C) : ∀ (n : Nat), CallsOk P (evF F C n)
  | 0, f, as, r, hr => by simp [evF] at hr
  | n + 1, f, as, r, hr => by
    rw [evF] at hr
    split at hr
    · rename_i g hg
      exact h.told f g as r hg hr
    · split at hr
      · rename_i lf hlf
        obtain ⟨fn, kp, h1, h2, h3⟩ := h.code f lf hlf
        exact fun_sound h.mixed (evF_sound h n) h1 h2 h3 hr
      · cases hr
theorem run_sound {P : Program} (h : TabOk P F C) : CallsOk P (run F C) := fun f as r hr =>
  let ⟨n, hn⟩ := of_run hr
  evF_sound h n f as r hn
end
end Go.Lo
