/- Texts put together. -/
import Derived.Test.YtgmgjibmjdhkhaaPd
import Derived.Test.YtgmgjibmjdhkhaaProg
import Derived.KernelRfl
/- The limit of the plain machine; what it says is said of the logical one. -/
namespace Go.Lo
section
variable {c c' : Nat → List V → Option V}
theorem sem2_le (h : Le c c') {bx : Nat → Option (List V)} {ex : List Nat} {d : Nat} {k : K} {vs : List V} {e : Eff2} (he : sem2 c bx ex d k vs = some e) : sem2 c' bx ex d k vs = some e := by
  cases k with
  | call dr al mk =>
    have key : ∀ {f : Nat} {us : List V}, callE2 c bx d dr al mk f us = some e → callE2 c' bx d dr al mk f us = some e := fun he => by
      unfold callE2 at he ⊢
      split at he
      · rename_i as9 has
        split at he
        · rename_i r hr
          simp only [h _ as9 r hr]
          exact he
        · cases he
      · cases he
    simp only [sem2] at he ⊢
    split at he
    · exact key he
    · exact key he
    · exact he
    · exact he
  | _ => exact he
theorem stepI2_le (h : Le c c') {i : LIns} {σ σ' : St} (hs : stepI2 c i σ = some σ') : stepI2 c' i σ = some σ' := by
  unfold stepI2 at hs ⊢
  cases hw : wanted σ.fr i.guard with
  | none => rw [hw] at hs; cases hs
  | some b =>
    rw [hw] at hs
    cases b with
    | false => exact hs
    | true =>
      simp only at hs ⊢
      cases hvs : opds σ.fr i.xs with
      | none => rw [hvs] at hs; cases hs
      | some vs =>
        rw [hvs] at hs
        simp only at hs ⊢
        cases he : sem2 c (bxOf σ.fr i.ex) i.ex (i.dst.getD 0) i.k vs with
        | none => rw [he] at hs; cases hs
        | some e =>
          rw [he] at hs
          rw [sem2_le h he]
          exact hs
theorem stepL2_le (h : Le c c') : ∀ {is : List LIns} {σ σ' : St}, stepL2 c is σ = some σ' → stepL2 c' is σ = some σ'
  | [], _, _, hs => hs
  | i :: is, σ, σ', hs => by
    simp only [stepL2] at hs ⊢
    split at hs
    · rename_i σ1 h1
      rw [stepI2_le h h1]
      exact stepL2_le h hs
    · cases hs
theorem evC2_le (h : Le c c') {N N' : Nat} (hN : N ≤ N') : ∀ (lc : LCode) {σ : St} {x : Ex × St}, evC2 c N lc σ = some x → evC2 c' N' lc σ = some x := by
  intro lc
  induction lc with
  | skip => intro σ x hs; exact hs
  | exit id => intro σ x hs; exact hs
  | ret => intro σ x hs; exact hs
  | bad => intro σ x hs; exact hs
  | reg lp ds pp ops kn kp =>
    intro σ x hs
    simp only [evC2] at hs ⊢
    split at hs
    · rename_i σ1 h1
      rw [stepL2_le h h1]
      exact hs
    · cases hs
  | seq a b iha ihb =>
    intro σ x hs
    simp only [evC2] at hs ⊢
    split at hs
    · rename_i σ1 h1
      rw [iha h1]
      exact ihb hs
    · rename_i hne
      rw [iha hs]
      split
      · rename_i σ1 h1
        injection h1 with h1
        subst h1
        exact (hne _ hs).elim
      · rfl
  | alt ts ks a b iha ihb =>
    intro σ x hs
    simp only [evC2] at hs ⊢
    split at hs
    · exact ihb hs
    · exact iha hs
    · cases hs
  | cond cc a b iha ihb =>
    intro σ x hs
    simp only [evC2] at hs ⊢
    split at hs
    · rename_i t ht
      cases t with
      | true => simp only [if_true] at hs ⊢; exact iha hs
      | false => simp only [Bool.false_eq_true, if_false] at hs ⊢; exact ihb hs
    · cases hs
  | block id a ih =>
    intro σ x hs
    simp only [evC2] at hs ⊢
    split at hs
    · rename_i j σ1 h1
      rw [ih h1]
      exact hs
    · rename_i hne
      rw [ih hs]
      split
      · rename_i j σ1 h1
        injection h1 with h1
        subst h1
        exact (hne _ _ hs).elim
      · rfl
  | loop a ih =>
    intro σ x hs
    simp only [evC2] at hs ⊢
    exact iter_le (fun _ _ h => ih h) hN hs
  | rng g ps wr a b iha ihb =>
    intro σ x hs
    simp only [evC2] at hs ⊢
    split at hs
    · split at hs
      · split at hs
        · rename_i hc
          rw [if_pos hc]
          exact rngE_le (fun _ _ _ h => roundE_le (fun _ _ h => iha h) (fun _ _ h => ihb h) h) (fun _ R hR => h _ _ R hR) hs
        · cases hs
      · cases hs
    · split at hs
      · split at hs
        · rename_i hc
          rw [if_pos hc]
          exact rngE_le (fun _ _ _ h => roundE_le (fun _ _ h => iha h) (fun _ _ h => ihb h) h) (fun _ R hR => h _ _ R hR) hs
        · cases hs
      · cases hs
    · cases hs
theorem evBody2_le (h : Le c c') {N N' : Nat} (hN : N ≤ N') {lf : LFun} {args : List V} {r : V} (hs : evBody2 c N lf args = some r) : evBody2 c' N' lf args = some r := by
  unfold evBody2 at hs ⊢
  split at hs
  · rename_i hl
    rw [if_pos hl]
    split at hs
    · rename_i σ h1; rw [evC2_le h hN _ h1]; exact hs
    · rename_i σ h1; rw [evC2_le h hN _ h1]; exact hs
    · cases hs
  · cases hs
end
section
variable {F : Nat → Option (List V → Option V)} {C : Nat → Option LFun}
theorem evF2_succ : ∀ (n : Nat), Le (evF2 F C n) (evF2 F C (n + 1))
  | 0, f, as9, r, h => by simp [evF2] at h
  | n + 1, f, as9, r, h => by
    rw [evF2] at h ⊢
    split at h
    · exact h
    · split at h
      · exact evBody2_le (evF2_succ n) (Nat.le_succ n) h
      · cases h
theorem evF2_le {n m : Nat} (h : n ≤ m) : Le (evF2 F C n) (evF2 F C m) := by
  induction h with
  | refl => exact fun _ _ _ h => h
  | step _ ih => exact fun f as9 r hr => evF2_succ _ f as9 r (ih f as9 r hr)
/-- What a function gives back, if it ends: whatever the fuel. -/
noncomputable def run2 (F : Nat → Option (List V → Option V)) (C : Nat → Option LFun) (f : Nat) (as9 : List V) : Option V :=
  open Classical in if h : ∃ r n, evF2 F C n f as9 = some r then some (Classical.choose h) else none
theorem run2_of {n f : Nat} {as9 : List V} {r : V} (h : evF2 F C n f as9 = some r) : run2 F C f as9 = some r := by
  unfold run2
  have hex : ∃ r n, evF2 F C n f as9 = some r := ⟨r, n, h⟩
  rw [dif_pos hex]
  obtain ⟨m, hm⟩ := Classical.choose_spec hex
  have h1 := evF2_le (Nat.le_max_left n m) f as9 r h
  have h2 := evF2_le (Nat.le_max_right n m) f as9 _ hm
  rw [h1] at h2
  exact h2.symm
theorem of_run2 {f : Nat} {as9 : List V} {r : V} (h : run2 F C f as9 = some r) : ∃ n, evF2 F C n f as9 = some r := by
  unfold run2 at h
  split at h
  · rename_i hex
    injection h with h; subst h
    exact Classical.choose_spec hex
  · cases h
/-! Few calls need little fuel. -/
theorem sem2_fin {bx : Nat → Option (List V)} {ex : List Nat} {d : Nat} {k : K} {vs : List V} {e : Eff2} (he : sem2 (run2 F C) bx ex d k vs = some e) : ∃ n, sem2 (evF2 F C n) bx ex d k vs = some e := by
  cases k with
  | call dr al mk =>
    have key : ∀ {f : Nat} {us : List V}, callE2 (run2 F C) bx d dr al mk f us = some e → ∃ n, callE2 (evF2 F C n) bx d dr al mk f us = some e := fun he => by
      unfold callE2 at he ⊢
      split at he
      · rename_i as9 has
        split at he
        · rename_i r hr
          obtain ⟨n, hn⟩ := of_run2 hr
          refine ⟨n, ?_⟩
          simp only [hn]
          exact he
        · cases he
      · cases he
    simp only [sem2] at he ⊢
    split at he
    · exact key he
    · exact key he
    · exact ⟨0, he⟩
    · exact ⟨0, he⟩
  | _ => exact ⟨0, he⟩
theorem stepI2_fin {i : LIns} {σ σ' : St} (hs : stepI2 (run2 F C) i σ = some σ') : ∃ n, stepI2 (evF2 F C n) i σ = some σ' := by
  unfold stepI2 at hs ⊢
  cases hw : wanted σ.fr i.guard with
  | none => rw [hw] at hs; cases hs
  | some b =>
    rw [hw] at hs
    cases b with
    | false => exact ⟨0, hs⟩
    | true =>
      simp only at hs ⊢
      cases hvs : opds σ.fr i.xs with
      | none => rw [hvs] at hs; cases hs
      | some vs =>
        rw [hvs] at hs
        simp only at hs ⊢
        cases he : sem2 (run2 F C) (bxOf σ.fr i.ex) i.ex (i.dst.getD 0) i.k vs with
        | none => rw [he] at hs; cases hs
        | some e =>
          rw [he] at hs
          obtain ⟨n, hn⟩ := sem2_fin he
          exact ⟨n, by rw [hn]; exact hs⟩
theorem stepL2_fin : ∀ {is : List LIns} {σ σ' : St}, stepL2 (run2 F C) is σ = some σ' → ∃ n, stepL2 (evF2 F C n) is σ = some σ'
  | [], _, _, hs => ⟨0, hs⟩
  | i :: is, σ, σ', hs => by
    simp only [stepL2] at hs ⊢
    split at hs
    · rename_i σ1 h1
      obtain ⟨n, hn⟩ := stepI2_fin h1
      obtain ⟨m, hm⟩ := stepL2_fin hs
      refine ⟨max n m, ?_⟩
      rw [stepI2_le (evF2_le (Nat.le_max_left n m)) hn]
      exact stepL2_le (evF2_le (Nat.le_max_right n m)) hm
    · cases hs
theorem evC2_fin {N : Nat} : ∀ (lc : LCode) {σ : St} {x : Ex × St}, evC2 (run2 F C) N lc σ = some x → ∃ n, evC2 (evF2 F C n) N lc σ = some x := by
  intro lc
  induction lc with
  | skip => intro σ x hs; exact ⟨0, hs⟩
  | exit id => intro σ x hs; exact ⟨0, hs⟩
  | ret => intro σ x hs; exact ⟨0, hs⟩
  | bad => intro σ x hs; exact ⟨0, hs⟩
  | reg lp ds pp ops kn kp =>
    intro σ x hs
    simp only [evC2] at hs ⊢
    split at hs
    · rename_i σ1 h1
      obtain ⟨n, hn⟩ := stepL2_fin h1
      exact ⟨n, by rw [hn]; exact hs⟩
    · cases hs
  | seq a b iha ihb =>
    intro σ x hs
    simp only [evC2] at hs ⊢
    split at hs
    · rename_i σ1 h1
      obtain ⟨n, hn⟩ := iha h1
      obtain ⟨m, hm⟩ := ihb hs
      refine ⟨max n m, ?_⟩
      rw [evC2_le (evF2_le (Nat.le_max_left n m)) (Nat.le_refl N) _ hn]
      exact evC2_le (evF2_le (Nat.le_max_right n m)) (Nat.le_refl N) _ hm
    · rename_i hne
      obtain ⟨n, hn⟩ := iha hs
      refine ⟨n, ?_⟩
      rw [hn]
      split
      · rename_i σ1 h1
        injection h1 with h1
        subst h1
        exact (hne _ hs).elim
      · rfl
  | alt ts ks a b iha ihb =>
    intro σ x hs
    simp only [evC2] at hs ⊢
    split at hs
    · exact ihb hs
    · exact iha hs
    · cases hs
  | cond cc a b iha ihb =>
    intro σ x hs
    simp only [evC2] at hs ⊢
    split at hs
    · rename_i t ht
      cases t with
      | true => simp only [if_true] at hs ⊢; exact iha hs
      | false => simp only [Bool.false_eq_true, if_false] at hs ⊢; exact ihb hs
    · cases hs
  | block id a ih =>
    intro σ x hs
    simp only [evC2] at hs ⊢
    split at hs
    · rename_i j σ1 h1
      obtain ⟨n, hn⟩ := ih h1
      exact ⟨n, by rw [hn]; exact hs⟩
    · rename_i hne
      obtain ⟨n, hn⟩ := ih hs
      refine ⟨n, ?_⟩
      rw [hn]
      split
      · rename_i j σ1 h1
        injection h1 with h1
        subst h1
        exact (hne _ _ hs).elim
      · rfl
  | loop a ih =>
    intro σ x hs
    simp only [evC2] at hs ⊢
    exact iter_fin (f := fun n => evC2 (evF2 F C n) N a) (fun n m hnm σ x h => evC2_le (evF2_le hnm) (Nat.le_refl N) a h) (fun σ x h => ih h) hs
  | rng g ps wr a b iha ihb =>
    intro σ x hs
    have key : ∀ {f : Nat} {mkA : Nat → List V} {τ : St}, rngE (roundE (evC2 (run2 F C) N a) (evC2 (run2 F C) N b) ps wr) (fun a => run2 F C f (mkA a)) τ = some x → ∃ n, rngE (roundE (evC2 (evF2 F C n) N a) (evC2 (evF2 F C n) N b) ps wr) (fun a => evF2 F C n f (mkA a)) τ = some x := by
      intro f mkA τ hs
      refine rngE_fin (it := fun a => run2 F C f (mkA a)) (jt := fun n a => evF2 F C n f (mkA a)) (f := fun n => roundE (evC2 (evF2 F C n) N a) (evC2 (evF2 F C n) N b) ps wr) (fun n m hnm σ as9 x h => ?_) (fun σ as9 x h => ?_) (fun n m hnm a R h => evF2_le hnm _ _ R h) (fun a R h => of_run2 h) hs
      · exact roundE_le (fun _ _ h => evC2_le (evF2_le hnm) (Nat.le_refl N) a h) (fun _ _ h => evC2_le (evF2_le hnm) (Nat.le_refl N) b h) h
      · exact roundE_fin (fA := fun n => evC2 (evF2 F C n) N a) (fB := fun n => evC2 (evF2 F C n) N b) (fun n m hnm σ x h => evC2_le (evF2_le hnm) (Nat.le_refl N) a h) (fun n m hnm σ x h => evC2_le (evF2_le hnm) (Nat.le_refl N) b h) (fun _ _ h => iha h) (fun _ _ h => ihb h) h
    simp only [evC2] at hs ⊢
    split at hs
    · split at hs
      · split at hs
        · rename_i hc
          simp only [if_pos hc]
          exact key (mkA := fun a => .fn (.y a) [] :: _) hs
        · cases hs
      · cases hs
    · split at hs
      · split at hs
        · rename_i hc
          simp only [if_pos hc]
          exact key (mkA := fun a => _ ++ [.fn (.y a) []]) hs
        · cases hs
      · cases hs
    · cases hs
/-- A body's equation: the calls in it may be told by theirs. -/
theorem run2_of_body {f N : Nat} {lf : LFun} {as9 : List V} {r : V} (hF : F f = none) (hC : C f = some lf) (h : evBody2 (run2 F C) N lf as9 = some r) : run2 F C f as9 = some r := by
  have key : ∃ n, evBody2 (evF2 F C n) N lf as9 = some r := by
    unfold evBody2 at h ⊢
    split at h
    · rename_i hl
      split at h
      · rename_i σ h1
        obtain ⟨n, hn⟩ := evC2_fin _ h1
        exact ⟨n, by rw [if_pos hl, hn]; exact h⟩
      · rename_i σ h1
        obtain ⟨n, hn⟩ := evC2_fin _ h1
        exact ⟨n, by rw [if_pos hl, hn]; exact h⟩
      · cases h
    · cases h
  obtain ⟨n, hn⟩ := key
  refine run2_of (n := max n N + 1) ?_
  rw [evF2, hF]
  simp only [hC]
  exact evBody2_le (evF2_le (Nat.le_max_left n N)) (Nat.le_max_right n N) hn
theorem run2_told {f : Nat} {g : List V → Option V} {as9 : List V} (hF : F f = some g) : run2 F C f as9 = g as9 := by
  cases hg : g as9 with
  | some r => exact run2_of (n := 1) (by rw [evF2, hF]; exact hg)
  | none =>
    cases hr : run2 F C f as9 with
    | none => rfl
    | some r =>
      obtain ⟨n, hn⟩ := of_run2 hr
      cases n with
      | zero => simp [evF2] at hn
      | succ n =>
        rw [evF2, hF] at hn
        simp only at hn
        rw [hg] at hn
        cases hn
/-- What the tables of the two machines have to do with each other. -/
structure TabR (F2 F : Nat → Option (List V → Option V)) (C2 C : Nat → Option LFun) : Prop where
  told : ∀ f g2 as2 r2 as9, F2 f = some g2 → g2 as2 = some r2 → RelL as2 noT as9 → ∃ r, run F C f as9 = some r ∧ RelR r2 r ∧ ∀ l2, itemsOf (some r2) = some l2 → ∃ l, itemsOf (some r) = some l ∧ RelE l2 l
  code : ∀ f lf, F2 f = none → C2 f = some lf → F f = none ∧ C f = some (unF lf) ∧ okC lf.body = true ∧ lf.sl = []
theorem evF2_sim {F2 F : Nat → Option (List V → Option V)} {C2 C : Nat → Option LFun} (h : TabR F2 F C2 C) : ∀ n, CallSim (evF2 F2 C2 n) (run F C)
  | 0, f, as2, r2, as9, hr, _ => by simp [evF2] at hr
  | n + 1, f, as2, r2, as9, hr, ha => by
    rw [evF2] at hr
    split at hr
    · rename_i g2 hg
      exact h.told f g2 as2 r2 as9 hg hr ha
    · rename_i hg
      split at hr
      · rename_i lf hlf
        obtain ⟨k0, k1, k2, k3⟩ := h.code f lf hg hlf
        obtain ⟨r, g1, g2⟩ := body_sim (evF2_sim h n) n k2 k3 ha hr
        exact ⟨r, run_of_body k0 k1 g1, g2⟩
      · cases hr
theorem run2_sim {F2 F : Nat → Option (List V → Option V)} {C2 C : Nat → Option LFun} (h : TabR F2 F C2 C) {f : Nat} {as2 as9 : List V} {r2 : V} (hr : run2 F2 C2 f as2 = some r2) (ha : RelL as2 noT as9) : ∃ r, run F C f as9 = some r ∧ RelR r2 r := by
  obtain ⟨n, hn⟩ := of_run2 hr
  obtain ⟨r, g1, g2, _⟩ := evF2_sim h n f as2 r2 as9 hn ha
  exact ⟨r, g1, g2⟩
/-- A law that is true for the plain machine. -/
theorem run2_true {F2 F : Nat → Option (List V → Option V)} {C2 C : Nat → Option LFun} (h : TabR F2 F C2 C) {f : Nat} {as2 as9 : List V} (hr : run2 F2 C2 f as2 = some (.bool true)) (ha : RelL as2 noT as9) : run F C f as9 = some (.bool true) := by
  obtain ⟨r, g1, g2⟩ := run2_sim h hr ha
  obtain ⟨ρ, hρ⟩ := g2.ex
  simp only [Rel] at hρ
  rw [g1, hρ]
end
end Go.Lo

/- The functions that are reached, compiled for the plain machine. -/
namespace Go.Lo
open Go.Proofs
/-- acme/acmelaw03.FitWitness -/
def l9 : LFun := ⟨3, 153, [],
 (.seq
 (.reg false [3, 4, 5] [3, 4, 5] [
 ⟨(some 3), .box, [(.t 0)], none, []⟩,
 ⟨(some 4), .box, [(.t 1)], none, []⟩,
 ⟨(some 5), .box, [(.t 2)], none, []⟩,
 ⟨(some 6), .mv, [(.c (.bool false))], none, []⟩] 0 [3, 4, 5])
 (.seq
 (.reg false [7, 8] [7, 8] [
 ⟨(some 21), (.load (some 6)), [(.t 3)], none, [23, 7, 8]⟩,
 ⟨(some 22), (.call true false false), [(.f 39), (.t 21)], none, [23, 7, 8]⟩,
 ⟨(some 23), (.load (some 2)), [(.t 5)], none, [21, 22, 7, 8]⟩,
 ⟨(some 24), (.call false false false), [(.f 40), (.t 23)], none, [7, 8]⟩,
 ⟨(some 7), (.alloc [(.int .i64 0), (.int .i64 0), (.int .i64 0), (.int .i64 0), (.int .i64 0), (.int .i64 0), (.bool false), (.int .i64 0)]), [], none, [21, 22, 23, 24, 8]⟩,
 ⟨(some 8), (.alloc [(.int .i64 0), (.int .i64 0)]), [], none, [21, 22, 23, 24, 7]⟩,
 ⟨none, (.store 8 (some 7)), [(.t 7), (.t 22)], none, []⟩,
 ⟨none, (.store 2 (some 8)), [(.t 8), (.t 24)], none, []⟩] 0 [3, 4, 7, 8])
 (.seq
 (.reg false [] [] [
 ⟨(some 25), (.ixa 2 1), [(.t 4), (.c (.int .i64 0))], none, [29, 30, 31, 32]⟩,
 ⟨(some 26), (.load none), [(.t 25)], none, [29, 30, 31, 32]⟩,
 ⟨(some 27), (.conv .i64), [(.t 26)], none, [29, 30, 31, 32]⟩,
 ⟨(some 28), (.bin 0 .rem), [(.t 27), (.c (.int .i64 300))], none, [29, 30, 31, 32]⟩,
 ⟨(some 29), (.ixa 2 1), [(.t 4), (.c (.int .i64 1))], none, [25, 26, 27, 28, 9]⟩,
 ⟨(some 30), (.load none), [(.t 29)], none, [25, 26, 27, 28, 9]⟩,
 ⟨(some 31), (.conv .i64), [(.t 30)], none, [25, 26, 27, 28, 9]⟩,
 ⟨(some 32), (.bin 0 .rem), [(.t 31), (.c (.int .i64 300))], none, [25, 26, 27, 28, 9]⟩,
 ⟨(some 9), .mv, [(.t 28)], none, [29, 30, 31, 32]⟩,
 ⟨(some 10), .mv, [(.t 32)], none, []⟩] 0 [3, 7, 8, 9, 10])
 (.seq
 (.reg false [40, 11, 12] [40, 11, 12] [
 ⟨(some 34), (.load (some 8)), [(.t 7)], none, [35, 36, 37, 38, 39, 11, 12]⟩,
 ⟨(some 35), .mv, [(.t 9)], none, [34, 36, 37, 38, 39, 11, 12]⟩,
 ⟨(some 36), .mv, [(.t 10)], none, [34, 35, 37, 38, 39, 11, 12]⟩,
 ⟨(some 37), (.load (some 6)), [(.t 3)], none, [34, 35, 36, 39, 11, 12]⟩,
 ⟨(some 38), (.call true false false), [(.f 41), (.t 37)], none, [34, 35, 36, 39, 11, 12]⟩,
 ⟨(some 39), (.load (some 2)), [(.t 8)], none, [34, 35, 36, 37, 38, 11, 12]⟩,
 ⟨(some 40), (.call false false true), [(.f 30), (.t 34), (.t 35), (.t 36), (.t 38), (.t 39)], none, [11, 12]⟩,
 ⟨(some 33), .mv, [(.t 40)], none, [11, 12]⟩,
 ⟨(some 41), (.ext 0), [(.t 33)], none, [42, 43, 44, 11, 12]⟩,
 ⟨(some 42), (.ext 1), [(.t 33)], none, [41, 43, 44, 11, 12]⟩,
 ⟨(some 43), (.ext 2), [(.t 33)], none, [41, 42, 44, 11, 12]⟩,
 ⟨(some 44), (.ext 3), [(.t 33)], none, [41, 42, 43, 11, 12, 13]⟩,
 ⟨(some 11), (.alloc [(.sl none 2 []), (.int .i64 0), (.int .i64 0)]), [], none, [34, 35, 36, 37, 38, 39, 40, 33, 41, 42, 43, 44, 12]⟩,
 ⟨(some 12), (.alloc [(.sl none 2 []), (.int .i64 0), (.int .i64 0)]), [], none, [34, 35, 36, 37, 38, 39, 40, 33, 41, 42, 43, 44, 11]⟩,
 ⟨none, (.store 3 (some 11)), [(.t 11), (.t 41)], none, [42, 43, 44]⟩,
 ⟨none, (.store 3 (some 12)), [(.t 12), (.t 42)], none, [43, 44]⟩,
 ⟨(some 13), .mv, [(.t 43)], none, [44]⟩,
 ⟨(some 14), .mv, [(.t 44)], none, []⟩] 0 [3, 7, 8, 9, 10, 11, 12, 13, 14])
 (.seq
 (.seq
 (.reg false [] [] [
 ⟨(some 45), .mv, [(.t 14)], none, []⟩,
 ⟨(some 46), (.bin 0 .eql), [(.t 45), (.c (.int .i64 9))], none, []⟩] 0 [3, 7, 8, 9, 10, 11, 12, 13, 14, 46])
 (.cond (.t 46)
 (.seq
 (.reg false [] [] [
 ⟨(some 47), (.fa 0), [(.t 11)], none, []⟩,
 ⟨(some 48), (.load none), [(.t 47)], none, []⟩,
 ⟨(some 49), .len, [(.t 48)], none, []⟩,
 ⟨(some 50), (.fa 0), [(.t 12)], none, []⟩,
 ⟨(some 51), (.load none), [(.t 50)], none, []⟩,
 ⟨(some 52), .len, [(.t 51)], none, []⟩,
 ⟨(some 53), (.bin 0 .add), [(.t 49), (.t 52)], none, []⟩,
 ⟨(some 54), (.bin 0 .eql), [(.t 53), (.c (.int .i64 0))], none, []⟩,
 ⟨(some 55), .mv, [(.t 54)], none, []⟩,
 ⟨(some 56), .mv, [(.t 13)], (some (55, true)), []⟩,
 ⟨(some 57), (.un .not), [(.t 56)], (some (55, true)), []⟩,
 ⟨(some 58), .pick, [(.t 55), (.t 57), (.c (.bool false))], none, []⟩,
 ⟨(some 59), .mv, [(.t 58)], none, []⟩,
 ⟨(some 60), (.call false false false), [(.f 14)], (some (59, true)), []⟩,
 ⟨(some 61), .pick, [(.t 59), (.t 60), (.c (.bool false))], none, []⟩,
 ⟨(some 6), .mv, [(.t 61)], none, []⟩] 0 [6])
 .ret)
 .skip))
 (.seq
 (.seq
 (.reg false [] [] [
 ⟨(some 62), .mv, [(.t 14)], none, []⟩,
 ⟨(some 63), (.bin 0 .neq), [(.t 62), (.c (.int .i64 0))], none, []⟩,
 ⟨(some 64), .mv, [(.t 63)], none, []⟩,
 ⟨(some 65), (.fa 0), [(.t 11)], (some (64, false)), [68, 69]⟩,
 ⟨(some 66), (.load none), [(.t 65)], (some (64, false)), [68, 69]⟩,
 ⟨(some 67), .len, [(.t 66)], (some (64, false)), [68, 69]⟩,
 ⟨(some 68), (.load (some 6)), [(.t 3)], (some (64, false)), [65, 66, 67]⟩,
 ⟨(some 69), (.call true false false), [(.f 41), (.t 68)], (some (64, false)), [65, 66, 67]⟩,
 ⟨(some 70), (.bin 0 .neq), [(.t 67), (.t 69)], (some (64, false)), []⟩,
 ⟨(some 71), .pick, [(.t 64), (.c (.bool true)), (.t 70)], none, []⟩,
 ⟨(some 72), .mv, [(.t 71)], none, []⟩,
 ⟨(some 73), (.fa 0), [(.t 12)], (some (72, false)), [76, 77]⟩,
 ⟨(some 74), (.load none), [(.t 73)], (some (72, false)), [76, 77]⟩,
 ⟨(some 75), .len, [(.t 74)], (some (72, false)), [76, 77]⟩,
 ⟨(some 76), (.load (some 6)), [(.t 3)], (some (72, false)), [73, 74, 75]⟩,
 ⟨(some 77), (.call true false false), [(.f 41), (.t 76)], (some (72, false)), [73, 74, 75]⟩,
 ⟨(some 78), (.bin 0 .neq), [(.t 75), (.t 77)], (some (72, false)), []⟩,
 ⟨(some 79), .pick, [(.t 72), (.c (.bool true)), (.t 78)], none, []⟩] 0 [7, 8, 9, 10, 11, 12, 13, 79])
 (.cond (.t 79)
 (.seq
 (.reg false [] [] [
 ⟨(some 6), .mv, [(.c (.bool false))], none, []⟩] 0 [6])
 .ret)
 .skip))
 (.seq
 (.reg false [83] [83] [
 ⟨(some 81), (.load (some 8)), [(.t 7)], none, [82, 83, 84]⟩,
 ⟨(some 82), (.load (some 3)), [(.t 11)], none, [81, 84]⟩,
 ⟨(some 83), (.call true false true), [(.f 15), (.t 82)], none, [81, 84]⟩,
 ⟨(some 84), (.load (some 2)), [(.t 8)], none, [81, 82, 83]⟩,
 ⟨(some 85), (.call false false false), [(.f 17), (.t 81), (.t 83), (.t 84)], none, []⟩,
 ⟨(some 80), .mv, [(.t 85)], none, []⟩,
 ⟨(some 86), (.ext 0), [(.t 80)], none, [87]⟩,
 ⟨(some 87), (.ext 1), [(.t 80)], none, [86, 15]⟩,
 ⟨(some 15), .mv, [(.t 86)], none, [87]⟩,
 ⟨(some 16), .mv, [(.t 87)], none, []⟩] 0 [7, 8, 9, 10, 11, 12, 13, 15, 16])
 (.seq
 (.reg false [91] [91] [
 ⟨(some 89), (.load (some 8)), [(.t 7)], none, [90, 91, 92]⟩,
 ⟨(some 90), (.load (some 3)), [(.t 12)], none, [89, 92]⟩,
 ⟨(some 91), (.call true false true), [(.f 15), (.t 90)], none, [89, 92]⟩,
 ⟨(some 92), (.load (some 2)), [(.t 8)], none, [89, 90, 91]⟩,
 ⟨(some 93), (.call false false false), [(.f 18), (.t 89), (.t 91), (.t 92)], none, []⟩,
 ⟨(some 88), .mv, [(.t 93)], none, []⟩,
 ⟨(some 94), (.ext 0), [(.t 88)], none, [95]⟩,
 ⟨(some 95), (.ext 1), [(.t 88)], none, [94, 17]⟩,
 ⟨(some 17), .mv, [(.t 94)], none, [95]⟩,
 ⟨(some 18), .mv, [(.t 95)], none, []⟩] 0 [7, 8, 9, 10, 11, 12, 13, 15, 16, 17, 18])
 (.seq
 (.reg false [] [] [
 ⟨(some 97), (.load (some 3)), [(.t 11)], none, []⟩,
 ⟨(some 98), (.load (some 3)), [(.t 12)], none, []⟩,
 ⟨(some 99), (.load (some 2)), [(.t 8)], none, []⟩,
 ⟨(some 100), (.call false false false), [(.f 43), (.t 97), (.t 98), (.t 99)], none, []⟩,
 ⟨(some 96), .mv, [(.t 100)], none, []⟩,
 ⟨(some 101), (.ext 0), [(.t 96)], none, []⟩,
 ⟨(some 102), (.ext 1), [(.t 96)], none, []⟩,
 ⟨(some 19), .mv, [(.t 101)], none, []⟩,
 ⟨(some 20), .mv, [(.t 102)], none, []⟩] 0 [7, 9, 10, 13, 15, 16, 17, 18, 19, 20])
 (.seq
 (.seq
 (.reg false [] [] [
 ⟨(some 103), .mv, [(.t 16)], none, []⟩,
 ⟨(some 104), (.bin 0 .neq), [(.t 103), (.c (.int .i64 0))], none, []⟩,
 ⟨(some 105), .mv, [(.t 104)], none, []⟩,
 ⟨(some 106), .mv, [(.t 18)], (some (105, false)), []⟩,
 ⟨(some 107), (.bin 0 .neq), [(.t 106), (.c (.int .i64 0))], (some (105, false)), []⟩,
 ⟨(some 108), .pick, [(.t 105), (.c (.bool true)), (.t 107)], none, []⟩,
 ⟨(some 109), .mv, [(.t 108)], none, []⟩,
 ⟨(some 110), .mv, [(.t 20)], (some (109, false)), []⟩,
 ⟨(some 111), (.un .not), [(.t 110)], (some (109, false)), []⟩,
 ⟨(some 112), .pick, [(.t 109), (.c (.bool true)), (.t 111)], none, []⟩,
 ⟨(some 113), .mv, [(.t 112)], none, []⟩,
 ⟨(some 114), .mv, [(.t 19)], (some (113, false)), []⟩,
 ⟨(some 115), .mv, [(.t 13)], (some (113, false)), []⟩,
 ⟨(some 116), (.bin 1 .neq), [(.t 114), (.t 115)], (some (113, false)), []⟩,
 ⟨(some 117), .pick, [(.t 113), (.c (.bool true)), (.t 116)], none, []⟩,
 ⟨(some 118), .mv, [(.t 117)], none, []⟩,
 ⟨(some 119), .mv, [(.t 15)], (some (118, false)), []⟩,
 ⟨(some 120), .mv, [(.t 9)], (some (118, false)), []⟩,
 ⟨(some 121), (.bin 0 .gtr), [(.t 119), (.t 120)], (some (118, false)), []⟩,
 ⟨(some 122), .pick, [(.t 118), (.c (.bool true)), (.t 121)], none, []⟩,
 ⟨(some 123), .mv, [(.t 122)], none, []⟩,
 ⟨(some 124), .mv, [(.t 17)], (some (123, false)), []⟩,
 ⟨(some 125), .mv, [(.t 10)], (some (123, false)), []⟩,
 ⟨(some 126), (.bin 0 .lss), [(.t 124), (.t 125)], (some (123, false)), []⟩,
 ⟨(some 127), .pick, [(.t 123), (.c (.bool true)), (.t 126)], none, []⟩] 0 [7, 9, 10, 13, 127])
 (.cond (.t 127)
 (.seq
 (.reg false [] [] [
 ⟨(some 6), .mv, [(.c (.bool false))], none, []⟩] 0 [6])
 .ret)
 .skip))
 (.seq
 (.reg false [] [] [
 ⟨(some 128), .mv, [(.t 9)], none, []⟩,
 ⟨(some 129), .mv, [(.t 10)], none, []⟩,
 ⟨(some 130), (.bin 0 .gtr), [(.t 128), (.t 129)], none, []⟩,
 ⟨(some 131), .mv, [(.t 130)], none, []⟩,
 ⟨(some 132), .mv, [(.t 13)], (some (131, false)), []⟩,
 ⟨(some 133), .pick, [(.t 131), (.c (.bool true)), (.t 132)], none, []⟩,
 ⟨(some 134), .mv, [(.t 133)], none, []⟩,
 ⟨(some 135), .mv, [(.t 9)], (some (134, true)), []⟩,
 ⟨(some 136), .mv, [(.t 10)], (some (134, true)), []⟩,
 ⟨(some 137), (.bin 0 .sub), [(.t 135), (.t 136)], (some (134, true)), []⟩,
 ⟨(some 138), (.fa 1), [(.t 7)], (some (134, true)), []⟩,
 ⟨(some 139), (.load none), [(.t 138)], (some (134, true)), []⟩,
 ⟨(some 140), (.fa 2), [(.t 7)], (some (134, true)), []⟩,
 ⟨(some 141), (.load none), [(.t 140)], (some (134, true)), []⟩,
 ⟨(some 142), (.bin 0 .add), [(.t 139), (.t 141)], (some (134, true)), []⟩,
 ⟨(some 143), (.bin 0 .mul), [(.t 137), (.t 142)], (some (134, true)), []⟩,
 ⟨(some 144), (.bin 0 .leq), [(.t 143), (.c (.int .i64 4000))], (some (134, true)), []⟩,
 ⟨(some 145), .mv, [(.t 144)], (some (134, true)), []⟩,
 ⟨(some 146), .mv, [(.t 13)], (some (145, false)), []⟩,
 ⟨(some 147), (.un .not), [(.t 146)], (some (145, false)), []⟩,
 ⟨(some 148), .pick, [(.t 145), (.c (.bool true)), (.t 147)], (some (134, true)), []⟩,
 ⟨(some 149), .pick, [(.t 134), (.t 148), (.c (.bool false))], none, []⟩,
 ⟨(some 150), .mv, [(.t 149)], none, []⟩,
 ⟨(some 151), (.call false false false), [(.f 14)], (some (150, true)), []⟩,
 ⟨(some 152), .pick, [(.t 150), (.t 151), (.c (.bool false))], none, []⟩,
 ⟨(some 6), .mv, [(.t 152)], none, []⟩] 0 [6])
 .ret))))))))))),
 [(.t 6)]⟩
theorem c9 : funC Try.prog [(0, [3, 4, 5]), (1, [3, 4, 7, 8]), (2, [3, 7, 8, 9, 10]), (3, [3, 7, 8, 9, 10, 11, 12, 13, 14]), (4, [3, 7, 8, 9, 10, 11, 12, 13, 14, 46]), (5, [6]), (6, [7, 8, 9, 10, 11, 12, 13, 79]), (7, [6]), (8, [7, 8, 9, 10, 11, 12, 13, 15, 16]), (9, [7, 8, 9, 10, 11, 12, 13, 15, 16, 17, 18]), (10, [7, 9, 10, 13, 15, 16, 17, 18, 19, 20]), (11, [7, 9, 10, 13, 127]), (12, [6]), (13, [6])] Try.f9 = some (unF l9) := by kernel_rfl
/-- acme/acmelaw03.FitRange -/
def b10_0 : LCode :=
 (.seq
 (.seq
 (.reg true [] [] [
 ⟨(some 83), .mv, [(.t 19)], none, []⟩,
 ⟨(some 84), (.bin 0 .lss), [(.t 83), (.c (.int .i64 54))], none, []⟩] 0 [4, 7, 8, 9, 10, 11, 13, 14, 15, 16, 17, 18, 19, 20, 21, 84])
 (.cond (.t 84)
 .skip
 (.exit 0)))
 (.seq
 (.block 1
 (.seq
 (.reg true [20, 21] [20, 21] [
 ⟨(some 87), .mv, [(.t 13)], none, [88, 89, 91, 92, 94, 95, 96, 97, 98, 99, 100, 101, 102, 103, 104, 20, 21]⟩,
 ⟨(some 88), (.fa 0), [(.t 10)], none, [87, 91, 92, 94, 95, 96, 97, 98, 99, 100, 101, 102, 103, 104, 20, 21]⟩,
 ⟨(some 89), (.load (some 2)), [(.t 88)], none, [87, 91, 92, 94, 95, 96, 97, 98, 99, 100, 101, 102, 103, 104, 20, 21]⟩,
 ⟨(some 90), (.call true false false), [(.t 87), (.t 89), (.c (.int .i64 0))], none, [91, 92, 94, 95, 96, 97, 98, 99, 100, 101, 102, 103, 104, 20, 21]⟩,
 ⟨(some 91), .mv, [(.t 19)], none, [87, 88, 89, 90, 94, 95, 96, 97, 98, 99, 100, 101, 102, 103, 104, 20, 21]⟩,
 ⟨(some 92), (.bin 0 .rem), [(.t 91), (.c (.int .i64 3))], none, [87, 88, 89, 90, 94, 95, 96, 97, 98, 99, 100, 101, 102, 103, 104, 20, 21]⟩,
 ⟨(some 93), (.idx 3 1 none), [(.t 90), (.t 92)], none, [94, 95, 96, 97, 98, 99, 100, 101, 102, 103, 104, 20, 21]⟩,
 ⟨(some 94), (.fa 2), [(.t 10)], none, [87, 88, 89, 90, 91, 92, 93, 97, 98, 99, 101, 102, 103, 20, 21]⟩,
 ⟨(some 95), (.fa 0), [(.t 94)], none, [87, 88, 89, 90, 91, 92, 93, 97, 98, 99, 101, 102, 103, 20, 21]⟩,
 ⟨(some 96), (.load none), [(.t 95)], none, [87, 88, 89, 90, 91, 92, 93, 97, 98, 99, 101, 102, 103, 20, 21]⟩,
 ⟨(some 97), (.fa 2), [(.t 10)], none, [87, 88, 89, 90, 91, 92, 93, 94, 95, 96, 101, 102, 103, 20, 21]⟩,
 ⟨(some 98), (.fa 1), [(.t 97)], none, [87, 88, 89, 90, 91, 92, 93, 94, 95, 96, 101, 102, 103, 20, 21]⟩,
 ⟨(some 99), (.load none), [(.t 98)], none, [87, 88, 89, 90, 91, 92, 93, 94, 95, 96, 101, 102, 103, 20, 21]⟩,
 ⟨(some 100), (.build [(.int .i64 0), (.int .i64 0)] [(0, 1), (1, 1)]), [(.t 96), (.t 99)], none, [87, 88, 89, 90, 91, 92, 93, 101, 102, 103, 20, 21]⟩,
 ⟨(some 101), .mv, [(.t 19)], none, [87, 88, 89, 90, 91, 92, 93, 94, 95, 96, 97, 98, 99, 100, 20, 21]⟩,
 ⟨(some 102), (.bin 0 .quo), [(.t 101), (.c (.int .i64 3))], none, [87, 88, 89, 90, 91, 92, 93, 94, 95, 96, 97, 98, 99, 100, 20, 21]⟩,
 ⟨(some 103), (.bin 0 .rem), [(.t 102), (.c (.int .i64 2))], none, [87, 88, 89, 90, 91, 92, 93, 94, 95, 96, 97, 98, 99, 100, 20, 21]⟩,
 ⟨(some 104), (.idx 2 1 none), [(.t 100), (.t 103)], none, [87, 88, 89, 90, 91, 92, 93, 20, 21]⟩,
 ⟨(some 20), (.alloc [(.int .i64 0)]), [], none, [87, 88, 89, 90, 91, 92, 93, 94, 95, 96, 97, 98, 99, 100, 101, 102, 103, 104, 21]⟩,
 ⟨(some 21), (.alloc [(.int .i64 0)]), [], none, [87, 88, 89, 90, 91, 92, 93, 94, 95, 96, 97, 98, 99, 100, 101, 102, 103, 104, 20]⟩,
 ⟨none, (.store 1 (some 20)), [(.t 20), (.t 93)], none, [94, 95, 96, 97, 98, 99, 100, 101, 102, 103, 104]⟩,
 ⟨none, (.store 1 (some 21)), [(.t 21), (.t 104)], none, []⟩] 0 [4, 7, 8, 9, 10, 11, 13, 14, 15, 16, 17, 18, 19, 20, 21])
 (.seq
 (.reg true [] [] [
 ⟨(some 105), .mv, [(.t 14)], none, [106, 107, 108, 109, 110, 111, 112, 113, 114, 115, 116, 117, 118, 119, 120, 121, 122, 123, 124, 125, 126]⟩,
 ⟨(some 106), (.mkf 50), [(.t 20)], none, [105, 107, 108, 109, 110, 111, 112, 113, 114, 115, 116, 117, 118, 119, 120, 121, 122, 123, 124, 125, 126]⟩,
 ⟨(some 107), (.mkf 51), [(.t 21)], none, [105, 106, 108, 109, 110, 111, 112, 113, 114, 115, 116, 117, 118, 119, 120, 121, 122, 123, 124, 125, 126]⟩,
 ⟨(some 108), .mv, [(.t 13)], none, [105, 106, 107, 109, 110, 111, 112, 114, 115, 116, 118, 119, 120, 121, 122, 124, 125]⟩,
 ⟨(some 109), (.fa 4), [(.t 10)], none, [105, 106, 107, 108, 111, 112, 114, 115, 116, 118, 119, 120, 121, 122, 124, 125]⟩,
 ⟨(some 110), (.load (some 2)), [(.t 109)], none, [105, 106, 107, 108, 111, 112, 114, 115, 116, 118, 119, 120, 121, 122, 124, 125]⟩,
 ⟨(some 111), (.fa 1), [(.t 7)], none, [105, 106, 107, 108, 109, 110, 114, 115, 116, 118, 119, 120, 121, 122, 124, 125]⟩,
 ⟨(some 112), (.load none), [(.t 111)], none, [105, 106, 107, 108, 109, 110, 114, 115, 116, 118, 119, 120, 121, 122, 124, 125]⟩,
 ⟨(some 113), (.call true false false), [(.t 108), (.t 110), (.t 112)], none, [105, 106, 107, 114, 115, 116, 118, 119, 120, 121, 122, 124, 125]⟩,
 ⟨(some 114), .mv, [(.t 19)], none, [105, 106, 107, 108, 109, 110, 111, 112, 113, 118, 119, 120, 121, 122, 123, 124, 125, 126]⟩,
 ⟨(some 115), (.bin 0 .quo), [(.t 114), (.c (.int .i64 6))], none, [105, 106, 107, 108, 109, 110, 111, 112, 113, 118, 119, 120, 121, 122, 123, 124, 125, 126]⟩,
 ⟨(some 116), (.bin 0 .rem), [(.t 115), (.c (.int .i64 3))], none, [105, 106, 107, 108, 109, 110, 111, 112, 113, 118, 119, 120, 121, 122, 123, 124, 125, 126]⟩,
 ⟨(some 117), (.idx 3 1 none), [(.t 113), (.t 116)], none, [105, 106, 107, 118, 119, 120, 121, 122, 123, 124, 125, 126]⟩,
 ⟨(some 118), .mv, [(.t 13)], none, [105, 106, 107, 108, 109, 110, 111, 112, 113, 114, 115, 116, 117, 119, 120, 121, 122, 124, 125]⟩,
 ⟨(some 119), (.fa 6), [(.t 10)], none, [105, 106, 107, 108, 109, 110, 111, 112, 113, 114, 115, 116, 117, 118, 121, 122, 124, 125]⟩,
 ⟨(some 120), (.load (some 2)), [(.t 119)], none, [105, 106, 107, 108, 109, 110, 111, 112, 113, 114, 115, 116, 117, 118, 121, 122, 124, 125]⟩,
 ⟨(some 121), (.fa 2), [(.t 7)], none, [105, 106, 107, 108, 109, 110, 111, 112, 113, 114, 115, 116, 117, 118, 119, 120, 124, 125]⟩,
 ⟨(some 122), (.load none), [(.t 121)], none, [105, 106, 107, 108, 109, 110, 111, 112, 113, 114, 115, 116, 117, 118, 119, 120, 124, 125]⟩,
 ⟨(some 123), (.call true false false), [(.t 118), (.t 120), (.t 122)], none, [105, 106, 107, 114, 115, 116, 117, 124, 125]⟩,
 ⟨(some 124), .mv, [(.t 19)], none, [105, 106, 107, 108, 109, 110, 111, 112, 113, 114, 115, 116, 117, 118, 119, 120, 121, 122, 123]⟩,
 ⟨(some 125), (.bin 0 .quo), [(.t 124), (.c (.int .i64 18))], none, [105, 106, 107, 108, 109, 110, 111, 112, 113, 114, 115, 116, 117, 118, 119, 120, 121, 122, 123]⟩,
 ⟨(some 126), (.idx 3 1 none), [(.t 123), (.t 125)], none, [105, 106, 107, 114, 115, 116, 117]⟩,
 ⟨(some 127), (.call false false false), [(.t 105), (.t 106), (.t 107), (.t 117), (.t 126)], none, []⟩,
 ⟨(some 22), .mv, [(.t 127)], none, []⟩] 0 [4, 7, 8, 9, 10, 11, 13, 14, 15, 16, 17, 18, 19, 20, 21, 22])
 (.seq
 (.seq
 (.reg true [] [] [
 ⟨(some 128), .mv, [(.t 22)], none, []⟩,
 ⟨(some 129), (.fa 0), [(.t 11)], none, []⟩,
 ⟨(some 130), (.load none), [(.t 129)], none, []⟩,
 ⟨(some 131), (.bin 0 .lss), [(.t 128), (.t 130)], none, []⟩,
 ⟨(some 132), .mv, [(.t 131)], none, []⟩,
 ⟨(some 133), .mv, [(.t 22)], (some (132, false)), []⟩,
 ⟨(some 134), (.fa 1), [(.t 11)], (some (132, false)), []⟩,
 ⟨(some 135), (.load none), [(.t 134)], (some (132, false)), []⟩,
 ⟨(some 136), (.bin 0 .gtr), [(.t 133), (.t 135)], (some (132, false)), []⟩,
 ⟨(some 137), .pick, [(.t 132), (.c (.bool true)), (.t 136)], none, []⟩] 0 [4, 7, 8, 9, 10, 11, 13, 14, 15, 16, 17, 18, 19, 20, 21, 22, 137])
 (.cond (.t 137)
 (.seq
 (.reg true [] [] [
 ⟨(some 6), .mv, [(.c (.bool false))], none, []⟩] 0 [4, 6, 7, 8, 9, 10, 15, 20, 21])
 .ret)
 .skip))
 (.reg true [] [] [
 ⟨(some 138), .mv, [(.t 17)], none, [145]⟩,
 ⟨(some 139), .mv, [(.t 138)], none, [145]⟩,
 ⟨(some 140), .mv, [(.t 22)], (some (139, false)), [141, 142, 145, 146, 147, 148, 149, 150, 151]⟩,
 ⟨(some 141), (.fa 0), [(.t 11)], (some (139, false)), [140, 145, 146, 147, 148, 149, 150, 151]⟩,
 ⟨(some 142), (.load none), [(.t 141)], (some (139, false)), [140, 145, 146, 147, 148, 149, 150, 151]⟩,
 ⟨(some 143), (.bin 0 .eql), [(.t 140), (.t 142)], (some (139, false)), [145, 146, 147, 148, 149, 150, 151]⟩,
 ⟨(some 144), .pick, [(.t 139), (.c (.bool true)), (.t 143)], none, [145, 146, 147, 148, 149, 150, 151]⟩,
 ⟨(some 145), .mv, [(.t 18)], none, [138, 139, 140, 141, 142, 143, 144]⟩,
 ⟨(some 146), .mv, [(.t 145)], none, [140, 141, 142, 143, 144]⟩,
 ⟨(some 147), .mv, [(.t 22)], (some (146, false)), [140, 141, 142, 143, 144, 148, 149, 17]⟩,
 ⟨(some 148), (.fa 1), [(.t 11)], (some (146, false)), [140, 141, 142, 143, 144, 147, 17]⟩,
 ⟨(some 149), (.load none), [(.t 148)], (some (146, false)), [140, 141, 142, 143, 144, 147, 17]⟩,
 ⟨(some 150), (.bin 0 .eql), [(.t 147), (.t 149)], (some (146, false)), [140, 141, 142, 143, 144, 17]⟩,
 ⟨(some 151), .pick, [(.t 146), (.c (.bool true)), (.t 150)], none, [140, 141, 142, 143, 144, 17]⟩,
 ⟨(some 17), .mv, [(.t 144)], none, [147, 148, 149, 150, 151]⟩,
 ⟨(some 18), .mv, [(.t 151)], none, []⟩] 0 [4, 7, 8, 9, 10, 11, 13, 14, 15, 16, 17, 18, 19, 20, 21])))))
 (.reg true [] [] [
 ⟨(some 85), .mv, [(.t 19)], none, []⟩,
 ⟨(some 86), (.bin 0 .add), [(.t 85), (.c (.int .i64 1))], none, []⟩,
 ⟨(some 19), .mv, [(.t 86)], none, []⟩] 0 [4, 7, 8, 9, 10, 11, 13, 14, 15, 16, 17, 18, 19, 20, 21])))
def l10 : LFun := ⟨3, 171, [],
 (.seq
 (.reg false [3, 4, 5] [3, 4, 5] [
 ⟨(some 3), .box, [(.t 0)], none, []⟩,
 ⟨(some 4), .box, [(.t 1)], none, []⟩,
 ⟨(some 5), .box, [(.t 2)], none, []⟩,
 ⟨(some 6), .mv, [(.c (.bool false))], none, []⟩] 0 [3, 4, 5, 7, 8, 9, 10, 15, 20, 21])
 (.seq
 (.reg false [7, 8, 9] [7, 8, 9] [
 ⟨(some 23), (.load (some 6)), [(.t 3)], none, [25, 27, 28, 29, 30, 31, 7, 8, 9]⟩,
 ⟨(some 24), (.call true false false), [(.f 39), (.t 23)], none, [25, 27, 28, 29, 30, 31, 7, 8, 9]⟩,
 ⟨(some 25), (.load (some 2)), [(.t 5)], none, [23, 24, 27, 28, 29, 30, 31, 7, 8, 9]⟩,
 ⟨(some 26), (.call true false false), [(.f 40), (.t 25)], none, [27, 28, 29, 30, 31, 7, 8, 9]⟩,
 ⟨(some 27), (.fa 8), [(.t 4)], none, [23, 24, 25, 26, 7, 8, 9]⟩,
 ⟨(some 28), (.load none), [(.t 27)], none, [23, 24, 25, 26, 7, 8, 9]⟩,
 ⟨(some 29), (.conv .i64), [(.t 28)], none, [23, 24, 25, 26, 7, 8, 9]⟩,
 ⟨(some 30), (.bin 0 .rem), [(.t 29), (.c (.int .i64 9))], none, [23, 24, 25, 26, 7, 8, 9]⟩,
 ⟨(some 31), (.bin 0 .add), [(.c (.int .i64 1)), (.t 30)], none, [23, 24, 25, 26, 7, 8, 9]⟩,
 ⟨(some 7), (.alloc [(.int .i64 0), (.int .i64 0), (.int .i64 0), (.int .i64 0), (.int .i64 0), (.int .i64 0), (.bool false), (.int .i64 0)]), [], none, [23, 24, 25, 26, 27, 28, 29, 30, 31, 8, 9]⟩,
 ⟨(some 8), (.alloc [(.int .i64 0), (.int .i64 0)]), [], none, [23, 24, 25, 26, 27, 28, 29, 30, 31, 7, 9]⟩,
 ⟨(some 9), (.alloc [(.int .i64 0)]), [], none, [23, 24, 25, 26, 27, 28, 29, 30, 31, 7, 8]⟩,
 ⟨none, (.store 8 (some 7)), [(.t 7), (.t 24)], none, [27, 28, 29, 30, 31]⟩,
 ⟨none, (.store 2 (some 8)), [(.t 8), (.t 26)], none, [27, 28, 29, 30, 31]⟩,
 ⟨none, (.store 1 (some 9)), [(.t 9), (.t 31)], none, []⟩] 0 [4, 7, 8, 9, 10, 15, 20, 21])
 (.seq
 (.reg false [10] [10] [
 ⟨(some 32), (.fa 0), [(.t 4)], none, [35, 36, 37, 38, 39, 41, 42, 43, 44, 46, 47, 48, 49, 10]⟩,
 ⟨(some 33), (.load (some 2)), [(.t 32)], none, [35, 36, 37, 38, 39, 41, 42, 43, 44, 46, 47, 48, 49, 10]⟩,
 ⟨(some 34), (.call true false false), [(.f 44), (.c (.int .i64 0)), (.c (.int .i64 (-1000))), (.t 33)], none, [35, 36, 37, 38, 39, 41, 42, 43, 44, 46, 47, 48, 49, 10]⟩,
 ⟨(some 35), (.fa 0), [(.t 7)], none, [32, 33, 34, 38, 39, 41, 42, 43, 44, 46, 47, 48, 49, 10]⟩,
 ⟨(some 36), (.load none), [(.t 35)], none, [32, 33, 34, 38, 39, 41, 42, 43, 44, 46, 47, 48, 49, 10]⟩,
 ⟨(some 37), (.bin 0 .quo), [(.t 36), (.c (.int .i64 2))], none, [32, 33, 34, 38, 39, 41, 42, 43, 44, 46, 47, 48, 49, 10]⟩,
 ⟨(some 38), (.fa 2), [(.t 4)], none, [32, 33, 34, 35, 36, 37, 41, 42, 43, 44, 46, 47, 48, 49, 10]⟩,
 ⟨(some 39), (.load (some 2)), [(.t 38)], none, [32, 33, 34, 35, 36, 37, 41, 42, 43, 44, 46, 47, 48, 49, 10]⟩,
 ⟨(some 40), (.call true false false), [(.f 44), (.t 37), (.c (.int .i64 0)), (.t 39)], none, [41, 42, 43, 44, 46, 47, 48, 49, 10]⟩,
 ⟨(some 41), (.fa 1), [(.t 7)], none, [32, 33, 34, 35, 36, 37, 38, 39, 40, 43, 44, 46, 47, 48, 49, 10]⟩,
 ⟨(some 42), (.load none), [(.t 41)], none, [32, 33, 34, 35, 36, 37, 38, 39, 40, 43, 44, 46, 47, 48, 49, 10]⟩,
 ⟨(some 43), (.fa 4), [(.t 4)], none, [32, 33, 34, 35, 36, 37, 38, 39, 40, 41, 42, 46, 47, 48, 49, 10]⟩,
 ⟨(some 44), (.load (some 2)), [(.t 43)], none, [32, 33, 34, 35, 36, 37, 38, 39, 40, 41, 42, 46, 47, 48, 49, 10]⟩,
 ⟨(some 45), (.call true false false), [(.f 44), (.t 42), (.c (.int .i64 0)), (.t 44)], none, [46, 47, 48, 49, 10]⟩,
 ⟨(some 46), (.fa 2), [(.t 7)], none, [32, 33, 34, 35, 36, 37, 38, 39, 40, 41, 42, 43, 44, 45, 48, 49, 10]⟩,
 ⟨(some 47), (.load none), [(.t 46)], none, [32, 33, 34, 35, 36, 37, 38, 39, 40, 41, 42, 43, 44, 45, 48, 49, 10]⟩,
 ⟨(some 48), (.fa 6), [(.t 4)], none, [32, 33, 34, 35, 36, 37, 38, 39, 40, 41, 42, 43, 44, 45, 46, 47, 10]⟩,
 ⟨(some 49), (.load (some 2)), [(.t 48)], none, [32, 33, 34, 35, 36, 37, 38, 39, 40, 41, 42, 43, 44, 45, 46, 47, 10]⟩,
 ⟨(some 50), (.call false false false), [(.f 44), (.t 47), (.c (.int .i64 0)), (.t 49)], none, [10]⟩,
 ⟨(some 51), (.build [(.int .i64 0), (.int .i64 0), (.int .i64 0), (.int .i64 0), (.int .i64 0), (.int .i64 0), (.int .i64 0), (.int .i64 0)] [(0, 2), (2, 2), (4, 2), (6, 2)]), [(.t 34), (.t 40), (.t 45), (.t 50)], none, [10]⟩,
 ⟨(some 10), (.alloc [(.int .i64 0), (.int .i64 0), (.int .i64 0), (.int .i64 0), (.int .i64 0), (.int .i64 0), (.int .i64 0), (.int .i64 0)]), [], none, [32, 33, 34, 35, 36, 37, 38, 39, 40, 41, 42, 43, 44, 45, 46, 47, 48, 49, 50, 51]⟩,
 ⟨none, (.store 8 (some 10)), [(.t 10), (.t 51)], none, []⟩] 0 [4, 7, 8, 9, 10, 15, 20, 21])
 (.seq
 (.reg false [11] [11] [
 ⟨(some 53), (.load (some 8)), [(.t 7)], none, []⟩,
 ⟨(some 54), (.load (some 8)), [(.t 10)], none, []⟩,
 ⟨(some 55), (.load none), [(.t 9)], none, []⟩,
 ⟨(some 56), (.load (some 2)), [(.t 8)], none, []⟩,
 ⟨(some 57), (.call false false false), [(.f 35), (.t 53), (.t 54), (.t 55), (.t 56)], none, []⟩,
 ⟨(some 52), .mv, [(.t 57)], none, []⟩,
 ⟨(some 58), (.ext 0), [(.t 52)], none, []⟩,
 ⟨(some 59), (.ext 1), [(.t 52)], none, []⟩,
 ⟨(some 11), (.alloc [(.int .i64 0), (.int .i64 0)]), [], none, []⟩,
 ⟨none, (.store 2 none), [(.t 11), (.t 58)], none, []⟩,
 ⟨(some 12), .mv, [(.t 59)], none, []⟩] 0 [4, 7, 8, 9, 10, 11, 12, 15, 20, 21])
 (.seq
 (.seq
 (.reg false [] [] [
 ⟨(some 60), .mv, [(.t 12)], none, []⟩,
 ⟨(some 61), (.bin 0 .neq), [(.t 60), (.c (.int .i64 0))], none, []⟩,
 ⟨(some 62), .mv, [(.t 61)], none, []⟩,
 ⟨(some 63), (.fa 0), [(.t 11)], (some (62, false)), []⟩,
 ⟨(some 64), (.load none), [(.t 63)], (some (62, false)), []⟩,
 ⟨(some 65), (.fa 1), [(.t 11)], (some (62, false)), []⟩,
 ⟨(some 66), (.load none), [(.t 65)], (some (62, false)), []⟩,
 ⟨(some 67), (.bin 0 .gtr), [(.t 64), (.t 66)], (some (62, false)), []⟩,
 ⟨(some 68), .pick, [(.t 62), (.c (.bool true)), (.t 67)], none, []⟩] 0 [4, 7, 8, 9, 10, 11, 15, 20, 21, 68])
 (.cond (.t 68)
 (.seq
 (.reg false [] [] [
 ⟨(some 6), .mv, [(.c (.bool false))], none, []⟩] 0 [4, 6, 7, 8, 9, 10, 15, 20, 21])
 .ret)
 .skip))
 (.seq
 (.reg false [] [] [
 ⟨(some 13), .mv, [(.f 45)], none, []⟩] 0 [4, 7, 8, 9, 10, 11, 13, 15, 20, 21])
 (.seq
 (.reg false [] [] [
 ⟨(some 69), (.mkf 46), [(.t 9), (.t 7), (.t 8)], none, []⟩,
 ⟨(some 14), .mv, [(.t 69)], none, []⟩] 0 [4, 7, 8, 9, 10, 11, 13, 14, 15, 20, 21])
 (.seq
 (.reg false [15] [15] [
 ⟨(some 70), (.mkf 47), [(.t 4)], none, []⟩,
 ⟨(some 15), (.alloc [.dead]), [], none, []⟩,
 ⟨none, (.store 1 none), [(.t 15), (.t 70)], none, []⟩] 0 [4, 7, 8, 9, 10, 11, 13, 14, 15, 20, 21])
 (.seq
 (.reg false [] [] [
 ⟨(some 71), .mv, [(.t 14)], none, [72, 73, 74, 75, 76, 77, 78, 79, 80, 81]⟩,
 ⟨(some 72), (.mkf 48), [(.t 15), (.t 10)], none, [71, 73, 74, 75, 76, 77, 78, 79, 80, 81]⟩,
 ⟨(some 73), (.mkf 49), [(.t 15), (.t 10)], none, [71, 72, 74, 75, 76, 77, 78, 79, 80, 81]⟩,
 ⟨(some 74), (.load none), [(.t 15)], none, [71, 72, 73, 75, 76, 78, 79, 80]⟩,
 ⟨(some 75), (.fa 4), [(.t 10)], none, [71, 72, 73, 74, 78, 79, 80]⟩,
 ⟨(some 76), (.load (some 2)), [(.t 75)], none, [71, 72, 73, 74, 78, 79, 80]⟩,
 ⟨(some 77), (.call true false false), [(.t 74), (.t 76), (.c (.int .i64 3))], none, [71, 72, 73, 78, 79, 80]⟩,
 ⟨(some 78), (.load none), [(.t 15)], none, [71, 72, 73, 74, 75, 76, 77, 79, 80]⟩,
 ⟨(some 79), (.fa 6), [(.t 10)], none, [71, 72, 73, 74, 75, 76, 77, 78]⟩,
 ⟨(some 80), (.load (some 2)), [(.t 79)], none, [71, 72, 73, 74, 75, 76, 77, 78]⟩,
 ⟨(some 81), (.call true false false), [(.t 78), (.t 80), (.c (.int .i64 5))], none, [71, 72, 73]⟩,
 ⟨(some 82), (.call false false false), [(.t 71), (.t 72), (.t 73), (.t 77), (.t 81)], none, []⟩,
 ⟨(some 16), .mv, [(.t 82)], none, []⟩] 0 [4, 7, 8, 9, 10, 11, 13, 14, 15, 16, 20, 21])
 (.seq
 (.reg false [] [] [
 ⟨(some 17), .mv, [(.c (.bool false))], none, []⟩,
 ⟨(some 18), .mv, [(.c (.bool false))], none, []⟩] 0 [4, 7, 8, 9, 10, 11, 13, 14, 15, 16, 17, 18, 20, 21])
 (.seq
 (.seq
 (.reg false [] [] [
 ⟨(some 19), .mv, [(.c (.int .i64 0))], none, []⟩] 0 [4, 7, 8, 9, 10, 11, 13, 14, 15, 16, 17, 18, 19, 20, 21])
 (.block 0
 (.loop b10_0)))
 (.seq
 (.reg false [] [] [
 ⟨(some 152), .mv, [(.t 16)], none, []⟩,
 ⟨(some 153), (.fa 0), [(.t 11)], none, []⟩,
 ⟨(some 154), (.load none), [(.t 153)], none, []⟩,
 ⟨(some 155), (.bin 0 .geq), [(.t 152), (.t 154)], none, []⟩,
 ⟨(some 156), .mv, [(.t 155)], none, []⟩,
 ⟨(some 157), .mv, [(.t 16)], (some (156, true)), []⟩,
 ⟨(some 158), (.fa 1), [(.t 11)], (some (156, true)), []⟩,
 ⟨(some 159), (.load none), [(.t 158)], (some (156, true)), []⟩,
 ⟨(some 160), (.bin 0 .leq), [(.t 157), (.t 159)], (some (156, true)), []⟩,
 ⟨(some 161), .pick, [(.t 156), (.t 160), (.c (.bool false))], none, []⟩,
 ⟨(some 162), .mv, [(.t 161)], none, []⟩,
 ⟨(some 163), .mv, [(.t 17)], (some (162, true)), []⟩,
 ⟨(some 164), .pick, [(.t 162), (.t 163), (.c (.bool false))], none, []⟩,
 ⟨(some 165), .mv, [(.t 164)], none, []⟩,
 ⟨(some 166), .mv, [(.t 18)], (some (165, true)), []⟩,
 ⟨(some 167), .pick, [(.t 165), (.t 166), (.c (.bool false))], none, []⟩,
 ⟨(some 168), .mv, [(.t 167)], none, []⟩,
 ⟨(some 169), (.call false false false), [(.f 14)], (some (168, true)), []⟩,
 ⟨(some 170), .pick, [(.t 168), (.t 169), (.c (.bool false))], none, []⟩,
 ⟨(some 6), .mv, [(.t 170)], none, []⟩] 0 [4, 6, 7, 8, 9, 10, 15, 20, 21])
 .ret)))))))))))),
 [(.t 6)]⟩
theorem c10 : funC Try.prog [(0, [3, 4, 5, 7, 8, 9, 10, 15, 20, 21]), (1, [4, 7, 8, 9, 10, 15, 20, 21]), (2, [4, 7, 8, 9, 10, 15, 20, 21]), (3, [4, 7, 8, 9, 10, 11, 12, 15, 20, 21]), (4, [4, 7, 8, 9, 10, 11, 15, 20, 21, 68]), (5, [4, 6, 7, 8, 9, 10, 15, 20, 21]), (6, [4, 7, 8, 9, 10, 11, 13, 15, 20, 21]), (7, [4, 7, 8, 9, 10, 11, 13, 14, 15, 20, 21]), (8, [4, 7, 8, 9, 10, 11, 13, 14, 15, 20, 21]), (9, [4, 7, 8, 9, 10, 11, 13, 14, 15, 16, 20, 21]), (10, [4, 7, 8, 9, 10, 11, 13, 14, 15, 16, 17, 18, 20, 21]), (11, [4, 7, 8, 9, 10, 11, 13, 14, 15, 16, 17, 18, 19, 20, 21]), (12, [4, 7, 8, 9, 10, 11, 13, 14, 15, 16, 17, 18, 19, 20, 21, 84]), (13, [4, 7, 8, 9, 10, 11, 13, 14, 15, 16, 17, 18, 19, 20, 21]), (14, [4, 7, 8, 9, 10, 11, 13, 14, 15, 16, 17, 18, 19, 20, 21]), (15, [4, 7, 8, 9, 10, 11, 13, 14, 15, 16, 17, 18, 19, 20, 21, 22]), (16, [4, 7, 8, 9, 10, 11, 13, 14, 15, 16, 17, 18, 19, 20, 21, 22, 137]), (17, [4, 6, 7, 8, 9, 10, 15, 20, 21]), (18, [4, 7, 8, 9, 10, 11, 13, 14, 15, 16, 17, 18, 19, 20, 21]), (19, [4, 6, 7, 8, 9, 10, 15, 20, 21])] Try.f10 = some (unF l10) := by kernel_rfl
/-- acme/acmelaw03.known -/
def l14 : LFun := ⟨0, 196, [],
 (.seq
 (.reg false [] [] [
 ⟨(some 0), .mv, [(.c (.bool false))], none, []⟩] 0 [])
 (.seq
 (.reg false [24, 1] [24, 1] [
 ⟨(some 24), (.call false false true), [(.f 52), (.c (.int .i64 0)), (.c (.int .i64 0))], none, []⟩,
 ⟨(some 1), (.alloc [(.sl none 2 []), (.int .i64 0), (.int .i64 0)]), [], none, []⟩,
 ⟨none, (.store 3 none), [(.t 1), (.t 24)], none, []⟩] 0 [1])
 (.seq
 (.reg false [] [] [
 ⟨(some 25), (.fa 1), [(.t 1)], none, []⟩,
 ⟨none, (.store 1 none), [(.t 25), (.c (.int .i64 587))], none, []⟩] 0 [1])
 (.seq
 (.reg false [28] [28] [
 ⟨(some 27), (.call false false false), [(.f 53)], none, []⟩,
 ⟨(some 28), (.call false false true), [(.f 52), (.c (.int .i64 0)), (.c (.int .i64 0))], none, []⟩,
 ⟨(some 29), (.call false false false), [(.f 54)], none, []⟩,
 ⟨(some 30), (.call false false false), [(.f 17), (.t 27), (.t 28), (.t 29)], none, []⟩,
 ⟨(some 26), .mv, [(.t 30)], none, []⟩,
 ⟨(some 31), (.ext 0), [(.t 26)], none, []⟩,
 ⟨(some 32), (.ext 1), [(.t 26)], none, []⟩,
 ⟨(some 2), .mv, [(.t 31)], none, []⟩,
 ⟨(some 3), .mv, [(.t 32)], none, []⟩] 0 [1, 2, 3])
 (.seq
 (.reg false [35] [35] [
 ⟨(some 34), (.call false false false), [(.f 53)], none, []⟩,
 ⟨(some 35), (.call false false true), [(.f 52), (.c (.int .i64 10)), (.c (.int .i64 0))], none, []⟩,
 ⟨(some 36), (.call false false false), [(.f 54)], none, []⟩,
 ⟨(some 37), (.call false false false), [(.f 17), (.t 34), (.t 35), (.t 36)], none, []⟩,
 ⟨(some 33), .mv, [(.t 37)], none, []⟩,
 ⟨(some 38), (.ext 0), [(.t 33)], none, []⟩,
 ⟨(some 39), (.ext 1), [(.t 33)], none, []⟩,
 ⟨(some 4), .mv, [(.t 38)], none, []⟩,
 ⟨(some 5), .mv, [(.t 39)], none, []⟩] 0 [1, 2, 3, 4, 5])
 (.seq
 (.reg false [] [] [
 ⟨(some 41), (.call true false false), [(.f 53)], none, [42]⟩,
 ⟨(some 42), (.load (some 3)), [(.t 1)], none, [41, 43]⟩,
 ⟨(some 43), (.call true false false), [(.f 54)], none, [42]⟩,
 ⟨(some 44), (.call false false false), [(.f 17), (.t 41), (.t 42), (.t 43)], none, []⟩,
 ⟨(some 40), .mv, [(.t 44)], none, []⟩,
 ⟨(some 45), (.ext 0), [(.t 40)], none, [46]⟩,
 ⟨(some 46), (.ext 1), [(.t 40)], none, [45, 6]⟩,
 ⟨(some 6), .mv, [(.t 45)], none, [46]⟩,
 ⟨(some 7), .mv, [(.t 46)], none, []⟩] 0 [2, 3, 4, 5, 6, 7])
 (.seq
 (.reg false [49] [49] [
 ⟨(some 48), (.call false false false), [(.f 53)], none, []⟩,
 ⟨(some 49), (.call false false true), [(.f 52), (.c (.int .i64 0)), (.c (.int .i64 10))], none, []⟩,
 ⟨(some 50), (.call false false false), [(.f 54)], none, []⟩,
 ⟨(some 51), (.call false false false), [(.f 18), (.t 48), (.t 49), (.t 50)], none, []⟩,
 ⟨(some 47), .mv, [(.t 51)], none, []⟩,
 ⟨(some 52), (.ext 0), [(.t 47)], none, []⟩,
 ⟨(some 53), (.ext 1), [(.t 47)], none, []⟩,
 ⟨(some 8), .mv, [(.t 52)], none, []⟩,
 ⟨(some 9), .mv, [(.t 53)], none, []⟩] 0 [2, 3, 4, 5, 6, 7, 8, 9])
 (.seq
 (.reg false [55, 56, 10] [55, 56, 10] [
 ⟨(some 55), (.call false false true), [(.f 52), (.c (.int .i64 15)), (.c (.int .i64 0))], none, []⟩,
 ⟨(some 56), (.call false false true), [(.f 52), (.c (.int .i64 0)), (.c (.int .i64 10))], none, []⟩,
 ⟨(some 57), (.call false false false), [(.f 54)], none, []⟩,
 ⟨(some 58), (.call false false false), [(.f 25), (.t 55), (.t 56), (.c (.int .i64 0)), (.c (.int .i64 0)), (.c (.int .i64 2)), (.t 57)], none, []⟩,
 ⟨(some 54), .mv, [(.t 58)], none, []⟩,
 ⟨(some 59), (.ext 0), [(.t 54)], none, []⟩,
 ⟨(some 60), (.ext 1), [(.t 54)], none, []⟩,
 ⟨(some 10), (.alloc [(.int .i64 0), (.int .i64 0)]), [], none, []⟩,
 ⟨none, (.store 2 none), [(.t 10), (.t 59)], none, []⟩,
 ⟨(some 11), .mv, [(.t 60)], none, []⟩] 0 [2, 3, 4, 5, 6, 7, 8, 9, 10, 11])
 (.seq
 (.reg false [62, 63, 12] [62, 63, 12] [
 ⟨(some 62), (.call false false true), [(.f 52), (.c (.int .i64 25)), (.c (.int .i64 0))], none, []⟩,
 ⟨(some 63), (.call false false true), [(.f 52), (.c (.int .i64 0)), (.c (.int .i64 10))], none, []⟩,
 ⟨(some 64), (.call false false false), [(.f 54)], none, []⟩,
 ⟨(some 65), (.call false false false), [(.f 25), (.t 62), (.t 63), (.c (.int .i64 0)), (.c (.int .i64 0)), (.c (.int .i64 2)), (.t 64)], none, []⟩,
 ⟨(some 61), .mv, [(.t 65)], none, []⟩,
 ⟨(some 66), (.ext 0), [(.t 61)], none, []⟩,
 ⟨(some 67), (.ext 1), [(.t 61)], none, []⟩,
 ⟨(some 12), (.alloc [(.int .i64 0), (.int .i64 0)]), [], none, []⟩,
 ⟨none, (.store 2 none), [(.t 12), (.t 66)], none, []⟩,
 ⟨(some 13), .mv, [(.t 67)], none, []⟩] 0 [2, 3, 4, 5, 6, 7, 8, 9, 10, 11, 13])
 (.seq
 (.reg false [69, 70] [69, 70] [
 ⟨(some 69), (.call false false true), [(.f 52), (.c (.int .i64 25)), (.c (.int .i64 0))], none, []⟩,
 ⟨(some 70), (.call false false true), [(.f 52), (.c (.int .i64 0)), (.c (.int .i64 10))], none, []⟩,
 ⟨(some 71), (.call false false false), [(.f 54)], none, []⟩,
 ⟨(some 72), (.call false false false), [(.f 26), (.t 69), (.t 70), (.t 71)], none, []⟩,
 ⟨(some 68), .mv, [(.t 72)], none, []⟩,
 ⟨(some 73), (.ext 0), [(.t 68)], none, []⟩,
 ⟨(some 74), (.ext 1), [(.t 68)], none, []⟩,
 ⟨(some 14), .mv, [(.t 73)], none, []⟩,
 ⟨(some 15), .mv, [(.t 74)], none, []⟩] 0 [2, 3, 4, 5, 6, 7, 8, 9, 10, 11, 13, 14, 15])
 (.seq
 (.reg false [78, 16, 17] [78, 16, 17] [
 ⟨(some 76), (.call false false false), [(.f 53)], none, []⟩,
 ⟨(some 77), (.call false false false), [(.f 54)], none, []⟩,
 ⟨(some 78), (.call false false true), [(.f 30), (.t 76), (.c (.int .i64 10)), (.c (.int .i64 0)), (.c (.int .i64 2)), (.t 77)], none, []⟩,
 ⟨(some 75), .mv, [(.t 78)], none, []⟩,
 ⟨(some 79), (.ext 0), [(.t 75)], none, []⟩,
 ⟨(some 80), (.ext 1), [(.t 75)], none, []⟩,
 ⟨(some 81), (.ext 2), [(.t 75)], none, []⟩,
 ⟨(some 82), (.ext 3), [(.t 75)], none, []⟩,
 ⟨(some 16), (.alloc [(.sl none 2 []), (.int .i64 0), (.int .i64 0)]), [], none, []⟩,
 ⟨(some 17), (.alloc [(.sl none 2 []), (.int .i64 0), (.int .i64 0)]), [], none, []⟩,
 ⟨none, (.store 3 none), [(.t 16), (.t 79)], none, []⟩,
 ⟨none, (.store 3 none), [(.t 17), (.t 80)], none, []⟩,
 ⟨(some 18), .mv, [(.t 81)], none, []⟩,
 ⟨(some 19), .mv, [(.t 82)], none, []⟩] 0 [2, 3, 4, 5, 6, 7, 8, 9, 10, 11, 13, 14, 15, 16, 17, 18, 19])
 (.seq
 (.reg false [20] [20] [
 ⟨(some 84), (.call false false false), [(.f 53)], none, []⟩,
 ⟨(some 85), (.build [(.int .i64 0), (.int .i64 0)] [(0, 1), (1, 1)]), [(.c (.int .i64 (-2))), (.c (.int .i64 3))], none, []⟩,
 ⟨(some 86), (.build [(.int .i64 0), (.int .i64 0)] [(0, 1), (1, 1)]), [(.c (.int .i64 4990)), (.c (.int .i64 5000))], none, []⟩,
 ⟨(some 87), (.build [(.int .i64 0), (.int .i64 0)] [(0, 1), (1, 1)]), [(.c (.int .i64 577)), (.c (.int .i64 577))], none, []⟩,
 ⟨(some 88), (.build [(.int .i64 0), (.int .i64 0)] [(0, 1), (1, 1)]), [(.c (.int .i64 577)), (.c (.int .i64 577))], none, []⟩,
 ⟨(some 89), (.build [(.int .i64 0), (.int .i64 0), (.int .i64 0), (.int .i64 0), (.int .i64 0), (.int .i64 0), (.int .i64 0), (.int .i64 0)] [(0, 2), (2, 2), (4, 2), (6, 2)]), [(.t 85), (.t 86), (.t 87), (.t 88)], none, []⟩,
 ⟨(some 90), (.call false false false), [(.f 54)], none, []⟩,
 ⟨(some 91), (.call false false false), [(.f 35), (.t 84), (.t 89), (.c (.int .i64 5)), (.t 90)], none, []⟩,
 ⟨(some 83), .mv, [(.t 91)], none, []⟩,
 ⟨(some 92), (.ext 0), [(.t 83)], none, []⟩,
 ⟨(some 93), (.ext 1), [(.t 83)], none, []⟩,
 ⟨(some 20), (.alloc [(.int .i64 0), (.int .i64 0)]), [], none, []⟩,
 ⟨none, (.store 2 none), [(.t 20), (.t 92)], none, []⟩,
 ⟨(some 21), .mv, [(.t 93)], none, []⟩] 0 [2, 3, 4, 5, 6, 7, 8, 9, 10, 11, 13, 14, 15, 16, 17, 18, 19, 20, 21])
 (.seq
 (.reg false [95, 96, 97, 98, 99, 101] [95, 96, 97, 98, 99, 101] [
 ⟨(some 95), (.call false false true), [(.f 52), (.c (.int .i64 25)), (.c (.int .i64 0))], none, []⟩,
 ⟨(some 96), (.call false false true), [(.f 52), (.c (.int .i64 0)), (.c (.int .i64 0))], none, []⟩,
 ⟨(some 97), (.bsl 3 [.nil, (.int .i64 0), (.int .i64 0)] 2 [0, 1]), [(.t 95), (.t 96)], none, []⟩,
 ⟨(some 98), (.call false false true), [(.f 52), (.c (.int .i64 0)), (.c (.int .i64 10))], none, []⟩,
 ⟨(some 99), (.bsl 3 [.nil, (.int .i64 0), (.int .i64 0)] 1 [0]), [(.t 98)], none, []⟩,
 ⟨(some 100), (.call false false false), [(.f 54)], none, []⟩,
 ⟨(some 101), (.call false false true), [(.f 38), (.t 97), (.t 99), (.t 100)], none, []⟩,
 ⟨(some 94), .mv, [(.t 101)], none, []⟩,
 ⟨(some 102), (.ext 0), [(.t 94)], none, []⟩,
 ⟨(some 103), (.ext 1), [(.t 94)], none, []⟩,
 ⟨(some 22), .mv, [(.t 102)], none, []⟩,
 ⟨(some 23), .mv, [(.t 103)], none, []⟩] 0 [2, 3, 4, 5, 6, 7, 8, 9, 10, 11, 13, 14, 15, 16, 17, 18, 19, 20, 21, 22, 23])
 (.seq
 (.seq
 (.reg false [] [] [
 ⟨(some 104), .mv, [(.t 3)], none, []⟩,
 ⟨(some 105), (.bin 0 .neq), [(.t 104), (.c (.int .i64 0))], none, []⟩,
 ⟨(some 106), .mv, [(.t 105)], none, []⟩,
 ⟨(some 107), .mv, [(.t 5)], (some (106, false)), []⟩,
 ⟨(some 108), (.bin 0 .neq), [(.t 107), (.c (.int .i64 0))], (some (106, false)), []⟩,
 ⟨(some 109), .pick, [(.t 106), (.c (.bool true)), (.t 108)], none, []⟩,
 ⟨(some 110), .mv, [(.t 109)], none, []⟩,
 ⟨(some 111), .mv, [(.t 7)], (some (110, false)), []⟩,
 ⟨(some 112), (.bin 0 .neq), [(.t 111), (.c (.int .i64 0))], (some (110, false)), []⟩,
 ⟨(some 113), .pick, [(.t 110), (.c (.bool true)), (.t 112)], none, []⟩,
 ⟨(some 114), .mv, [(.t 113)], none, []⟩,
 ⟨(some 115), .mv, [(.t 9)], (some (114, false)), []⟩,
 ⟨(some 116), (.bin 0 .neq), [(.t 115), (.c (.int .i64 0))], (some (114, false)), []⟩,
 ⟨(some 117), .pick, [(.t 114), (.c (.bool true)), (.t 116)], none, []⟩,
 ⟨(some 118), .mv, [(.t 117)], none, []⟩,
 ⟨(some 119), .mv, [(.t 11)], (some (118, false)), []⟩,
 ⟨(some 120), (.bin 0 .neq), [(.t 119), (.c (.int .i64 0))], (some (118, false)), []⟩,
 ⟨(some 121), .pick, [(.t 118), (.c (.bool true)), (.t 120)], none, []⟩,
 ⟨(some 122), .mv, [(.t 121)], none, []⟩,
 ⟨(some 123), .mv, [(.t 13)], (some (122, false)), []⟩,
 ⟨(some 124), (.bin 0 .neq), [(.t 123), (.c (.int .i64 9))], (some (122, false)), []⟩,
 ⟨(some 125), .pick, [(.t 122), (.c (.bool true)), (.t 124)], none, []⟩,
 ⟨(some 126), .mv, [(.t 125)], none, []⟩,
 ⟨(some 127), .mv, [(.t 15)], (some (126, false)), []⟩,
 ⟨(some 128), (.bin 0 .neq), [(.t 127), (.c (.int .i64 0))], (some (126, false)), []⟩,
 ⟨(some 129), .pick, [(.t 126), (.c (.bool true)), (.t 128)], none, []⟩,
 ⟨(some 130), .mv, [(.t 129)], none, []⟩,
 ⟨(some 131), .mv, [(.t 19)], (some (130, false)), []⟩,
 ⟨(some 132), (.bin 0 .neq), [(.t 131), (.c (.int .i64 0))], (some (130, false)), []⟩,
 ⟨(some 133), .pick, [(.t 130), (.c (.bool true)), (.t 132)], none, []⟩,
 ⟨(some 134), .mv, [(.t 133)], none, []⟩,
 ⟨(some 135), .mv, [(.t 21)], (some (134, false)), []⟩,
 ⟨(some 136), (.bin 0 .neq), [(.t 135), (.c (.int .i64 0))], (some (134, false)), []⟩,
 ⟨(some 137), .pick, [(.t 134), (.c (.bool true)), (.t 136)], none, []⟩,
 ⟨(some 138), .mv, [(.t 137)], none, []⟩,
 ⟨(some 139), .mv, [(.t 23)], (some (138, false)), []⟩,
 ⟨(some 140), (.bin 0 .neq), [(.t 139), (.c (.int .i64 0))], (some (138, false)), []⟩,
 ⟨(some 141), .pick, [(.t 138), (.c (.bool true)), (.t 140)], none, []⟩,
 ⟨(some 142), .mv, [(.t 141)], none, []⟩,
 ⟨(some 143), .mv, [(.t 22)], (some (142, false)), []⟩,
 ⟨(some 144), .len, [(.t 143)], (some (142, false)), []⟩,
 ⟨(some 145), (.bin 0 .neq), [(.t 144), (.c (.int .i64 1))], (some (142, false)), []⟩,
 ⟨(some 146), .pick, [(.t 142), (.c (.bool true)), (.t 145)], none, []⟩] 0 [2, 4, 6, 8, 10, 14, 16, 17, 18, 20, 22, 146])
 (.cond (.t 146)
 (.seq
 (.reg false [] [] [
 ⟨(some 0), .mv, [(.c (.bool false))], none, []⟩] 0 [0])
 .ret)
 .skip))
 (.seq
 (.reg false [172, 177] [172, 177] [
 ⟨(some 147), .mv, [(.t 2)], none, []⟩,
 ⟨(some 148), (.bin 0 .eql), [(.t 147), (.c (.int .i64 0))], none, []⟩,
 ⟨(some 149), .mv, [(.t 148)], none, []⟩,
 ⟨(some 150), .mv, [(.t 4)], (some (149, true)), []⟩,
 ⟨(some 151), (.bin 0 .eql), [(.t 150), (.c (.int .i64 9))], (some (149, true)), []⟩,
 ⟨(some 152), .pick, [(.t 149), (.t 151), (.c (.bool false))], none, []⟩,
 ⟨(some 153), .mv, [(.t 152)], none, []⟩,
 ⟨(some 154), .mv, [(.t 6)], (some (153, true)), []⟩,
 ⟨(some 155), (.bin 0 .eql), [(.t 154), (.c (.int .i64 26))], (some (153, true)), []⟩,
 ⟨(some 156), .pick, [(.t 153), (.t 155), (.c (.bool false))], none, []⟩,
 ⟨(some 157), .mv, [(.t 156)], none, []⟩,
 ⟨(some 158), .mv, [(.t 8)], (some (157, true)), []⟩,
 ⟨(some 159), (.bin 0 .eql), [(.t 158), (.c (.int .i64 17))], (some (157, true)), []⟩,
 ⟨(some 160), .pick, [(.t 157), (.t 159), (.c (.bool false))], none, []⟩,
 ⟨(some 161), .mv, [(.t 160)], none, []⟩,
 ⟨(some 162), (.load (some 2)), [(.t 10)], (some (161, true)), [163]⟩,
 ⟨(some 163), (.build [(.int .i64 0), (.int .i64 0)] [(0, 1), (1, 1)]), [(.c (.int .i64 (-10000))), (.c (.int .i64 (-5000)))], (some (161, true)), [162]⟩,
 ⟨(some 164), (.eqs false [(some .i64), (some .i64)]), [(.t 162), (.t 163)], (some (161, true)), []⟩,
 ⟨(some 165), .pick, [(.t 161), (.t 164), (.c (.bool false))], none, []⟩,
 ⟨(some 166), .mv, [(.t 165)], none, []⟩,
 ⟨(some 167), .mv, [(.t 14)], (some (166, true)), []⟩,
 ⟨(some 168), (.bin 0 .eql), [(.t 167), (.c (.int .i64 1))], (some (166, true)), []⟩,
 ⟨(some 169), .pick, [(.t 166), (.t 168), (.c (.bool false))], none, []⟩,
 ⟨(some 170), .mv, [(.t 169)], none, []⟩,
 ⟨(some 171), (.load (some 3)), [(.t 16)], (some (170, true)), [172]⟩,
 ⟨(some 172), (.call true false true), [(.f 52), (.c (.int .i64 0)), (.c (.int .i64 5))], (some (170, true)), [171]⟩,
 ⟨(some 173), (.call false false false), [(.f 20), (.t 171), (.t 172)], (some (170, true)), []⟩,
 ⟨(some 174), .pick, [(.t 170), (.t 173), (.c (.bool false))], none, []⟩,
 ⟨(some 175), .mv, [(.t 174)], none, []⟩,
 ⟨(some 176), (.load (some 3)), [(.t 17)], (some (175, true)), [177]⟩,
 ⟨(some 177), (.call true false true), [(.f 52), (.c (.int .i64 0)), (.c (.int .i64 0))], (some (175, true)), [176]⟩,
 ⟨(some 178), (.call false false false), [(.f 20), (.t 176), (.t 177)], (some (175, true)), []⟩,
 ⟨(some 179), .pick, [(.t 175), (.t 178), (.c (.bool false))], none, []⟩,
 ⟨(some 180), .mv, [(.t 179)], none, []⟩,
 ⟨(some 181), .mv, [(.t 18)], (some (180, true)), []⟩,
 ⟨(some 182), (.un .not), [(.t 181)], (some (180, true)), []⟩,
 ⟨(some 183), .pick, [(.t 180), (.t 182), (.c (.bool false))], none, []⟩,
 ⟨(some 184), .mv, [(.t 183)], none, []⟩,
 ⟨(some 185), (.load (some 2)), [(.t 20)], (some (184, true)), [186]⟩,
 ⟨(some 186), (.build [(.int .i64 0), (.int .i64 0)] [(0, 1), (1, 1)]), [(.c (.int .i64 (-8))), (.c (.int .i64 11))], (some (184, true)), [185]⟩,
 ⟨(some 187), (.eqs false [(some .i64), (some .i64)]), [(.t 185), (.t 186)], (some (184, true)), []⟩,
 ⟨(some 188), .pick, [(.t 184), (.t 187), (.c (.bool false))], none, []⟩,
 ⟨(some 189), .mv, [(.t 188)], none, []⟩,
 ⟨(some 190), .mv, [(.t 22)], (some (189, true)), [193]⟩,
 ⟨(some 191), (.ixs 2), [(.t 190), (.c (.int .i64 0))], (some (189, true)), [193]⟩,
 ⟨(some 192), (.load (some 2)), [(.t 191)], (some (189, true)), [193]⟩,
 ⟨(some 193), (.build [(.int .i64 0), (.int .i64 0)] [(0, 1), (1, 1)]), [(.c (.int .i64 1)), (.c (.int .i64 0))], (some (189, true)), [190, 191, 192]⟩,
 ⟨(some 194), (.eqs false [(some .i64), (some .i64)]), [(.t 192), (.t 193)], (some (189, true)), []⟩,
 ⟨(some 195), .pick, [(.t 189), (.t 194), (.c (.bool false))], none, []⟩,
 ⟨(some 0), .mv, [(.t 195)], none, []⟩] 0 [0])
 .ret))))))))))))))),
 [(.t 0)]⟩
theorem c14 : funC Try.prog [(0, []), (1, [1]), (2, [1]), (3, [1, 2, 3]), (4, [1, 2, 3, 4, 5]), (5, [2, 3, 4, 5, 6, 7]), (6, [2, 3, 4, 5, 6, 7, 8, 9]), (7, [2, 3, 4, 5, 6, 7, 8, 9, 10, 11]), (8, [2, 3, 4, 5, 6, 7, 8, 9, 10, 11, 13]), (9, [2, 3, 4, 5, 6, 7, 8, 9, 10, 11, 13, 14, 15]), (10, [2, 3, 4, 5, 6, 7, 8, 9, 10, 11, 13, 14, 15, 16, 17, 18, 19]), (11, [2, 3, 4, 5, 6, 7, 8, 9, 10, 11, 13, 14, 15, 16, 17, 18, 19, 20, 21]), (12, [2, 3, 4, 5, 6, 7, 8, 9, 10, 11, 13, 14, 15, 16, 17, 18, 19, 20, 21, 22, 23]), (13, [2, 4, 6, 8, 10, 14, 16, 17, 18, 20, 22, 146]), (14, [0]), (15, [0])] Try.f14 = some (unF l14) := by kernel_rfl
/-- acme/acmelaw03.copied -/
def l15 : LFun := ⟨1, 9, [],
 (.seq
 (.reg false [1, 2] [1, 2] [
 ⟨(some 1), .box, [(.t 0)], none, []⟩,
 ⟨(some 2), (.alloc [(.sl none 2 []), (.int .i64 0), (.int .i64 0)]), [], none, []⟩] 0 [1, 2])
 (.seq
 (.reg false [3, 6] [3] [
 ⟨(some 3), (.bsl 2 [(.int .i64 0), (.int .i64 0)] 0 []), [], none, []⟩,
 ⟨(some 4), (.fa 0), [(.t 1)], none, []⟩,
 ⟨(some 5), (.load none), [(.t 4)], none, []⟩,
 ⟨(some 6), (.append false 2 16), [(.t 3), (.t 5)], none, []⟩,
 ⟨(some 7), (.fa 0), [(.t 1)], none, []⟩,
 ⟨none, (.store 1 none), [(.t 7), (.t 6)], none, []⟩] 0 [1, 2])
 (.seq
 (.reg false [] [] [
 ⟨(some 8), (.load (some 3)), [(.t 1)], none, []⟩,
 ⟨none, (.store 3 none), [(.t 2), (.t 8)], none, []⟩] 0 [2])
 .ret))),
 [(.c 2 (some 3))]⟩
theorem c15 : funC Try.prog [(0, [1, 2]), (1, [1, 2]), (2, [2])] Try.f15 = some (unF l15) := by kernel_rfl
/-- acme/fit.Check -/
def b16_0 : LCode :=
 (.seq
 (.reg true [] [] [
 ⟨(some 27), (.bin 0 .lss), [(.t 26), (.t 25)], none, []⟩] 0 [3, 24, 25, 26, 27])
 (.seq
 (.cond (.t 27)
 .skip
 (.exit 1))
 (.seq
 (.block 2
 (.seq
 (.reg true [5] [5] [
 ⟨(some 28), (.ixs 2), [(.t 24), (.t 26)], none, []⟩,
 ⟨(some 29), (.load (some 2)), [(.t 28)], none, []⟩,
 ⟨(some 5), (.alloc [(.int .i64 0), (.int .i64 0)]), [], none, []⟩,
 ⟨none, (.store 2 none), [(.t 5), (.t 29)], none, []⟩] 0 [3, 5, 24, 25, 26])
 (.seq
 (.seq
 (.reg true [33, 41] [33, 41] [
 ⟨(some 30), .mv, [(.t 3)], none, []⟩,
 ⟨(some 31), (.fa 0), [(.t 5)], none, []⟩,
 ⟨(some 32), (.load none), [(.t 31)], none, []⟩,
 ⟨(some 33), (.bsl 1 [(.int .i64 0)] 1 [0]), [(.t 32)], none, []⟩,
 ⟨(some 34), (.call false false false), [(.f 55), (.t 30), (.c (.int .i64 10000000)), (.t 33)], none, []⟩,
 ⟨(some 35), (.un .not), [(.t 34)], none, []⟩,
 ⟨(some 36), .mv, [(.t 35)], none, []⟩,
 ⟨(some 37), (.fa 0), [(.t 5)], (some (36, false)), []⟩,
 ⟨(some 38), (.load none), [(.t 37)], (some (36, false)), []⟩,
 ⟨(some 39), (.fa 1), [(.t 5)], (some (36, false)), []⟩,
 ⟨(some 40), (.load none), [(.t 39)], (some (36, false)), []⟩,
 ⟨(some 41), (.bsl 1 [(.int .i64 0)] 1 [0]), [(.t 40)], (some (36, false)), []⟩,
 ⟨(some 42), (.call false false false), [(.f 55), (.t 38), (.c (.int .i64 10000000)), (.t 41)], (some (36, false)), []⟩,
 ⟨(some 43), (.un .not), [(.t 42)], (some (36, false)), []⟩,
 ⟨(some 44), .pick, [(.t 36), (.c (.bool true)), (.t 43)], none, []⟩] 0 [5, 24, 25, 26, 44])
 (.cond (.t 44)
 (.seq
 (.reg true [] [] [
 ⟨(some 2), .mv, [(.c (.int .i64 2))], none, []⟩] 0 [2])
 .ret)
 .skip))
 (.reg true [] [] [
 ⟨(some 45), (.fa 1), [(.t 5)], none, []⟩,
 ⟨(some 46), (.load none), [(.t 45)], none, []⟩,
 ⟨(some 3), .mv, [(.t 46)], none, []⟩] 0 [3, 24, 25, 26]))))
 (.reg true [] [] [
 ⟨(some 47), (.bin 0 .add), [(.t 26), (.c (.int .i64 1))], none, []⟩,
 ⟨(some 26), .mv, [(.t 47)], none, []⟩] 0 [3, 24, 25, 26]))))
def l16 : LFun := ⟨1, 48, [],
 (.seq
 (.reg false [1] [1] [
 ⟨(some 1), .box, [(.t 0)], none, []⟩,
 ⟨(some 2), .mv, [(.c (.int .i64 0))], none, []⟩] 0 [1])
 (.seq
 (.block 0
 (.seq
 (.reg false [] [] [
 ⟨(some 7), (.fa 0), [(.t 1)], none, []⟩,
 ⟨(some 8), (.load none), [(.t 7)], none, []⟩,
 ⟨(some 9), .len, [(.t 8)], none, []⟩,
 ⟨(some 10), (.bin 0 .gtr), [(.t 9), (.c (.int .i64 60))], none, []⟩,
 ⟨(some 6), .mv, [(.t 10)], none, []⟩] 0 [1, 6])
 (.cond (.t 6)
 (.seq
 (.reg false [] [] [
 ⟨(some 2), .mv, [(.c (.int .i64 5))], none, []⟩] 0 [2])
 .ret)
 (.seq
 (.seq
 (.reg false [] [] [
 ⟨(some 12), (.fa 0), [(.t 1)], none, []⟩,
 ⟨(some 13), (.load none), [(.t 12)], none, []⟩,
 ⟨(some 14), .len, [(.t 13)], none, []⟩,
 ⟨(some 15), (.bin 0 .eql), [(.t 14), (.c (.int .i64 0))], none, []⟩,
 ⟨(some 11), .mv, [(.t 15)], none, []⟩] 0 [1, 11])
 (.cond (.t 11)
 .skip
 (.reg false [20] [20] [
 ⟨(some 16), (.fa 1), [(.t 1)], none, []⟩,
 ⟨(some 17), (.load none), [(.t 16)], none, []⟩,
 ⟨(some 18), (.fa 2), [(.t 1)], none, []⟩,
 ⟨(some 19), (.load none), [(.t 18)], none, []⟩,
 ⟨(some 20), (.bsl 1 [(.int .i64 0)] 2 [0, 1]), [(.t 17), (.t 19)], none, []⟩,
 ⟨(some 21), (.call false false false), [(.f 55), (.c (.int .i64 0)), (.c (.int .i64 3000)), (.t 20)], none, []⟩,
 ⟨(some 22), (.un .not), [(.t 21)], none, []⟩,
 ⟨(some 11), .mv, [(.t 22)], none, []⟩] 0 [1, 11])))
 (.cond (.t 11)
 (.seq
 (.reg false [] [] [
 ⟨(some 2), .mv, [(.c (.int .i64 2))], none, []⟩] 0 [2])
 .ret)
 .skip)))))
 (.seq
 (.reg false [] [] [
 ⟨(some 3), .mv, [(.c (.int .i64 (-10000000)))], none, []⟩] 0 [1, 3])
 (.seq
 (.seq
 (.reg false [] [] [
 ⟨(some 23), (.fa 0), [(.t 1)], none, []⟩,
 ⟨(some 24), (.load none), [(.t 23)], none, []⟩,
 ⟨(some 25), .len, [(.t 24)], none, []⟩,
 ⟨(some 26), .mv, [(.c (.int .i64 0))], none, []⟩] 0 [3, 24, 25, 26])
 (.block 1
 (.loop b16_0)))
 (.seq
 (.reg false [] [] [
 ⟨(some 2), .mv, [(.c (.int .i64 0))], none, []⟩] 0 [2])
 .ret))))),
 [(.t 2)]⟩
theorem c16 : funC Try.prog [(0, [1]), (1, [1, 6]), (2, [2]), (3, [1, 11]), (4, [1, 11]), (5, [2]), (6, [1, 3]), (7, [3, 24, 25, 26]), (8, [3, 24, 25, 26, 27]), (9, [3, 5, 24, 25, 26]), (10, [5, 24, 25, 26, 44]), (11, [2]), (12, [3, 24, 25, 26]), (13, [3, 24, 25, 26]), (14, [2])] Try.f16 = some (unF l16) := by kernel_rfl
/-- acme/fit.Screw -/
def l17 : LFun := ⟨3, 32, [],
 (.seq
 (.reg false [3, 4, 5] [3, 4, 5] [
 ⟨(some 3), .box, [(.t 0)], none, []⟩,
 ⟨(some 4), .box, [(.t 1)], none, []⟩,
 ⟨(some 5), .box, [(.t 2)], none, []⟩,
 ⟨(some 6), .mv, [(.c (.int .i64 0))], none, []⟩,
 ⟨(some 7), .mv, [(.c (.int .i64 0))], none, []⟩] 0 [3, 4, 5])
 (.seq
 (.reg false [13, 8] [13, 8] [
 ⟨(some 10), (.load (some 8)), [(.t 3)], none, []⟩,
 ⟨(some 11), (.load (some 2)), [(.t 5)], none, []⟩,
 ⟨(some 12), (.load (some 3)), [(.t 4)], none, []⟩,
 ⟨(some 13), (.bsl 3 [.nil, (.int .i64 0), (.int .i64 0)] 1 [0]), [(.t 12)], none, []⟩,
 ⟨(some 14), (.call false false false), [(.f 56), (.t 10), (.t 11), (.t 13)], none, []⟩,
 ⟨(some 9), .mv, [(.t 14)], none, []⟩,
 ⟨(some 15), (.ext 0), [(.t 9)], none, []⟩,
 ⟨(some 16), (.ext 1), [(.t 9)], none, []⟩,
 ⟨(some 8), (.alloc [(.int .i64 0), (.int .i64 0), (.int .i64 0), (.int .i64 0), (.int .i64 0), (.int .i64 0), (.bool false), (.int .i64 0), (.int .i64 0), (.int .i64 0)]), [], none, []⟩,
 ⟨none, (.store 10 none), [(.t 8), (.t 15)], none, []⟩,
 ⟨(some 7), .mv, [(.t 16)], none, []⟩] 0 [4, 7, 8])
 (.seq
 (.block 0
 (.seq
 (.reg false [] [] [
 ⟨(some 18), .mv, [(.t 7)], none, []⟩,
 ⟨(some 19), (.bin 0 .neq), [(.t 18), (.c (.int .i64 0))], none, []⟩,
 ⟨(some 17), .mv, [(.t 19)], none, []⟩] 0 [4, 7, 8, 17])
 (.cond (.t 17)
 (.seq
 (.reg false [] [] [
 ⟨(some 20), .mv, [(.t 7)], none, []⟩,
 ⟨(some 6), .mv, [(.c (.int .i64 0))], none, []⟩,
 ⟨(some 7), .mv, [(.t 20)], none, []⟩] 0 [6, 7])
 .ret)
 (.seq
 (.reg false [] [] [
 ⟨(some 22), (.load (some 10)), [(.t 8)], none, []⟩,
 ⟨(some 23), (.call false false false), [(.f 57), (.t 22)], none, []⟩,
 ⟨(some 24), (.bin 0 .eql), [(.t 23), (.c (.int .i64 0))], none, []⟩,
 ⟨(some 21), .mv, [(.t 24)], none, []⟩] 0 [4, 8, 21])
 (.cond (.t 21)
 (.seq
 (.reg false [] [] [
 ⟨(some 6), .mv, [(.c (.int .i64 0))], none, []⟩,
 ⟨(some 7), .mv, [(.c (.int .i64 7))], none, []⟩] 0 [6, 7])
 .ret)
 .skip)))))
 (.seq
 (.reg false [] [] [
 ⟨(some 25), (.load (some 10)), [(.t 8)], none, [26, 28]⟩,
 ⟨(some 26), (.load (some 3)), [(.t 4)], none, [25, 28]⟩,
 ⟨(some 27), (.call true false false), [(.f 59), (.t 25), (.t 26), (.c (.int .i64 1))], none, [28]⟩,
 ⟨(some 28), (.load (some 10)), [(.t 8)], none, [25, 26, 27]⟩,
 ⟨(some 29), (.call false false false), [(.f 57), (.t 28)], none, []⟩,
 ⟨(some 30), (.bin 0 .mul), [(.c (.int .i64 4)), (.t 29)], none, []⟩,
 ⟨(some 31), (.call false false false), [(.f 58), (.t 27), (.t 30)], none, []⟩,
 ⟨(some 6), .mv, [(.t 31)], none, []⟩,
 ⟨(some 7), .mv, [(.c (.int .i64 0))], none, []⟩] 0 [6, 7])
 .ret)))),
 [(.t 6), (.t 7)]⟩
theorem c17 : funC Try.prog [(0, [3, 4, 5]), (1, [4, 7, 8]), (2, [4, 7, 8, 17]), (3, [6, 7]), (4, [4, 8, 21]), (5, [6, 7]), (6, [6, 7])] Try.f17 = some (unF l17) := by kernel_rfl
/-- acme/fit.Nut -/
def l18 : LFun := ⟨3, 33, [],
 (.seq
 (.reg false [3, 4, 5] [3, 4, 5] [
 ⟨(some 3), .box, [(.t 0)], none, []⟩,
 ⟨(some 4), .box, [(.t 1)], none, []⟩,
 ⟨(some 5), .box, [(.t 2)], none, []⟩,
 ⟨(some 6), .mv, [(.c (.int .i64 0))], none, []⟩,
 ⟨(some 7), .mv, [(.c (.int .i64 0))], none, []⟩] 0 [3, 4, 5])
 (.seq
 (.reg false [13, 8] [13, 8] [
 ⟨(some 10), (.load (some 8)), [(.t 3)], none, []⟩,
 ⟨(some 11), (.load (some 2)), [(.t 5)], none, []⟩,
 ⟨(some 12), (.load (some 3)), [(.t 4)], none, []⟩,
 ⟨(some 13), (.bsl 3 [.nil, (.int .i64 0), (.int .i64 0)] 1 [0]), [(.t 12)], none, []⟩,
 ⟨(some 14), (.call false false false), [(.f 56), (.t 10), (.t 11), (.t 13)], none, []⟩,
 ⟨(some 9), .mv, [(.t 14)], none, []⟩,
 ⟨(some 15), (.ext 0), [(.t 9)], none, []⟩,
 ⟨(some 16), (.ext 1), [(.t 9)], none, []⟩,
 ⟨(some 8), (.alloc [(.int .i64 0), (.int .i64 0), (.int .i64 0), (.int .i64 0), (.int .i64 0), (.int .i64 0), (.bool false), (.int .i64 0), (.int .i64 0), (.int .i64 0)]), [], none, []⟩,
 ⟨none, (.store 10 none), [(.t 8), (.t 15)], none, []⟩,
 ⟨(some 7), .mv, [(.t 16)], none, []⟩] 0 [4, 7, 8])
 (.seq
 (.block 0
 (.seq
 (.reg false [] [] [
 ⟨(some 18), .mv, [(.t 7)], none, []⟩,
 ⟨(some 19), (.bin 0 .neq), [(.t 18), (.c (.int .i64 0))], none, []⟩,
 ⟨(some 17), .mv, [(.t 19)], none, []⟩] 0 [4, 7, 8, 17])
 (.cond (.t 17)
 (.seq
 (.reg false [] [] [
 ⟨(some 20), .mv, [(.t 7)], none, []⟩,
 ⟨(some 6), .mv, [(.c (.int .i64 0))], none, []⟩,
 ⟨(some 7), .mv, [(.t 20)], none, []⟩] 0 [6, 7])
 .ret)
 (.seq
 (.reg false [] [] [
 ⟨(some 22), (.load (some 10)), [(.t 8)], none, []⟩,
 ⟨(some 23), (.call false false false), [(.f 57), (.t 22)], none, []⟩,
 ⟨(some 24), (.bin 0 .eql), [(.t 23), (.c (.int .i64 0))], none, []⟩,
 ⟨(some 21), .mv, [(.t 24)], none, []⟩] 0 [4, 8, 21])
 (.cond (.t 21)
 (.seq
 (.reg false [] [] [
 ⟨(some 6), .mv, [(.c (.int .i64 0))], none, []⟩,
 ⟨(some 7), .mv, [(.c (.int .i64 7))], none, []⟩] 0 [6, 7])
 .ret)
 .skip)))))
 (.seq
 (.reg false [] [] [
 ⟨(some 25), (.load (some 10)), [(.t 8)], none, [26, 29]⟩,
 ⟨(some 26), (.load (some 3)), [(.t 4)], none, [25, 29]⟩,
 ⟨(some 27), (.call true false false), [(.f 59), (.t 25), (.t 26), (.c (.int .i64 (-1)))], none, [29]⟩,
 ⟨(some 28), (.un .neg), [(.t 27)], none, [29, 30, 31]⟩,
 ⟨(some 29), (.load (some 10)), [(.t 8)], none, [25, 26, 27, 28]⟩,
 ⟨(some 30), (.call true false false), [(.f 57), (.t 29)], none, [28]⟩,
 ⟨(some 31), (.bin 0 .mul), [(.c (.int .i64 4)), (.t 30)], none, [28]⟩,
 ⟨(some 32), (.call false false false), [(.f 60), (.t 28), (.t 31)], none, []⟩,
 ⟨(some 6), .mv, [(.t 32)], none, []⟩,
 ⟨(some 7), .mv, [(.c (.int .i64 0))], none, []⟩] 0 [6, 7])
 .ret)))),
 [(.t 6), (.t 7)]⟩
theorem c18 : funC Try.prog [(0, [3, 4, 5]), (1, [4, 7, 8]), (2, [4, 7, 8, 17]), (3, [6, 7]), (4, [4, 8, 21]), (5, [6, 7]), (6, [6, 7])] Try.f18 = some (unF l18) := by kernel_rfl
/-- acme/acmeref03.Same -/
def b20_0 : LCode :=
 (.seq
 (.seq
 (.reg true [] [] [
 ⟨(some 27), .mv, [(.t 5)], none, []⟩,
 ⟨(some 28), (.fa 0), [(.t 2)], none, []⟩,
 ⟨(some 29), (.load none), [(.t 28)], none, []⟩,
 ⟨(some 30), .len, [(.t 29)], none, []⟩,
 ⟨(some 31), (.bin 0 .lss), [(.t 27), (.t 30)], none, []⟩] 0 [2, 3, 5, 31])
 (.cond (.t 31)
 .skip
 (.exit 0)))
 (.seq
 (.block 1
 (.seq
 (.reg true [] [] [
 ⟨(some 34), (.fa 0), [(.t 2)], none, [36, 39, 40, 41, 42, 43]⟩,
 ⟨(some 35), (.load none), [(.t 34)], none, [36, 39, 40, 41, 42, 43]⟩,
 ⟨(some 36), .mv, [(.t 5)], none, [34, 35, 39, 40, 41, 42, 43]⟩,
 ⟨(some 37), (.ixs 2), [(.t 35), (.t 36)], none, [39, 40, 41, 42, 43]⟩,
 ⟨(some 38), (.load (some 2)), [(.t 37)], none, [39, 40, 41, 42, 43]⟩,
 ⟨(some 39), (.fa 0), [(.t 3)], none, [34, 35, 36, 37, 38, 41]⟩,
 ⟨(some 40), (.load none), [(.t 39)], none, [34, 35, 36, 37, 38, 41]⟩,
 ⟨(some 41), .mv, [(.t 5)], none, [34, 35, 36, 37, 38, 39, 40]⟩,
 ⟨(some 42), (.ixs 2), [(.t 40), (.t 41)], none, [34, 35, 36, 37, 38]⟩,
 ⟨(some 43), (.load (some 2)), [(.t 42)], none, [34, 35, 36, 37, 38]⟩,
 ⟨(some 44), (.eqs true [(some .i64), (some .i64)]), [(.t 38), (.t 43)], none, []⟩] 0 [2, 3, 5, 44])
 (.cond (.t 44)
 (.seq
 (.reg true [] [] [
 ⟨(some 4), .mv, [(.c (.bool false))], none, []⟩] 0 [4])
 .ret)
 .skip)))
 (.reg true [] [] [
 ⟨(some 32), .mv, [(.t 5)], none, []⟩,
 ⟨(some 33), (.bin 0 .add), [(.t 32), (.c (.int .i64 1))], none, []⟩,
 ⟨(some 5), .mv, [(.t 33)], none, []⟩] 0 [2, 3, 5])))
def l20 : LFun := ⟨2, 45, [],
 (.seq
 (.reg false [2, 3] [2, 3] [
 ⟨(some 2), .box, [(.t 0)], none, []⟩,
 ⟨(some 3), .box, [(.t 1)], none, []⟩,
 ⟨(some 4), .mv, [(.c (.bool false))], none, []⟩] 0 [2, 3])
 (.seq
 (.seq
 (.reg false [] [] [
 ⟨(some 6), (.fa 1), [(.t 2)], none, []⟩,
 ⟨(some 7), (.load none), [(.t 6)], none, []⟩,
 ⟨(some 8), (.fa 1), [(.t 3)], none, []⟩,
 ⟨(some 9), (.load none), [(.t 8)], none, []⟩,
 ⟨(some 10), (.bin 0 .neq), [(.t 7), (.t 9)], none, []⟩,
 ⟨(some 11), .mv, [(.t 10)], none, []⟩,
 ⟨(some 12), (.fa 2), [(.t 2)], (some (11, false)), []⟩,
 ⟨(some 13), (.load none), [(.t 12)], (some (11, false)), []⟩,
 ⟨(some 14), (.fa 2), [(.t 3)], (some (11, false)), []⟩,
 ⟨(some 15), (.load none), [(.t 14)], (some (11, false)), []⟩,
 ⟨(some 16), (.bin 0 .neq), [(.t 13), (.t 15)], (some (11, false)), []⟩,
 ⟨(some 17), .pick, [(.t 11), (.c (.bool true)), (.t 16)], none, []⟩,
 ⟨(some 18), .mv, [(.t 17)], none, []⟩,
 ⟨(some 19), (.fa 0), [(.t 2)], (some (18, false)), []⟩,
 ⟨(some 20), (.load none), [(.t 19)], (some (18, false)), []⟩,
 ⟨(some 21), .len, [(.t 20)], (some (18, false)), []⟩,
 ⟨(some 22), (.fa 0), [(.t 3)], (some (18, false)), []⟩,
 ⟨(some 23), (.load none), [(.t 22)], (some (18, false)), []⟩,
 ⟨(some 24), .len, [(.t 23)], (some (18, false)), []⟩,
 ⟨(some 25), (.bin 0 .neq), [(.t 21), (.t 24)], (some (18, false)), []⟩,
 ⟨(some 26), .pick, [(.t 18), (.c (.bool true)), (.t 25)], none, []⟩] 0 [2, 3, 26])
 (.cond (.t 26)
 (.seq
 (.reg false [] [] [
 ⟨(some 4), .mv, [(.c (.bool false))], none, []⟩] 0 [4])
 .ret)
 .skip))
 (.seq
 (.seq
 (.reg false [] [] [
 ⟨(some 5), .mv, [(.c (.int .i64 0))], none, []⟩] 0 [2, 3, 5])
 (.block 0
 (.loop b20_0)))
 (.seq
 (.reg false [] [] [
 ⟨(some 4), .mv, [(.c (.bool true))], none, []⟩] 0 [4])
 .ret)))),
 [(.t 4)]⟩
theorem c20 : funC Try.prog [(0, [2, 3]), (1, [2, 3, 26]), (2, [4]), (3, [2, 3, 5]), (4, [2, 3, 5, 31]), (5, [2, 3, 5]), (6, [2, 3, 5, 44]), (7, [4]), (8, [4])] Try.f20 = some (unF l20) := by kernel_rfl
/-- acme/fit.Shift -/
def l25 : LFun := ⟨6, 86, [],
 (.seq
 (.reg false [6, 7, 11, 12] [6, 7, 11, 12] [
 ⟨(some 6), .box, [(.t 0)], none, []⟩,
 ⟨(some 7), .box, [(.t 1)], none, []⟩,
 ⟨(some 11), .box, [(.t 5)], none, []⟩,
 ⟨(some 12), (.alloc [(.int .i64 0), (.int .i64 0)]), [], none, []⟩,
 ⟨(some 13), .mv, [(.c (.int .i64 0))], none, []⟩] 0 [2, 3, 4, 6, 7, 11, 12])
 (.seq
 (.seq
 (.reg false [21] [21] [
 ⟨(some 18), (.load (some 2)), [(.t 11)], none, []⟩,
 ⟨(some 19), (.load (some 3)), [(.t 6)], none, []⟩,
 ⟨(some 20), (.load (some 3)), [(.t 7)], none, []⟩,
 ⟨(some 21), (.bsl 3 [.nil, (.int .i64 0), (.int .i64 0)] 2 [0, 1]), [(.t 19), (.t 20)], none, []⟩,
 ⟨(some 22), (.call false false false), [(.f 65), (.t 18), (.t 21)], none, []⟩,
 ⟨(some 14), .mv, [(.t 22)], none, []⟩] 0 [2, 3, 4, 6, 7, 11, 12, 14])
 (.seq
 (.reg false [] [] [
 ⟨(some 23), .mv, [(.t 14)], none, []⟩,
 ⟨(some 24), (.bin 0 .neq), [(.t 23), (.c (.int .i64 0))], none, []⟩] 0 [2, 3, 4, 6, 7, 11, 12, 14, 24])
 (.cond (.t 24)
 (.seq
 (.reg false [] [] [
 ⟨(some 25), (.load (some 2)), [(.t 12)], none, []⟩,
 ⟨(some 26), .mv, [(.t 14)], none, []⟩,
 ⟨none, (.store 2 none), [(.t 12), (.t 25)], none, []⟩,
 ⟨(some 13), .mv, [(.t 26)], none, []⟩] 0 [12, 13])
 .ret)
 .skip)))
 (.seq
 (.reg false [] [] [
 ⟨(some 27), (.fa 0), [(.t 6)], none, [30, 31, 32]⟩,
 ⟨(some 28), (.load none), [(.t 27)], none, [30, 31, 32]⟩,
 ⟨(some 29), .len, [(.t 28)], none, [30, 31, 32]⟩,
 ⟨(some 30), (.fa 0), [(.t 7)], none, [27, 28, 29, 15]⟩,
 ⟨(some 31), (.load none), [(.t 30)], none, [27, 28, 29, 15]⟩,
 ⟨(some 32), .len, [(.t 31)], none, [27, 28, 29, 15]⟩,
 ⟨(some 15), .mv, [(.t 29)], none, [30, 31, 32]⟩,
 ⟨(some 16), .mv, [(.t 32)], none, []⟩] 0 [2, 3, 4, 6, 7, 11, 12, 15, 16])
 (.seq
 (.seq
 (.reg false [37, 45, 54] [37, 45, 54] [
 ⟨(some 33), .mv, [(.t 15)], none, []⟩,
 ⟨(some 34), .mv, [(.t 16)], none, []⟩,
 ⟨(some 35), .min, [(.t 33), (.t 34)], none, []⟩,
 ⟨(some 36), .mv, [(.t 4)], none, []⟩,
 ⟨(some 37), (.bsl 1 [(.int .i64 0)] 1 [0]), [(.t 36)], none, []⟩,
 ⟨(some 38), (.call false false false), [(.f 55), (.c (.int .i64 1)), (.t 35), (.t 37)], none, []⟩,
 ⟨(some 39), (.un .not), [(.t 38)], none, []⟩,
 ⟨(some 40), .mv, [(.t 39)], none, []⟩,
 ⟨(some 41), .mv, [(.t 15)], (some (40, false)), []⟩,
 ⟨(some 42), .mv, [(.t 4)], (some (40, false)), []⟩,
 ⟨(some 43), (.bin 0 .sub), [(.t 41), (.t 42)], (some (40, false)), []⟩,
 ⟨(some 44), .mv, [(.t 2)], (some (40, false)), []⟩,
 ⟨(some 45), (.bsl 1 [(.int .i64 0)] 1 [0]), [(.t 44)], (some (40, false)), []⟩,
 ⟨(some 46), (.call false false false), [(.f 55), (.c (.int .i64 0)), (.t 43), (.t 45)], (some (40, false)), []⟩,
 ⟨(some 47), (.un .not), [(.t 46)], (some (40, false)), []⟩,
 ⟨(some 48), .pick, [(.t 40), (.c (.bool true)), (.t 47)], none, []⟩,
 ⟨(some 49), .mv, [(.t 48)], none, []⟩,
 ⟨(some 50), .mv, [(.t 16)], (some (49, false)), []⟩,
 ⟨(some 51), .mv, [(.t 4)], (some (49, false)), []⟩,
 ⟨(some 52), (.bin 0 .sub), [(.t 50), (.t 51)], (some (49, false)), []⟩,
 ⟨(some 53), .mv, [(.t 3)], (some (49, false)), []⟩,
 ⟨(some 54), (.bsl 1 [(.int .i64 0)] 1 [0]), [(.t 53)], (some (49, false)), []⟩,
 ⟨(some 55), (.call false false false), [(.f 55), (.c (.int .i64 0)), (.t 52), (.t 54)], (some (49, false)), []⟩,
 ⟨(some 56), (.un .not), [(.t 55)], (some (49, false)), []⟩,
 ⟨(some 57), .pick, [(.t 49), (.c (.bool true)), (.t 56)], none, []⟩] 0 [2, 3, 4, 6, 7, 11, 12, 57])
 (.cond (.t 57)
 (.seq
 (.reg false [] [] [
 ⟨(some 58), (.load (some 2)), [(.t 12)], none, []⟩,
 ⟨none, (.store 2 none), [(.t 12), (.t 58)], none, []⟩,
 ⟨(some 13), .mv, [(.c (.int .i64 7))], none, []⟩] 0 [12, 13])
 .ret)
 .skip))
 (.seq
 (.reg false [] [] [
 ⟨(some 60), (.load (some 2)), [(.t 11)], none, [62, 63, 65, 66, 67, 68, 69, 70, 71, 72, 73, 74, 75, 76, 77, 78]⟩,
 ⟨(some 61), (.build [(.int .i64 0), (.int .i64 0)] [(0, 2)]), [(.t 60)], none, [62, 63, 65, 66, 67, 68, 69, 70, 71, 72, 73, 74, 75, 76, 77, 78]⟩,
 ⟨(some 62), (.load (some 3)), [(.t 6)], none, [60, 61, 63, 65, 66, 67, 68, 69, 70, 71, 72, 73, 74, 75, 76, 77, 78]⟩,
 ⟨(some 63), (.load (some 3)), [(.t 7)], none, [60, 61, 62, 65, 66, 67, 68, 69, 70, 71, 72, 73, 74, 75, 76, 77, 78]⟩,
 ⟨(some 64), (.build [(.int .i64 0), (.int .i64 0), (.sl none 2 []), (.int .i64 0), (.int .i64 0), (.sl none 2 []), (.int .i64 0), (.int .i64 0)] [(0, 2), (2, 3), (5, 3)]), [(.t 61), (.t 62), (.t 63)], none, [65, 66, 67, 68, 69, 70, 71, 72, 73, 74, 75, 76, 77, 78]⟩,
 ⟨(some 65), (.fa 0), [(.t 6)], none, [60, 61, 62, 63, 64, 67, 68, 69, 70, 72, 73, 74, 75, 76, 77, 78]⟩,
 ⟨(some 66), (.load none), [(.t 65)], none, [60, 61, 62, 63, 64, 67, 68, 69, 70, 72, 73, 74, 75, 76, 77, 78]⟩,
 ⟨(some 67), .mv, [(.t 2)], none, [60, 61, 62, 63, 64, 65, 66, 68, 69, 70, 72, 73, 74, 75, 76, 77, 78]⟩,
 ⟨(some 68), .mv, [(.t 2)], none, [60, 61, 62, 63, 64, 65, 66, 67, 69, 72, 73, 74, 75, 76, 77, 78]⟩,
 ⟨(some 69), .mv, [(.t 4)], none, [60, 61, 62, 63, 64, 65, 66, 67, 68, 72, 73, 74, 75, 76, 77, 78]⟩,
 ⟨(some 70), (.bin 0 .add), [(.t 68), (.t 69)], none, [60, 61, 62, 63, 64, 65, 66, 67, 72, 73, 74, 75, 76, 77, 78]⟩,
 ⟨(some 71), (.sls 2 true true false), [(.t 66), (.t 67), (.t 70)], none, [60, 61, 62, 63, 64, 72, 73, 74, 75, 76, 77, 78]⟩,
 ⟨(some 72), (.fa 0), [(.t 7)], none, [60, 61, 62, 63, 64, 65, 66, 67, 68, 69, 70, 71, 74, 75, 76, 77]⟩,
 ⟨(some 73), (.load none), [(.t 72)], none, [60, 61, 62, 63, 64, 65, 66, 67, 68, 69, 70, 71, 74, 75, 76, 77]⟩,
 ⟨(some 74), .mv, [(.t 3)], none, [60, 61, 62, 63, 64, 65, 66, 67, 68, 69, 70, 71, 72, 73, 75, 76, 77]⟩,
 ⟨(some 75), .mv, [(.t 3)], none, [60, 61, 62, 63, 64, 65, 66, 67, 68, 69, 70, 71, 72, 73, 74, 76]⟩,
 ⟨(some 76), .mv, [(.t 4)], none, [60, 61, 62, 63, 64, 65, 66, 67, 68, 69, 70, 71, 72, 73, 74, 75]⟩,
 ⟨(some 77), (.bin 0 .add), [(.t 75), (.t 76)], none, [60, 61, 62, 63, 64, 65, 66, 67, 68, 69, 70, 71, 72, 73, 74]⟩,
 ⟨(some 78), (.sls 2 true true false), [(.t 73), (.t 74), (.t 77)], none, [60, 61, 62, 63, 64, 65, 66, 67, 68, 69, 70, 71]⟩,
 ⟨(some 79), (.call false false false), [(.f 66), (.t 64), (.t 71), (.t 78)], none, []⟩,
 ⟨(some 59), .mv, [(.t 79)], none, []⟩,
 ⟨(some 80), (.ext 0), [(.t 59)], none, [81]⟩,
 ⟨(some 81), (.ext 1), [(.t 59)], none, [80, 12]⟩,
 ⟨none, (.store 2 (some 12)), [(.t 12), (.t 80)], none, [81]⟩,
 ⟨(some 17), .mv, [(.t 81)], none, []⟩] 0 [12, 17])
 (.seq
 (.seq
 (.reg false [] [] [
 ⟨(some 82), .mv, [(.t 17)], none, []⟩,
 ⟨(some 83), (.un .not), [(.t 82)], none, []⟩] 0 [12, 83])
 (.cond (.t 83)
 (.seq
 (.reg false [] [] [
 ⟨(some 84), (.build [(.int .i64 0), (.int .i64 0)] []), [], none, []⟩,
 ⟨none, (.store 2 none), [(.t 12), (.t 84)], none, []⟩,
 ⟨(some 13), .mv, [(.c (.int .i64 9))], none, []⟩] 0 [12, 13])
 .ret)
 .skip))
 (.seq
 (.reg false [] [] [
 ⟨(some 85), (.load (some 2)), [(.t 12)], none, []⟩,
 ⟨none, (.store 2 none), [(.t 12), (.t 85)], none, []⟩,
 ⟨(some 13), .mv, [(.c (.int .i64 0))], none, []⟩] 0 [12, 13])
 .ret))))))),
 [(.c 12 (some 2)), (.t 13)]⟩
theorem c25 : funC Try.prog [(0, [2, 3, 4, 6, 7, 11, 12]), (1, [2, 3, 4, 6, 7, 11, 12, 14]), (2, [2, 3, 4, 6, 7, 11, 12, 14, 24]), (3, [12, 13]), (4, [2, 3, 4, 6, 7, 11, 12, 15, 16]), (5, [2, 3, 4, 6, 7, 11, 12, 57]), (6, [12, 13]), (7, [12, 17]), (8, [12, 83]), (9, [12, 13]), (10, [12, 13])] Try.f25 = some (unF l25) := by kernel_rfl
/-- acme/fit.Deep -/
def b26_0w : List Nat :=
 [29, 30, 10, 11, 32, 33, 34, 35, 31, 36, 37, 12, 13, 38, 39, 40, 41]
def b26_0a : LCode :=
 (.seq
 (.reg true [] [] [
 ⟨(some 10), .mv, [(.t 29)], none, []⟩] 0 [6, 9, 10, 30])
 (.reg true [] [] [
 ⟨(some 11), .mv, [(.t 30)], none, []⟩] 0 [6, 9, 10, 11]))
def b26_0 : LCode :=
 (.block 1
 (.seq
 (.seq
 (.reg true [12] [12] [
 ⟨(some 32), (.load (some 8)), [(.t 9)], none, []⟩,
 ⟨(some 33), .mv, [(.t 10)], none, []⟩,
 ⟨(some 34), .mv, [(.t 11)], none, []⟩,
 ⟨(some 35), (.call false false false), [(.f 66), (.t 32), (.t 33), (.t 34)], none, []⟩,
 ⟨(some 31), .mv, [(.t 35)], none, []⟩,
 ⟨(some 36), (.ext 0), [(.t 31)], none, []⟩,
 ⟨(some 37), (.ext 1), [(.t 31)], none, []⟩,
 ⟨(some 12), (.alloc [(.int .i64 0), (.int .i64 0)]), [], none, []⟩,
 ⟨none, (.store 2 none), [(.t 12), (.t 36)], none, []⟩,
 ⟨(some 13), .mv, [(.t 37)], none, []⟩] 0 [6, 9, 13])
 (.seq
 (.reg true [] [] [
 ⟨(some 38), .mv, [(.t 13)], none, []⟩,
 ⟨(some 39), (.un .not), [(.t 38)], none, []⟩] 0 [6, 9, 39])
 (.cond (.t 39)
 (.exit 0)
 .skip)))
 (.reg true [] [] [
 ⟨(some 40), (.load none), [(.t 6)], none, []⟩,
 ⟨(some 41), (.bin 0 .add), [(.t 40), (.c (.int .i64 1))], none, []⟩,
 ⟨none, (.store 1 none), [(.t 6), (.t 41)], none, []⟩] 0 [6, 9])))
def l26 : LFun := ⟨3, 43, [],
 (.seq
 (.reg false [3, 4, 5, 6] [3, 4, 5, 6] [
 ⟨(some 3), .box, [(.t 0)], none, []⟩,
 ⟨(some 4), .box, [(.t 1)], none, []⟩,
 ⟨(some 5), .box, [(.t 2)], none, []⟩,
 ⟨(some 6), (.alloc [(.int .i64 0)]), [], none, []⟩,
 ⟨(some 7), .mv, [(.c (.int .i64 0))], none, []⟩] 0 [3, 4, 5, 6])
 (.seq
 (.seq
 (.reg false [17] [17] [
 ⟨(some 14), (.load (some 2)), [(.t 5)], none, []⟩,
 ⟨(some 15), (.load (some 3)), [(.t 3)], none, []⟩,
 ⟨(some 16), (.load (some 3)), [(.t 4)], none, []⟩,
 ⟨(some 17), (.bsl 3 [.nil, (.int .i64 0), (.int .i64 0)] 2 [0, 1]), [(.t 15), (.t 16)], none, []⟩,
 ⟨(some 18), (.call false false false), [(.f 65), (.t 14), (.t 17)], none, []⟩,
 ⟨(some 8), .mv, [(.t 18)], none, []⟩] 0 [3, 4, 5, 6, 8])
 (.seq
 (.reg false [] [] [
 ⟨(some 19), .mv, [(.t 8)], none, []⟩,
 ⟨(some 20), (.bin 0 .neq), [(.t 19), (.c (.int .i64 0))], none, []⟩] 0 [3, 4, 5, 6, 8, 20])
 (.cond (.t 20)
 (.seq
 (.reg false [] [] [
 ⟨(some 21), .mv, [(.t 8)], none, []⟩,
 ⟨none, (.store 1 none), [(.t 6), (.c (.int .i64 0))], none, []⟩,
 ⟨(some 7), .mv, [(.t 21)], none, []⟩] 0 [6, 7])
 .ret)
 .skip)))
 (.seq
 (.reg false [9] [9] [
 ⟨(some 22), (.load (some 2)), [(.t 5)], none, []⟩,
 ⟨(some 23), (.build [(.int .i64 0), (.int .i64 0)] [(0, 2)]), [(.t 22)], none, []⟩,
 ⟨(some 24), (.load (some 3)), [(.t 3)], none, []⟩,
 ⟨(some 25), (.load (some 3)), [(.t 4)], none, []⟩,
 ⟨(some 26), (.build [(.int .i64 0), (.int .i64 0), (.sl none 2 []), (.int .i64 0), (.int .i64 0), (.sl none 2 []), (.int .i64 0), (.int .i64 0)] [(0, 2), (2, 3), (5, 3)]), [(.t 23), (.t 24), (.t 25)], none, []⟩,
 ⟨(some 9), (.alloc [(.int .i64 0), (.int .i64 0), (.sl none 2 []), (.int .i64 0), (.int .i64 0), (.sl none 2 []), (.int .i64 0), (.int .i64 0)]), [], none, []⟩,
 ⟨none, (.store 8 none), [(.t 9), (.t 26)], none, []⟩] 0 [6, 9])
 (.seq
 (.seq
 (.reg false [] [] [
 ⟨(some 27), (.load (some 8)), [(.t 9)], none, []⟩,
 ⟨(some 28), (.mkm 67), [(.t 27)], none, []⟩] 0 [6, 9, 28])
 (.block 0
 (.rng (.t 28) [29, 30] b26_0w b26_0a b26_0)))
 (.seq
 (.reg false [] [] [
 ⟨(some 42), (.load none), [(.t 6)], none, []⟩,
 ⟨none, (.store 1 none), [(.t 6), (.t 42)], none, []⟩,
 ⟨(some 7), .mv, [(.c (.int .i64 0))], none, []⟩] 0 [6, 7])
 .ret))))),
 [(.c 6 none), (.t 7)]⟩
theorem c26 : funC Try.prog [(0, [3, 4, 5, 6]), (1, [3, 4, 5, 6, 8]), (2, [3, 4, 5, 6, 8, 20]), (3, [6, 7]), (4, [6, 9]), (5, [6, 9, 28]), (6, [6, 9, 10, 30]), (7, [6, 9, 10, 11]), (8, [6, 9, 13]), (9, [6, 9, 39]), (10, [6, 9]), (11, [6, 7])] Try.f26 = some (unF l26) := by kernel_rfl
/-- acme/fit.Show -/
def l30 : LFun := ⟨5, 64, [],
 (.seq
 (.reg false [5, 9, 10, 11] [5, 9, 10, 11] [
 ⟨(some 5), .box, [(.t 0)], none, []⟩,
 ⟨(some 9), .box, [(.t 4)], none, []⟩,
 ⟨(some 10), (.alloc [(.sl none 2 []), (.int .i64 0), (.int .i64 0)]), [], none, []⟩,
 ⟨(some 11), (.alloc [(.sl none 2 []), (.int .i64 0), (.int .i64 0)]), [], none, []⟩,
 ⟨(some 12), .mv, [(.c (.bool false))], none, []⟩,
 ⟨(some 13), .mv, [(.c (.int .i64 0))], none, []⟩] 0 [1, 2, 3, 5, 9, 10, 11])
 (.seq
 (.block 0
 (.seq
 (.reg false [] [] [
 ⟨(some 18), (.load (some 8)), [(.t 5)], none, []⟩,
 ⟨(some 19), (.call false false false), [(.f 70), (.t 18)], none, []⟩,
 ⟨(some 20), (.bin 0 .neq), [(.t 19), (.c (.int .i64 0))], none, []⟩,
 ⟨(some 17), .mv, [(.t 20)], none, []⟩] 0 [1, 2, 3, 5, 9, 10, 11, 17])
 (.cond (.t 17)
 (.seq
 (.reg false [] [] [
 ⟨(some 21), (.load (some 3)), [(.t 10)], none, [22]⟩,
 ⟨(some 22), (.load (some 3)), [(.t 11)], none, [21, 10]⟩,
 ⟨none, (.store 3 (some 10)), [(.t 10), (.t 21)], none, [22]⟩,
 ⟨none, (.store 3 (some 11)), [(.t 11), (.t 22)], none, []⟩,
 ⟨(some 12), .mv, [(.c (.bool false))], none, []⟩,
 ⟨(some 13), .mv, [(.c (.int .i64 2))], none, []⟩] 0 [10, 11, 12, 13])
 .ret)
 (.seq
 (.seq
 (.reg false [25] [25] [
 ⟨(some 24), .mv, [(.t 3)], none, []⟩,
 ⟨(some 25), (.bsl 1 [(.int .i64 0)] 1 [0]), [(.t 24)], none, []⟩,
 ⟨(some 26), (.call false false false), [(.f 55), (.c (.int .i64 1)), (.c (.int .i64 60)), (.t 25)], none, []⟩,
 ⟨(some 27), (.un .not), [(.t 26)], none, []⟩,
 ⟨(some 23), .mv, [(.t 27)], none, []⟩] 0 [1, 2, 3, 5, 9, 10, 11, 23])
 (.cond (.t 23)
 .skip
 (.seq
 (.reg false [30] [30] [
 ⟨(some 28), .mv, [(.t 1)], none, []⟩,
 ⟨(some 29), .mv, [(.t 2)], none, []⟩,
 ⟨(some 30), (.bsl 1 [(.int .i64 0)] 2 [0, 1]), [(.t 28), (.t 29)], none, []⟩,
 ⟨(some 31), (.call false false false), [(.f 55), (.c (.int .i64 (-10000))), (.c (.int .i64 10000)), (.t 30)], none, []⟩,
 ⟨(some 32), (.un .not), [(.t 31)], none, []⟩,
 ⟨(some 23), .mv, [(.t 32)], none, []⟩] 0 [1, 2, 3, 5, 9, 10, 11, 23])
 (.cond (.t 23)
 .skip
 (.reg false [] [] [
 ⟨(some 33), (.load (some 2)), [(.t 9)], none, []⟩,
 ⟨(some 34), (.call false false false), [(.f 71), (.t 33)], none, []⟩,
 ⟨(some 35), (.bin 0 .neq), [(.t 34), (.c (.int .i64 0))], none, []⟩,
 ⟨(some 23), .mv, [(.t 35)], none, []⟩] 0 [1, 2, 3, 5, 9, 10, 11, 23])))))
 (.cond (.t 23)
 (.seq
 (.reg false [] [] [
 ⟨(some 36), (.load (some 3)), [(.t 10)], none, [37]⟩,
 ⟨(some 37), (.load (some 3)), [(.t 11)], none, [36, 10]⟩,
 ⟨none, (.store 3 (some 10)), [(.t 10), (.t 36)], none, [37]⟩,
 ⟨none, (.store 3 (some 11)), [(.t 11), (.t 37)], none, []⟩,
 ⟨(some 12), .mv, [(.c (.bool false))], none, []⟩,
 ⟨(some 13), .mv, [(.c (.int .i64 3))], none, []⟩] 0 [10, 11, 12, 13])
 .ret)
 .skip)))))
 (.seq
 (.reg false [14] [14] [
 ⟨(some 38), (.load (some 8)), [(.t 5)], none, []⟩,
 ⟨(some 39), (.load (some 2)), [(.t 9)], none, []⟩,
 ⟨(some 40), (.build [(.int .i64 0), (.int .i64 0)] [(0, 2)]), [(.t 39)], none, []⟩,
 ⟨(some 41), (.build [(.int .i64 0), (.int .i64 0), (.int .i64 0), (.int .i64 0), (.int .i64 0), (.int .i64 0), (.bool false), (.int .i64 0), (.int .i64 0), (.int .i64 0)] [(0, 8), (8, 2)]), [(.t 38), (.t 40)], none, []⟩,
 ⟨(some 14), (.alloc [(.int .i64 0), (.int .i64 0), (.int .i64 0), (.int .i64 0), (.int .i64 0), (.int .i64 0), (.bool false), (.int .i64 0), (.int .i64 0), (.int .i64 0)]), [], none, []⟩,
 ⟨none, (.store 10 none), [(.t 14), (.t 41)], none, []⟩] 0 [1, 2, 3, 9, 10, 11, 14])
 (.seq
 (.reg false [45, 49, 15, 16] [45, 49, 15, 16] [
 ⟨(some 42), (.load (some 10)), [(.t 14)], none, [43, 44, 46, 47, 48, 15, 16]⟩,
 ⟨(some 43), .mv, [(.t 1)], none, [42, 44, 46, 47, 48, 15, 16]⟩,
 ⟨(some 44), .mv, [(.t 3)], none, [42, 43, 46, 47, 48, 15, 16]⟩,
 ⟨(some 45), (.call true false true), [(.f 72), (.t 42), (.t 43), (.t 44), (.f 58), (.f 60)], none, [46, 47, 48, 15, 16]⟩,
 ⟨(some 46), (.load (some 10)), [(.t 14)], none, [42, 43, 44, 45, 47, 48, 15, 16]⟩,
 ⟨(some 47), .mv, [(.t 2)], none, [42, 43, 44, 45, 46, 48, 15, 16]⟩,
 ⟨(some 48), .mv, [(.t 3)], none, [42, 43, 44, 45, 46, 47, 15, 16]⟩,
 ⟨(some 49), (.call false false true), [(.f 72), (.t 46), (.t 47), (.t 48), (.f 60), (.f 58)], none, [15, 16]⟩,
 ⟨(some 15), (.alloc [(.sl none 2 []), (.int .i64 0), (.int .i64 0)]), [], none, [42, 43, 44, 45, 46, 47, 48, 49, 16]⟩,
 ⟨(some 16), (.alloc [(.sl none 2 []), (.int .i64 0), (.int .i64 0)]), [], none, [42, 43, 44, 45, 46, 47, 48, 49, 15]⟩,
 ⟨none, (.store 3 (some 15)), [(.t 15), (.t 45)], none, []⟩,
 ⟨none, (.store 3 (some 16)), [(.t 16), (.t 49)], none, []⟩] 0 [9, 10, 11, 15, 16])
 (.seq
 (.seq
 (.reg false [53] [53] [
 ⟨(some 50), (.load (some 2)), [(.t 9)], none, []⟩,
 ⟨(some 51), (.load (some 3)), [(.t 15)], none, []⟩,
 ⟨(some 52), (.load (some 3)), [(.t 16)], none, []⟩,
 ⟨(some 53), (.bsl 3 [.nil, (.int .i64 0), (.int .i64 0)] 2 [0, 1]), [(.t 51), (.t 52)], none, []⟩,
 ⟨(some 54), (.call false false false), [(.f 65), (.t 50), (.t 53)], none, []⟩,
 ⟨(some 55), (.bin 0 .neq), [(.t 54), (.c (.int .i64 0))], none, []⟩] 0 [9, 10, 11, 15, 16, 55])
 (.cond (.t 55)
 (.seq
 (.reg false [] [] [
 ⟨(some 56), (.load (some 3)), [(.t 10)], none, [57]⟩,
 ⟨(some 57), (.load (some 3)), [(.t 11)], none, [56, 10]⟩,
 ⟨none, (.store 3 (some 10)), [(.t 10), (.t 56)], none, [57]⟩,
 ⟨none, (.store 3 (some 11)), [(.t 11), (.t 57)], none, []⟩,
 ⟨(some 12), .mv, [(.c (.bool false))], none, []⟩,
 ⟨(some 13), .mv, [(.c (.int .i64 9))], none, []⟩] 0 [10, 11, 12, 13])
 .ret)
 .skip))
 (.seq
 (.reg false [] [] [
 ⟨(some 58), (.load (some 3)), [(.t 15)], none, [59, 60, 61, 62, 63]⟩,
 ⟨(some 59), (.load (some 3)), [(.t 16)], none, [58, 60, 61, 62, 63, 10]⟩,
 ⟨(some 60), (.load (some 3)), [(.t 15)], none, [58, 59, 61, 62]⟩,
 ⟨(some 61), (.load (some 3)), [(.t 16)], none, [58, 59, 60, 62]⟩,
 ⟨(some 62), (.load (some 2)), [(.t 9)], none, [58, 59, 60, 61]⟩,
 ⟨(some 63), (.call true false false), [(.f 73), (.t 60), (.t 61), (.t 62)], none, [58, 59]⟩,
 ⟨none, (.store 3 (some 10)), [(.t 10), (.t 58)], none, [59]⟩,
 ⟨none, (.store 3 (some 11)), [(.t 11), (.t 59)], none, []⟩,
 ⟨(some 12), .mv, [(.t 63)], none, []⟩,
 ⟨(some 13), .mv, [(.c (.int .i64 0))], none, []⟩] 0 [10, 11, 12, 13])
 .ret)))))),
 [(.c 10 (some 3)), (.c 11 (some 3)), (.t 12), (.t 13)]⟩
theorem c30 : funC Try.prog [(0, [1, 2, 3, 5, 9, 10, 11]), (1, [1, 2, 3, 5, 9, 10, 11, 17]), (2, [10, 11, 12, 13]), (3, [1, 2, 3, 5, 9, 10, 11, 23]), (4, [1, 2, 3, 5, 9, 10, 11, 23]), (5, [1, 2, 3, 5, 9, 10, 11, 23]), (6, [10, 11, 12, 13]), (7, [1, 2, 3, 9, 10, 11, 14]), (8, [9, 10, 11, 15, 16]), (9, [9, 10, 11, 15, 16, 55]), (10, [10, 11, 12, 13]), (11, [10, 11, 12, 13])] Try.f30 = some (unF l30) := by kernel_rfl
/-- acme/fit.Cost -/
def l35 : LFun := ⟨4, 71, [],
 (.seq
 (.reg false [4, 5, 7, 8] [4, 5, 7, 8] [
 ⟨(some 4), .box, [(.t 0)], none, []⟩,
 ⟨(some 5), .box, [(.t 1)], none, []⟩,
 ⟨(some 7), .box, [(.t 3)], none, []⟩,
 ⟨(some 8), (.alloc [(.int .i64 0), (.int .i64 0)]), [], none, []⟩,
 ⟨(some 9), .mv, [(.c (.int .i64 0))], none, []⟩] 0 [2, 4, 5, 7, 8, 10, 12, 13, 14])
 (.seq
 (.reg false [10] [10] [
 ⟨(some 16), (.load (some 8)), [(.t 4)], none, []⟩,
 ⟨(some 17), (.load (some 2)), [(.t 7)], none, []⟩,
 ⟨(some 18), (.build [(.int .i64 0), (.int .i64 0)] [(0, 2)]), [(.t 17)], none, []⟩,
 ⟨(some 19), (.build [(.int .i64 0), (.int .i64 0), (.int .i64 0), (.int .i64 0), (.int .i64 0), (.int .i64 0), (.bool false), (.int .i64 0), (.int .i64 0), (.int .i64 0)] [(0, 8), (8, 2)]), [(.t 16), (.t 18)], none, []⟩,
 ⟨(some 10), (.alloc [(.int .i64 0), (.int .i64 0), (.int .i64 0), (.int .i64 0), (.int .i64 0), (.int .i64 0), (.bool false), (.int .i64 0), (.int .i64 0), (.int .i64 0)]), [], none, []⟩,
 ⟨none, (.store 10 none), [(.t 10), (.t 19)], none, []⟩] 0 [2, 4, 5, 7, 8, 10, 12, 13, 14])
 (.seq
 (.block 0
 (.seq
 (.reg false [] [] [
 ⟨(some 21), (.load (some 8)), [(.t 4)], none, []⟩,
 ⟨(some 22), (.call false false false), [(.f 70), (.t 21)], none, []⟩,
 ⟨(some 23), (.bin 0 .neq), [(.t 22), (.c (.int .i64 0))], none, []⟩,
 ⟨(some 20), .mv, [(.t 23)], none, []⟩] 0 [2, 4, 5, 7, 8, 10, 12, 13, 14, 20])
 (.cond (.t 20)
 (.seq
 (.reg false [] [] [
 ⟨(some 24), (.load (some 2)), [(.t 8)], none, []⟩,
 ⟨none, (.store 2 none), [(.t 8), (.t 24)], none, []⟩,
 ⟨(some 9), .mv, [(.c (.int .i64 2))], none, []⟩] 0 [4, 5, 8, 9, 10, 12, 13, 14])
 .ret)
 (.seq
 (.reg false [27] [27] [
 ⟨(some 26), .mv, [(.t 2)], none, []⟩,
 ⟨(some 27), (.bsl 1 [(.int .i64 0)] 1 [0]), [(.t 26)], none, []⟩,
 ⟨(some 28), (.call false false false), [(.f 55), (.c (.int .i64 1)), (.c (.int .i64 60)), (.t 27)], none, []⟩,
 ⟨(some 29), (.un .not), [(.t 28)], none, []⟩,
 ⟨(some 25), .mv, [(.t 29)], none, []⟩] 0 [2, 4, 5, 7, 8, 10, 12, 13, 14, 25])
 (.cond (.t 25)
 (.seq
 (.reg false [] [] [
 ⟨(some 30), (.load (some 2)), [(.t 8)], none, []⟩,
 ⟨none, (.store 2 none), [(.t 8), (.t 30)], none, []⟩,
 ⟨(some 9), .mv, [(.c (.int .i64 3))], none, []⟩] 0 [4, 5, 8, 9, 10, 12, 13, 14])
 .ret)
 (.seq
 (.reg false [] [] [
 ⟨(some 32), (.load (some 8)), [(.t 5)], none, []⟩,
 ⟨(some 33), (.call false false false), [(.f 76), (.t 32)], none, []⟩,
 ⟨(some 34), (.un .not), [(.t 33)], none, []⟩,
 ⟨(some 31), .mv, [(.t 34)], none, []⟩] 0 [2, 4, 5, 7, 8, 10, 12, 13, 14, 31])
 (.cond (.t 31)
 (.seq
 (.reg false [] [] [
 ⟨(some 35), (.load (some 2)), [(.t 8)], none, []⟩,
 ⟨none, (.store 2 none), [(.t 8), (.t 35)], none, []⟩,
 ⟨(some 9), .mv, [(.c (.int .i64 2))], none, []⟩] 0 [4, 5, 8, 9, 10, 12, 13, 14])
 .ret)
 .skip)))))))
 (.seq
 (.seq
 (.reg false [] [] [
 ⟨(some 36), (.load (some 2)), [(.t 7)], none, []⟩,
 ⟨(some 37), (.call false false false), [(.f 71), (.t 36)], none, []⟩,
 ⟨(some 11), .mv, [(.t 37)], none, []⟩] 0 [2, 4, 5, 8, 10, 11, 12, 13, 14])
 (.seq
 (.reg false [] [] [
 ⟨(some 38), .mv, [(.t 11)], none, []⟩,
 ⟨(some 39), (.bin 0 .neq), [(.t 38), (.c (.int .i64 0))], none, []⟩] 0 [2, 4, 5, 8, 10, 11, 12, 13, 14, 39])
 (.cond (.t 39)
 (.seq
 (.reg false [] [] [
 ⟨(some 40), (.load (some 2)), [(.t 8)], none, []⟩,
 ⟨(some 41), .mv, [(.t 11)], none, []⟩,
 ⟨none, (.store 2 none), [(.t 8), (.t 40)], none, []⟩,
 ⟨(some 9), .mv, [(.t 41)], none, []⟩] 0 [4, 5, 8, 9, 10, 12, 13, 14])
 .ret)
 .skip)))
 (.seq
 (.seq
 (.reg false [] [] [
 ⟨(some 42), (.load (some 10)), [(.t 10)], none, []⟩,
 ⟨(some 43), (.call false false false), [(.f 57), (.t 42)], none, []⟩,
 ⟨(some 44), (.bin 0 .eql), [(.t 43), (.c (.int .i64 0))], none, []⟩] 0 [2, 4, 5, 8, 10, 12, 13, 14, 44])
 (.cond (.t 44)
 (.seq
 (.reg false [] [] [
 ⟨(some 45), (.load (some 2)), [(.t 8)], none, []⟩,
 ⟨none, (.store 2 none), [(.t 8), (.t 45)], none, []⟩,
 ⟨(some 9), .mv, [(.c (.int .i64 7))], none, []⟩] 0 [4, 5, 8, 9, 10, 12, 13, 14])
 .ret)
 .skip))
 (.seq
 (.reg false [12, 13, 14] [12, 13, 14] [
 ⟨(some 46), (.fa 8), [(.t 10)], none, [48, 49, 50, 51, 53, 54, 55, 56, 57, 58, 60, 61, 62, 63, 12, 13, 14]⟩,
 ⟨(some 47), (.load (some 2)), [(.t 46)], none, [48, 49, 50, 51, 53, 54, 55, 56, 57, 58, 60, 61, 62, 63, 12, 13, 14]⟩,
 ⟨(some 48), (.fa 1), [(.t 4)], none, [46, 47, 50, 51, 53, 54, 55, 56, 57, 58, 60, 61, 62, 63, 12, 13, 14]⟩,
 ⟨(some 49), (.load none), [(.t 48)], none, [46, 47, 50, 51, 53, 54, 55, 56, 57, 58, 60, 61, 62, 63, 12, 13, 14]⟩,
 ⟨(some 50), (.fa 4), [(.t 5)], none, [46, 47, 48, 49, 53, 54, 55, 56, 57, 58, 60, 61, 62, 63, 12, 13, 14]⟩,
 ⟨(some 51), (.load (some 2)), [(.t 50)], none, [46, 47, 48, 49, 53, 54, 55, 56, 57, 58, 60, 61, 62, 63, 12, 13, 14]⟩,
 ⟨(some 52), (.call true false false), [(.f 77), (.t 47), (.t 49), (.t 51)], none, [53, 54, 55, 56, 57, 58, 60, 61, 62, 63, 12, 13, 14]⟩,
 ⟨(some 53), (.fa 8), [(.t 10)], none, [46, 47, 48, 49, 50, 51, 52, 55, 56, 57, 58, 60, 61, 62, 63, 12, 13, 14]⟩,
 ⟨(some 54), (.load (some 2)), [(.t 53)], none, [46, 47, 48, 49, 50, 51, 52, 55, 56, 57, 58, 60, 61, 62, 63, 12, 13, 14]⟩,
 ⟨(some 55), (.fa 2), [(.t 4)], none, [46, 47, 48, 49, 50, 51, 52, 53, 54, 57, 58, 60, 61, 62, 63, 12, 13, 14]⟩,
 ⟨(some 56), (.load none), [(.t 55)], none, [46, 47, 48, 49, 50, 51, 52, 53, 54, 57, 58, 60, 61, 62, 63, 12, 13, 14]⟩,
 ⟨(some 57), (.fa 6), [(.t 5)], none, [46, 47, 48, 49, 50, 51, 52, 53, 54, 55, 56, 60, 61, 62, 63, 12, 13, 14]⟩,
 ⟨(some 58), (.load (some 2)), [(.t 57)], none, [46, 47, 48, 49, 50, 51, 52, 53, 54, 55, 56, 60, 61, 62, 63, 12, 13, 14]⟩,
 ⟨(some 59), (.call true false false), [(.f 77), (.t 54), (.t 56), (.t 58)], none, [60, 61, 62, 63, 12, 13, 14]⟩,
 ⟨(some 60), (.fa 0), [(.t 5)], none, [46, 47, 48, 49, 50, 51, 52, 53, 54, 55, 56, 57, 58, 59, 62, 63, 12, 13, 14]⟩,
 ⟨(some 61), (.load (some 2)), [(.t 60)], none, [46, 47, 48, 49, 50, 51, 52, 53, 54, 55, 56, 57, 58, 59, 62, 63, 12, 13, 14]⟩,
 ⟨(some 62), .mv, [(.t 2)], none, [46, 47, 48, 49, 50, 51, 52, 53, 54, 55, 56, 57, 58, 59, 60, 61, 12, 13, 14]⟩,
 ⟨(some 63), (.bin 0 .sub), [(.t 62), (.c (.int .i64 1))], none, [46, 47, 48, 49, 50, 51, 52, 53, 54, 55, 56, 57, 58, 59, 60, 61, 12, 13, 14]⟩,
 ⟨(some 64), (.call false false false), [(.f 78), (.t 61), (.t 63)], none, [12, 13, 14]⟩,
 ⟨(some 12), (.alloc [(.int .i64 0), (.int .i64 0)]), [], none, [46, 47, 48, 49, 50, 51, 52, 53, 54, 55, 56, 57, 58, 59, 60, 61, 62, 63, 64, 13, 14]⟩,
 ⟨(some 13), (.alloc [(.int .i64 0), (.int .i64 0)]), [], none, [46, 47, 48, 49, 50, 51, 52, 53, 54, 55, 56, 57, 58, 59, 60, 61, 62, 63, 64, 12, 14]⟩,
 ⟨(some 14), (.alloc [(.int .i64 0), (.int .i64 0)]), [], none, [46, 47, 48, 49, 50, 51, 52, 53, 54, 55, 56, 57, 58, 59, 60, 61, 62, 63, 64, 12, 13]⟩,
 ⟨none, (.store 2 (some 12)), [(.t 12), (.t 52)], none, []⟩,
 ⟨none, (.store 2 (some 13)), [(.t 13), (.t 59)], none, []⟩,
 ⟨none, (.store 2 (some 14)), [(.t 14), (.t 64)], none, []⟩] 0 [4, 5, 8, 10, 12, 13, 14])
 (.seq
 (.reg false [] [] [
 ⟨(some 65), (.mkf 79), [(.t 5), (.t 14), (.t 4), (.t 12), (.t 13), (.t 10)], none, []⟩,
 ⟨(some 15), .mv, [(.t 65)], none, []⟩] 0 [4, 5, 8, 10, 12, 13, 14, 15])
 (.seq
 (.reg false [] [] [
 ⟨(some 66), .mv, [(.t 15)], none, []⟩,
 ⟨(some 67), (.call false false false), [(.t 66), (.f 80)], none, []⟩,
 ⟨(some 68), .mv, [(.t 15)], none, []⟩,
 ⟨(some 69), (.call false false false), [(.t 68), (.f 81)], none, []⟩,
 ⟨(some 70), (.build [(.int .i64 0), (.int .i64 0)] [(0, 1), (1, 1)]), [(.t 67), (.t 69)], none, []⟩,
 ⟨none, (.store 2 none), [(.t 8), (.t 70)], none, []⟩,
 ⟨(some 9), .mv, [(.c (.int .i64 0))], none, []⟩] 0 [4, 5, 8, 9, 10, 12, 13, 14])
 .ret)))))))),
 [(.c 8 (some 2)), (.t 9)]⟩
theorem c35 : funC Try.prog [(0, [2, 4, 5, 7, 8, 10, 12, 13, 14]), (1, [2, 4, 5, 7, 8, 10, 12, 13, 14]), (2, [2, 4, 5, 7, 8, 10, 12, 13, 14, 20]), (3, [4, 5, 8, 9, 10, 12, 13, 14]), (4, [2, 4, 5, 7, 8, 10, 12, 13, 14, 25]), (5, [4, 5, 8, 9, 10, 12, 13, 14]), (6, [2, 4, 5, 7, 8, 10, 12, 13, 14, 31]), (7, [4, 5, 8, 9, 10, 12, 13, 14]), (8, [2, 4, 5, 8, 10, 11, 12, 13, 14]), (9, [2, 4, 5, 8, 10, 11, 12, 13, 14, 39]), (10, [4, 5, 8, 9, 10, 12, 13, 14]), (11, [2, 4, 5, 8, 10, 12, 13, 14, 44]), (12, [4, 5, 8, 9, 10, 12, 13, 14]), (13, [4, 5, 8, 10, 12, 13, 14]), (14, [4, 5, 8, 10, 12, 13, 14, 15]), (15, [4, 5, 8, 9, 10, 12, 13, 14])] Try.f35 = some (unF l35) := by kernel_rfl
/-- acme/fit.Goers -/
def b38_0 : LCode :=
 (.seq
 (.reg true [] [] [
 ⟨(some 37), (.bin 0 .lss), [(.t 36), (.t 35)], none, []⟩] 0 [0, 1, 5, 6, 9, 33, 34, 35, 36, 37])
 (.seq
 (.cond (.t 37)
 .skip
 (.exit 0))
 (.seq
 (.block 1
 (.seq
 (.reg true [11] [11] [
 ⟨(some 38), .mv, [(.t 36)], none, []⟩,
 ⟨(some 39), (.ixs 3), [(.t 34), (.t 36)], none, []⟩,
 ⟨(some 40), (.load (some 3)), [(.t 39)], none, []⟩,
 ⟨(some 11), (.alloc [.nil, (.int .i64 0), (.int .i64 0)]), [], none, []⟩,
 ⟨(some 10), .mv, [(.t 38)], none, []⟩,
 ⟨none, (.store 3 none), [(.t 11), (.t 40)], none, []⟩] 0 [0, 1, 5, 6, 9, 10, 11, 33, 34, 35, 36])
 (.alt [52] []
 (.reg true [51, 52] [51, 52] [
 ⟨(some 41), .mv, [(.t 9)], none, [42, 43, 44, 45, 46, 47, 48, 49, 50, 51, 52]⟩,
 ⟨(some 42), (.fa 0), [(.t 11)], none, [41, 45, 46, 47, 48, 49, 50, 51, 52]⟩,
 ⟨(some 43), (.load none), [(.t 42)], none, [41, 45, 46, 47, 48, 49, 50, 51, 52]⟩,
 ⟨(some 44), .len, [(.t 43)], none, [41, 45, 46, 47, 48, 49, 50, 51, 52]⟩,
 ⟨(some 45), .mv, [(.t 9)], none, [41, 42, 43, 44, 46, 47, 48, 50, 51]⟩,
 ⟨(some 46), (.fa 0), [(.t 11)], none, [41, 42, 43, 44, 45, 50, 51]⟩,
 ⟨(some 47), (.load none), [(.t 46)], none, [41, 42, 43, 44, 45, 50, 51]⟩,
 ⟨(some 48), .len, [(.t 47)], none, [41, 42, 43, 44, 45, 50, 51]⟩,
 ⟨(some 49), .mlook, [(.t 45), (.t 48)], none, [41, 42, 43, 44, 50, 51]⟩,
 ⟨(some 50), .mv, [(.t 10)], none, [41, 42, 43, 44, 45, 46, 47, 48, 49]⟩,
 ⟨(some 51), (.bsl 1 [(.int .i64 0)] 1 [0]), [(.t 50)], none, [41, 42, 43, 44, 45, 46, 47, 48, 49]⟩,
 ⟨(some 52), (.append true 1 8), [(.t 49), (.t 51)], none, [41, 42, 43, 44]⟩,
 ⟨none, .mput, [(.t 41), (.t 44), (.t 52)], none, []⟩] 0 [0, 1, 5, 6, 9, 33, 34, 35, 36])
 (.reg true [51, 52] [51] [
 ⟨(some 41), .mv, [(.t 9)], none, [42, 43, 44, 45, 46, 47, 48, 49, 50, 51, 52]⟩,
 ⟨(some 42), (.fa 0), [(.t 11)], none, [41, 45, 46, 47, 48, 49, 50, 51, 52]⟩,
 ⟨(some 43), (.load none), [(.t 42)], none, [41, 45, 46, 47, 48, 49, 50, 51, 52]⟩,
 ⟨(some 44), .len, [(.t 43)], none, [41, 45, 46, 47, 48, 49, 50, 51, 52]⟩,
 ⟨(some 45), .mv, [(.t 9)], none, [41, 42, 43, 44, 46, 47, 48, 50, 51]⟩,
 ⟨(some 46), (.fa 0), [(.t 11)], none, [41, 42, 43, 44, 45, 50, 51]⟩,
 ⟨(some 47), (.load none), [(.t 46)], none, [41, 42, 43, 44, 45, 50, 51]⟩,
 ⟨(some 48), .len, [(.t 47)], none, [41, 42, 43, 44, 45, 50, 51]⟩,
 ⟨(some 49), .mlook, [(.t 45), (.t 48)], none, [41, 42, 43, 44, 50, 51]⟩,
 ⟨(some 50), .mv, [(.t 10)], none, [41, 42, 43, 44, 45, 46, 47, 48, 49]⟩,
 ⟨(some 51), (.bsl 1 [(.int .i64 0)] 1 [0]), [(.t 50)], none, [41, 42, 43, 44, 45, 46, 47, 48, 49]⟩,
 ⟨(some 52), (.appo 1 8), [(.t 49), (.t 51)], none, [41, 42, 43, 44]⟩,
 ⟨none, .mput, [(.t 41), (.t 44), (.t 52)], none, []⟩] 0 [0, 1, 5, 6, 9, 33, 34, 35, 36]))))
 (.reg true [] [] [
 ⟨(some 53), (.bin 0 .add), [(.t 36), (.c (.int .i64 1))], none, []⟩,
 ⟨(some 36), .mv, [(.t 53)], none, []⟩] 0 [0, 1, 5, 6, 9, 33, 34, 35, 36]))))
def b38_2 : LCode :=
 (.seq
 (.reg true [] [] [
 ⟨(some 68), (.bin 0 .lss), [(.t 67), (.t 66)], none, []⟩] 0 [1, 5, 6, 9, 12, 13, 33, 54, 55, 56, 65, 66, 67, 68])
 (.seq
 (.cond (.t 68)
 .skip
 (.exit 4))
 (.seq
 (.block 5
 (.seq
 (.reg true [] [] [
 ⟨(some 69), (.ixs 1), [(.t 65), (.t 67)], none, []⟩,
 ⟨(some 70), (.load none), [(.t 69)], none, []⟩,
 ⟨(some 15), .mv, [(.t 70)], none, []⟩] 0 [1, 5, 6, 9, 12, 13, 15, 33, 54, 55, 56, 65, 66, 67])
 (.seq
 (.reg true [] [] [
 ⟨(some 71), (.load (some 3)), [(.t 13)], none, [72, 73, 74, 75, 76]⟩,
 ⟨(some 72), .mv, [(.t 1)], none, [71, 73, 76]⟩,
 ⟨(some 73), .mv, [(.t 15)], none, [71, 72, 76]⟩,
 ⟨(some 74), (.ixs 3), [(.t 72), (.t 73)], none, [71, 76]⟩,
 ⟨(some 75), (.load (some 3)), [(.t 74)], none, [71, 76]⟩,
 ⟨(some 76), (.load (some 2)), [(.t 5)], none, [71, 72, 73, 74, 75]⟩,
 ⟨(some 77), (.call false false false), [(.f 73), (.t 71), (.t 75), (.t 76)], none, []⟩] 0 [1, 5, 6, 9, 12, 13, 15, 33, 54, 55, 56, 65, 66, 67, 77])
 (.cond (.t 77)
 (.reg true [82, 83] [82] [
 ⟨(some 78), .mv, [(.t 6)], none, []⟩,
 ⟨(some 79), .mv, [(.t 12)], none, []⟩,
 ⟨(some 80), .mv, [(.t 15)], none, []⟩,
 ⟨(some 81), (.build [(.int .i64 0), (.int .i64 0)] [(0, 1), (1, 1)]), [(.t 79), (.t 80)], none, []⟩,
 ⟨(some 82), (.bsl 2 [(.int .i64 0), (.int .i64 0)] 1 [0]), [(.t 81)], none, []⟩,
 ⟨(some 83), (.append false 2 16), [(.t 78), (.t 82)], none, []⟩,
 ⟨(some 6), .mv, [(.t 83)], none, []⟩] 0 [1, 5, 6, 9, 12, 13, 33, 54, 55, 56, 65, 66, 67])
 .skip))))
 (.reg true [] [] [
 ⟨(some 84), (.bin 0 .add), [(.t 67), (.c (.int .i64 1))], none, []⟩,
 ⟨(some 67), .mv, [(.t 84)], none, []⟩] 0 [1, 5, 6, 9, 12, 13, 33, 54, 55, 56, 65, 66, 67]))))
def b38_1 : LCode :=
 (.seq
 (.reg true [] [] [
 ⟨(some 57), (.bin 0 .lss), [(.t 56), (.t 55)], none, []⟩] 0 [1, 5, 6, 9, 33, 54, 55, 56, 57])
 (.seq
 (.cond (.t 57)
 .skip
 (.exit 2))
 (.seq
 (.block 3
 (.seq
 (.reg true [13] [13] [
 ⟨(some 58), .mv, [(.t 56)], none, []⟩,
 ⟨(some 59), (.ixs 3), [(.t 54), (.t 56)], none, []⟩,
 ⟨(some 60), (.load (some 3)), [(.t 59)], none, []⟩,
 ⟨(some 13), (.alloc [(.sl none 2 []), (.int .i64 0), (.int .i64 0)]), [], none, []⟩,
 ⟨(some 12), .mv, [(.t 58)], none, []⟩,
 ⟨none, (.store 3 none), [(.t 13), (.t 60)], none, []⟩] 0 [1, 5, 6, 9, 12, 13, 33, 54, 55, 56])
 (.seq
 (.reg true [] [] [
 ⟨(some 61), .mv, [(.t 9)], none, []⟩,
 ⟨(some 62), (.fa 0), [(.t 13)], none, []⟩,
 ⟨(some 63), (.load none), [(.t 62)], none, []⟩,
 ⟨(some 64), .len, [(.t 63)], none, []⟩,
 ⟨(some 65), .mlook, [(.t 61), (.t 64)], none, []⟩,
 ⟨(some 66), .len, [(.t 65)], none, []⟩,
 ⟨(some 67), .mv, [(.c (.int .i64 0))], none, []⟩] 0 [1, 5, 6, 9, 12, 13, 33, 54, 55, 56, 65, 66, 67])
 (.block 4
 (.loop b38_2)))))
 (.reg true [] [] [
 ⟨(some 85), (.bin 0 .add), [(.t 56), (.c (.int .i64 1))], none, []⟩,
 ⟨(some 56), .mv, [(.t 85)], none, []⟩] 0 [1, 5, 6, 9, 33, 54, 55, 56]))))
def l38 : LFun := ⟨3, 87, [],
 (.seq
 (.reg false [5] [5] [
 ⟨(some 5), .box, [(.t 2)], none, []⟩,
 ⟨(some 6), .mv, [(.c (.sl (some 2008300) 2 []))], none, []⟩,
 ⟨(some 7), .mv, [(.c (.int .i64 0))], none, []⟩] 0 [0, 1, 5, 6, 33])
 (.seq
 (.seq
 (.reg false [] [] [
 ⟨(some 16), .mv, [(.t 0)], none, []⟩,
 ⟨(some 17), .len, [(.t 16)], none, []⟩,
 ⟨(some 18), (.bin 0 .gtr), [(.t 17), (.c (.int .i64 50))], none, []⟩,
 ⟨(some 19), .mv, [(.t 18)], none, []⟩,
 ⟨(some 20), .mv, [(.t 1)], (some (19, false)), []⟩,
 ⟨(some 21), .len, [(.t 20)], (some (19, false)), []⟩,
 ⟨(some 22), (.bin 0 .gtr), [(.t 21), (.c (.int .i64 50))], (some (19, false)), []⟩,
 ⟨(some 23), .pick, [(.t 19), (.c (.bool true)), (.t 22)], none, []⟩] 0 [0, 1, 5, 6, 23, 33])
 (.cond (.t 23)
 (.seq
 (.reg false [] [] [
 ⟨(some 6), .mv, [(.c (.sl (some 2008300) 2 []))], none, []⟩,
 ⟨(some 7), .mv, [(.c (.int .i64 5))], none, []⟩] 0 [6, 7, 33])
 .ret)
 .skip))
 (.seq
 (.seq
 (.reg false [27, 28] [27, 28] [
 ⟨(some 24), (.load (some 2)), [(.t 5)], none, [25, 26, 27, 28]⟩,
 ⟨(some 25), .mv, [(.t 0)], none, [24, 26]⟩,
 ⟨(some 26), .mv, [(.t 1)], none, [24, 25]⟩,
 ⟨(some 27), (.bsl 1 [.nil] 2 [0, 1]), [(.t 25), (.t 26)], none, [24]⟩,
 ⟨(some 28), (.call true true true), [(.f 83), (.t 27)], none, [24]⟩,
 ⟨(some 29), (.call false false false), [(.f 65), (.t 24), (.t 28)], none, []⟩,
 ⟨(some 8), .mv, [(.t 29)], none, []⟩] 0 [0, 1, 5, 6, 8, 33])
 (.seq
 (.reg false [] [] [
 ⟨(some 30), .mv, [(.t 8)], none, []⟩,
 ⟨(some 31), (.bin 0 .neq), [(.t 30), (.c (.int .i64 0))], none, []⟩] 0 [0, 1, 5, 6, 8, 31, 33])
 (.cond (.t 31)
 (.seq
 (.reg false [] [] [
 ⟨(some 32), .mv, [(.t 8)], none, []⟩,
 ⟨(some 6), .mv, [(.c (.sl (some 2008300) 2 []))], none, []⟩,
 ⟨(some 7), .mv, [(.t 32)], none, []⟩] 0 [6, 7, 33])
 .ret)
 .skip)))
 (.seq
 (.reg false [33] [33] [
 ⟨(some 33), .mkmp, [], none, []⟩,
 ⟨(some 9), .mv, [(.t 33)], none, []⟩] 0 [0, 1, 5, 6, 9, 33])
 (.seq
 (.seq
 (.reg false [] [] [
 ⟨(some 34), .mv, [(.t 1)], none, []⟩,
 ⟨(some 35), .len, [(.t 34)], none, []⟩,
 ⟨(some 36), .mv, [(.c (.int .i64 0))], none, []⟩] 0 [0, 1, 5, 6, 9, 33, 34, 35, 36])
 (.block 0
 (.loop b38_0)))
 (.seq
 (.seq
 (.reg false [] [] [
 ⟨(some 54), .mv, [(.t 0)], none, []⟩,
 ⟨(some 55), .len, [(.t 54)], none, []⟩,
 ⟨(some 56), .mv, [(.c (.int .i64 0))], none, []⟩] 0 [1, 5, 6, 9, 33, 54, 55, 56])
 (.block 2
 (.loop b38_1)))
 (.seq
 (.reg false [] [] [
 ⟨(some 86), .mv, [(.t 6)], none, []⟩,
 ⟨(some 6), .mv, [(.t 86)], none, []⟩,
 ⟨(some 7), .mv, [(.c (.int .i64 0))], none, []⟩] 0 [6, 7, 33])
 .ret))))))),
 [(.t 6), (.t 7)]⟩
theorem c38 : funC Try.prog [(0, [0, 1, 5, 6, 33]), (1, [0, 1, 5, 6, 23, 33]), (2, [6, 7, 33]), (3, [0, 1, 5, 6, 8, 33]), (4, [0, 1, 5, 6, 8, 31, 33]), (5, [6, 7, 33]), (6, [0, 1, 5, 6, 9, 33]), (7, [0, 1, 5, 6, 9, 33, 34, 35, 36]), (8, [0, 1, 5, 6, 9, 33, 34, 35, 36, 37]), (9, [0, 1, 5, 6, 9, 10, 11, 33, 34, 35, 36]), (10, [0, 1, 5, 6, 9, 33, 34, 35, 36]), (11, [0, 1, 5, 6, 9, 33, 34, 35, 36]), (12, [1, 5, 6, 9, 33, 54, 55, 56]), (13, [1, 5, 6, 9, 33, 54, 55, 56, 57]), (14, [1, 5, 6, 9, 12, 13, 33, 54, 55, 56]), (15, [1, 5, 6, 9, 12, 13, 33, 54, 55, 56, 65, 66, 67]), (16, [1, 5, 6, 9, 12, 13, 33, 54, 55, 56, 65, 66, 67, 68]), (17, [1, 5, 6, 9, 12, 13, 15, 33, 54, 55, 56, 65, 66, 67]), (18, [1, 5, 6, 9, 12, 13, 15, 33, 54, 55, 56, 65, 66, 67, 77]), (19, [1, 5, 6, 9, 12, 13, 33, 54, 55, 56, 65, 66, 67]), (20, [1, 5, 6, 9, 12, 13, 33, 54, 55, 56, 65, 66, 67]), (21, [1, 5, 6, 9, 33, 54, 55, 56]), (22, [6, 7, 33])] Try.f38 = some (unF l38) := by kernel_rfl
/-- (acme/acmelaw03.Made).form -/
def l39 : LFun := ⟨1, 18, [],
 (.seq
 (.reg false [1, 2] [1, 2] [
 ⟨(some 1), .box, [(.t 0)], none, []⟩,
 ⟨(some 2), (.alloc [(.int .i64 0), (.int .i64 0), (.int .i64 0), (.int .i64 0), (.int .i64 0), (.int .i64 0), (.bool false), (.int .i64 0)]), [], none, []⟩] 0 [1, 2])
 (.seq
 (.reg false [] [] [
 ⟨(some 3), (.fa 0), [(.t 1)], none, []⟩,
 ⟨(some 4), (.load none), [(.t 3)], none, []⟩,
 ⟨(some 5), (.conv .i64), [(.t 4)], none, []⟩,
 ⟨(some 6), (.bin 0 .rem), [(.t 5), (.c (.int .i64 40000))], none, []⟩,
 ⟨(some 7), (.bin 0 .add), [(.c (.int .i64 2000)), (.t 6)], none, []⟩,
 ⟨(some 8), (.fa 1), [(.t 1)], none, []⟩,
 ⟨(some 9), (.load none), [(.t 8)], none, []⟩,
 ⟨(some 10), (.conv .i64), [(.t 9)], none, []⟩,
 ⟨(some 11), (.bin 0 .rem), [(.t 10), (.c (.int .i64 900))], none, []⟩,
 ⟨(some 12), (.bin 0 .add), [(.c (.int .i64 1)), (.t 11)], none, []⟩,
 ⟨(some 13), (.fa 2), [(.t 1)], none, []⟩,
 ⟨(some 14), (.load none), [(.t 13)], none, []⟩,
 ⟨(some 15), (.conv .i64), [(.t 14)], none, []⟩,
 ⟨(some 16), (.bin 0 .rem), [(.t 15), (.c (.int .i64 900))], none, []⟩,
 ⟨(some 17), (.build [(.int .i64 0), (.int .i64 0), (.int .i64 0), (.int .i64 0), (.int .i64 0), (.int .i64 0), (.bool false), (.int .i64 0)] [(0, 1), (1, 1), (2, 1), (3, 1), (4, 1), (5, 1)]), [(.t 7), (.t 12), (.t 16), (.c (.int .i64 300)), (.c (.int .i64 300)), (.c (.int .i64 1))], none, []⟩,
 ⟨none, (.store 8 none), [(.t 2), (.t 17)], none, []⟩] 0 [2])
 .ret)),
 [(.c 2 (some 8))]⟩
theorem c39 : funC Try.prog [(0, [1, 2]), (1, [2])] Try.f39 = some (unF l39) := by kernel_rfl
/-- acme/acmelaw03.span -/
def l40 : LFun := ⟨1, 20, [],
 (.seq
 (.reg false [1, 2] [1, 2] [
 ⟨(some 1), .box, [(.t 0)], none, []⟩,
 ⟨(some 2), (.alloc [(.int .i64 0), (.int .i64 0)]), [], none, []⟩] 0 [1, 2])
 (.seq
 (.reg false [] [] [
 ⟨(some 5), (.ixa 2 1), [(.t 1), (.c (.int .i64 0))], none, [9, 10, 11, 12]⟩,
 ⟨(some 6), (.load none), [(.t 5)], none, [9, 10, 11, 12]⟩,
 ⟨(some 7), (.conv .i64), [(.t 6)], none, [9, 10, 11, 12]⟩,
 ⟨(some 8), (.bin 0 .mul), [(.c (.int .i64 20)), (.t 7)], none, [9, 10, 11, 12]⟩,
 ⟨(some 9), (.ixa 2 1), [(.t 1), (.c (.int .i64 1))], none, [5, 6, 7, 8, 3]⟩,
 ⟨(some 10), (.load none), [(.t 9)], none, [5, 6, 7, 8, 3]⟩,
 ⟨(some 11), (.conv .i64), [(.t 10)], none, [5, 6, 7, 8, 3]⟩,
 ⟨(some 12), (.bin 0 .mul), [(.c (.int .i64 20)), (.t 11)], none, [5, 6, 7, 8, 3]⟩,
 ⟨(some 3), .mv, [(.t 8)], none, [9, 10, 11, 12]⟩,
 ⟨(some 4), .mv, [(.t 12)], none, []⟩] 0 [2, 3, 4])
 (.seq
 (.reg false [] [] [
 ⟨(some 13), .mv, [(.t 3)], none, []⟩,
 ⟨(some 14), .mv, [(.t 4)], none, []⟩,
 ⟨(some 15), .min, [(.t 13), (.t 14)], none, []⟩,
 ⟨(some 16), .mv, [(.t 3)], none, []⟩,
 ⟨(some 17), .mv, [(.t 4)], none, []⟩,
 ⟨(some 18), .max, [(.t 16), (.t 17)], none, []⟩,
 ⟨(some 19), (.build [(.int .i64 0), (.int .i64 0)] [(0, 1), (1, 1)]), [(.t 15), (.t 18)], none, []⟩,
 ⟨none, (.store 2 none), [(.t 2), (.t 19)], none, []⟩] 0 [2])
 .ret))),
 [(.c 2 (some 2))]⟩
theorem c40 : funC Try.prog [(0, [1, 2]), (1, [2, 3, 4]), (2, [2])] Try.f40 = some (unF l40) := by kernel_rfl
/-- (acme/acmelaw03.Made).turns -/
def l41 : LFun := ⟨1, 8, [],
 (.seq
 (.reg false [1] [1] [
 ⟨(some 1), .box, [(.t 0)], none, []⟩,
 ⟨(some 2), .mv, [(.c (.int .i64 0))], none, []⟩] 0 [1])
 (.seq
 (.reg false [] [] [
 ⟨(some 3), (.fa 3), [(.t 1)], none, []⟩,
 ⟨(some 4), (.load none), [(.t 3)], none, []⟩,
 ⟨(some 5), .len, [(.t 4)], none, []⟩,
 ⟨(some 6), .min, [(.c (.int .i64 8)), (.t 5)], none, []⟩,
 ⟨(some 7), .max, [(.c (.int .i64 1)), (.t 6)], none, []⟩,
 ⟨(some 2), .mv, [(.t 7)], none, []⟩] 0 [2])
 .ret)),
 [(.t 2)]⟩
theorem c41 : funC Try.prog [(0, [1]), (1, [2])] Try.f41 = some (unF l41) := by kernel_rfl
/-- acme/acmelaw03.goes -/
def l43 : LFun := ⟨3, 42, [],
 (.seq
 (.reg false [3, 4, 5] [3, 4, 5] [
 ⟨(some 3), .box, [(.t 0)], none, []⟩,
 ⟨(some 4), .box, [(.t 1)], none, []⟩,
 ⟨(some 5), .box, [(.t 2)], none, []⟩,
 ⟨(some 6), .mv, [(.c (.bool false))], none, []⟩,
 ⟨(some 7), .mv, [(.c (.bool false))], none, []⟩] 0 [3, 4, 5])
 (.seq
 (.reg false [12, 14, 8] [12, 14, 8] [
 ⟨(some 11), (.load (some 3)), [(.t 3)], none, [13, 15, 16, 17, 18, 8]⟩,
 ⟨(some 12), (.call true false true), [(.f 15), (.t 11)], none, [13, 15, 16, 17, 18, 8]⟩,
 ⟨(some 13), (.load (some 3)), [(.t 4)], none, [11, 12, 15, 16, 17, 18, 8]⟩,
 ⟨(some 14), (.call true false true), [(.f 15), (.t 13)], none, [15, 16, 17, 18, 8]⟩,
 ⟨(some 15), (.fa 0), [(.t 3)], none, [11, 12, 13, 14, 18, 8]⟩,
 ⟨(some 16), (.load none), [(.t 15)], none, [11, 12, 13, 14, 18, 8]⟩,
 ⟨(some 17), .len, [(.t 16)], none, [11, 12, 13, 14, 18, 8]⟩,
 ⟨(some 18), (.load (some 2)), [(.t 5)], none, [11, 12, 13, 14, 15, 16, 17, 8]⟩,
 ⟨(some 19), (.call false false false), [(.f 25), (.t 12), (.t 14), (.c (.int .i64 0)), (.c (.int .i64 0)), (.t 17), (.t 18)], none, [8]⟩,
 ⟨(some 10), .mv, [(.t 19)], none, [8]⟩,
 ⟨(some 20), (.ext 0), [(.t 10)], none, [21, 8]⟩,
 ⟨(some 21), (.ext 1), [(.t 10)], none, [20, 8]⟩,
 ⟨(some 8), (.alloc [(.int .i64 0), (.int .i64 0)]), [], none, [11, 12, 13, 14, 15, 16, 17, 18, 19, 10, 20, 21]⟩,
 ⟨none, (.store 2 (some 8)), [(.t 8), (.t 20)], none, [21]⟩,
 ⟨(some 9), .mv, [(.t 21)], none, []⟩] 0 [8, 9])
 (.seq
 (.reg false [] [] [
 ⟨(some 22), .mv, [(.t 9)], none, [24, 25, 26, 27, 28, 29, 30, 31, 32, 33, 34, 35, 36, 37, 38, 39, 40, 41]⟩,
 ⟨(some 23), (.bin 0 .eql), [(.t 22), (.c (.int .i64 0))], none, [24, 25, 26, 27, 28, 29, 30, 31, 32, 33, 34, 35, 36, 37, 38, 39, 40, 41]⟩,
 ⟨(some 24), .mv, [(.t 9)], none, [22, 23]⟩,
 ⟨(some 25), (.bin 0 .eql), [(.t 24), (.c (.int .i64 0))], none, [22, 23]⟩,
 ⟨(some 26), .mv, [(.t 25)], none, [22, 23]⟩,
 ⟨(some 27), (.fa 0), [(.t 8)], (some (26, true)), [22, 23, 29, 30]⟩,
 ⟨(some 28), (.load none), [(.t 27)], (some (26, true)), [22, 23, 29, 30]⟩,
 ⟨(some 29), (.fa 1), [(.t 8)], (some (26, true)), [22, 23, 27, 28]⟩,
 ⟨(some 30), (.load none), [(.t 29)], (some (26, true)), [22, 23, 27, 28]⟩,
 ⟨(some 31), (.bin 0 .leq), [(.t 28), (.t 30)], (some (26, true)), [22, 23]⟩,
 ⟨(some 32), .pick, [(.t 26), (.t 31), (.c (.bool false))], none, [22, 23]⟩,
 ⟨(some 33), .mv, [(.t 32)], none, [22, 23]⟩,
 ⟨(some 34), .mv, [(.t 9)], (some (33, false)), [22, 23]⟩,
 ⟨(some 35), (.bin 0 .eql), [(.t 34), (.c (.int .i64 9))], (some (33, false)), [22, 23]⟩,
 ⟨(some 36), .mv, [(.t 35)], (some (33, false)), [22, 23]⟩,
 ⟨(some 37), (.load (some 2)), [(.t 8)], (some (36, true)), [22, 23, 38, 6]⟩,
 ⟨(some 38), (.build [(.int .i64 0), (.int .i64 0)] []), [], (some (36, true)), [22, 23, 37, 6]⟩,
 ⟨(some 39), (.eqs false [(some .i64), (some .i64)]), [(.t 37), (.t 38)], (some (36, true)), [22, 23, 6]⟩,
 ⟨(some 40), .pick, [(.t 36), (.t 39), (.c (.bool false))], (some (33, false)), [22, 23, 6]⟩,
 ⟨(some 41), .pick, [(.t 33), (.c (.bool true)), (.t 40)], none, [22, 23, 6]⟩,
 ⟨(some 6), .mv, [(.t 23)], none, [37, 38, 39, 40, 41]⟩,
 ⟨(some 7), .mv, [(.t 41)], none, []⟩] 0 [6, 7])
 .ret))),
 [(.t 6), (.t 7)]⟩
theorem c43 : funC Try.prog [(0, [3, 4, 5]), (1, [8, 9]), (2, [6, 7])] Try.f43 = some (unF l43) := by kernel_rfl
/-- acme/acmelaw03.between -/
def l44 : LFun := ⟨3, 28, [],
 (.seq
 (.reg false [5, 6] [5, 6] [
 ⟨(some 5), .box, [(.t 2)], none, []⟩,
 ⟨(some 6), (.alloc [(.int .i64 0), (.int .i64 0)]), [], none, []⟩] 0 [0, 1, 5, 6])
 (.seq
 (.reg false [] [] [
 ⟨(some 7), .mv, [(.t 1)], none, []⟩,
 ⟨(some 8), .mv, [(.t 0)], none, []⟩,
 ⟨(some 9), (.ixa 2 1), [(.t 5), (.c (.int .i64 0))], none, []⟩,
 ⟨(some 10), (.load none), [(.t 9)], none, []⟩,
 ⟨(some 11), (.ixa 2 1), [(.t 5), (.c (.int .i64 1))], none, []⟩,
 ⟨(some 12), (.load none), [(.t 11)], none, []⟩,
 ⟨(some 13), .min, [(.t 10), (.t 12)], none, []⟩,
 ⟨(some 14), (.conv .i64), [(.t 13)], none, []⟩,
 ⟨(some 15), (.bin 0 .add), [(.t 8), (.t 14)], none, []⟩,
 ⟨(some 16), .max, [(.t 7), (.t 15)], none, []⟩,
 ⟨(some 17), .mv, [(.t 1)], none, []⟩,
 ⟨(some 18), .mv, [(.t 0)], none, []⟩,
 ⟨(some 19), (.ixa 2 1), [(.t 5), (.c (.int .i64 0))], none, []⟩,
 ⟨(some 20), (.load none), [(.t 19)], none, []⟩,
 ⟨(some 21), (.ixa 2 1), [(.t 5), (.c (.int .i64 1))], none, []⟩,
 ⟨(some 22), (.load none), [(.t 21)], none, []⟩,
 ⟨(some 23), .max, [(.t 20), (.t 22)], none, []⟩,
 ⟨(some 24), (.conv .i64), [(.t 23)], none, []⟩,
 ⟨(some 25), (.bin 0 .add), [(.t 18), (.t 24)], none, []⟩,
 ⟨(some 26), .max, [(.t 17), (.t 25)], none, []⟩,
 ⟨(some 27), (.build [(.int .i64 0), (.int .i64 0)] [(0, 1), (1, 1)]), [(.t 16), (.t 26)], none, []⟩,
 ⟨none, (.store 2 none), [(.t 6), (.t 27)], none, []⟩] 0 [6])
 .ret)),
 [(.c 6 (some 2))]⟩
theorem c44 : funC Try.prog [(0, [0, 1, 5, 6]), (1, [6])] Try.f44 = some (unF l44) := by kernel_rfl
/-- acme/acmelaw03.FitRange$1 -/
def l45 : LFun := ⟨2, 17, [],
 (.seq
 (.reg false [2, 4] [2, 4] [
 ⟨(some 2), .box, [(.t 0)], none, []⟩,
 ⟨(some 4), (.alloc [(.int .i64 0), (.int .i64 0), (.int .i64 0)]), [], none, []⟩] 0 [1, 2, 4])
 (.seq
 (.reg false [] [] [
 ⟨(some 5), (.fa 0), [(.t 2)], none, []⟩,
 ⟨(some 6), (.load none), [(.t 5)], none, []⟩,
 ⟨(some 7), (.fa 1), [(.t 2)], none, []⟩,
 ⟨(some 8), (.load none), [(.t 7)], none, []⟩,
 ⟨(some 9), .mv, [(.t 1)], none, []⟩,
 ⟨(some 10), (.fa 0), [(.t 2)], none, []⟩,
 ⟨(some 11), (.load none), [(.t 10)], none, []⟩,
 ⟨(some 12), .max, [(.t 9), (.t 11)], none, []⟩,
 ⟨(some 13), (.fa 1), [(.t 2)], none, []⟩,
 ⟨(some 14), (.load none), [(.t 13)], none, []⟩,
 ⟨(some 15), .min, [(.t 12), (.t 14)], none, []⟩,
 ⟨(some 16), (.build [(.int .i64 0), (.int .i64 0), (.int .i64 0)] [(0, 1), (1, 1), (2, 1)]), [(.t 6), (.t 8), (.t 15)], none, []⟩,
 ⟨none, (.store 3 none), [(.t 4), (.t 16)], none, []⟩] 0 [4])
 .ret)),
 [(.c 4 (some 3))]⟩
theorem c45 : funC Try.prog [(0, [1, 2, 4]), (1, [4])] Try.f45 = some (unF l45) := by kernel_rfl
/-- acme/acmelaw03.FitRange$2 -/
def b46_0 : LCode :=
 (.seq
 (.seq
 (.reg true [] [] [
 ⟨(some 20), .mv, [(.t 14)], none, []⟩,
 ⟨(some 21), (.load none), [(.t 4)], none, []⟩,
 ⟨(some 22), (.bin 0 .lss), [(.t 20), (.t 21)], none, []⟩] 0 [0, 1, 4, 5, 6, 12, 13, 14, 22])
 (.cond (.t 22)
 .skip
 (.exit 0)))
 (.seq
 (.block 1
 (.seq
 (.seq
 (.reg true [] [] [
 ⟨(some 25), .mv, [(.t 14)], none, []⟩,
 ⟨(some 26), (.bin 0 .gtr), [(.t 25), (.c (.int .i64 0))], none, []⟩] 0 [0, 1, 4, 5, 6, 12, 13, 14, 26])
 (.cond (.t 26)
 (.reg true [] [] [
 ⟨(some 27), .mv, [(.t 13)], none, [28, 29, 30, 31, 32, 33]⟩,
 ⟨(some 28), (.fa 0), [(.t 5)], none, [27, 30, 31, 32]⟩,
 ⟨(some 29), (.load none), [(.t 28)], none, [27, 30, 31, 32]⟩,
 ⟨(some 30), .mv, [(.t 0)], none, [27, 28, 29, 31]⟩,
 ⟨(some 31), .mv, [(.t 14)], none, [27, 28, 29, 30]⟩,
 ⟨(some 32), (.call true false false), [(.t 30), (.t 31)], none, [27, 28, 29]⟩,
 ⟨(some 33), (.bin 0 .add), [(.t 29), (.t 32)], none, [27]⟩,
 ⟨(some 34), (.bin 0 .add), [(.t 27), (.t 33)], none, []⟩,
 ⟨(some 13), .mv, [(.t 34)], none, []⟩] 0 [0, 1, 4, 5, 6, 12, 13, 14])
 .skip))
 (.reg true [44, 45] [44] [
 ⟨(some 35), (.fa 0), [(.t 12)], none, [37, 38, 39, 40, 41, 42, 43, 44]⟩,
 ⟨(some 36), (.load none), [(.t 35)], none, [37, 38, 39, 40, 41, 42, 43, 44]⟩,
 ⟨(some 37), .mv, [(.t 13)], none, [35, 36, 38, 39, 40, 41, 42]⟩,
 ⟨(some 38), .mv, [(.t 13)], none, [35, 36, 37, 39, 40, 41]⟩,
 ⟨(some 39), .mv, [(.t 1)], none, [35, 36, 37, 38, 40]⟩,
 ⟨(some 40), .mv, [(.t 14)], none, [35, 36, 37, 38, 39]⟩,
 ⟨(some 41), (.call true false false), [(.t 39), (.t 40)], none, [35, 36, 37, 38]⟩,
 ⟨(some 42), (.bin 0 .add), [(.t 38), (.t 41)], none, [35, 36, 37]⟩,
 ⟨(some 43), (.build [(.int .i64 0), (.int .i64 0)] [(0, 1), (1, 1)]), [(.t 37), (.t 42)], none, [35, 36]⟩,
 ⟨(some 44), (.bsl 2 [(.int .i64 0), (.int .i64 0)] 1 [0]), [(.t 43)], none, [35, 36]⟩,
 ⟨(some 45), (.append false 2 16), [(.t 36), (.t 44)], none, []⟩,
 ⟨(some 46), (.fa 0), [(.t 12)], none, []⟩,
 ⟨none, (.store 1 (some 12)), [(.t 46), (.t 45)], none, []⟩] 0 [0, 1, 4, 5, 6, 12, 13, 14])))
 (.reg true [] [] [
 ⟨(some 23), .mv, [(.t 14)], none, []⟩,
 ⟨(some 24), (.bin 0 .add), [(.t 23), (.c (.int .i64 1))], none, []⟩,
 ⟨(some 14), .mv, [(.t 24)], none, []⟩] 0 [0, 1, 4, 5, 6, 12, 13, 14])))
def l46 : LFun := ⟨7, 57, [],
 (.seq
 (.reg false [] [] [
 ⟨(some 11), .mv, [(.c (.int .i64 0))], none, []⟩] 0 [0, 1, 2, 3, 4, 5, 6])
 (.seq
 (.reg false [12] [12] [
 ⟨(some 17), .mv, [(.t 2)], none, []⟩,
 ⟨(some 18), .mv, [(.t 3)], none, []⟩,
 ⟨(some 19), (.build [(.sl (some 2004500) 2 []), (.int .i64 0), (.int .i64 0)] [(1, 1), (2, 1)]), [(.t 17), (.t 18)], none, []⟩,
 ⟨(some 12), (.alloc [(.sl (some 2004500) 2 []), (.int .i64 0), (.int .i64 0)]), [], none, []⟩,
 ⟨none, (.store 3 none), [(.t 12), (.t 19)], none, []⟩,
 ⟨(some 13), .mv, [(.c (.int .i64 0))], none, []⟩] 0 [0, 1, 4, 5, 6, 12, 13])
 (.seq
 (.seq
 (.reg false [] [] [
 ⟨(some 14), .mv, [(.c (.int .i64 0))], none, []⟩] 0 [0, 1, 4, 5, 6, 12, 13, 14])
 (.block 0
 (.loop b46_0)))
 (.seq
 (.reg false [] [] [
 ⟨(some 48), (.load (some 8)), [(.t 5)], none, []⟩,
 ⟨(some 49), (.load (some 3)), [(.t 12)], none, []⟩,
 ⟨(some 50), (.load (some 2)), [(.t 6)], none, []⟩,
 ⟨(some 51), (.call false false false), [(.f 17), (.t 48), (.t 49), (.t 50)], none, []⟩,
 ⟨(some 47), .mv, [(.t 51)], none, []⟩,
 ⟨(some 52), (.ext 0), [(.t 47)], none, []⟩,
 ⟨(some 53), (.ext 1), [(.t 47)], none, []⟩,
 ⟨(some 15), .mv, [(.t 52)], none, []⟩,
 ⟨(some 16), .mv, [(.t 53)], none, []⟩] 0 [15, 16])
 (.seq
 (.seq
 (.reg false [] [] [
 ⟨(some 54), .mv, [(.t 16)], none, []⟩,
 ⟨(some 55), (.bin 0 .neq), [(.t 54), (.c (.int .i64 0))], none, []⟩] 0 [15, 55])
 (.cond (.t 55)
 (.seq
 (.reg false [] [] [
 ⟨(some 11), .mv, [(.c (.int .i64 (-1099511627776)))], none, []⟩] 0 [11])
 .ret)
 .skip))
 (.seq
 (.reg false [] [] [
 ⟨(some 56), .mv, [(.t 15)], none, []⟩,
 ⟨(some 11), .mv, [(.t 56)], none, []⟩] 0 [11])
 .ret)))))),
 [(.t 11)]⟩
theorem c46 : funC Try.prog [(0, [0, 1, 2, 3, 4, 5, 6]), (1, [0, 1, 4, 5, 6, 12, 13]), (2, [0, 1, 4, 5, 6, 12, 13, 14]), (3, [0, 1, 4, 5, 6, 12, 13, 14, 22]), (4, [0, 1, 4, 5, 6, 12, 13, 14]), (5, [0, 1, 4, 5, 6, 12, 13, 14, 26]), (6, [0, 1, 4, 5, 6, 12, 13, 14]), (7, [0, 1, 4, 5, 6, 12, 13, 14]), (8, [15, 16]), (9, [15, 55]), (10, [11]), (11, [11])] Try.f46 = some (unF l46) := by kernel_rfl
/-- acme/acmelaw03.FitRange$3 -/
def l47 : LFun := ⟨3, 32, [],
 (.seq
 (.reg false [3] [3] [
 ⟨(some 3), .box, [(.t 0)], none, []⟩,
 ⟨(some 5), .mv, [(.c (.int .i64 0))], none, []⟩] 0 [1, 2, 3])
 (.seq
 (.seq
 (.reg false [] [] [
 ⟨(some 6), (.fa 9), [(.t 2)], none, []⟩,
 ⟨(some 7), (.load none), [(.t 6)], none, []⟩,
 ⟨(some 8), .len, [(.t 7)], none, []⟩,
 ⟨(some 9), (.bin 0 .eql), [(.t 8), (.c (.int .i64 0))], none, []⟩] 0 [1, 2, 3, 9])
 (.cond (.t 9)
 (.seq
 (.reg false [] [] [
 ⟨(some 10), (.fa 0), [(.t 3)], none, []⟩,
 ⟨(some 11), (.load none), [(.t 10)], none, []⟩,
 ⟨(some 5), .mv, [(.t 11)], none, []⟩] 0 [5])
 .ret)
 .skip))
 (.seq
 (.reg false [] [] [
 ⟨(some 12), (.fa 0), [(.t 3)], none, [14, 15, 16, 17, 18, 19, 20, 21, 22, 23, 24, 25, 26, 27, 28, 29, 30]⟩,
 ⟨(some 13), (.load none), [(.t 12)], none, [14, 15, 16, 17, 18, 19, 20, 21, 22, 23, 24, 25, 26, 27, 28, 29, 30]⟩,
 ⟨(some 14), (.fa 9), [(.t 2)], none, [12, 13, 16, 17, 18, 19, 20, 24, 25, 26, 27, 28, 29]⟩,
 ⟨(some 15), (.load none), [(.t 14)], none, [12, 13, 16, 17, 18, 19, 20, 24, 25, 26, 27, 28, 29]⟩,
 ⟨(some 16), .mv, [(.t 1)], none, [12, 13, 14, 15, 17, 18, 19, 24, 25, 26, 27, 28, 29]⟩,
 ⟨(some 17), (.fa 9), [(.t 2)], none, [12, 13, 14, 15, 16, 24, 25, 26, 27, 28, 29]⟩,
 ⟨(some 18), (.load none), [(.t 17)], none, [12, 13, 14, 15, 16, 24, 25, 26, 27, 28, 29]⟩,
 ⟨(some 19), .len, [(.t 18)], none, [12, 13, 14, 15, 16, 24, 25, 26, 27, 28, 29]⟩,
 ⟨(some 20), (.bin 0 .rem), [(.t 16), (.t 19)], none, [12, 13, 14, 15, 24, 25, 26, 27, 28, 29]⟩,
 ⟨(some 21), (.ixs 1), [(.t 15), (.t 20)], none, [12, 13, 24, 25, 26, 27, 28, 29]⟩,
 ⟨(some 22), (.load none), [(.t 21)], none, [12, 13, 24, 25, 26, 27, 28, 29]⟩,
 ⟨(some 23), (.conv .i64), [(.t 22)], none, [12, 13, 24, 25, 26, 27, 28, 29]⟩,
 ⟨(some 24), (.fa 1), [(.t 3)], none, [12, 13, 14, 15, 16, 17, 18, 19, 20, 21, 22, 23, 26, 27]⟩,
 ⟨(some 25), (.load none), [(.t 24)], none, [12, 13, 14, 15, 16, 17, 18, 19, 20, 21, 22, 23, 26, 27]⟩,
 ⟨(some 26), (.fa 0), [(.t 3)], none, [12, 13, 14, 15, 16, 17, 18, 19, 20, 21, 22, 23, 24, 25]⟩,
 ⟨(some 27), (.load none), [(.t 26)], none, [12, 13, 14, 15, 16, 17, 18, 19, 20, 21, 22, 23, 24, 25]⟩,
 ⟨(some 28), (.bin 0 .sub), [(.t 25), (.t 27)], none, [12, 13, 14, 15, 16, 17, 18, 19, 20, 21, 22, 23]⟩,
 ⟨(some 29), (.bin 0 .add), [(.t 28), (.c (.int .i64 1))], none, [12, 13, 14, 15, 16, 17, 18, 19, 20, 21, 22, 23]⟩,
 ⟨(some 30), (.bin 0 .rem), [(.t 23), (.t 29)], none, [12, 13]⟩,
 ⟨(some 31), (.bin 0 .add), [(.t 13), (.t 30)], none, []⟩,
 ⟨(some 5), .mv, [(.t 31)], none, []⟩] 0 [5])
 .ret))),
 [(.t 5)]⟩
theorem c47 : funC Try.prog [(0, [1, 2, 3]), (1, [1, 2, 3, 9]), (2, [5]), (3, [5])] Try.f47 = some (unF l47) := by kernel_rfl
/-- acme/acmelaw03.FitRange$4 -/
def l48 : LFun := ⟨3, 10, [],
 (.seq
 (.reg false [] [] [
 ⟨(some 4), .mv, [(.c (.int .i64 0))], none, []⟩] 0 [0, 1, 2])
 (.seq
 (.reg false [] [] [
 ⟨(some 5), (.load none), [(.t 1)], none, []⟩,
 ⟨(some 6), (.fa 0), [(.t 2)], none, []⟩,
 ⟨(some 7), (.load (some 2)), [(.t 6)], none, []⟩,
 ⟨(some 8), .mv, [(.t 0)], none, []⟩,
 ⟨(some 9), (.call false false false), [(.t 5), (.t 7), (.t 8)], none, []⟩,
 ⟨(some 4), .mv, [(.t 9)], none, []⟩] 0 [4])
 .ret)),
 [(.t 4)]⟩
theorem c48 : funC Try.prog [(0, [0, 1, 2]), (1, [4])] Try.f48 = some (unF l48) := by kernel_rfl
/-- acme/acmelaw03.FitRange$5 -/
def l49 : LFun := ⟨3, 11, [],
 (.seq
 (.reg false [] [] [
 ⟨(some 4), .mv, [(.c (.int .i64 0))], none, []⟩] 0 [0, 1, 2])
 (.seq
 (.reg false [] [] [
 ⟨(some 5), (.load none), [(.t 1)], none, []⟩,
 ⟨(some 6), (.fa 2), [(.t 2)], none, []⟩,
 ⟨(some 7), (.load (some 2)), [(.t 6)], none, []⟩,
 ⟨(some 8), .mv, [(.t 0)], none, []⟩,
 ⟨(some 9), (.bin 0 .mul), [(.c (.int .i64 2)), (.t 8)], none, []⟩,
 ⟨(some 10), (.call false false false), [(.t 5), (.t 7), (.t 9)], none, []⟩,
 ⟨(some 4), .mv, [(.t 10)], none, []⟩] 0 [4])
 .ret)),
 [(.t 4)]⟩
theorem c49 : funC Try.prog [(0, [0, 1, 2]), (1, [4])] Try.f49 = some (unF l49) := by kernel_rfl
/-- acme/acmelaw03.FitRange$6 -/
def l50 : LFun := ⟨2, 5, [],
 (.seq
 (.reg false [] [] [
 ⟨(some 3), .mv, [(.c (.int .i64 0))], none, []⟩] 0 [1])
 (.seq
 (.reg false [] [] [
 ⟨(some 4), (.load none), [(.t 1)], none, []⟩,
 ⟨(some 3), .mv, [(.t 4)], none, []⟩] 0 [3])
 .ret)),
 [(.t 3)]⟩
theorem c50 : funC Try.prog [(0, [1]), (1, [3])] Try.f50 = some (unF l50) := by kernel_rfl
/-- acme/acmelaw03.FitRange$7 -/
def l51 : LFun := ⟨2, 5, [],
 (.seq
 (.reg false [] [] [
 ⟨(some 3), .mv, [(.c (.int .i64 0))], none, []⟩] 0 [1])
 (.seq
 (.reg false [] [] [
 ⟨(some 4), (.load none), [(.t 1)], none, []⟩,
 ⟨(some 3), .mv, [(.t 4)], none, []⟩] 0 [3])
 .ret)),
 [(.t 3)]⟩
theorem c51 : funC Try.prog [(0, [1]), (1, [3])] Try.f51 = some (unF l51) := by kernel_rfl
/-- acme/acmelaw03.two -/
def l52 : LFun := ⟨2, 21, [],
 (.seq
 (.reg false [4] [4] [
 ⟨(some 4), (.alloc [(.sl none 2 []), (.int .i64 0), (.int .i64 0)]), [], none, []⟩] 0 [0, 1, 4])
 (.seq
 (.reg false [19] [19] [
 ⟨(some 5), .mv, [(.t 1)], none, []⟩,
 ⟨(some 6), (.bin 0 .sub), [(.c (.int .i64 (-2500))), (.t 5)], none, []⟩,
 ⟨(some 7), .mv, [(.t 1)], none, []⟩,
 ⟨(some 8), (.bin 0 .add), [(.c (.int .i64 2500)), (.t 7)], none, []⟩,
 ⟨(some 9), (.build [(.int .i64 0), (.int .i64 0)] [(0, 1), (1, 1)]), [(.t 6), (.t 8)], none, []⟩,
 ⟨(some 10), .mv, [(.t 0)], none, []⟩,
 ⟨(some 11), (.bin 0 .add), [(.c (.int .i64 7500)), (.t 10)], none, []⟩,
 ⟨(some 12), .mv, [(.t 1)], none, []⟩,
 ⟨(some 13), (.bin 0 .sub), [(.t 11), (.t 12)], none, []⟩,
 ⟨(some 14), .mv, [(.t 0)], none, []⟩,
 ⟨(some 15), (.bin 0 .add), [(.c (.int .i64 12500)), (.t 14)], none, []⟩,
 ⟨(some 16), .mv, [(.t 1)], none, []⟩,
 ⟨(some 17), (.bin 0 .add), [(.t 15), (.t 16)], none, []⟩,
 ⟨(some 18), (.build [(.int .i64 0), (.int .i64 0)] [(0, 1), (1, 1)]), [(.t 13), (.t 17)], none, []⟩,
 ⟨(some 19), (.bsl 2 [(.int .i64 0), (.int .i64 0)] 2 [0, 1]), [(.t 9), (.t 18)], none, []⟩,
 ⟨(some 20), (.build [(.sl none 2 []), (.int .i64 0), (.int .i64 0)] [(0, 1), (1, 1), (2, 1)]), [(.t 19), (.c (.int .i64 577)), (.c (.int .i64 577))], none, []⟩,
 ⟨none, (.store 3 none), [(.t 4), (.t 20)], none, []⟩] 0 [4])
 .ret)),
 [(.c 4 (some 3))]⟩
theorem c52 : funC Try.prog [(0, [0, 1, 4]), (1, [4])] Try.f52 = some (unF l52) := by kernel_rfl
/-- acme/acmelaw03.metric -/
def l53 : LFun := ⟨0, 2, [],
 (.seq
 (.reg false [0] [0] [
 ⟨(some 0), (.alloc [(.int .i64 0), (.int .i64 0), (.int .i64 0), (.int .i64 0), (.int .i64 0), (.int .i64 0), (.bool false), (.int .i64 0)]), [], none, []⟩] 0 [0])
 (.seq
 (.reg false [] [] [
 ⟨(some 1), (.build [(.int .i64 0), (.int .i64 0), (.int .i64 0), (.int .i64 0), (.int .i64 0), (.int .i64 0), (.bool false), (.int .i64 0)] [(0, 1), (1, 1), (2, 1), (3, 1), (4, 1), (5, 1)]), [(.c (.int .i64 10000)), (.c (.int .i64 577)), (.c (.int .i64 577)), (.c (.int .i64 3000)), (.c (.int .i64 3000)), (.c (.int .i64 1))], none, []⟩,
 ⟨none, (.store 8 none), [(.t 0), (.t 1)], none, []⟩] 0 [0])
 .ret)),
 [(.c 0 (some 8))]⟩
theorem c53 : funC Try.prog [(0, [0]), (1, [0])] Try.f53 = some (unF l53) := by kernel_rfl
/-- acme/acmelaw03.depth -/
def l54 : LFun := ⟨0, 2, [],
 (.seq
 (.reg false [0] [0] [
 ⟨(some 0), (.alloc [(.int .i64 0), (.int .i64 0)]), [], none, []⟩] 0 [0])
 (.seq
 (.reg false [] [] [
 ⟨(some 1), (.build [(.int .i64 0), (.int .i64 0)] [(0, 1), (1, 1)]), [(.c (.int .i64 (-3000))), (.c (.int .i64 3000))], none, []⟩,
 ⟨none, (.store 2 none), [(.t 0), (.t 1)], none, []⟩] 0 [0])
 .ret)),
 [(.c 0 (some 2))]⟩
theorem c54 : funC Try.prog [(0, [0]), (1, [0])] Try.f54 = some (unF l54) := by kernel_rfl
/-- acme/fit.within -/
def l55 : LFun := ⟨3, 11, [],
 (.seq
 (.reg false [3, 4] [3, 4] [
 ⟨(some 3), .box, [(.t 0)], none, []⟩,
 ⟨(some 4), .box, [(.t 1)], none, []⟩,
 ⟨(some 6), .mv, [(.c (.bool false))], none, []⟩] 0 [2, 3, 4])
 (.seq
 (.reg false [] [] [
 ⟨(some 7), .mv, [(.t 2)], none, []⟩,
 ⟨(some 8), (.mkf 85), [(.t 3), (.t 4)], none, []⟩,
 ⟨(some 9), (.call false false false), [(.f 84), (.t 7), (.t 8)], none, []⟩,
 ⟨(some 10), (.un .not), [(.t 9)], none, []⟩,
 ⟨(some 6), .mv, [(.t 10)], none, []⟩] 0 [3, 4, 6])
 .ret)),
 [(.t 6)]⟩
theorem c55 : funC Try.prog [(0, [2, 3, 4]), (1, [3, 4, 6])] Try.f55 = some (unF l55) := by kernel_rfl
/-- acme/fit.open -/
def l56 : LFun := ⟨3, 22, [],
 (.seq
 (.reg false [3, 4, 6] [3, 4, 6] [
 ⟨(some 3), .box, [(.t 0)], none, []⟩,
 ⟨(some 4), .box, [(.t 1)], none, []⟩,
 ⟨(some 6), (.alloc [(.int .i64 0), (.int .i64 0), (.int .i64 0), (.int .i64 0), (.int .i64 0), (.int .i64 0), (.bool false), (.int .i64 0), (.int .i64 0), (.int .i64 0)]), [], none, []⟩,
 ⟨(some 7), .mv, [(.c (.int .i64 0))], none, []⟩] 0 [2, 3, 4, 6])
 (.seq
 (.seq
 (.reg false [] [] [
 ⟨(some 9), (.load (some 8)), [(.t 3)], none, []⟩,
 ⟨(some 10), (.call false false false), [(.f 70), (.t 9)], none, []⟩,
 ⟨(some 8), .mv, [(.t 10)], none, []⟩] 0 [2, 3, 4, 6, 8])
 (.seq
 (.reg false [] [] [
 ⟨(some 11), .mv, [(.t 8)], none, []⟩,
 ⟨(some 12), (.bin 0 .neq), [(.t 11), (.c (.int .i64 0))], none, []⟩] 0 [2, 3, 4, 6, 8, 12])
 (.cond (.t 12)
 (.seq
 (.reg false [] [] [
 ⟨(some 13), (.load (some 10)), [(.t 6)], none, []⟩,
 ⟨(some 14), .mv, [(.t 8)], none, []⟩,
 ⟨none, (.store 10 none), [(.t 6), (.t 13)], none, []⟩,
 ⟨(some 7), .mv, [(.t 14)], none, []⟩] 0 [6, 7])
 .ret)
 .skip)))
 (.seq
 (.reg false [] [] [
 ⟨(some 15), (.load (some 8)), [(.t 3)], none, [16, 17, 19, 20, 21]⟩,
 ⟨(some 16), (.load (some 2)), [(.t 4)], none, [15, 19, 20, 21]⟩,
 ⟨(some 17), (.build [(.int .i64 0), (.int .i64 0)] [(0, 2)]), [(.t 16)], none, [15, 19, 20, 21]⟩,
 ⟨(some 18), (.build [(.int .i64 0), (.int .i64 0), (.int .i64 0), (.int .i64 0), (.int .i64 0), (.int .i64 0), (.bool false), (.int .i64 0), (.int .i64 0), (.int .i64 0)] [(0, 8), (8, 2)]), [(.t 15), (.t 17)], none, [19, 20, 21]⟩,
 ⟨(some 19), (.load (some 2)), [(.t 4)], none, [15, 16, 17, 18, 20]⟩,
 ⟨(some 20), .mv, [(.t 2)], none, [15, 16, 17, 18, 19]⟩,
 ⟨(some 21), (.call true false false), [(.f 65), (.t 19), (.t 20)], none, [15, 16, 17, 18]⟩,
 ⟨none, (.store 10 (some 6)), [(.t 6), (.t 18)], none, []⟩,
 ⟨(some 7), .mv, [(.t 21)], none, []⟩] 0 [6, 7])
 .ret))),
 [(.c 6 (some 10)), (.t 7)]⟩
theorem c56 : funC Try.prog [(0, [2, 3, 4, 6]), (1, [2, 3, 4, 6, 8]), (2, [2, 3, 4, 6, 8, 12]), (3, [6, 7]), (4, [6, 7])] Try.f56 = some (unF l56) := by kernel_rfl
/-- (acme/fit.ideal).leans -/
def l57 : LFun := ⟨1, 10, [],
 (.seq
 (.reg false [1] [1] [
 ⟨(some 1), .box, [(.t 0)], none, []⟩,
 ⟨(some 2), .mv, [(.c (.int .i64 0))], none, []⟩] 0 [1])
 (.seq
 (.reg false [] [] [
 ⟨(some 3), (.fa 0), [(.t 1)], none, []⟩,
 ⟨(some 4), (.fa 1), [(.t 3)], none, []⟩,
 ⟨(some 5), (.load none), [(.t 4)], none, []⟩,
 ⟨(some 6), (.fa 0), [(.t 1)], none, []⟩,
 ⟨(some 7), (.fa 2), [(.t 6)], none, []⟩,
 ⟨(some 8), (.load none), [(.t 7)], none, []⟩,
 ⟨(some 9), (.bin 0 .add), [(.t 5), (.t 8)], none, []⟩,
 ⟨(some 2), .mv, [(.t 9)], none, []⟩] 0 [2])
 .ret)),
 [(.t 2)]⟩
theorem c57 : funC Try.prog [(0, [1]), (1, [2])] Try.f57 = some (unF l57) := by kernel_rfl
/-- acme/fit.up -/
def l58 : LFun := ⟨2, 10, [],
 (.seq
 (.reg false [] [] [
 ⟨(some 4), .mv, [(.c (.int .i64 0))], none, []⟩] 0 [0, 1])
 (.seq
 (.reg false [] [] [
 ⟨(some 5), .mv, [(.t 0)], none, []⟩,
 ⟨(some 6), (.un .neg), [(.t 5)], none, []⟩,
 ⟨(some 7), .mv, [(.t 1)], none, []⟩,
 ⟨(some 8), (.call false false false), [(.f 60), (.t 6), (.t 7)], none, []⟩,
 ⟨(some 9), (.un .neg), [(.t 8)], none, []⟩,
 ⟨(some 4), .mv, [(.t 9)], none, []⟩] 0 [4])
 .ret)),
 [(.t 4)]⟩
theorem c58 : funC Try.prog [(0, [0, 1]), (1, [4])] Try.f58 = some (unF l58) := by kernel_rfl
/-- (acme/fit.ideal).size -/
def b59_0w : List Nat :=
 [15, 16, 9, 10, 17, 18, 19, 20, 21, 22, 23, 24, 25, 26, 27, 28, 29, 17, 18, 19, 20, 21, 22, 23, 24, 25, 26, 27, 28, 29]
def b59_0a : LCode :=
 (.seq
 (.reg true [] [] [
 ⟨(some 9), .mv, [(.t 15)], none, []⟩] 0 [3, 4, 5, 7, 8, 9, 16])
 (.reg true [] [] [
 ⟨(some 10), .mv, [(.t 16)], none, []⟩] 0 [3, 4, 5, 7, 8, 9, 10]))
def b59_0 : LCode :=
 (.block 1
 (.alt [23, 29] [7, 8]
 (.reg true [22, 23, 28, 29] [22, 23, 28, 29] [
 ⟨(some 17), (.load none), [(.t 7)], none, [18, 19, 20, 21, 22, 24, 25, 26, 27, 28]⟩,
 ⟨(some 18), (.load none), [(.t 5)], none, [17, 20, 24, 25, 26, 27, 28]⟩,
 ⟨(some 19), (.un .neg), [(.t 18)], none, [17, 20, 24, 25, 26, 27, 28]⟩,
 ⟨(some 20), .mv, [(.t 9)], none, [17, 18, 19, 24, 25, 26, 27, 28]⟩,
 ⟨(some 21), (.bin 0 .mul), [(.t 19), (.t 20)], none, [17, 24, 25, 26, 27, 28]⟩,
 ⟨(some 22), (.bsl 1 [(.int .i64 0)] 1 [0]), [(.t 21)], none, [17, 24, 25, 26, 27, 28]⟩,
 ⟨(some 23), (.append true 1 8), [(.t 17), (.t 22)], none, [24, 25, 26, 27, 28]⟩,
 ⟨(some 24), (.load none), [(.t 8)], none, [17, 18, 19, 20, 21, 22, 23, 25, 26, 27, 28]⟩,
 ⟨(some 25), (.load none), [(.t 5)], none, [17, 18, 19, 20, 21, 22, 23, 24, 26]⟩,
 ⟨(some 26), .mv, [(.t 10)], none, [17, 18, 19, 20, 21, 22, 23, 24, 25]⟩,
 ⟨(some 27), (.bin 0 .mul), [(.t 25), (.t 26)], none, [17, 18, 19, 20, 21, 22, 23, 24]⟩,
 ⟨(some 28), (.bsl 1 [(.int .i64 0)] 1 [0]), [(.t 27)], none, [17, 18, 19, 20, 21, 22, 23, 24]⟩,
 ⟨(some 29), (.append true 1 8), [(.t 24), (.t 28)], none, []⟩,
 ⟨none, (.store 1 (some 7)), [(.t 7), (.t 23)], none, []⟩,
 ⟨none, (.store 1 (some 8)), [(.t 8), (.t 29)], none, []⟩] 0 [3, 4, 5, 7, 8])
 (.reg true [22, 23, 28, 29] [22, 28] [
 ⟨(some 17), (.load none), [(.t 7)], none, [18, 19, 20, 21, 22, 24, 25, 26, 27, 28]⟩,
 ⟨(some 18), (.load none), [(.t 5)], none, [17, 20, 24, 25, 26, 27, 28]⟩,
 ⟨(some 19), (.un .neg), [(.t 18)], none, [17, 20, 24, 25, 26, 27, 28]⟩,
 ⟨(some 20), .mv, [(.t 9)], none, [17, 18, 19, 24, 25, 26, 27, 28]⟩,
 ⟨(some 21), (.bin 0 .mul), [(.t 19), (.t 20)], none, [17, 24, 25, 26, 27, 28]⟩,
 ⟨(some 22), (.bsl 1 [(.int .i64 0)] 1 [0]), [(.t 21)], none, [17, 24, 25, 26, 27, 28]⟩,
 ⟨(some 23), (.appo 1 8), [(.t 17), (.t 22)], none, [24, 25, 26, 27, 28]⟩,
 ⟨(some 24), (.load none), [(.t 8)], none, [17, 18, 19, 20, 21, 22, 23, 25, 26, 27, 28]⟩,
 ⟨(some 25), (.load none), [(.t 5)], none, [17, 18, 19, 20, 21, 22, 23, 24, 26]⟩,
 ⟨(some 26), .mv, [(.t 10)], none, [17, 18, 19, 20, 21, 22, 23, 24, 25]⟩,
 ⟨(some 27), (.bin 0 .mul), [(.t 25), (.t 26)], none, [17, 18, 19, 20, 21, 22, 23, 24]⟩,
 ⟨(some 28), (.bsl 1 [(.int .i64 0)] 1 [0]), [(.t 27)], none, [17, 18, 19, 20, 21, 22, 23, 24]⟩,
 ⟨(some 29), (.appo 1 8), [(.t 24), (.t 28)], none, []⟩,
 ⟨none, (.store 1 (some 7)), [(.t 7), (.t 23)], none, []⟩,
 ⟨none, (.store 1 (some 8)), [(.t 8), (.t 29)], none, []⟩] 0 [3, 4, 5, 7, 8])))
def l59 : LFun := ⟨3, 61, [],
 (.seq
 (.reg false [3, 4, 5] [3, 4, 5] [
 ⟨(some 3), .box, [(.t 0)], none, []⟩,
 ⟨(some 4), .box, [(.t 1)], none, []⟩,
 ⟨(some 5), .box, [(.t 2)], none, []⟩,
 ⟨(some 6), .mv, [(.c (.int .i64 0))], none, []⟩] 0 [3, 4, 5])
 (.seq
 (.reg false [7, 8] [7, 8] [
 ⟨(some 7), (.alloc [(.sl (some 2002300) 1 [])]), [], none, []⟩,
 ⟨(some 8), (.alloc [(.sl (some 2002900) 1 [])]), [], none, []⟩] 0 [3, 4, 5, 7, 8])
 (.seq
 (.seq
 (.reg false [14] [14] [
 ⟨(some 12), (.load (some 10)), [(.t 3)], none, []⟩,
 ⟨(some 13), (.load (some 3)), [(.t 4)], none, []⟩,
 ⟨(some 14), (.call false true true), [(.f 86), (.t 12), (.t 13)], none, []⟩] 0 [3, 4, 5, 7, 8, 14])
 (.block 0
 (.rng (.t 14) [15, 16] b59_0w b59_0a b59_0)))
 (.seq
 (.reg false [] [] [
 ⟨(some 30), (.fa 8), [(.t 3)], none, [32, 33, 34, 35, 36, 37, 38, 39, 41, 42, 43, 44, 45, 46, 47, 48, 49, 50]⟩,
 ⟨(some 31), (.load (some 2)), [(.t 30)], none, [32, 33, 34, 35, 36, 37, 38, 39, 41, 42, 43, 44, 45, 46, 47, 48, 49, 50]⟩,
 ⟨(some 32), (.load none), [(.t 5)], none, [30, 31, 33, 34, 35, 36, 37, 38, 41, 42, 43, 44, 45, 46, 47, 48, 49, 50]⟩,
 ⟨(some 33), (.fa 0), [(.t 3)], none, [30, 31, 32, 36, 37, 41, 42, 43, 44, 45, 46, 47, 48, 49, 50]⟩,
 ⟨(some 34), (.fa 1), [(.t 33)], none, [30, 31, 32, 36, 37, 41, 42, 43, 44, 45, 46, 47, 48, 49, 50]⟩,
 ⟨(some 35), (.load none), [(.t 34)], none, [30, 31, 32, 36, 37, 41, 42, 43, 44, 45, 46, 47, 48, 49, 50]⟩,
 ⟨(some 36), (.fa 1), [(.t 4)], none, [30, 31, 32, 33, 34, 35, 41, 42, 43, 44, 45, 46, 47, 48, 49, 50]⟩,
 ⟨(some 37), (.load none), [(.t 36)], none, [30, 31, 32, 33, 34, 35, 41, 42, 43, 44, 45, 46, 47, 48, 49, 50]⟩,
 ⟨(some 38), (.bin 0 .sub), [(.t 35), (.t 37)], none, [30, 31, 32, 41, 42, 43, 44, 45, 46, 47, 48, 49, 50]⟩,
 ⟨(some 39), (.bin 0 .mul), [(.t 32), (.t 38)], none, [30, 31, 41, 42, 43, 44, 45, 46, 47, 48, 49, 50]⟩,
 ⟨(some 40), (.call true false false), [(.f 87), (.t 31), (.t 39)], none, [41, 42, 43, 44, 45, 46, 47, 48, 49, 50]⟩,
 ⟨(some 41), (.fa 8), [(.t 3)], none, [30, 31, 32, 33, 34, 35, 36, 37, 38, 39, 40, 43, 44, 45, 46, 47, 48, 49, 50]⟩,
 ⟨(some 42), (.load (some 2)), [(.t 41)], none, [30, 31, 32, 33, 34, 35, 36, 37, 38, 39, 40, 43, 44, 45, 46, 47, 48, 49, 50]⟩,
 ⟨(some 43), (.load none), [(.t 5)], none, [30, 31, 32, 33, 34, 35, 36, 37, 38, 39, 40, 41, 42, 44, 45, 46, 47, 48, 49]⟩,
 ⟨(some 44), (.fa 0), [(.t 3)], none, [30, 31, 32, 33, 34, 35, 36, 37, 38, 39, 40, 41, 42, 43, 47, 48]⟩,
 ⟨(some 45), (.fa 2), [(.t 44)], none, [30, 31, 32, 33, 34, 35, 36, 37, 38, 39, 40, 41, 42, 43, 47, 48]⟩,
 ⟨(some 46), (.load none), [(.t 45)], none, [30, 31, 32, 33, 34, 35, 36, 37, 38, 39, 40, 41, 42, 43, 47, 48]⟩,
 ⟨(some 47), (.fa 2), [(.t 4)], none, [30, 31, 32, 33, 34, 35, 36, 37, 38, 39, 40, 41, 42, 43, 44, 45, 46]⟩,
 ⟨(some 48), (.load none), [(.t 47)], none, [30, 31, 32, 33, 34, 35, 36, 37, 38, 39, 40, 41, 42, 43, 44, 45, 46]⟩,
 ⟨(some 49), (.bin 0 .sub), [(.t 46), (.t 48)], none, [30, 31, 32, 33, 34, 35, 36, 37, 38, 39, 40, 41, 42, 43]⟩,
 ⟨(some 50), (.bin 0 .mul), [(.t 43), (.t 49)], none, [30, 31, 32, 33, 34, 35, 36, 37, 38, 39, 40, 41, 42]⟩,
 ⟨(some 51), (.call false false false), [(.f 87), (.t 42), (.t 50)], none, []⟩,
 ⟨(some 52), (.bin 0 .add), [(.t 40), (.t 51)], none, []⟩,
 ⟨(some 11), .mv, [(.t 52)], none, []⟩] 0 [7, 8, 11])
 (.seq
 (.reg false [] [] [
 ⟨(some 53), (.load none), [(.t 7)], none, [55, 58, 59]⟩,
 ⟨(some 54), (.call true false false), [(.f 88), (.t 53)], none, [55, 58, 59]⟩,
 ⟨(some 55), (.load none), [(.t 8)], none, [53, 54, 58, 59]⟩,
 ⟨(some 56), (.call true false false), [(.f 88), (.t 55)], none, [58, 59]⟩,
 ⟨(some 57), (.bin 0 .add), [(.t 54), (.t 56)], none, [58, 59]⟩,
 ⟨(some 58), .mv, [(.t 11)], none, [53, 54, 55, 56, 57]⟩,
 ⟨(some 59), (.bin 0 .mul), [(.c (.int .i64 4)), (.t 58)], none, [53, 54, 55, 56, 57]⟩,
 ⟨(some 60), (.bin 0 .add), [(.t 57), (.t 59)], none, []⟩,
 ⟨(some 6), .mv, [(.t 60)], none, []⟩] 0 [6])
 .ret))))),
 [(.t 6)]⟩
theorem c59 : funC Try.prog [(0, [3, 4, 5]), (1, [3, 4, 5, 7, 8]), (2, [3, 4, 5, 7, 8, 14]), (3, [3, 4, 5, 7, 8, 9, 16]), (4, [3, 4, 5, 7, 8, 9, 10]), (5, [3, 4, 5, 7, 8]), (6, [7, 8, 11]), (7, [6])] Try.f59 = some (unF l59) := by kernel_rfl
/-- acme/fit.down -/
def l60 : LFun := ⟨2, 16, [],
 (.seq
 (.reg false [] [] [
 ⟨(some 4), .mv, [(.c (.int .i64 0))], none, []⟩] 0 [0, 1])
 (.seq
 (.reg false [] [] [
 ⟨(some 6), .mv, [(.t 0)], none, []⟩,
 ⟨(some 7), .mv, [(.t 1)], none, []⟩,
 ⟨(some 8), (.bin 0 .quo), [(.t 6), (.t 7)], none, []⟩,
 ⟨(some 5), .mv, [(.t 8)], none, []⟩] 0 [0, 1, 5])
 (.seq
 (.seq
 (.reg false [] [] [
 ⟨(some 9), .mv, [(.t 0)], none, []⟩,
 ⟨(some 10), .mv, [(.t 1)], none, []⟩,
 ⟨(some 11), (.bin 0 .rem), [(.t 9), (.t 10)], none, []⟩,
 ⟨(some 12), (.bin 0 .lss), [(.t 11), (.c (.int .i64 0))], none, []⟩] 0 [5, 12])
 (.cond (.t 12)
 (.reg false [] [] [
 ⟨(some 13), .mv, [(.t 5)], none, []⟩,
 ⟨(some 14), (.bin 0 .sub), [(.t 13), (.c (.int .i64 1))], none, []⟩,
 ⟨(some 5), .mv, [(.t 14)], none, []⟩] 0 [5])
 .skip))
 (.seq
 (.reg false [] [] [
 ⟨(some 15), .mv, [(.t 5)], none, []⟩,
 ⟨(some 4), .mv, [(.t 15)], none, []⟩] 0 [4])
 .ret)))),
 [(.t 4)]⟩
theorem c60 : funC Try.prog [(0, [0, 1]), (1, [0, 1, 5]), (2, [5, 12]), (3, [5]), (4, [4])] Try.f60 = some (unF l60) := by kernel_rfl
/-- acme/fit.checkAll -/
def b65_0 : LCode :=
 (.seq
 (.reg true [] [] [
 ⟨(some 11), (.bin 0 .lss), [(.t 10), (.t 9)], none, []⟩] 0 [2, 8, 9, 10, 11])
 (.seq
 (.cond (.t 11)
 .skip
 (.exit 0))
 (.seq
 (.block 1
 (.seq
 (.reg true [6] [6] [
 ⟨(some 12), (.ixs 3), [(.t 8), (.t 10)], none, []⟩,
 ⟨(some 13), (.load (some 3)), [(.t 12)], none, []⟩,
 ⟨(some 6), (.alloc [(.sl none 2 []), (.int .i64 0), (.int .i64 0)]), [], none, []⟩,
 ⟨none, (.store 3 none), [(.t 6), (.t 13)], none, []⟩] 0 [2, 6, 8, 9, 10])
 (.seq
 (.reg true [] [] [
 ⟨(some 14), (.load (some 3)), [(.t 6)], none, []⟩,
 ⟨(some 15), (.call false false false), [(.f 16), (.t 14)], none, []⟩,
 ⟨(some 7), .mv, [(.t 15)], none, []⟩] 0 [2, 7, 8, 9, 10])
 (.seq
 (.reg true [] [] [
 ⟨(some 16), .mv, [(.t 7)], none, []⟩,
 ⟨(some 17), (.bin 0 .neq), [(.t 16), (.c (.int .i64 0))], none, []⟩] 0 [2, 7, 8, 9, 10, 17])
 (.cond (.t 17)
 (.seq
 (.reg true [] [] [
 ⟨(some 18), .mv, [(.t 7)], none, []⟩,
 ⟨(some 4), .mv, [(.t 18)], none, []⟩] 0 [4])
 .ret)
 .skip)))))
 (.reg true [] [] [
 ⟨(some 19), (.bin 0 .add), [(.t 10), (.c (.int .i64 1))], none, []⟩,
 ⟨(some 10), .mv, [(.t 19)], none, []⟩] 0 [2, 8, 9, 10]))))
def l65 : LFun := ⟨2, 22, [],
 (.seq
 (.reg false [2] [2] [
 ⟨(some 2), .box, [(.t 0)], none, []⟩,
 ⟨(some 4), .mv, [(.c (.int .i64 0))], none, []⟩] 0 [1, 2])
 (.seq
 (.seq
 (.reg false [] [] [
 ⟨(some 8), .mv, [(.t 1)], none, []⟩,
 ⟨(some 9), .len, [(.t 8)], none, []⟩,
 ⟨(some 10), .mv, [(.c (.int .i64 0))], none, []⟩] 0 [2, 8, 9, 10])
 (.block 0
 (.loop b65_0)))
 (.seq
 (.reg false [] [] [
 ⟨(some 20), (.load (some 2)), [(.t 2)], none, []⟩,
 ⟨(some 21), (.call false false false), [(.f 71), (.t 20)], none, []⟩,
 ⟨(some 4), .mv, [(.t 21)], none, []⟩] 0 [4])
 .ret))),
 [(.t 4)]⟩
theorem c65 : funC Try.prog [(0, [1, 2]), (1, [2, 8, 9, 10]), (2, [2, 8, 9, 10, 11]), (3, [2, 6, 8, 9, 10]), (4, [2, 7, 8, 9, 10]), (5, [2, 7, 8, 9, 10, 17]), (6, [4]), (7, [2, 8, 9, 10]), (8, [4])] Try.f65 = some (unF l65) := by kernel_rfl
/-- (acme/fit.mesh).shifts -/
def b66_0 : LCode :=
 (.seq
 (.reg true [] [] [
 ⟨(some 14), (.bin 0 .lss), [(.t 13), (.t 12)], none, []⟩] 0 [2, 3, 6, 11, 12, 13, 14])
 (.seq
 (.cond (.t 14)
 .skip
 (.exit 0))
 (.seq
 (.block 1
 (.seq
 (.reg true [9] [9] [
 ⟨(some 15), .mv, [(.t 13)], none, []⟩,
 ⟨(some 16), (.ixs 2), [(.t 11), (.t 13)], none, []⟩,
 ⟨(some 17), (.load (some 2)), [(.t 16)], none, []⟩,
 ⟨(some 9), (.alloc [(.int .i64 0), (.int .i64 0)]), [], none, []⟩,
 ⟨(some 8), .mv, [(.t 15)], none, []⟩,
 ⟨none, (.store 2 none), [(.t 9), (.t 17)], none, []⟩] 0 [2, 3, 6, 8, 9, 11, 12, 13])
 (.seq
 (.reg true [10] [10] [
 ⟨(some 18), (.fa 0), [(.t 3)], none, [20, 21, 22, 23, 24, 25, 26, 27, 28, 10]⟩,
 ⟨(some 19), (.load (some 2)), [(.t 18)], none, [20, 21, 22, 23, 24, 25, 26, 27, 28, 10]⟩,
 ⟨(some 20), (.load (some 2)), [(.t 9)], none, [18, 19, 21, 22, 23, 24, 25, 26, 27, 28, 10]⟩,
 ⟨(some 21), .mv, [(.t 2)], none, [18, 19, 20, 22, 25, 26, 27, 28, 10]⟩,
 ⟨(some 22), .mv, [(.t 8)], none, [18, 19, 20, 21, 25, 26, 27, 28, 10]⟩,
 ⟨(some 23), (.ixs 2), [(.t 21), (.t 22)], none, [18, 19, 20, 25, 26, 27, 28, 10]⟩,
 ⟨(some 24), (.load (some 2)), [(.t 23)], none, [18, 19, 20, 25, 26, 27, 28, 10]⟩,
 ⟨(some 25), (.fa 2), [(.t 3)], none, [18, 19, 20, 21, 22, 23, 24, 27, 28, 10]⟩,
 ⟨(some 26), (.load (some 3)), [(.t 25)], none, [18, 19, 20, 21, 22, 23, 24, 27, 28, 10]⟩,
 ⟨(some 27), (.fa 5), [(.t 3)], none, [18, 19, 20, 21, 22, 23, 24, 25, 26, 10]⟩,
 ⟨(some 28), (.load (some 3)), [(.t 27)], none, [18, 19, 20, 21, 22, 23, 24, 25, 26, 10]⟩,
 ⟨(some 29), (.call false false false), [(.f 91), (.t 19), (.t 20), (.t 24), (.t 26), (.t 28)], none, [10]⟩,
 ⟨(some 10), (.alloc [(.int .i64 0), (.int .i64 0)]), [], none, [18, 19, 20, 21, 22, 23, 24, 25, 26, 27, 28, 29]⟩,
 ⟨none, (.store 2 (some 10)), [(.t 10), (.t 29)], none, []⟩] 0 [2, 3, 6, 8, 10, 11, 12, 13])
 (.seq
 (.seq
 (.reg true [] [] [
 ⟨(some 30), .mv, [(.t 8)], none, []⟩,
 ⟨(some 31), (.bin 0 .eql), [(.t 30), (.c (.int .i64 0))], none, []⟩] 0 [2, 3, 6, 10, 11, 12, 13, 31])
 (.cond (.t 31)
 (.reg true [] [] [
 ⟨(some 32), (.load (some 2)), [(.t 10)], none, []⟩,
 ⟨none, (.store 2 none), [(.t 6), (.t 32)], none, []⟩] 0 [2, 3, 6, 10, 11, 12, 13])
 .skip))
 (.reg true [] [] [
 ⟨(some 33), (.fa 0), [(.t 6)], none, []⟩,
 ⟨(some 34), (.load none), [(.t 33)], none, []⟩,
 ⟨(some 35), (.fa 0), [(.t 10)], none, []⟩,
 ⟨(some 36), (.load none), [(.t 35)], none, []⟩,
 ⟨(some 37), .max, [(.t 34), (.t 36)], none, []⟩,
 ⟨(some 38), (.fa 1), [(.t 6)], none, []⟩,
 ⟨(some 39), (.load none), [(.t 38)], none, []⟩,
 ⟨(some 40), (.fa 1), [(.t 10)], none, []⟩,
 ⟨(some 41), (.load none), [(.t 40)], none, []⟩,
 ⟨(some 42), .min, [(.t 39), (.t 41)], none, []⟩,
 ⟨(some 43), (.build [(.int .i64 0), (.int .i64 0)] [(0, 1), (1, 1)]), [(.t 37), (.t 42)], none, []⟩,
 ⟨none, (.store 2 none), [(.t 6), (.t 43)], none, []⟩] 0 [2, 3, 6, 11, 12, 13])))))
 (.reg true [] [] [
 ⟨(some 44), (.bin 0 .add), [(.t 13), (.c (.int .i64 1))], none, []⟩,
 ⟨(some 13), .mv, [(.t 44)], none, []⟩] 0 [2, 3, 6, 11, 12, 13]))))
def l66 : LFun := ⟨3, 51, [],
 (.seq
 (.reg false [3, 6] [3, 6] [
 ⟨(some 3), .box, [(.t 0)], none, []⟩,
 ⟨(some 6), (.alloc [(.int .i64 0), (.int .i64 0)]), [], none, []⟩,
 ⟨(some 7), .mv, [(.c (.bool false))], none, []⟩] 0 [1, 2, 3, 6])
 (.seq
 (.seq
 (.reg false [] [] [
 ⟨(some 11), .mv, [(.t 1)], none, []⟩,
 ⟨(some 12), .len, [(.t 11)], none, []⟩,
 ⟨(some 13), .mv, [(.c (.int .i64 0))], none, []⟩] 0 [2, 3, 6, 11, 12, 13])
 (.block 0
 (.loop b66_0)))
 (.seq
 (.reg false [] [] [
 ⟨(some 45), (.load (some 2)), [(.t 6)], none, []⟩,
 ⟨(some 46), (.fa 0), [(.t 6)], none, []⟩,
 ⟨(some 47), (.load none), [(.t 46)], none, []⟩,
 ⟨(some 48), (.fa 1), [(.t 6)], none, []⟩,
 ⟨(some 49), (.load none), [(.t 48)], none, []⟩,
 ⟨(some 50), (.bin 0 .leq), [(.t 47), (.t 49)], none, []⟩,
 ⟨none, (.store 2 none), [(.t 6), (.t 45)], none, []⟩,
 ⟨(some 7), .mv, [(.t 50)], none, []⟩] 0 [6, 7])
 .ret))),
 [(.c 6 (some 2)), (.t 7)]⟩
theorem c66 : funC Try.prog [(0, [1, 2, 3, 6]), (1, [2, 3, 6, 11, 12, 13]), (2, [2, 3, 6, 11, 12, 13, 14]), (3, [2, 3, 6, 8, 9, 11, 12, 13]), (4, [2, 3, 6, 8, 10, 11, 12, 13]), (5, [2, 3, 6, 10, 11, 12, 13, 31]), (6, [2, 3, 6, 10, 11, 12, 13]), (7, [2, 3, 6, 11, 12, 13]), (8, [2, 3, 6, 11, 12, 13]), (9, [6, 7])] Try.f66 = some (unF l66) := by kernel_rfl
/-- (acme/fit.mesh).steps -/
def b67_0 : LCode :=
 (.seq
 (.reg true [] [] [
 ⟨(some 16), (.bin 0 .lss), [(.t 15), (.t 14)], none, []⟩] 0 [1, 2, 4, 14, 15, 16])
 (.seq
 (.cond (.t 16)
 .skip
 (.exit 0))
 (.seq
 (.block 1
 (.seq
 (.reg true [] [] [
 ⟨(some 17), .mv, [(.t 15)], none, []⟩,
 ⟨(some 5), .mv, [(.t 17)], none, []⟩] 0 [1, 2, 4, 5, 14, 15])
 (.seq
 (.reg true [] [] [
 ⟨(some 18), .mv, [(.t 5)], none, []⟩,
 ⟨(some 19), (.bin 0 .add), [(.t 18), (.c (.int .i64 1))], none, []⟩,
 ⟨(some 20), .mv, [(.t 4)], none, []⟩,
 ⟨(some 21), .min, [(.t 19), (.t 20)], none, []⟩,
 ⟨(some 6), .mv, [(.t 21)], none, []⟩] 0 [1, 2, 4, 5, 6, 14, 15])
 (.seq
 (.reg true [] [] [
 ⟨(some 22), .mv, [(.t 1)], none, [23, 24, 25, 26, 27, 28, 29, 30, 31, 32, 33, 34, 35, 36, 37, 38, 39]⟩,
 ⟨(some 23), (.fa 2), [(.t 2)], none, [22, 26, 27, 28, 30, 31, 32, 33, 34, 35, 36, 37, 38, 39]⟩,
 ⟨(some 24), (.fa 0), [(.t 23)], none, [22, 26, 27, 28, 30, 31, 32, 33, 34, 35, 36, 37, 38, 39]⟩,
 ⟨(some 25), (.load none), [(.t 24)], none, [22, 26, 27, 28, 30, 31, 32, 33, 34, 35, 36, 37, 38, 39]⟩,
 ⟨(some 26), .mv, [(.t 4)], none, [22, 23, 24, 25, 27, 30, 31, 32, 33, 34, 35, 36, 37, 38, 39]⟩,
 ⟨(some 27), .mv, [(.t 6)], none, [22, 23, 24, 25, 26, 30, 31, 32, 33, 34, 35, 36, 37, 38, 39]⟩,
 ⟨(some 28), (.bin 0 .sub), [(.t 26), (.t 27)], none, [22, 23, 24, 25, 30, 31, 32, 33, 34, 35, 36, 37, 38, 39]⟩,
 ⟨(some 29), (.sls 2 true false false), [(.t 25), (.t 28)], none, [22, 30, 31, 32, 33, 34, 35, 36, 37, 38, 39]⟩,
 ⟨(some 30), (.fa 5), [(.t 2)], none, [22, 23, 24, 25, 26, 27, 28, 29, 33, 34, 35, 36, 37, 38]⟩,
 ⟨(some 31), (.fa 0), [(.t 30)], none, [22, 23, 24, 25, 26, 27, 28, 29, 33, 34, 35, 36, 37, 38]⟩,
 ⟨(some 32), (.load none), [(.t 31)], none, [22, 23, 24, 25, 26, 27, 28, 29, 33, 34, 35, 36, 37, 38]⟩,
 ⟨(some 33), .mv, [(.t 5)], none, [22, 23, 24, 25, 26, 27, 28, 29, 30, 31, 32, 35, 37, 38]⟩,
 ⟨(some 34), (.bin 0 .add), [(.t 33), (.c (.int .i64 1))], none, [22, 23, 24, 25, 26, 27, 28, 29, 30, 31, 32, 35, 37, 38]⟩,
 ⟨(some 35), .mv, [(.t 6)], none, [22, 23, 24, 25, 26, 27, 28, 29, 30, 31, 32, 33, 34, 37, 38]⟩,
 ⟨(some 36), (.bin 0 .sub), [(.t 34), (.t 35)], none, [22, 23, 24, 25, 26, 27, 28, 29, 30, 31, 32, 37, 38]⟩,
 ⟨(some 37), .mv, [(.t 5)], none, [22, 23, 24, 25, 26, 27, 28, 29, 30, 31, 32, 33, 34, 35, 36]⟩,
 ⟨(some 38), (.bin 0 .add), [(.t 37), (.c (.int .i64 1))], none, [22, 23, 24, 25, 26, 27, 28, 29, 30, 31, 32, 33, 34, 35, 36]⟩,
 ⟨(some 39), (.sls 2 true true false), [(.t 32), (.t 36), (.t 38)], none, [22, 23, 24, 25, 26, 27, 28, 29]⟩,
 ⟨(some 40), (.call false false false), [(.t 22), (.t 29), (.t 39)], none, []⟩,
 ⟨(some 41), (.un .not), [(.t 40)], none, []⟩] 0 [1, 2, 4, 14, 15, 41])
 (.cond (.t 41)
 .ret
 .skip)))))
 (.reg true [] [] [
 ⟨(some 42), (.bin 0 .add), [(.t 15), (.c (.int .i64 1))], none, []⟩,
 ⟨(some 15), .mv, [(.t 42)], none, []⟩] 0 [1, 2, 4, 14, 15]))))
def l67 : LFun := ⟨2, 43, [],
 (.seq
 (.reg false [2] [2] [
 ⟨(some 2), .box, [(.t 0)], none, []⟩] 0 [1, 2])
 (.seq
 (.reg false [] [] [
 ⟨(some 7), (.fa 2), [(.t 2)], none, []⟩,
 ⟨(some 8), (.fa 0), [(.t 7)], none, []⟩,
 ⟨(some 9), (.load none), [(.t 8)], none, []⟩,
 ⟨(some 10), .len, [(.t 9)], none, []⟩,
 ⟨(some 4), .mv, [(.t 10)], none, []⟩] 0 [1, 2, 4])
 (.seq
 (.reg false [] [] [
 ⟨(some 11), (.fa 5), [(.t 2)], none, []⟩,
 ⟨(some 12), (.fa 0), [(.t 11)], none, []⟩,
 ⟨(some 13), (.load none), [(.t 12)], none, []⟩,
 ⟨(some 14), .len, [(.t 13)], none, []⟩,
 ⟨(some 15), .mv, [(.c (.int .i64 0))], none, []⟩] 0 [1, 2, 4, 14, 15])
 (.block 0
 (.loop b67_0))))),
 []⟩
theorem c67 : funC Try.prog [(0, [1, 2]), (1, [1, 2, 4]), (2, [1, 2, 4, 14, 15]), (3, [1, 2, 4, 14, 15, 16]), (4, [1, 2, 4, 5, 14, 15]), (5, [1, 2, 4, 5, 6, 14, 15]), (6, [1, 2, 4, 14, 15, 41]), (7, [1, 2, 4, 14, 15])] Try.f67 = some (unF l67) := by kernel_rfl
/-- acme/thread.Check -/
def l70 : LFun := ⟨1, 63, [],
 (.seq
 (.reg false [1] [1] [
 ⟨(some 1), .box, [(.t 0)], none, []⟩,
 ⟨(some 2), .mv, [(.c (.int .i64 0))], none, []⟩] 0 [1])
 (.seq
 (.reg false [3] [3] [
 ⟨(some 5), (.load (some 8)), [(.t 1)], none, []⟩,
 ⟨(some 6), (.build [(.int .i64 0), (.int .i64 0), (.int .i64 0), (.int .i64 0), (.int .i64 0), (.int .i64 0), (.bool false), (.int .i64 0)] [(0, 8)]), [(.t 5)], none, []⟩,
 ⟨(some 3), (.alloc [(.int .i64 0), (.int .i64 0), (.int .i64 0), (.int .i64 0), (.int .i64 0), (.int .i64 0), (.bool false), (.int .i64 0)]), [], none, []⟩,
 ⟨none, (.store 8 none), [(.t 3), (.t 6)], none, []⟩] 0 [1, 3])
 (.seq
 (.reg false [9, 16, 24] [9, 16, 24] [
 ⟨(some 7), (.fa 0), [(.t 1)], none, []⟩,
 ⟨(some 8), (.load none), [(.t 7)], none, []⟩,
 ⟨(some 9), (.bsl 1 [(.int .i64 0)] 1 [0]), [(.t 8)], none, []⟩,
 ⟨(some 10), (.call false false false), [(.f 92), (.c (.int .i64 100)), (.c (.int .i64 200000)), (.t 9)], none, []⟩,
 ⟨(some 11), .mv, [(.t 10)], none, []⟩,
 ⟨(some 12), (.fa 1), [(.t 1)], (some (11, true)), []⟩,
 ⟨(some 13), (.load none), [(.t 12)], (some (11, true)), []⟩,
 ⟨(some 14), (.fa 2), [(.t 1)], (some (11, true)), []⟩,
 ⟨(some 15), (.load none), [(.t 14)], (some (11, true)), []⟩,
 ⟨(some 16), (.bsl 1 [(.int .i64 0)] 2 [0, 1]), [(.t 13), (.t 15)], (some (11, true)), []⟩,
 ⟨(some 17), (.call false false false), [(.f 92), (.c (.int .i64 0)), (.c (.int .i64 3000)), (.t 16)], (some (11, true)), []⟩,
 ⟨(some 18), .pick, [(.t 11), (.t 17), (.c (.bool false))], none, []⟩,
 ⟨(some 19), .mv, [(.t 18)], none, []⟩,
 ⟨(some 20), (.fa 3), [(.t 1)], (some (19, true)), []⟩,
 ⟨(some 21), (.load none), [(.t 20)], (some (19, true)), []⟩,
 ⟨(some 22), (.fa 4), [(.t 1)], (some (19, true)), []⟩,
 ⟨(some 23), (.load none), [(.t 22)], (some (19, true)), []⟩,
 ⟨(some 24), (.bsl 1 [(.int .i64 0)] 2 [0, 1]), [(.t 21), (.t 23)], (some (19, true)), []⟩,
 ⟨(some 25), (.call false false false), [(.f 92), (.c (.int .i64 0)), (.c (.int .i64 200000)), (.t 24)], (some (19, true)), []⟩,
 ⟨(some 26), .pick, [(.t 19), (.t 25), (.c (.bool false))], none, []⟩,
 ⟨(some 27), .mv, [(.t 26)], none, []⟩,
 ⟨(some 28), (.fa 3), [(.t 1)], (some (27, true)), []⟩,
 ⟨(some 29), (.load none), [(.t 28)], (some (27, true)), []⟩,
 ⟨(some 30), (.fa 4), [(.t 1)], (some (27, true)), []⟩,
 ⟨(some 31), (.load none), [(.t 30)], (some (27, true)), []⟩,
 ⟨(some 32), (.bin 0 .add), [(.t 29), (.t 31)], (some (27, true)), []⟩,
 ⟨(some 33), (.bin 0 .geq), [(.t 32), (.c (.int .i64 1))], (some (27, true)), []⟩,
 ⟨(some 34), .pick, [(.t 27), (.t 33), (.c (.bool false))], none, []⟩,
 ⟨(some 4), .mv, [(.t 34)], none, []⟩] 0 [1, 3, 4])
 (.seq
 (.seq
 (.reg false [40, 47] [40, 47] [
 ⟨(some 35), .mv, [(.t 4)], none, []⟩,
 ⟨(some 36), (.un .not), [(.t 35)], none, []⟩,
 ⟨(some 37), .mv, [(.t 36)], none, []⟩,
 ⟨(some 38), (.fa 5), [(.t 1)], (some (37, false)), []⟩,
 ⟨(some 39), (.load none), [(.t 38)], (some (37, false)), []⟩,
 ⟨(some 40), (.bsl 1 [(.int .i64 0)] 1 [0]), [(.t 39)], (some (37, false)), []⟩,
 ⟨(some 41), (.call false false false), [(.f 92), (.c (.int .i64 1)), (.c (.int .i64 8)), (.t 40)], (some (37, false)), []⟩,
 ⟨(some 42), (.un .not), [(.t 41)], (some (37, false)), []⟩,
 ⟨(some 43), .pick, [(.t 37), (.c (.bool true)), (.t 42)], none, []⟩,
 ⟨(some 44), .mv, [(.t 43)], none, []⟩,
 ⟨(some 45), (.fa 7), [(.t 1)], (some (44, false)), []⟩,
 ⟨(some 46), (.load none), [(.t 45)], (some (44, false)), []⟩,
 ⟨(some 47), (.bsl 1 [(.int .i64 0)] 1 [0]), [(.t 46)], (some (44, false)), []⟩,
 ⟨(some 48), (.call false false false), [(.f 92), (.c (.int .i64 0)), (.c (.int .i64 100)), (.t 47)], (some (44, false)), []⟩,
 ⟨(some 49), (.un .not), [(.t 48)], (some (44, false)), []⟩,
 ⟨(some 50), .pick, [(.t 44), (.c (.bool true)), (.t 49)], none, []⟩] 0 [1, 3, 50])
 (.cond (.t 50)
 (.seq
 (.reg false [] [] [
 ⟨(some 2), .mv, [(.c (.int .i64 2))], none, []⟩] 0 [2])
 .ret)
 .skip))
 (.seq
 (.seq
 (.reg false [] [] [
 ⟨(some 51), (.load (some 8)), [(.t 3)], none, []⟩,
 ⟨(some 52), (.fa 3), [(.t 1)], none, []⟩,
 ⟨(some 53), (.load none), [(.t 52)], none, []⟩,
 ⟨(some 54), (.call false false false), [(.f 93), (.t 51), (.t 53)], none, []⟩,
 ⟨(some 55), (.bin 0 .lss), [(.t 54), (.c (.int .i64 0))], none, []⟩,
 ⟨(some 56), .mv, [(.t 55)], none, []⟩,
 ⟨(some 57), (.load (some 8)), [(.t 3)], (some (56, false)), []⟩,
 ⟨(some 58), (.fa 4), [(.t 1)], (some (56, false)), []⟩,
 ⟨(some 59), (.load none), [(.t 58)], (some (56, false)), []⟩,
 ⟨(some 60), (.call false false false), [(.f 93), (.t 57), (.t 59)], (some (56, false)), []⟩,
 ⟨(some 61), (.bin 0 .lss), [(.t 60), (.c (.int .i64 0))], (some (56, false)), []⟩,
 ⟨(some 62), .pick, [(.t 56), (.c (.bool true)), (.t 61)], none, []⟩] 0 [62])
 (.cond (.t 62)
 (.seq
 (.reg false [] [] [
 ⟨(some 2), .mv, [(.c (.int .i64 2))], none, []⟩] 0 [2])
 .ret)
 .skip))
 (.seq
 (.reg false [] [] [
 ⟨(some 2), .mv, [(.c (.int .i64 0))], none, []⟩] 0 [2])
 .ret)))))),
 [(.t 2)]⟩
theorem c70 : funC Try.prog [(0, [1]), (1, [1, 3]), (2, [1, 3, 4]), (3, [1, 3, 50]), (4, [2]), (5, [62]), (6, [2]), (7, [2])] Try.f70 = some (unF l70) := by kernel_rfl
/-- acme/fit.checkDepth -/
def l71 : LFun := ⟨1, 6, [],
 (.seq
 (.reg false [1] [1] [
 ⟨(some 1), .box, [(.t 0)], none, []⟩,
 ⟨(some 2), .mv, [(.c (.int .i64 0))], none, []⟩] 0 [1])
 (.seq
 (.seq
 (.reg false [] [] [
 ⟨(some 3), (.load (some 2)), [(.t 1)], none, []⟩,
 ⟨(some 4), (.call false false false), [(.f 94), (.t 3), (.c (.int .i64 (-200000))), (.c (.int .i64 200000))], none, []⟩,
 ⟨(some 5), (.un .not), [(.t 4)], none, []⟩] 0 [5])
 (.cond (.t 5)
 (.seq
 (.reg false [] [] [
 ⟨(some 2), .mv, [(.c (.int .i64 3))], none, []⟩] 0 [2])
 .ret)
 .skip))
 (.seq
 (.reg false [] [] [
 ⟨(some 2), .mv, [(.c (.int .i64 0))], none, []⟩] 0 [2])
 .ret))),
 [(.t 2)]⟩
theorem c71 : funC Try.prog [(0, [1]), (1, [5]), (2, [2]), (3, [2])] Try.f71 = some (unF l71) := by kernel_rfl
/-- (acme/fit.ideal).perfect -/
def b72_0 : LCode :=
 (.seq
 (.reg true [] [] [
 ⟨(some 23), (.bin 0 .lss), [(.t 22), (.t 21)], none, []⟩] 0 [1, 3, 4, 5, 10, 21, 22, 23])
 (.seq
 (.cond (.t 23)
 .skip
 (.exit 0))
 (.seq
 (.block 1
 (.seq
 (.reg true [] [] [
 ⟨(some 24), .mv, [(.t 22)], none, []⟩,
 ⟨(some 11), .mv, [(.t 24)], none, []⟩] 0 [1, 3, 4, 5, 10, 11, 21, 22])
 (.seq
 (.reg true [] [] [
 ⟨(some 25), .mv, [(.t 11)], none, []⟩,
 ⟨(some 26), (.bin 0 .mul), [(.c (.int .i64 4000)), (.t 25)], none, []⟩,
 ⟨(some 27), (.fa 0), [(.t 5)], none, []⟩,
 ⟨(some 28), (.fa 0), [(.t 27)], none, []⟩,
 ⟨(some 29), (.load none), [(.t 28)], none, []⟩,
 ⟨(some 30), (.bin 0 .mul), [(.t 26), (.t 29)], none, []⟩,
 ⟨(some 12), .mv, [(.t 30)], none, []⟩] 0 [1, 3, 4, 5, 10, 12, 21, 22])
 (.reg true [62, 63] [62] [
 ⟨(some 31), (.fa 0), [(.t 10)], none, [33, 34, 35, 36, 37, 38, 39, 40, 41, 42, 43, 44, 45, 46, 47, 48, 49, 50, 51, 52, 53, 54, 55, 56, 57, 58, 59, 60, 61, 62]⟩,
 ⟨(some 32), (.load none), [(.t 31)], none, [33, 34, 35, 36, 37, 38, 39, 40, 41, 42, 43, 44, 45, 46, 47, 48, 49, 50, 51, 52, 53, 54, 55, 56, 57, 58, 59, 60, 61, 62]⟩,
 ⟨(some 33), .mv, [(.t 3)], none, [31, 32, 34, 35, 36, 37, 38, 39, 40, 41, 42, 43, 44, 45, 47, 48, 49, 50, 51, 52, 53, 54, 55, 56, 57, 58, 59]⟩,
 ⟨(some 34), .mv, [(.t 12)], none, [31, 32, 33, 35, 36, 37, 38, 40, 41, 42, 43, 44, 47, 48, 49, 50, 51, 52, 53, 54, 55, 56, 57, 58, 59]⟩,
 ⟨(some 35), (.fa 0), [(.t 5)], none, [31, 32, 33, 34, 40, 41, 42, 43, 44, 47, 48, 49, 50, 51, 52, 53, 54, 55, 56, 57, 58, 59]⟩,
 ⟨(some 36), (.fa 0), [(.t 35)], none, [31, 32, 33, 34, 40, 41, 42, 43, 44, 47, 48, 49, 50, 51, 52, 53, 54, 55, 56, 57, 58, 59]⟩,
 ⟨(some 37), (.load none), [(.t 36)], none, [31, 32, 33, 34, 40, 41, 42, 43, 44, 47, 48, 49, 50, 51, 52, 53, 54, 55, 56, 57, 58, 59]⟩,
 ⟨(some 38), (.bin 0 .mul), [(.c (.int .i64 1000)), (.t 37)], none, [31, 32, 33, 34, 40, 41, 42, 43, 44, 47, 48, 49, 50, 51, 52, 53, 54, 55, 56, 57, 58, 59]⟩,
 ⟨(some 39), (.bin 0 .sub), [(.t 34), (.t 38)], none, [31, 32, 33, 40, 41, 42, 43, 44, 47, 48, 49, 50, 51, 52, 53, 54, 55, 56, 57, 58, 59]⟩,
 ⟨(some 40), .mv, [(.t 1)], none, [31, 32, 33, 34, 35, 36, 37, 38, 39, 42, 43, 47, 48, 49, 50, 51, 52, 53, 54, 55, 56, 57, 58, 59]⟩,
 ⟨(some 41), (.bin 0 .mul), [(.c (.int .i64 4)), (.t 40)], none, [31, 32, 33, 34, 35, 36, 37, 38, 39, 42, 43, 47, 48, 49, 50, 51, 52, 53, 54, 55, 56, 57, 58, 59]⟩,
 ⟨(some 42), (.fa 1), [(.t 10)], none, [31, 32, 33, 34, 35, 36, 37, 38, 39, 40, 41, 47, 48, 49, 50, 51, 52, 53, 54, 55, 56, 57, 58, 59]⟩,
 ⟨(some 43), (.load none), [(.t 42)], none, [31, 32, 33, 34, 35, 36, 37, 38, 39, 40, 41, 47, 48, 49, 50, 51, 52, 53, 54, 55, 56, 57, 58, 59]⟩,
 ⟨(some 44), (.bin 0 .mul), [(.t 41), (.t 43)], none, [31, 32, 33, 34, 35, 36, 37, 38, 39, 47, 48, 49, 50, 51, 52, 53, 54, 55, 56, 57, 58, 59]⟩,
 ⟨(some 45), (.bin 0 .sub), [(.t 39), (.t 44)], none, [31, 32, 33, 47, 48, 49, 50, 51, 52, 53, 54, 55, 56, 57, 58, 59]⟩,
 ⟨(some 46), (.call true false false), [(.t 33), (.t 45), (.c (.int .i64 4000))], none, [31, 32, 47, 48, 49, 50, 51, 52, 53, 54, 55, 56, 57, 58, 59]⟩,
 ⟨(some 47), .mv, [(.t 4)], none, [31, 32, 33, 34, 35, 36, 37, 38, 39, 40, 41, 42, 43, 44, 45, 46, 48, 49, 50, 51, 52, 53, 54, 55, 56, 57, 58, 59]⟩,
 ⟨(some 48), .mv, [(.t 12)], none, [31, 32, 33, 34, 35, 36, 37, 38, 39, 40, 41, 42, 43, 44, 45, 46, 47, 49, 50, 51, 52, 54, 55, 56, 57, 58]⟩,
 ⟨(some 49), (.fa 0), [(.t 5)], none, [31, 32, 33, 34, 35, 36, 37, 38, 39, 40, 41, 42, 43, 44, 45, 46, 47, 48, 54, 55, 56, 57, 58]⟩,
 ⟨(some 50), (.fa 0), [(.t 49)], none, [31, 32, 33, 34, 35, 36, 37, 38, 39, 40, 41, 42, 43, 44, 45, 46, 47, 48, 54, 55, 56, 57, 58]⟩,
 ⟨(some 51), (.load none), [(.t 50)], none, [31, 32, 33, 34, 35, 36, 37, 38, 39, 40, 41, 42, 43, 44, 45, 46, 47, 48, 54, 55, 56, 57, 58]⟩,
 ⟨(some 52), (.bin 0 .mul), [(.c (.int .i64 1000)), (.t 51)], none, [31, 32, 33, 34, 35, 36, 37, 38, 39, 40, 41, 42, 43, 44, 45, 46, 47, 48, 54, 55, 56, 57, 58]⟩,
 ⟨(some 53), (.bin 0 .add), [(.t 48), (.t 52)], none, [31, 32, 33, 34, 35, 36, 37, 38, 39, 40, 41, 42, 43, 44, 45, 46, 47, 54, 55, 56, 57, 58]⟩,
 ⟨(some 54), .mv, [(.t 1)], none, [31, 32, 33, 34, 35, 36, 37, 38, 39, 40, 41, 42, 43, 44, 45, 46, 47, 48, 49, 50, 51, 52, 53, 56, 57]⟩,
 ⟨(some 55), (.bin 0 .mul), [(.c (.int .i64 4)), (.t 54)], none, [31, 32, 33, 34, 35, 36, 37, 38, 39, 40, 41, 42, 43, 44, 45, 46, 47, 48, 49, 50, 51, 52, 53, 56, 57]⟩,
 ⟨(some 56), (.fa 2), [(.t 10)], none, [31, 32, 33, 34, 35, 36, 37, 38, 39, 40, 41, 42, 43, 44, 45, 46, 47, 48, 49, 50, 51, 52, 53, 54, 55]⟩,
 ⟨(some 57), (.load none), [(.t 56)], none, [31, 32, 33, 34, 35, 36, 37, 38, 39, 40, 41, 42, 43, 44, 45, 46, 47, 48, 49, 50, 51, 52, 53, 54, 55]⟩,
 ⟨(some 58), (.bin 0 .mul), [(.t 55), (.t 57)], none, [31, 32, 33, 34, 35, 36, 37, 38, 39, 40, 41, 42, 43, 44, 45, 46, 47, 48, 49, 50, 51, 52, 53]⟩,
 ⟨(some 59), (.bin 0 .add), [(.t 53), (.t 58)], none, [31, 32, 33, 34, 35, 36, 37, 38, 39, 40, 41, 42, 43, 44, 45, 46, 47]⟩,
 ⟨(some 60), (.call true false false), [(.t 47), (.t 59), (.c (.int .i64 4000))], none, [31, 32]⟩,
 ⟨(some 61), (.build [(.int .i64 0), (.int .i64 0)] [(0, 1), (1, 1)]), [(.t 46), (.t 60)], none, [31, 32]⟩,
 ⟨(some 62), (.bsl 2 [(.int .i64 0), (.int .i64 0)] 1 [0]), [(.t 61)], none, [31, 32]⟩,
 ⟨(some 63), (.append false 2 16), [(.t 32), (.t 62)], none, []⟩,
 ⟨(some 64), (.fa 0), [(.t 10)], none, []⟩,
 ⟨none, (.store 1 (some 10)), [(.t 64), (.t 63)], none, []⟩] 0 [1, 3, 4, 5, 10, 21, 22]))))
 (.reg true [] [] [
 ⟨(some 65), (.bin 0 .add), [(.t 22), (.c (.int .i64 1))], none, []⟩,
 ⟨(some 22), .mv, [(.t 65)], none, []⟩] 0 [1, 3, 4, 5, 10, 21, 22]))))
def l72 : LFun := ⟨5, 67, [],
 (.seq
 (.reg false [5, 10] [5, 10] [
 ⟨(some 5), .box, [(.t 0)], none, []⟩,
 ⟨(some 10), (.alloc [(.sl (some 2006300) 2 []), (.int .i64 0), (.int .i64 0)]), [], none, []⟩] 0 [1, 2, 3, 4, 5, 10])
 (.seq
 (.reg false [] [] [
 ⟨(some 13), (.fa 0), [(.t 5)], none, [16, 17, 18]⟩,
 ⟨(some 14), (.fa 1), [(.t 13)], none, [16, 17, 18]⟩,
 ⟨(some 15), (.load none), [(.t 14)], none, [16, 17, 18]⟩,
 ⟨(some 16), (.fa 0), [(.t 5)], none, [13, 14, 15, 19, 10]⟩,
 ⟨(some 17), (.fa 2), [(.t 16)], none, [13, 14, 15, 19, 10]⟩,
 ⟨(some 18), (.load none), [(.t 17)], none, [13, 14, 15, 19, 10]⟩,
 ⟨(some 19), (.fa 1), [(.t 10)], none, [16, 17, 18]⟩,
 ⟨none, (.store 1 (some 10)), [(.t 19), (.t 15)], none, [16, 17, 18]⟩,
 ⟨(some 20), (.fa 2), [(.t 10)], none, []⟩,
 ⟨none, (.store 1 (some 10)), [(.t 20), (.t 18)], none, []⟩] 0 [1, 2, 3, 4, 5, 10])
 (.seq
 (.seq
 (.reg false [] [] [
 ⟨(some 21), .mv, [(.t 2)], none, []⟩,
 ⟨(some 22), .mv, [(.c (.int .i64 0))], none, []⟩] 0 [1, 3, 4, 5, 10, 21, 22])
 (.block 0
 (.loop b72_0)))
 (.seq
 (.reg false [] [] [
 ⟨(some 66), (.load (some 3)), [(.t 10)], none, []⟩,
 ⟨none, (.store 3 none), [(.t 10), (.t 66)], none, []⟩] 0 [10])
 .ret)))),
 [(.c 10 (some 3))]⟩
theorem c72 : funC Try.prog [(0, [1, 2, 3, 4, 5, 10]), (1, [1, 2, 3, 4, 5, 10]), (2, [1, 3, 4, 5, 10, 21, 22]), (3, [1, 3, 4, 5, 10, 21, 22, 23]), (4, [1, 3, 4, 5, 10, 11, 21, 22]), (5, [1, 3, 4, 5, 10, 12, 21, 22]), (6, [1, 3, 4, 5, 10, 21, 22]), (7, [1, 3, 4, 5, 10, 21, 22]), (8, [10])] Try.f72 = some (unF l72) := by kernel_rfl
/-- acme/fit.goes -/
def l73 : LFun := ⟨3, 23, [],
 (.seq
 (.reg false [3, 4, 5] [3, 4, 5] [
 ⟨(some 3), .box, [(.t 0)], none, []⟩,
 ⟨(some 4), .box, [(.t 1)], none, []⟩,
 ⟨(some 5), .box, [(.t 2)], none, []⟩,
 ⟨(some 6), .mv, [(.c (.bool false))], none, []⟩] 0 [3, 4, 5])
 (.seq
 (.reg false [7] [7] [
 ⟨(some 10), (.load (some 2)), [(.t 5)], none, []⟩,
 ⟨(some 11), (.build [(.int .i64 0), (.int .i64 0)] [(0, 2)]), [(.t 10)], none, []⟩,
 ⟨(some 12), (.load (some 3)), [(.t 3)], none, []⟩,
 ⟨(some 13), (.load (some 3)), [(.t 4)], none, []⟩,
 ⟨(some 14), (.build [(.int .i64 0), (.int .i64 0), (.sl none 2 []), (.int .i64 0), (.int .i64 0), (.sl none 2 []), (.int .i64 0), (.int .i64 0)] [(0, 2), (2, 3), (5, 3)]), [(.t 11), (.t 12), (.t 13)], none, []⟩,
 ⟨(some 15), (.fa 0), [(.t 3)], none, []⟩,
 ⟨(some 16), (.load none), [(.t 15)], none, []⟩,
 ⟨(some 17), (.fa 0), [(.t 4)], none, []⟩,
 ⟨(some 18), (.load none), [(.t 17)], none, []⟩,
 ⟨(some 19), (.call false false false), [(.f 66), (.t 14), (.t 16), (.t 18)], none, []⟩,
 ⟨(some 9), .mv, [(.t 19)], none, []⟩,
 ⟨(some 20), (.ext 0), [(.t 9)], none, []⟩,
 ⟨(some 21), (.ext 1), [(.t 9)], none, []⟩,
 ⟨(some 7), (.alloc [(.int .i64 0), (.int .i64 0)]), [], none, []⟩,
 ⟨none, (.store 2 none), [(.t 7), (.t 20)], none, []⟩,
 ⟨(some 8), .mv, [(.t 21)], none, []⟩] 0 [8])
 (.seq
 (.reg false [] [] [
 ⟨(some 22), .mv, [(.t 8)], none, []⟩,
 ⟨(some 6), .mv, [(.t 22)], none, []⟩] 0 [6])
 .ret))),
 [(.t 6)]⟩
theorem c73 : funC Try.prog [(0, [3, 4, 5]), (1, [8]), (2, [6])] Try.f73 = some (unF l73) := by kernel_rfl
/-- acme/fit.isRules -/
def l76 : LFun := ⟨1, 21, [],
 (.seq
 (.reg false [1] [1] [
 ⟨(some 1), .box, [(.t 0)], none, []⟩,
 ⟨(some 2), .mv, [(.c (.bool false))], none, []⟩] 0 [1])
 (.seq
 (.reg false [] [] [
 ⟨(some 3), (.fa 0), [(.t 1)], none, []⟩,
 ⟨(some 4), (.load (some 2)), [(.t 3)], none, []⟩,
 ⟨(some 5), (.call false false false), [(.f 94), (.t 4), (.c (.int .i64 (-1000))), (.c (.int .i64 1000))], none, []⟩,
 ⟨(some 6), .mv, [(.t 5)], none, []⟩,
 ⟨(some 7), (.fa 2), [(.t 1)], (some (6, true)), []⟩,
 ⟨(some 8), (.load (some 2)), [(.t 7)], (some (6, true)), []⟩,
 ⟨(some 9), (.call false false false), [(.f 94), (.t 8), (.c (.int .i64 0)), (.c (.int .i64 200000))], (some (6, true)), []⟩,
 ⟨(some 10), .pick, [(.t 6), (.t 9), (.c (.bool false))], none, []⟩,
 ⟨(some 11), .mv, [(.t 10)], none, []⟩,
 ⟨(some 12), (.fa 4), [(.t 1)], (some (11, true)), []⟩,
 ⟨(some 13), (.load (some 2)), [(.t 12)], (some (11, true)), []⟩,
 ⟨(some 14), (.call false false false), [(.f 94), (.t 13), (.c (.int .i64 0)), (.c (.int .i64 3000))], (some (11, true)), []⟩,
 ⟨(some 15), .pick, [(.t 11), (.t 14), (.c (.bool false))], none, []⟩,
 ⟨(some 16), .mv, [(.t 15)], none, []⟩,
 ⟨(some 17), (.fa 6), [(.t 1)], (some (16, true)), []⟩,
 ⟨(some 18), (.load (some 2)), [(.t 17)], (some (16, true)), []⟩,
 ⟨(some 19), (.call false false false), [(.f 94), (.t 18), (.c (.int .i64 0)), (.c (.int .i64 3000))], (some (16, true)), []⟩,
 ⟨(some 20), .pick, [(.t 16), (.t 19), (.c (.bool false))], none, []⟩,
 ⟨(some 2), .mv, [(.t 20)], none, []⟩] 0 [2])
 .ret)),
 [(.t 2)]⟩
theorem c76 : funC Try.prog [(0, [1]), (1, [2])] Try.f76 = some (unF l76) := by kernel_rfl
/-- (acme/fit.heights).leaning -/
def b77_0 : LCode :=
 (.seq
 (.reg true [] [] [
 ⟨(some 23), (.bin 0 .lss), [(.t 22), (.c (.int .i64 3))], none, []⟩] 0 [1, 3, 6, 7, 21, 22, 23])
 (.seq
 (.cond (.t 23)
 .skip
 (.exit 0))
 (.seq
 (.block 1
 (.seq
 (.reg true [] [] [
 ⟨(some 24), (.idx 3 1 none), [(.t 21), (.t 22)], none, []⟩,
 ⟨(some 9), .mv, [(.t 24)], none, []⟩] 0 [1, 3, 6, 7, 9, 21, 22])
 (.reg true [31, 32] [31] [
 ⟨(some 25), .mv, [(.t 7)], none, []⟩,
 ⟨(some 26), (.load (some 2)), [(.t 3)], none, []⟩,
 ⟨(some 27), .mv, [(.t 1)], none, []⟩,
 ⟨(some 28), .mv, [(.t 9)], none, []⟩,
 ⟨(some 29), (.bin 0 .sub), [(.t 27), (.t 28)], none, []⟩,
 ⟨(some 30), (.call false false false), [(.f 87), (.t 26), (.t 29)], none, []⟩,
 ⟨(some 31), (.bsl 1 [(.int .i64 0)] 1 [0]), [(.t 30)], none, []⟩,
 ⟨(some 32), (.append false 1 8), [(.t 25), (.t 31)], none, []⟩,
 ⟨(some 7), .mv, [(.t 32)], none, []⟩] 0 [1, 3, 6, 7, 21, 22])))
 (.reg true [] [] [
 ⟨(some 33), (.bin 0 .add), [(.t 22), (.c (.int .i64 1))], none, []⟩,
 ⟨(some 22), .mv, [(.t 33)], none, []⟩] 0 [1, 3, 6, 7, 21, 22]))))
def l77 : LFun := ⟨3, 39, [],
 (.seq
 (.reg false [3, 5, 6] [3, 5, 6] [
 ⟨(some 3), .box, [(.t 0)], none, []⟩,
 ⟨(some 5), .box, [(.t 2)], none, []⟩,
 ⟨(some 6), (.alloc [(.int .i64 0), (.int .i64 0)]), [], none, []⟩] 0 [1, 3, 5, 6])
 (.seq
 (.reg false [] [] [
 ⟨(some 7), .mv, [(.c (.sl (some 2003200) 1 []))], none, []⟩] 0 [1, 3, 5, 6, 7])
 (.seq
 (.seq
 (.reg false [] [] [
 ⟨(some 10), (.fa 0), [(.t 5)], none, []⟩,
 ⟨(some 11), (.load none), [(.t 10)], none, []⟩,
 ⟨(some 12), (.fa 1), [(.t 5)], none, []⟩,
 ⟨(some 13), (.load none), [(.t 12)], none, []⟩,
 ⟨(some 14), .mv, [(.t 1)], none, []⟩,
 ⟨(some 15), (.fa 0), [(.t 5)], none, []⟩,
 ⟨(some 16), (.load none), [(.t 15)], none, []⟩,
 ⟨(some 17), .max, [(.t 14), (.t 16)], none, []⟩,
 ⟨(some 18), (.fa 1), [(.t 5)], none, []⟩,
 ⟨(some 19), (.load none), [(.t 18)], none, []⟩,
 ⟨(some 20), .min, [(.t 17), (.t 19)], none, []⟩,
 ⟨(some 21), (.build [(.int .i64 0), (.int .i64 0), (.int .i64 0)] [(0, 1), (1, 1), (2, 1)]), [(.t 11), (.t 13), (.t 20)], none, []⟩,
 ⟨(some 22), .mv, [(.c (.int .i64 0))], none, []⟩] 0 [1, 3, 6, 7, 21, 22])
 (.block 0
 (.loop b77_0)))
 (.seq
 (.reg false [] [] [
 ⟨(some 34), .mv, [(.t 7)], none, []⟩,
 ⟨(some 35), (.call false false false), [(.f 95), (.t 34)], none, []⟩,
 ⟨(some 36), .mv, [(.t 7)], none, []⟩,
 ⟨(some 37), (.call false false false), [(.f 88), (.t 36)], none, []⟩,
 ⟨(some 38), (.build [(.int .i64 0), (.int .i64 0)] [(0, 1), (1, 1)]), [(.t 35), (.t 37)], none, []⟩,
 ⟨none, (.store 2 none), [(.t 6), (.t 38)], none, []⟩] 0 [6])
 .ret)))),
 [(.c 6 (some 2))]⟩
theorem c77 : funC Try.prog [(0, [1, 3, 5, 6]), (1, [1, 3, 5, 6, 7]), (2, [1, 3, 6, 7, 21, 22]), (3, [1, 3, 6, 7, 21, 22, 23]), (4, [1, 3, 6, 7, 9, 21, 22]), (5, [1, 3, 6, 7, 21, 22]), (6, [1, 3, 6, 7, 21, 22]), (7, [6])] Try.f77 = some (unF l77) := by kernel_rfl
/-- acme/fit.drift -/
def l78 : LFun := ⟨2, 22, [],
 (.seq
 (.reg false [2, 4] [2, 4] [
 ⟨(some 2), .box, [(.t 0)], none, []⟩,
 ⟨(some 4), (.alloc [(.int .i64 0), (.int .i64 0)]), [], none, []⟩] 0 [1, 2, 4])
 (.seq
 (.reg false [] [] [
 ⟨(some 5), .mv, [(.t 1)], none, []⟩,
 ⟨(some 6), (.fa 0), [(.t 2)], none, []⟩,
 ⟨(some 7), (.load none), [(.t 6)], none, []⟩,
 ⟨(some 8), (.fa 1), [(.t 2)], none, []⟩,
 ⟨(some 9), (.load none), [(.t 8)], none, []⟩,
 ⟨(some 10), (.un .neg), [(.t 9)], none, []⟩,
 ⟨(some 11), .max, [(.c (.int .i64 0)), (.t 7), (.t 10)], none, []⟩,
 ⟨(some 12), (.bin 0 .mul), [(.t 5), (.t 11)], none, []⟩,
 ⟨(some 13), .mv, [(.t 1)], none, []⟩,
 ⟨(some 14), (.fa 1), [(.t 2)], none, []⟩,
 ⟨(some 15), (.load none), [(.t 14)], none, []⟩,
 ⟨(some 16), (.fa 0), [(.t 2)], none, []⟩,
 ⟨(some 17), (.load none), [(.t 16)], none, []⟩,
 ⟨(some 18), (.un .neg), [(.t 17)], none, []⟩,
 ⟨(some 19), .max, [(.c (.int .i64 0)), (.t 15), (.t 18)], none, []⟩,
 ⟨(some 20), (.bin 0 .mul), [(.t 13), (.t 19)], none, []⟩,
 ⟨(some 21), (.build [(.int .i64 0), (.int .i64 0)] [(0, 1), (1, 1)]), [(.t 12), (.t 20)], none, []⟩,
 ⟨none, (.store 2 none), [(.t 4), (.t 21)], none, []⟩] 0 [4])
 .ret)),
 [(.c 4 (some 2))]⟩
theorem c78 : funC Try.prog [(0, [1, 2, 4]), (1, [4])] Try.f78 = some (unF l78) := by kernel_rfl
/-- acme/fit.Cost$1 -/
def l79 : LFun := ⟨7, 37, [],
 (.seq
 (.reg false [] [] [
 ⟨(some 8), .mv, [(.c (.int .i64 0))], none, []⟩] 0 [0, 1, 2, 3, 4, 5, 6])
 (.seq
 (.reg false [] [] [
 ⟨(some 10), .mv, [(.t 0)], none, [11, 12, 14, 15, 19, 20, 21, 23, 24, 26, 27]⟩,
 ⟨(some 11), (.fa 2), [(.t 1)], none, [10, 14, 15, 19, 20, 21, 23, 24, 26, 27]⟩,
 ⟨(some 12), (.load (some 2)), [(.t 11)], none, [10, 14, 15, 19, 20, 21, 23, 24, 26, 27]⟩,
 ⟨(some 13), (.call true false false), [(.t 10), (.t 12)], none, [14, 15, 19, 20, 21, 23, 24, 26, 27]⟩,
 ⟨(some 14), .mv, [(.t 0)], none, [10, 11, 12, 13, 15, 19, 20, 21, 23, 24, 26, 27]⟩,
 ⟨(some 15), (.load (some 2)), [(.t 2)], none, [10, 11, 12, 13, 14, 19, 20, 21, 23, 24, 26, 27]⟩,
 ⟨(some 16), (.call true false false), [(.t 14), (.t 15)], none, [19, 20, 21, 23, 24, 26, 27]⟩,
 ⟨(some 17), (.bin 0 .add), [(.t 13), (.t 16)], none, [19, 20, 21, 23, 24, 25, 26, 27, 28, 29, 30]⟩,
 ⟨(some 18), (.bin 0 .mul), [(.c (.int .i64 2000)), (.t 17)], none, [19, 20, 21, 23, 24, 25, 26, 27, 28, 29, 30]⟩,
 ⟨(some 19), (.fa 0), [(.t 3)], none, [10, 11, 12, 13, 14, 15, 16, 17, 18, 23, 24, 25, 26, 27, 28, 29, 30]⟩,
 ⟨(some 20), (.load none), [(.t 19)], none, [10, 11, 12, 13, 14, 15, 16, 17, 18, 23, 24, 25, 26, 27, 28, 29, 30]⟩,
 ⟨(some 21), (.bin 0 .mul), [(.c (.int .i64 1000)), (.t 20)], none, [10, 11, 12, 13, 14, 15, 16, 17, 18, 23, 24, 25, 26, 27, 28, 29, 30]⟩,
 ⟨(some 22), (.bin 0 .sub), [(.t 18), (.t 21)], none, [23, 24, 25, 26, 27, 28, 29, 30]⟩,
 ⟨(some 23), .mv, [(.t 0)], none, [10, 11, 12, 13, 14, 15, 16, 17, 18, 19, 20, 21, 22, 24, 26, 27]⟩,
 ⟨(some 24), (.load (some 2)), [(.t 4)], none, [10, 11, 12, 13, 14, 15, 16, 17, 18, 19, 20, 21, 22, 23, 26, 27]⟩,
 ⟨(some 25), (.call true false false), [(.t 23), (.t 24)], none, [17, 18, 19, 20, 21, 22, 26, 27]⟩,
 ⟨(some 26), .mv, [(.t 0)], none, [10, 11, 12, 13, 14, 15, 16, 17, 18, 19, 20, 21, 22, 23, 24, 25, 27]⟩,
 ⟨(some 27), (.load (some 2)), [(.t 5)], none, [10, 11, 12, 13, 14, 15, 16, 17, 18, 19, 20, 21, 22, 23, 24, 25, 26]⟩,
 ⟨(some 28), (.call true false false), [(.t 26), (.t 27)], none, [17, 18, 19, 20, 21, 22]⟩,
 ⟨(some 29), (.bin 0 .add), [(.t 25), (.t 28)], none, [17, 18, 19, 20, 21, 22]⟩,
 ⟨(some 30), (.bin 0 .mul), [(.c (.int .i64 2)), (.t 29)], none, [17, 18, 19, 20, 21, 22]⟩,
 ⟨(some 31), (.bin 0 .add), [(.t 22), (.t 30)], none, []⟩,
 ⟨(some 9), .mv, [(.t 31)], none, []⟩] 0 [6, 9])
 (.seq
 (.reg false [] [] [
 ⟨(some 32), .mv, [(.t 9)], none, []⟩,
 ⟨(some 33), (.load (some 10)), [(.t 6)], none, []⟩,
 ⟨(some 34), (.call false false false), [(.f 57), (.t 33)], none, []⟩,
 ⟨(some 35), (.bin 0 .mul), [(.c (.int .i64 2)), (.t 34)], none, []⟩,
 ⟨(some 36), (.call false false false), [(.f 58), (.t 32), (.t 35)], none, []⟩,
 ⟨(some 8), .mv, [(.t 36)], none, []⟩] 0 [8])
 .ret))),
 [(.t 8)]⟩
theorem c79 : funC Try.prog [(0, [0, 1, 2, 3, 4, 5, 6]), (1, [6, 9]), (2, [8])] Try.f79 = some (unF l79) := by kernel_rfl
/-- acme/fit.Cost$2 -/
def l80 : LFun := ⟨1, 5, [],
 (.seq
 (.reg false [1] [1] [
 ⟨(some 1), .box, [(.t 0)], none, []⟩,
 ⟨(some 2), .mv, [(.c (.int .i64 0))], none, []⟩] 0 [1])
 (.seq
 (.reg false [] [] [
 ⟨(some 3), (.fa 0), [(.t 1)], none, []⟩,
 ⟨(some 4), (.load none), [(.t 3)], none, []⟩,
 ⟨(some 2), .mv, [(.t 4)], none, []⟩] 0 [2])
 .ret)),
 [(.t 2)]⟩
theorem c80 : funC Try.prog [(0, [1]), (1, [2])] Try.f80 = some (unF l80) := by kernel_rfl
/-- acme/fit.Cost$3 -/
def l81 : LFun := ⟨1, 5, [],
 (.seq
 (.reg false [1] [1] [
 ⟨(some 1), .box, [(.t 0)], none, []⟩,
 ⟨(some 2), .mv, [(.c (.int .i64 0))], none, []⟩] 0 [1])
 (.seq
 (.reg false [] [] [
 ⟨(some 3), (.fa 1), [(.t 1)], none, []⟩,
 ⟨(some 4), (.load none), [(.t 3)], none, []⟩,
 ⟨(some 2), .mv, [(.t 4)], none, []⟩] 0 [2])
 .ret)),
 [(.t 2)]⟩
theorem c81 : funC Try.prog [(0, [1]), (1, [2])] Try.f81 = some (unF l81) := by kernel_rfl
/-- slices.Concat[[]acme/api.FitThread,acme/api.FitThread] -/
def b83_0 : LCode :=
 (.seq
 (.reg true [] [] [
 ⟨(some 12), (.bin 0 .lss), [(.t 11), (.t 10)], none, []⟩] 0 [0, 3, 9, 10, 11, 12])
 (.seq
 (.cond (.t 12)
 .skip
 (.exit 0))
 (.seq
 (.block 1
 (.seq
 (.reg true [] [] [
 ⟨(some 13), (.ixs 1), [(.t 9), (.t 11)], none, []⟩,
 ⟨(some 14), (.load none), [(.t 13)], none, []⟩,
 ⟨(some 5), .mv, [(.t 14)], none, []⟩] 0 [0, 3, 5, 9, 10, 11])
 (.seq
 (.reg true [] [] [
 ⟨(some 15), .mv, [(.t 3)], none, []⟩,
 ⟨(some 16), .mv, [(.t 5)], none, []⟩,
 ⟨(some 17), .len, [(.t 16)], none, []⟩,
 ⟨(some 18), (.bin 0 .add), [(.t 15), (.t 17)], none, []⟩,
 ⟨(some 3), .mv, [(.t 18)], none, []⟩] 0 [0, 3, 9, 10, 11])
 (.seq
 (.reg true [] [] [
 ⟨(some 19), .mv, [(.t 3)], none, []⟩,
 ⟨(some 20), (.bin 0 .lss), [(.t 19), (.c (.int .i64 0))], none, []⟩] 0 [0, 3, 9, 10, 11, 20])
 (.cond (.t 20)
 (.reg true [] [] [
 ⟨none, .bad, [], none, []⟩,
 ⟨none, .bad, [], none, []⟩] 0 [0, 3, 9, 10, 11])
 .skip)))))
 (.reg true [] [] [
 ⟨(some 22), (.bin 0 .add), [(.t 11), (.c (.int .i64 1))], none, []⟩,
 ⟨(some 11), .mv, [(.t 22)], none, []⟩] 0 [0, 3, 9, 10, 11]))))
def b83_1 : LCode :=
 (.seq
 (.reg true [] [] [
 ⟨(some 28), (.bin 0 .lss), [(.t 27), (.t 26)], none, []⟩] 0 [6, 25, 26, 27, 28])
 (.seq
 (.cond (.t 28)
 .skip
 (.exit 2))
 (.seq
 (.block 3
 (.seq
 (.reg true [] [] [
 ⟨(some 29), (.ixs 1), [(.t 25), (.t 27)], none, []⟩,
 ⟨(some 30), (.load none), [(.t 29)], none, []⟩,
 ⟨(some 8), .mv, [(.t 30)], none, []⟩] 0 [6, 8, 25, 26, 27])
 (.reg true [33] [] [
 ⟨(some 31), .mv, [(.t 6)], none, []⟩,
 ⟨(some 32), .mv, [(.t 8)], none, []⟩,
 ⟨(some 33), (.append false 3 40), [(.t 31), (.t 32)], none, []⟩,
 ⟨(some 6), .mv, [(.t 33)], none, []⟩] 0 [6, 25, 26, 27])))
 (.reg true [] [] [
 ⟨(some 34), (.bin 0 .add), [(.t 27), (.c (.int .i64 1))], none, []⟩,
 ⟨(some 27), .mv, [(.t 34)], none, []⟩] 0 [6, 25, 26, 27]))))
def l83 : LFun := ⟨1, 36, [],
 (.seq
 (.reg false [] [] [
 ⟨(some 2), .mv, [(.c .nil)], none, []⟩] 0 [0])
 (.seq
 (.reg false [] [] [
 ⟨(some 3), .mv, [(.c (.int .i64 0))], none, []⟩] 0 [0, 3])
 (.seq
 (.seq
 (.reg false [] [] [
 ⟨(some 9), .mv, [(.t 0)], none, []⟩,
 ⟨(some 10), .len, [(.t 9)], none, []⟩,
 ⟨(some 11), .mv, [(.c (.int .i64 0))], none, []⟩] 0 [0, 3, 9, 10, 11])
 (.block 0
 (.loop b83_0)))
 (.seq
 (.reg false [24] [24] [
 ⟨(some 23), .mv, [(.t 3)], none, []⟩,
 ⟨(some 24), (.call false true true), [(.f 96), (.c .nil), (.t 23)], none, []⟩,
 ⟨(some 6), .mv, [(.t 24)], none, []⟩] 0 [0, 6])
 (.seq
 (.seq
 (.reg false [] [] [
 ⟨(some 25), .mv, [(.t 0)], none, []⟩,
 ⟨(some 26), .len, [(.t 25)], none, []⟩,
 ⟨(some 27), .mv, [(.c (.int .i64 0))], none, []⟩] 0 [6, 25, 26, 27])
 (.block 2
 (.loop b83_1)))
 (.seq
 (.reg false [] [] [
 ⟨(some 35), .mv, [(.t 6)], none, []⟩,
 ⟨(some 2), .mv, [(.t 35)], none, []⟩] 0 [2])
 .ret)))))),
 [(.t 2)]⟩
theorem c83 : funC Try.prog [(0, [0]), (1, [0, 3]), (2, [0, 3, 9, 10, 11]), (3, [0, 3, 9, 10, 11, 12]), (4, [0, 3, 5, 9, 10, 11]), (5, [0, 3, 9, 10, 11]), (6, [0, 3, 9, 10, 11, 20]), (7, [0, 3, 9, 10, 11]), (8, [0, 3, 9, 10, 11]), (9, [0, 6]), (10, [6, 25, 26, 27]), (11, [6, 25, 26, 27, 28]), (12, [6, 8, 25, 26, 27]), (13, [6, 25, 26, 27]), (14, [6, 25, 26, 27]), (15, [2])] Try.f83 = some (unF l83) := by kernel_rfl
/-- slices.ContainsFunc[[]int,int] -/
def l84 : LFun := ⟨2, 9, [],
 (.seq
 (.reg false [] [] [
 ⟨(some 4), .mv, [(.c (.bool false))], none, []⟩] 0 [0, 1])
 (.seq
 (.reg false [] [] [
 ⟨(some 5), .mv, [(.t 0)], none, []⟩,
 ⟨(some 6), .mv, [(.t 1)], none, []⟩,
 ⟨(some 7), (.call false false false), [(.f 97), (.t 5), (.t 6)], none, []⟩,
 ⟨(some 8), (.bin 0 .geq), [(.t 7), (.c (.int .i64 0))], none, []⟩,
 ⟨(some 4), .mv, [(.t 8)], none, []⟩] 0 [4])
 .ret)),
 [(.t 4)]⟩
theorem c84 : funC Try.prog [(0, [0, 1]), (1, [4])] Try.f84 = some (unF l84) := by kernel_rfl
/-- acme/fit.within$1 -/
def l85 : LFun := ⟨3, 13, [],
 (.seq
 (.reg false [] [] [
 ⟨(some 4), .mv, [(.c (.bool false))], none, []⟩] 0 [0, 1, 2])
 (.seq
 (.reg false [] [] [
 ⟨(some 5), .mv, [(.t 0)], none, []⟩,
 ⟨(some 6), (.load none), [(.t 1)], none, []⟩,
 ⟨(some 7), (.bin 0 .lss), [(.t 5), (.t 6)], none, []⟩,
 ⟨(some 8), .mv, [(.t 7)], none, []⟩,
 ⟨(some 9), .mv, [(.t 0)], (some (8, false)), []⟩,
 ⟨(some 10), (.load none), [(.t 2)], (some (8, false)), []⟩,
 ⟨(some 11), (.bin 0 .gtr), [(.t 9), (.t 10)], (some (8, false)), []⟩,
 ⟨(some 12), .pick, [(.t 8), (.c (.bool true)), (.t 11)], none, []⟩,
 ⟨(some 4), .mv, [(.t 12)], none, []⟩] 0 [4])
 .ret)),
 [(.t 4)]⟩
theorem c85 : funC Try.prog [(0, [0, 1, 2]), (1, [4])] Try.f85 = some (unF l85) := by kernel_rfl
/-- (acme/fit.ideal).flanks -/
def l86 : LFun := ⟨2, 6, [],
 (.seq
 (.reg false [2, 3] [2, 3] [
 ⟨(some 2), .box, [(.t 0)], none, []⟩,
 ⟨(some 3), .box, [(.t 1)], none, []⟩,
 ⟨(some 4), .mv, [(.c .dead)], none, []⟩] 0 [2, 3])
 (.seq
 (.reg false [] [] [
 ⟨(some 5), (.mkf 98), [(.t 3), (.t 2)], none, []⟩,
 ⟨(some 4), .mv, [(.t 5)], none, []⟩] 0 [2, 3, 4])
 .ret)),
 [(.t 4)]⟩
theorem c86 : funC Try.prog [(0, [2, 3]), (1, [2, 3, 4])] Try.f86 = some (unF l86) := by kernel_rfl
/-- (acme/fit.heights).most -/
def l87 : LFun := ⟨2, 16, [],
 (.seq
 (.reg false [2] [2] [
 ⟨(some 2), .box, [(.t 0)], none, []⟩,
 ⟨(some 4), .mv, [(.c (.int .i64 0))], none, []⟩] 0 [1, 2])
 (.seq
 (.reg false [] [] [
 ⟨(some 5), (.fa 0), [(.t 2)], none, []⟩,
 ⟨(some 6), (.fa 0), [(.t 5)], none, []⟩,
 ⟨(some 7), (.load none), [(.t 6)], none, []⟩,
 ⟨(some 8), .mv, [(.t 1)], none, []⟩,
 ⟨(some 9), (.bin 0 .mul), [(.t 7), (.t 8)], none, []⟩,
 ⟨(some 10), (.fa 0), [(.t 2)], none, []⟩,
 ⟨(some 11), (.fa 1), [(.t 10)], none, []⟩,
 ⟨(some 12), (.load none), [(.t 11)], none, []⟩,
 ⟨(some 13), .mv, [(.t 1)], none, []⟩,
 ⟨(some 14), (.bin 0 .mul), [(.t 12), (.t 13)], none, []⟩,
 ⟨(some 15), .max, [(.t 9), (.t 14)], none, []⟩,
 ⟨(some 4), .mv, [(.t 15)], none, []⟩] 0 [4])
 .ret)),
 [(.t 4)]⟩
theorem c87 : funC Try.prog [(0, [1, 2]), (1, [4])] Try.f87 = some (unF l87) := by kernel_rfl
/-- slices.Max[[]int,int] -/
def b88_0 : LCode :=
 (.seq
 (.seq
 (.reg true [] [] [
 ⟨(some 12), .mv, [(.t 4)], none, []⟩,
 ⟨(some 13), .mv, [(.t 0)], none, []⟩,
 ⟨(some 14), .len, [(.t 13)], none, []⟩,
 ⟨(some 15), (.bin 0 .lss), [(.t 12), (.t 14)], none, []⟩] 0 [0, 3, 4, 15])
 (.cond (.t 15)
 .skip
 (.exit 0)))
 (.seq
 (.block 1
 (.reg true [] [] [
 ⟨(some 18), .mv, [(.t 3)], none, []⟩,
 ⟨(some 19), .mv, [(.t 0)], none, []⟩,
 ⟨(some 20), .mv, [(.t 4)], none, []⟩,
 ⟨(some 21), (.ixs 1), [(.t 19), (.t 20)], none, []⟩,
 ⟨(some 22), (.load none), [(.t 21)], none, []⟩,
 ⟨(some 23), .max, [(.t 18), (.t 22)], none, []⟩,
 ⟨(some 3), .mv, [(.t 23)], none, []⟩] 0 [0, 3, 4]))
 (.reg true [] [] [
 ⟨(some 16), .mv, [(.t 4)], none, []⟩,
 ⟨(some 17), (.bin 0 .add), [(.t 16), (.c (.int .i64 1))], none, []⟩,
 ⟨(some 4), .mv, [(.t 17)], none, []⟩] 0 [0, 3, 4])))
def l88 : LFun := ⟨1, 25, [],
 (.seq
 (.reg false [] [] [
 ⟨(some 2), .mv, [(.c (.int .i64 0))], none, []⟩] 0 [0])
 (.seq
 (.seq
 (.reg false [] [] [
 ⟨(some 5), .mv, [(.t 0)], none, []⟩,
 ⟨(some 6), .len, [(.t 5)], none, []⟩,
 ⟨(some 7), (.bin 0 .lss), [(.t 6), (.c (.int .i64 1))], none, []⟩] 0 [0, 7])
 (.cond (.t 7)
 (.reg false [] [] [
 ⟨none, .bad, [], none, []⟩,
 ⟨none, .bad, [], none, []⟩] 0 [0])
 .skip))
 (.seq
 (.reg false [] [] [
 ⟨(some 9), .mv, [(.t 0)], none, []⟩,
 ⟨(some 10), (.ixs 1), [(.t 9), (.c (.int .i64 0))], none, []⟩,
 ⟨(some 11), (.load none), [(.t 10)], none, []⟩,
 ⟨(some 3), .mv, [(.t 11)], none, []⟩] 0 [0, 3])
 (.seq
 (.seq
 (.reg false [] [] [
 ⟨(some 4), .mv, [(.c (.int .i64 1))], none, []⟩] 0 [0, 3, 4])
 (.block 0
 (.loop b88_0)))
 (.seq
 (.reg false [] [] [
 ⟨(some 24), .mv, [(.t 3)], none, []⟩,
 ⟨(some 2), .mv, [(.t 24)], none, []⟩] 0 [2])
 .ret))))),
 [(.t 2)]⟩
theorem c88 : funC Try.prog [(0, [0]), (1, [0, 7]), (2, [0]), (3, [0, 3]), (4, [0, 3, 4]), (5, [0, 3, 4, 15]), (6, [0, 3, 4]), (7, [0, 3, 4]), (8, [2])] Try.f88 = some (unF l88) := by kernel_rfl
/-- (acme/fit.heights).needs -/
def l91 : LFun := ⟨5, 40, [],
 (.seq
 (.reg false [5, 6, 7, 8, 9, 10] [5, 6, 7, 8, 9, 10] [
 ⟨(some 5), .box, [(.t 0)], none, []⟩,
 ⟨(some 6), .box, [(.t 1)], none, []⟩,
 ⟨(some 7), .box, [(.t 2)], none, []⟩,
 ⟨(some 8), .box, [(.t 3)], none, []⟩,
 ⟨(some 9), .box, [(.t 4)], none, []⟩,
 ⟨(some 10), (.alloc [(.int .i64 0), (.int .i64 0)]), [], none, []⟩] 0 [5, 6, 7, 8, 9, 10])
 (.seq
 (.reg false [] [] [
 ⟨(some 11), (.fa 0), [(.t 7)], none, [13, 14, 17, 18, 19, 20, 21, 22, 23, 25, 26, 27, 28, 29, 30, 31, 32, 33, 34, 35, 36, 37, 38]⟩,
 ⟨(some 12), (.load none), [(.t 11)], none, [13, 14, 17, 18, 19, 20, 21, 22, 23, 25, 26, 27, 28, 29, 30, 31, 32, 33, 34, 35, 36, 37, 38]⟩,
 ⟨(some 13), (.fa 0), [(.t 6)], none, [11, 12, 17, 18, 19, 20, 21, 22, 23, 25, 26, 27, 28, 29, 30, 31, 32, 33, 34, 35, 36, 37, 38]⟩,
 ⟨(some 14), (.load none), [(.t 13)], none, [11, 12, 17, 18, 19, 20, 21, 22, 23, 25, 26, 27, 28, 29, 30, 31, 32, 33, 34, 35, 36, 37, 38]⟩,
 ⟨(some 15), (.bin 0 .sub), [(.t 12), (.t 14)], none, [17, 18, 19, 20, 21, 22, 23, 25, 26, 27, 28, 29, 30, 31, 32, 33, 34, 35, 36, 37, 38]⟩,
 ⟨(some 16), (.bin 0 .mul), [(.c (.int .i64 1000)), (.t 15)], none, [17, 18, 19, 20, 21, 22, 23, 25, 26, 27, 28, 29, 30, 31, 32, 33, 34, 35, 36, 37, 38]⟩,
 ⟨(some 17), (.load (some 2)), [(.t 5)], none, [11, 12, 13, 14, 15, 16, 18, 19, 20, 21, 22, 25, 26, 27, 28, 29, 30, 31, 32, 33, 34, 35, 36]⟩,
 ⟨(some 18), (.fa 1), [(.t 9)], none, [11, 12, 13, 14, 15, 16, 17, 20, 21, 25, 26, 27, 28, 29, 30, 31, 32, 33, 34, 35, 36]⟩,
 ⟨(some 19), (.load none), [(.t 18)], none, [11, 12, 13, 14, 15, 16, 17, 20, 21, 25, 26, 27, 28, 29, 30, 31, 32, 33, 34, 35, 36]⟩,
 ⟨(some 20), (.fa 1), [(.t 8)], none, [11, 12, 13, 14, 15, 16, 17, 18, 19, 25, 26, 27, 28, 29, 30, 31, 32, 33, 34, 35, 36]⟩,
 ⟨(some 21), (.load none), [(.t 20)], none, [11, 12, 13, 14, 15, 16, 17, 18, 19, 25, 26, 27, 28, 29, 30, 31, 32, 33, 34, 35, 36]⟩,
 ⟨(some 22), (.bin 0 .sub), [(.t 19), (.t 21)], none, [11, 12, 13, 14, 15, 16, 17, 25, 26, 27, 28, 29, 30, 31, 32, 33, 34, 35, 36]⟩,
 ⟨(some 23), (.call true false false), [(.f 87), (.t 17), (.t 22)], none, [11, 12, 13, 14, 15, 16, 25, 26, 27, 28, 29, 30, 31, 32, 33, 34, 35, 36]⟩,
 ⟨(some 24), (.bin 0 .add), [(.t 16), (.t 23)], none, [25, 26, 27, 28, 29, 30, 31, 32, 33, 34, 35, 36, 37, 38]⟩,
 ⟨(some 25), (.fa 1), [(.t 7)], none, [11, 12, 13, 14, 15, 16, 17, 18, 19, 20, 21, 22, 23, 24, 27, 28, 31, 32, 33, 34, 35, 36, 37]⟩,
 ⟨(some 26), (.load none), [(.t 25)], none, [11, 12, 13, 14, 15, 16, 17, 18, 19, 20, 21, 22, 23, 24, 27, 28, 31, 32, 33, 34, 35, 36, 37]⟩,
 ⟨(some 27), (.fa 1), [(.t 6)], none, [11, 12, 13, 14, 15, 16, 17, 18, 19, 20, 21, 22, 23, 24, 25, 26, 31, 32, 33, 34, 35, 36, 37]⟩,
 ⟨(some 28), (.load none), [(.t 27)], none, [11, 12, 13, 14, 15, 16, 17, 18, 19, 20, 21, 22, 23, 24, 25, 26, 31, 32, 33, 34, 35, 36, 37]⟩,
 ⟨(some 29), (.bin 0 .sub), [(.t 26), (.t 28)], none, [11, 12, 13, 14, 15, 16, 17, 18, 19, 20, 21, 22, 23, 24, 31, 32, 33, 34, 35, 36, 37]⟩,
 ⟨(some 30), (.bin 0 .mul), [(.c (.int .i64 1000)), (.t 29)], none, [11, 12, 13, 14, 15, 16, 17, 18, 19, 20, 21, 22, 23, 24, 31, 32, 33, 34, 35, 36, 37]⟩,
 ⟨(some 31), (.load (some 2)), [(.t 5)], none, [11, 12, 13, 14, 15, 16, 17, 18, 19, 20, 21, 22, 23, 24, 25, 26, 27, 28, 29, 30, 32, 33, 34, 35, 36]⟩,
 ⟨(some 32), (.fa 2), [(.t 9)], none, [11, 12, 13, 14, 15, 16, 17, 18, 19, 20, 21, 22, 23, 24, 25, 26, 27, 28, 29, 30, 31, 34, 35]⟩,
 ⟨(some 33), (.load none), [(.t 32)], none, [11, 12, 13, 14, 15, 16, 17, 18, 19, 20, 21, 22, 23, 24, 25, 26, 27, 28, 29, 30, 31, 34, 35]⟩,
 ⟨(some 34), (.fa 2), [(.t 8)], none, [11, 12, 13, 14, 15, 16, 17, 18, 19, 20, 21, 22, 23, 24, 25, 26, 27, 28, 29, 30, 31, 32, 33]⟩,
 ⟨(some 35), (.load none), [(.t 34)], none, [11, 12, 13, 14, 15, 16, 17, 18, 19, 20, 21, 22, 23, 24, 25, 26, 27, 28, 29, 30, 31, 32, 33]⟩,
 ⟨(some 36), (.bin 0 .sub), [(.t 33), (.t 35)], none, [11, 12, 13, 14, 15, 16, 17, 18, 19, 20, 21, 22, 23, 24, 25, 26, 27, 28, 29, 30, 31]⟩,
 ⟨(some 37), (.call true false false), [(.f 87), (.t 31), (.t 36)], none, [11, 12, 13, 14, 15, 16, 24, 25, 26, 27, 28, 29, 30]⟩,
 ⟨(some 38), (.bin 0 .sub), [(.t 30), (.t 37)], none, [11, 12, 13, 14, 15, 16, 24]⟩,
 ⟨(some 39), (.build [(.int .i64 0), (.int .i64 0)] [(0, 1), (1, 1)]), [(.t 24), (.t 38)], none, []⟩,
 ⟨none, (.store 2 (some 10)), [(.t 10), (.t 39)], none, []⟩] 0 [10])
 .ret)),
 [(.c 10 (some 2))]⟩
theorem c91 : funC Try.prog [(0, [5, 6, 7, 8, 9, 10]), (1, [10])] Try.f91 = some (unF l91) := by kernel_rfl
/-- acme/thread.within -/
def l92 : LFun := ⟨3, 11, [],
 (.seq
 (.reg false [3, 4] [3, 4] [
 ⟨(some 3), .box, [(.t 0)], none, []⟩,
 ⟨(some 4), .box, [(.t 1)], none, []⟩,
 ⟨(some 6), .mv, [(.c (.bool false))], none, []⟩] 0 [2, 3, 4])
 (.seq
 (.reg false [] [] [
 ⟨(some 7), .mv, [(.t 2)], none, []⟩,
 ⟨(some 8), (.mkf 99), [(.t 3), (.t 4)], none, []⟩,
 ⟨(some 9), (.call false false false), [(.f 84), (.t 7), (.t 8)], none, []⟩,
 ⟨(some 10), (.un .not), [(.t 9)], none, []⟩,
 ⟨(some 6), .mv, [(.t 10)], none, []⟩] 0 [3, 4, 6])
 .ret)),
 [(.t 6)]⟩
theorem c92 : funC Try.prog [(0, [2, 3, 4]), (1, [3, 4, 6])] Try.f92 = some (unF l92) := by kernel_rfl
/-- (acme/thread.form).width -/
def l93 : LFun := ⟨2, 15, [],
 (.seq
 (.reg false [2] [2] [
 ⟨(some 2), .box, [(.t 0)], none, []⟩,
 ⟨(some 4), .mv, [(.c (.int .i64 0))], none, []⟩] 0 [1, 2])
 (.seq
 (.reg false [] [] [
 ⟨(some 5), (.fa 0), [(.t 2)], none, [9, 10, 11, 12, 13]⟩,
 ⟨(some 6), (.fa 0), [(.t 5)], none, [9, 10, 11, 12, 13]⟩,
 ⟨(some 7), (.load none), [(.t 6)], none, [9, 10, 11, 12, 13]⟩,
 ⟨(some 8), (.bin 0 .mul), [(.c (.int .i64 1000)), (.t 7)], none, [9, 10, 11, 12, 13]⟩,
 ⟨(some 9), .mv, [(.t 1)], none, [5, 6, 7, 8, 11, 12]⟩,
 ⟨(some 10), (.bin 0 .mul), [(.c (.int .i64 2)), (.t 9)], none, [5, 6, 7, 8, 11, 12]⟩,
 ⟨(some 11), (.load (some 8)), [(.t 2)], none, [5, 6, 7, 8, 9, 10]⟩,
 ⟨(some 12), (.call true false false), [(.f 100), (.t 11)], none, [5, 6, 7, 8, 9, 10]⟩,
 ⟨(some 13), (.bin 0 .mul), [(.t 10), (.t 12)], none, [5, 6, 7, 8]⟩,
 ⟨(some 14), (.bin 0 .sub), [(.t 8), (.t 13)], none, []⟩,
 ⟨(some 4), .mv, [(.t 14)], none, []⟩] 0 [4])
 .ret)),
 [(.t 4)]⟩
theorem c93 : funC Try.prog [(0, [1, 2]), (1, [4])] Try.f93 = some (unF l93) := by kernel_rfl
/-- acme/fit.isSpan -/
def l94 : LFun := ⟨3, 22, [],
 (.seq
 (.reg false [3] [3] [
 ⟨(some 3), .box, [(.t 0)], none, []⟩,
 ⟨(some 6), .mv, [(.c (.bool false))], none, []⟩] 0 [1, 2, 3])
 (.seq
 (.reg false [19] [19] [
 ⟨(some 7), (.fa 0), [(.t 3)], none, []⟩,
 ⟨(some 8), (.load none), [(.t 7)], none, []⟩,
 ⟨(some 9), (.fa 1), [(.t 3)], none, []⟩,
 ⟨(some 10), (.load none), [(.t 9)], none, []⟩,
 ⟨(some 11), (.bin 0 .leq), [(.t 8), (.t 10)], none, []⟩,
 ⟨(some 12), .mv, [(.t 11)], none, []⟩,
 ⟨(some 13), .mv, [(.t 1)], (some (12, true)), []⟩,
 ⟨(some 14), .mv, [(.t 2)], (some (12, true)), []⟩,
 ⟨(some 15), (.fa 0), [(.t 3)], (some (12, true)), []⟩,
 ⟨(some 16), (.load none), [(.t 15)], (some (12, true)), []⟩,
 ⟨(some 17), (.fa 1), [(.t 3)], (some (12, true)), []⟩,
 ⟨(some 18), (.load none), [(.t 17)], (some (12, true)), []⟩,
 ⟨(some 19), (.bsl 1 [(.int .i64 0)] 2 [0, 1]), [(.t 16), (.t 18)], (some (12, true)), []⟩,
 ⟨(some 20), (.call false false false), [(.f 55), (.t 13), (.t 14), (.t 19)], (some (12, true)), []⟩,
 ⟨(some 21), .pick, [(.t 12), (.t 20), (.c (.bool false))], none, []⟩,
 ⟨(some 6), .mv, [(.t 21)], none, []⟩] 0 [6])
 .ret)),
 [(.t 6)]⟩
theorem c94 : funC Try.prog [(0, [1, 2, 3]), (1, [6])] Try.f94 = some (unF l94) := by kernel_rfl
/-- slices.Min[[]int,int] -/
def b95_0 : LCode :=
 (.seq
 (.seq
 (.reg true [] [] [
 ⟨(some 12), .mv, [(.t 4)], none, []⟩,
 ⟨(some 13), .mv, [(.t 0)], none, []⟩,
 ⟨(some 14), .len, [(.t 13)], none, []⟩,
 ⟨(some 15), (.bin 0 .lss), [(.t 12), (.t 14)], none, []⟩] 0 [0, 3, 4, 15])
 (.cond (.t 15)
 .skip
 (.exit 0)))
 (.seq
 (.block 1
 (.reg true [] [] [
 ⟨(some 18), .mv, [(.t 3)], none, []⟩,
 ⟨(some 19), .mv, [(.t 0)], none, []⟩,
 ⟨(some 20), .mv, [(.t 4)], none, []⟩,
 ⟨(some 21), (.ixs 1), [(.t 19), (.t 20)], none, []⟩,
 ⟨(some 22), (.load none), [(.t 21)], none, []⟩,
 ⟨(some 23), .min, [(.t 18), (.t 22)], none, []⟩,
 ⟨(some 3), .mv, [(.t 23)], none, []⟩] 0 [0, 3, 4]))
 (.reg true [] [] [
 ⟨(some 16), .mv, [(.t 4)], none, []⟩,
 ⟨(some 17), (.bin 0 .add), [(.t 16), (.c (.int .i64 1))], none, []⟩,
 ⟨(some 4), .mv, [(.t 17)], none, []⟩] 0 [0, 3, 4])))
def l95 : LFun := ⟨1, 25, [],
 (.seq
 (.reg false [] [] [
 ⟨(some 2), .mv, [(.c (.int .i64 0))], none, []⟩] 0 [0])
 (.seq
 (.seq
 (.reg false [] [] [
 ⟨(some 5), .mv, [(.t 0)], none, []⟩,
 ⟨(some 6), .len, [(.t 5)], none, []⟩,
 ⟨(some 7), (.bin 0 .lss), [(.t 6), (.c (.int .i64 1))], none, []⟩] 0 [0, 7])
 (.cond (.t 7)
 (.reg false [] [] [
 ⟨none, .bad, [], none, []⟩,
 ⟨none, .bad, [], none, []⟩] 0 [0])
 .skip))
 (.seq
 (.reg false [] [] [
 ⟨(some 9), .mv, [(.t 0)], none, []⟩,
 ⟨(some 10), (.ixs 1), [(.t 9), (.c (.int .i64 0))], none, []⟩,
 ⟨(some 11), (.load none), [(.t 10)], none, []⟩,
 ⟨(some 3), .mv, [(.t 11)], none, []⟩] 0 [0, 3])
 (.seq
 (.seq
 (.reg false [] [] [
 ⟨(some 4), .mv, [(.c (.int .i64 1))], none, []⟩] 0 [0, 3, 4])
 (.block 0
 (.loop b95_0)))
 (.seq
 (.reg false [] [] [
 ⟨(some 24), .mv, [(.t 3)], none, []⟩,
 ⟨(some 2), .mv, [(.t 24)], none, []⟩] 0 [2])
 .ret))))),
 [(.t 2)]⟩
theorem c95 : funC Try.prog [(0, [0]), (1, [0, 7]), (2, [0]), (3, [0, 3]), (4, [0, 3, 4]), (5, [0, 3, 4, 15]), (6, [0, 3, 4]), (7, [0, 3, 4]), (8, [2])] Try.f95 = some (unF l95) := by kernel_rfl
/-- slices.Grow[[]acme/api.FitThread,acme/api.FitThread] -/
def l96 : LFun := ⟨2, 27, [],
 (.seq
 (.reg false [] [] [
 ⟨(some 4), .mv, [(.c .nil)], none, []⟩] 0 [0, 1])
 (.seq
 (.seq
 (.reg false [] [] [
 ⟨(some 5), .mv, [(.t 1)], none, []⟩,
 ⟨(some 6), (.bin 0 .lss), [(.t 5), (.c (.int .i64 0))], none, []⟩] 0 [0, 1, 6])
 (.cond (.t 6)
 (.reg false [] [] [
 ⟨none, .bad, [], none, []⟩,
 ⟨none, .bad, [], none, []⟩] 0 [0, 1])
 .skip))
 (.seq
 (.seq
 (.reg false [] [] [
 ⟨(some 8), .mv, [(.t 1)], none, []⟩,
 ⟨(some 9), .mv, [(.t 0)], none, []⟩,
 ⟨(some 10), .cap, [(.t 9)], none, []⟩,
 ⟨(some 11), .mv, [(.t 0)], none, []⟩,
 ⟨(some 12), .len, [(.t 11)], none, []⟩,
 ⟨(some 13), (.bin 0 .sub), [(.t 10), (.t 12)], none, []⟩,
 ⟨(some 14), (.bin 0 .sub), [(.t 8), (.t 13)], none, []⟩,
 ⟨(some 1), .mv, [(.t 14)], none, []⟩] 0 [0, 1])
 (.seq
 (.reg false [] [] [
 ⟨(some 15), .mv, [(.t 1)], none, []⟩,
 ⟨(some 16), (.bin 0 .gtr), [(.t 15), (.c (.int .i64 0))], none, []⟩] 0 [0, 1, 16])
 (.cond (.t 16)
 (.reg false [22] [] [
 ⟨(some 17), .mv, [(.t 0)], none, []⟩,
 ⟨(some 18), .mv, [(.t 0)], none, []⟩,
 ⟨(some 19), .cap, [(.t 18)], none, []⟩,
 ⟨(some 20), (.sls 3 false true false), [(.t 17), (.t 19)], none, []⟩,
 ⟨(some 21), .mv, [(.t 1)], none, []⟩,
 ⟨(some 22), (.appz 3 40 [.nil, (.int .i64 0), (.int .i64 0)]), [(.t 20), (.t 21)], none, []⟩,
 ⟨(some 23), .mv, [(.t 0)], none, []⟩,
 ⟨(some 24), .len, [(.t 23)], none, []⟩,
 ⟨(some 25), (.trunc 3), [(.t 22), (.t 24)], none, []⟩,
 ⟨(some 0), .mv, [(.t 25)], none, []⟩] 0 [0])
 .skip)))
 (.seq
 (.reg false [] [] [
 ⟨(some 26), .mv, [(.t 0)], none, []⟩,
 ⟨(some 4), .mv, [(.t 26)], none, []⟩] 0 [4])
 .ret)))),
 [(.t 4)]⟩
theorem c96 : funC Try.prog [(0, [0, 1]), (1, [0, 1, 6]), (2, [0, 1]), (3, [0, 1]), (4, [0, 1, 16]), (5, [0]), (6, [4])] Try.f96 = some (unF l96) := by kernel_rfl
/-- slices.IndexFunc[[]int,int] -/
def b97_0 : LCode :=
 (.seq
 (.reg true [] [] [
 ⟨(some 9), (.bin 0 .lss), [(.t 8), (.t 7)], none, []⟩] 0 [0, 1, 7, 8, 9])
 (.seq
 (.cond (.t 9)
 .skip
 (.exit 0))
 (.seq
 (.block 1
 (.seq
 (.reg true [] [] [
 ⟨(some 10), .mv, [(.t 8)], none, []⟩,
 ⟨(some 5), .mv, [(.t 10)], none, []⟩] 0 [0, 1, 5, 7, 8])
 (.seq
 (.reg true [] [] [
 ⟨(some 11), .mv, [(.t 1)], none, []⟩,
 ⟨(some 12), .mv, [(.t 0)], none, []⟩,
 ⟨(some 13), .mv, [(.t 5)], none, []⟩,
 ⟨(some 14), (.ixs 1), [(.t 12), (.t 13)], none, []⟩,
 ⟨(some 15), (.load none), [(.t 14)], none, []⟩,
 ⟨(some 16), (.call false false false), [(.t 11), (.t 15)], none, []⟩] 0 [0, 1, 5, 7, 8, 16])
 (.cond (.t 16)
 (.seq
 (.reg true [] [] [
 ⟨(some 17), .mv, [(.t 5)], none, []⟩,
 ⟨(some 4), .mv, [(.t 17)], none, []⟩] 0 [4])
 .ret)
 .skip))))
 (.reg true [] [] [
 ⟨(some 18), (.bin 0 .add), [(.t 8), (.c (.int .i64 1))], none, []⟩,
 ⟨(some 8), .mv, [(.t 18)], none, []⟩] 0 [0, 1, 7, 8]))))
def l97 : LFun := ⟨2, 19, [],
 (.seq
 (.reg false [] [] [
 ⟨(some 4), .mv, [(.c (.int .i64 0))], none, []⟩] 0 [0, 1])
 (.seq
 (.seq
 (.reg false [] [] [
 ⟨(some 6), .mv, [(.t 0)], none, []⟩,
 ⟨(some 7), .len, [(.t 6)], none, []⟩,
 ⟨(some 8), .mv, [(.c (.int .i64 0))], none, []⟩] 0 [0, 1, 7, 8])
 (.block 0
 (.loop b97_0)))
 (.seq
 (.reg false [] [] [
 ⟨(some 4), .mv, [(.c (.int .i64 (-1)))], none, []⟩] 0 [4])
 .ret))),
 [(.t 4)]⟩
theorem c97 : funC Try.prog [(0, [0, 1]), (1, [0, 1, 7, 8]), (2, [0, 1, 7, 8, 9]), (3, [0, 1, 5, 7, 8]), (4, [0, 1, 5, 7, 8, 16]), (5, [4]), (6, [0, 1, 7, 8]), (7, [4])] Try.f97 = some (unF l97) := by kernel_rfl
/-- (acme/fit.ideal).flanks$1 -/
def b98_0 : LCode :=
 (.seq
 (.reg true [] [] [
 ⟨(some 11), (.bin 0 .lss), [(.t 10), (.t 9)], none, []⟩] 0 [0, 2, 8, 9, 10, 11])
 (.seq
 (.cond (.t 11)
 .skip
 (.exit 0))
 (.seq
 (.block 1
 (.seq
 (.reg true [5] [5] [
 ⟨(some 12), .mv, [(.t 10)], none, []⟩,
 ⟨(some 13), (.ixs 2), [(.t 8), (.t 10)], none, []⟩,
 ⟨(some 14), (.load (some 2)), [(.t 13)], none, []⟩,
 ⟨(some 5), (.alloc [(.int .i64 0), (.int .i64 0)]), [], none, []⟩,
 ⟨(some 4), .mv, [(.t 12)], none, []⟩,
 ⟨none, (.store 2 none), [(.t 5), (.t 14)], none, []⟩] 0 [0, 2, 4, 5, 8, 9, 10])
 (.seq
 (.reg true [] [] [
 ⟨(some 15), .mv, [(.t 4)], none, []⟩,
 ⟨(some 16), (.bin 0 .mul), [(.c (.int .i64 4)), (.t 15)], none, []⟩,
 ⟨(some 17), (.fa 0), [(.t 2)], none, []⟩,
 ⟨(some 18), (.fa 0), [(.t 17)], none, []⟩,
 ⟨(some 19), (.load none), [(.t 18)], none, []⟩,
 ⟨(some 20), (.bin 0 .mul), [(.t 16), (.t 19)], none, []⟩,
 ⟨(some 6), .mv, [(.t 20)], none, []⟩] 0 [0, 2, 5, 6, 8, 9, 10])
 (.seq
 (.reg true [] [] [
 ⟨(some 21), .mv, [(.t 0)], none, []⟩,
 ⟨(some 22), (.fa 0), [(.t 5)], none, []⟩,
 ⟨(some 23), (.load none), [(.t 22)], none, []⟩,
 ⟨(some 24), (.bin 0 .mul), [(.c (.int .i64 4)), (.t 23)], none, []⟩,
 ⟨(some 25), .mv, [(.t 6)], none, []⟩,
 ⟨(some 26), (.bin 0 .sub), [(.t 24), (.t 25)], none, []⟩,
 ⟨(some 27), (.fa 0), [(.t 2)], none, []⟩,
 ⟨(some 28), (.fa 0), [(.t 27)], none, []⟩,
 ⟨(some 29), (.load none), [(.t 28)], none, []⟩,
 ⟨(some 30), (.bin 0 .add), [(.t 26), (.t 29)], none, []⟩,
 ⟨(some 31), (.bin 0 .mul), [(.c (.int .i64 1000)), (.t 30)], none, []⟩,
 ⟨(some 32), (.fa 1), [(.t 5)], none, []⟩,
 ⟨(some 33), (.load none), [(.t 32)], none, []⟩,
 ⟨(some 34), (.bin 0 .mul), [(.c (.int .i64 4)), (.t 33)], none, []⟩,
 ⟨(some 35), .mv, [(.t 6)], none, []⟩,
 ⟨(some 36), (.bin 0 .sub), [(.t 34), (.t 35)], none, []⟩,
 ⟨(some 37), (.fa 0), [(.t 2)], none, []⟩,
 ⟨(some 38), (.fa 0), [(.t 37)], none, []⟩,
 ⟨(some 39), (.load none), [(.t 38)], none, []⟩,
 ⟨(some 40), (.bin 0 .sub), [(.t 36), (.t 39)], none, []⟩,
 ⟨(some 41), (.bin 0 .mul), [(.c (.int .i64 1000)), (.t 40)], none, []⟩,
 ⟨(some 42), (.call false false false), [(.t 21), (.t 31), (.t 41)], none, []⟩,
 ⟨(some 43), (.un .not), [(.t 42)], none, []⟩] 0 [0, 2, 8, 9, 10, 43])
 (.cond (.t 43)
 .ret
 .skip)))))
 (.reg true [] [] [
 ⟨(some 44), (.bin 0 .add), [(.t 10), (.c (.int .i64 1))], none, []⟩,
 ⟨(some 10), .mv, [(.t 44)], none, []⟩] 0 [0, 2, 8, 9, 10]))))
def l98 : LFun := ⟨3, 45, [],
 (.seq
 (.reg false [] [] [
 ⟨(some 7), (.fa 0), [(.t 1)], none, []⟩,
 ⟨(some 8), (.load none), [(.t 7)], none, []⟩,
 ⟨(some 9), .len, [(.t 8)], none, []⟩,
 ⟨(some 10), .mv, [(.c (.int .i64 0))], none, []⟩] 0 [0, 2, 8, 9, 10])
 (.block 0
 (.loop b98_0))),
 []⟩
theorem c98 : funC Try.prog [(0, [0, 2, 8, 9, 10]), (1, [0, 2, 8, 9, 10, 11]), (2, [0, 2, 4, 5, 8, 9, 10]), (3, [0, 2, 5, 6, 8, 9, 10]), (4, [0, 2, 8, 9, 10, 43]), (5, [0, 2, 8, 9, 10])] Try.f98 = some (unF l98) := by kernel_rfl
/-- acme/thread.within$1 -/
def l99 : LFun := ⟨3, 13, [],
 (.seq
 (.reg false [] [] [
 ⟨(some 4), .mv, [(.c (.bool false))], none, []⟩] 0 [0, 1, 2])
 (.seq
 (.reg false [] [] [
 ⟨(some 5), .mv, [(.t 0)], none, []⟩,
 ⟨(some 6), (.load none), [(.t 1)], none, []⟩,
 ⟨(some 7), (.bin 0 .lss), [(.t 5), (.t 6)], none, []⟩,
 ⟨(some 8), .mv, [(.t 7)], none, []⟩,
 ⟨(some 9), .mv, [(.t 0)], (some (8, false)), []⟩,
 ⟨(some 10), (.load none), [(.t 2)], (some (8, false)), []⟩,
 ⟨(some 11), (.bin 0 .gtr), [(.t 9), (.t 10)], (some (8, false)), []⟩,
 ⟨(some 12), .pick, [(.t 8), (.c (.bool true)), (.t 11)], none, []⟩,
 ⟨(some 4), .mv, [(.t 12)], none, []⟩] 0 [4])
 .ret)),
 [(.t 4)]⟩
theorem c99 : funC Try.prog [(0, [0, 1, 2]), (1, [4])] Try.f99 = some (unF l99) := by kernel_rfl
/-- (acme/thread.form).leans -/
def l100 : LFun := ⟨1, 10, [],
 (.seq
 (.reg false [1] [1] [
 ⟨(some 1), .box, [(.t 0)], none, []⟩,
 ⟨(some 2), .mv, [(.c (.int .i64 0))], none, []⟩] 0 [1])
 (.seq
 (.reg false [] [] [
 ⟨(some 3), (.fa 0), [(.t 1)], none, []⟩,
 ⟨(some 4), (.fa 1), [(.t 3)], none, []⟩,
 ⟨(some 5), (.load none), [(.t 4)], none, []⟩,
 ⟨(some 6), (.fa 0), [(.t 1)], none, []⟩,
 ⟨(some 7), (.fa 2), [(.t 6)], none, []⟩,
 ⟨(some 8), (.load none), [(.t 7)], none, []⟩,
 ⟨(some 9), (.bin 0 .add), [(.t 5), (.t 8)], none, []⟩,
 ⟨(some 2), .mv, [(.t 9)], none, []⟩] 0 [2])
 .ret)),
 [(.t 2)]⟩
theorem c100 : funC Try.prog [(0, [1]), (1, [2])] Try.f100 = some (unF l100) := by kernel_rfl
end Go.Lo

/- The functions that are reached, compiled for the plain machine. -/
namespace Go.Lo
open Go.Proofs
def C2 : Nat → Option LFun
  | 9 => some l9
  | 10 => some l10
  | 14 => some l14
  | 15 => some l15
  | 16 => some l16
  | 17 => some l17
  | 18 => some l18
  | 20 => some l20
  | 25 => some l25
  | 26 => some l26
  | 30 => some l30
  | 35 => some l35
  | 38 => some l38
  | 39 => some l39
  | 40 => some l40
  | 41 => some l41
  | 43 => some l43
  | 44 => some l44
  | 45 => some l45
  | 46 => some l46
  | 47 => some l47
  | 48 => some l48
  | 49 => some l49
  | 50 => some l50
  | 51 => some l51
  | 52 => some l52
  | 53 => some l53
  | 54 => some l54
  | 55 => some l55
  | 56 => some l56
  | 57 => some l57
  | 58 => some l58
  | 59 => some l59
  | 60 => some l60
  | 65 => some l65
  | 66 => some l66
  | 67 => some l67
  | 70 => some l70
  | 71 => some l71
  | 72 => some l72
  | 73 => some l73
  | 76 => some l76
  | 77 => some l77
  | 78 => some l78
  | 79 => some l79
  | 80 => some l80
  | 81 => some l81
  | 83 => some l83
  | 84 => some l84
  | 85 => some l85
  | 86 => some l86
  | 87 => some l87
  | 88 => some l88
  | 91 => some l91
  | 92 => some l92
  | 93 => some l93
  | 94 => some l94
  | 95 => some l95
  | 96 => some l96
  | 97 => some l97
  | 98 => some l98
  | 99 => some l99
  | 100 => some l100
  | _ => none
def Ct : Nat → Option LFun := fun k => (C2 k).map unF
def Ft : Nat → Option (List V → Option V) := fun _ => none
theorem tabOk : TabOk Try.prog Ft Ct where
  mixed := by kernel_rfl
  told _ _ _ _ h := by cases h
  code f lf h := by
    unfold Ct at h
    obtain ⟨l, hl, rfl⟩ := Option.map_eq_some_iff.1 h
    unfold C2 at hl
    split at hl
    · injection hl with hl; subst hl; exact ⟨_, _, Try.func9, of_decide_eq_true (by kernel_rfl), c9⟩
    · injection hl with hl; subst hl; exact ⟨_, _, Try.func10, of_decide_eq_true (by kernel_rfl), c10⟩
    · injection hl with hl; subst hl; exact ⟨_, _, Try.func14, of_decide_eq_true (by kernel_rfl), c14⟩
    · injection hl with hl; subst hl; exact ⟨_, _, Try.func15, of_decide_eq_true (by kernel_rfl), c15⟩
    · injection hl with hl; subst hl; exact ⟨_, _, Try.func16, of_decide_eq_true (by kernel_rfl), c16⟩
    · injection hl with hl; subst hl; exact ⟨_, _, Try.func17, of_decide_eq_true (by kernel_rfl), c17⟩
    · injection hl with hl; subst hl; exact ⟨_, _, Try.func18, of_decide_eq_true (by kernel_rfl), c18⟩
    · injection hl with hl; subst hl; exact ⟨_, _, Try.func20, of_decide_eq_true (by kernel_rfl), c20⟩
    · injection hl with hl; subst hl; exact ⟨_, _, Try.func25, of_decide_eq_true (by kernel_rfl), c25⟩
    · injection hl with hl; subst hl; exact ⟨_, _, Try.func26, of_decide_eq_true (by kernel_rfl), c26⟩
    · injection hl with hl; subst hl; exact ⟨_, _, Try.func30, of_decide_eq_true (by kernel_rfl), c30⟩
    · injection hl with hl; subst hl; exact ⟨_, _, Try.func35, of_decide_eq_true (by kernel_rfl), c35⟩
    · injection hl with hl; subst hl; exact ⟨_, _, Try.func38, of_decide_eq_true (by kernel_rfl), c38⟩
    · injection hl with hl; subst hl; exact ⟨_, _, Try.func39, of_decide_eq_true (by kernel_rfl), c39⟩
    · injection hl with hl; subst hl; exact ⟨_, _, Try.func40, of_decide_eq_true (by kernel_rfl), c40⟩
    · injection hl with hl; subst hl; exact ⟨_, _, Try.func41, of_decide_eq_true (by kernel_rfl), c41⟩
    · injection hl with hl; subst hl; exact ⟨_, _, Try.func43, of_decide_eq_true (by kernel_rfl), c43⟩
    · injection hl with hl; subst hl; exact ⟨_, _, Try.func44, of_decide_eq_true (by kernel_rfl), c44⟩
    · injection hl with hl; subst hl; exact ⟨_, _, Try.func45, of_decide_eq_true (by kernel_rfl), c45⟩
    · injection hl with hl; subst hl; exact ⟨_, _, Try.func46, of_decide_eq_true (by kernel_rfl), c46⟩
    · injection hl with hl; subst hl; exact ⟨_, _, Try.func47, of_decide_eq_true (by kernel_rfl), c47⟩
    · injection hl with hl; subst hl; exact ⟨_, _, Try.func48, of_decide_eq_true (by kernel_rfl), c48⟩
    · injection hl with hl; subst hl; exact ⟨_, _, Try.func49, of_decide_eq_true (by kernel_rfl), c49⟩
    · injection hl with hl; subst hl; exact ⟨_, _, Try.func50, of_decide_eq_true (by kernel_rfl), c50⟩
    · injection hl with hl; subst hl; exact ⟨_, _, Try.func51, of_decide_eq_true (by kernel_rfl), c51⟩
    · injection hl with hl; subst hl; exact ⟨_, _, Try.func52, of_decide_eq_true (by kernel_rfl), c52⟩
    · injection hl with hl; subst hl; exact ⟨_, _, Try.func53, of_decide_eq_true (by kernel_rfl), c53⟩
    · injection hl with hl; subst hl; exact ⟨_, _, Try.func54, of_decide_eq_true (by kernel_rfl), c54⟩
    · injection hl with hl; subst hl; exact ⟨_, _, Try.func55, of_decide_eq_true (by kernel_rfl), c55⟩
    · injection hl with hl; subst hl; exact ⟨_, _, Try.func56, of_decide_eq_true (by kernel_rfl), c56⟩
    · injection hl with hl; subst hl; exact ⟨_, _, Try.func57, of_decide_eq_true (by kernel_rfl), c57⟩
    · injection hl with hl; subst hl; exact ⟨_, _, Try.func58, of_decide_eq_true (by kernel_rfl), c58⟩
    · injection hl with hl; subst hl; exact ⟨_, _, Try.func59, of_decide_eq_true (by kernel_rfl), c59⟩
    · injection hl with hl; subst hl; exact ⟨_, _, Try.func60, of_decide_eq_true (by kernel_rfl), c60⟩
    · injection hl with hl; subst hl; exact ⟨_, _, Try.func65, of_decide_eq_true (by kernel_rfl), c65⟩
    · injection hl with hl; subst hl; exact ⟨_, _, Try.func66, of_decide_eq_true (by kernel_rfl), c66⟩
    · injection hl with hl; subst hl; exact ⟨_, _, Try.func67, of_decide_eq_true (by kernel_rfl), c67⟩
    · injection hl with hl; subst hl; exact ⟨_, _, Try.func70, of_decide_eq_true (by kernel_rfl), c70⟩
    · injection hl with hl; subst hl; exact ⟨_, _, Try.func71, of_decide_eq_true (by kernel_rfl), c71⟩
    · injection hl with hl; subst hl; exact ⟨_, _, Try.func72, of_decide_eq_true (by kernel_rfl), c72⟩
    · injection hl with hl; subst hl; exact ⟨_, _, Try.func73, of_decide_eq_true (by kernel_rfl), c73⟩
    · injection hl with hl; subst hl; exact ⟨_, _, Try.func76, of_decide_eq_true (by kernel_rfl), c76⟩
    · injection hl with hl; subst hl; exact ⟨_, _, Try.func77, of_decide_eq_true (by kernel_rfl), c77⟩
    · injection hl with hl; subst hl; exact ⟨_, _, Try.func78, of_decide_eq_true (by kernel_rfl), c78⟩
    · injection hl with hl; subst hl; exact ⟨_, _, Try.func79, of_decide_eq_true (by kernel_rfl), c79⟩
    · injection hl with hl; subst hl; exact ⟨_, _, Try.func80, of_decide_eq_true (by kernel_rfl), c80⟩
    · injection hl with hl; subst hl; exact ⟨_, _, Try.func81, of_decide_eq_true (by kernel_rfl), c81⟩
    · injection hl with hl; subst hl; exact ⟨_, _, Try.func83, of_decide_eq_true (by kernel_rfl), c83⟩
    · injection hl with hl; subst hl; exact ⟨_, _, Try.func84, of_decide_eq_true (by kernel_rfl), c84⟩
    · injection hl with hl; subst hl; exact ⟨_, _, Try.func85, of_decide_eq_true (by kernel_rfl), c85⟩
    · injection hl with hl; subst hl; exact ⟨_, _, Try.func86, of_decide_eq_true (by kernel_rfl), c86⟩
    · injection hl with hl; subst hl; exact ⟨_, _, Try.func87, of_decide_eq_true (by kernel_rfl), c87⟩
    · injection hl with hl; subst hl; exact ⟨_, _, Try.func88, of_decide_eq_true (by kernel_rfl), c88⟩
    · injection hl with hl; subst hl; exact ⟨_, _, Try.func91, of_decide_eq_true (by kernel_rfl), c91⟩
    · injection hl with hl; subst hl; exact ⟨_, _, Try.func92, of_decide_eq_true (by kernel_rfl), c92⟩
    · injection hl with hl; subst hl; exact ⟨_, _, Try.func93, of_decide_eq_true (by kernel_rfl), c93⟩
    · injection hl with hl; subst hl; exact ⟨_, _, Try.func94, of_decide_eq_true (by kernel_rfl), c94⟩
    · injection hl with hl; subst hl; exact ⟨_, _, Try.func95, of_decide_eq_true (by kernel_rfl), c95⟩
    · injection hl with hl; subst hl; exact ⟨_, _, Try.func96, of_decide_eq_true (by kernel_rfl), c96⟩
    · injection hl with hl; subst hl; exact ⟨_, _, Try.func97, of_decide_eq_true (by kernel_rfl), c97⟩
    · injection hl with hl; subst hl; exact ⟨_, _, Try.func98, of_decide_eq_true (by kernel_rfl), c98⟩
    · injection hl with hl; subst hl; exact ⟨_, _, Try.func99, of_decide_eq_true (by kernel_rfl), c99⟩
    · injection hl with hl; subst hl; exact ⟨_, _, Try.func100, of_decide_eq_true (by kernel_rfl), c100⟩
    · cases hl
theorem tabC (f : Nat) (lf : LFun) (h : C2 f = some lf) : Ct f = some (unF lf) ∧ okC lf.body = true ∧ lf.sl = [] := by
  refine ⟨by unfold Ct; rw [h]; rfl, ?_⟩
  unfold C2 at h
  split at h
  · injection h with h; subst h; exact ⟨by kernel_rfl, rfl⟩
  · injection h with h; subst h; exact ⟨by kernel_rfl, rfl⟩
  · injection h with h; subst h; exact ⟨by kernel_rfl, rfl⟩
  · injection h with h; subst h; exact ⟨by kernel_rfl, rfl⟩
  · injection h with h; subst h; exact ⟨by kernel_rfl, rfl⟩
  · injection h with h; subst h; exact ⟨by kernel_rfl, rfl⟩
  · injection h with h; subst h; exact ⟨by kernel_rfl, rfl⟩
  · injection h with h; subst h; exact ⟨by kernel_rfl, rfl⟩
  · injection h with h; subst h; exact ⟨by kernel_rfl, rfl⟩
  · injection h with h; subst h; exact ⟨by kernel_rfl, rfl⟩
  · injection h with h; subst h; exact ⟨by kernel_rfl, rfl⟩
  · injection h with h; subst h; exact ⟨by kernel_rfl, rfl⟩
  · injection h with h; subst h; exact ⟨by kernel_rfl, rfl⟩
  · injection h with h; subst h; exact ⟨by kernel_rfl, rfl⟩
  · injection h with h; subst h; exact ⟨by kernel_rfl, rfl⟩
  · injection h with h; subst h; exact ⟨by kernel_rfl, rfl⟩
  · injection h with h; subst h; exact ⟨by kernel_rfl, rfl⟩
  · injection h with h; subst h; exact ⟨by kernel_rfl, rfl⟩
  · injection h with h; subst h; exact ⟨by kernel_rfl, rfl⟩
  · injection h with h; subst h; exact ⟨by kernel_rfl, rfl⟩
  · injection h with h; subst h; exact ⟨by kernel_rfl, rfl⟩
  · injection h with h; subst h; exact ⟨by kernel_rfl, rfl⟩
  · injection h with h; subst h; exact ⟨by kernel_rfl, rfl⟩
  · injection h with h; subst h; exact ⟨by kernel_rfl, rfl⟩
  · injection h with h; subst h; exact ⟨by kernel_rfl, rfl⟩
  · injection h with h; subst h; exact ⟨by kernel_rfl, rfl⟩
  · injection h with h; subst h; exact ⟨by kernel_rfl, rfl⟩
  · injection h with h; subst h; exact ⟨by kernel_rfl, rfl⟩
  · injection h with h; subst h; exact ⟨by kernel_rfl, rfl⟩
  · injection h with h; subst h; exact ⟨by kernel_rfl, rfl⟩
  · injection h with h; subst h; exact ⟨by kernel_rfl, rfl⟩
  · injection h with h; subst h; exact ⟨by kernel_rfl, rfl⟩
  · injection h with h; subst h; exact ⟨by kernel_rfl, rfl⟩
  · injection h with h; subst h; exact ⟨by kernel_rfl, rfl⟩
  · injection h with h; subst h; exact ⟨by kernel_rfl, rfl⟩
  · injection h with h; subst h; exact ⟨by kernel_rfl, rfl⟩
  · injection h with h; subst h; exact ⟨by kernel_rfl, rfl⟩
  · injection h with h; subst h; exact ⟨by kernel_rfl, rfl⟩
  · injection h with h; subst h; exact ⟨by kernel_rfl, rfl⟩
  · injection h with h; subst h; exact ⟨by kernel_rfl, rfl⟩
  · injection h with h; subst h; exact ⟨by kernel_rfl, rfl⟩
  · injection h with h; subst h; exact ⟨by kernel_rfl, rfl⟩
  · injection h with h; subst h; exact ⟨by kernel_rfl, rfl⟩
  · injection h with h; subst h; exact ⟨by kernel_rfl, rfl⟩
  · injection h with h; subst h; exact ⟨by kernel_rfl, rfl⟩
  · injection h with h; subst h; exact ⟨by kernel_rfl, rfl⟩
  · injection h with h; subst h; exact ⟨by kernel_rfl, rfl⟩
  · injection h with h; subst h; exact ⟨by kernel_rfl, rfl⟩
  · injection h with h; subst h; exact ⟨by kernel_rfl, rfl⟩
  · injection h with h; subst h; exact ⟨by kernel_rfl, rfl⟩
  · injection h with h; subst h; exact ⟨by kernel_rfl, rfl⟩
  · injection h with h; subst h; exact ⟨by kernel_rfl, rfl⟩
  · injection h with h; subst h; exact ⟨by kernel_rfl, rfl⟩
  · injection h with h; subst h; exact ⟨by kernel_rfl, rfl⟩
  · injection h with h; subst h; exact ⟨by kernel_rfl, rfl⟩
  · injection h with h; subst h; exact ⟨by kernel_rfl, rfl⟩
  · injection h with h; subst h; exact ⟨by kernel_rfl, rfl⟩
  · injection h with h; subst h; exact ⟨by kernel_rfl, rfl⟩
  · injection h with h; subst h; exact ⟨by kernel_rfl, rfl⟩
  · injection h with h; subst h; exact ⟨by kernel_rfl, rfl⟩
  · injection h with h; subst h; exact ⟨by kernel_rfl, rfl⟩
  · injection h with h; subst h; exact ⟨by kernel_rfl, rfl⟩
  · injection h with h; subst h; exact ⟨by kernel_rfl, rfl⟩
  · cases h
end Go.Lo
