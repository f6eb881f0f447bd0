/- Texts put together. -/
import Derived.Test.YtohdbgibdopinaaPd
import Derived.Test.YtohdbgibdopinaaProg
import Derived.KernelRfl
/- The limit of the plain machine; what it says is said of the logical one. -/
namespace Go.Lo
section
variable {c c' : Nat → List V → Option V}
theorem sem2_le (h : Le c c') {bx : Nat → Option (List V)} {ex : List Nat} {d : Nat} {k : K} {vs : List V} {e : Eff2} (he : sem2 c bx ex d k vs = some e) : sem2 c' bx ex d k vs = some e := by
  cases k with
  | call dr al mk =>
    have key : ∀ {f : Nat} {us : List V}, callE2 c bx d dr al mk f us = some e → callE2 c' bx d dr al mk f us = some e := fun he => by
      unfold callE2 at he ⊢
      split at he
      · rename_i as9 has
        split at he
        · rename_i r hr
          simp only [h _ as9 r hr]
          exact he
        · cases he
      · cases he
    simp only [sem2] at he ⊢
    split at he
    · exact key he
    · exact key he
    · exact he
    · exact he
  | _ => exact he
theorem stepI2_le (h : Le c c') {i : LIns} {σ σ' : St} (hs : stepI2 c i σ = some σ') : stepI2 c' i σ = some σ' := by
  unfold stepI2 at hs ⊢
  cases hw : wanted σ.fr i.guard with
  | none => rw [hw] at hs; cases hs
  | some b =>
    rw [hw] at hs
    cases b with
    | false => exact hs
    | true =>
      simp only at hs ⊢
      cases hvs : opds σ.fr i.xs with
      | none => rw [hvs] at hs; cases hs
      | some vs =>
        rw [hvs] at hs
        simp only at hs ⊢
        cases he : sem2 c (bxOf σ.fr i.ex) i.ex (i.dst.getD 0) i.k vs with
        | none => rw [he] at hs; cases hs
        | some e =>
          rw [he] at hs
          rw [sem2_le h he]
          exact hs
theorem stepL2_le (h : Le c c') : ∀ {is : List LIns} {σ σ' : St}, stepL2 c is σ = some σ' → stepL2 c' is σ = some σ'
  | [], _, _, hs => hs
  | i :: is, σ, σ', hs => by
    simp only [stepL2] at hs ⊢
    split at hs
    · rename_i σ1 h1
      rw [stepI2_le h h1]
      exact stepL2_le h hs
    · cases hs
theorem evC2_le (h : Le c c') {N N' : Nat} (hN : N ≤ N') : ∀ (lc : LCode) {σ : St} {x : Ex × St}, evC2 c N lc σ = some x → evC2 c' N' lc σ = some x := by
  intro lc
  induction lc with
  | skip => intro σ x hs; exact hs
  | exit id => intro σ x hs; exact hs
  | ret => intro σ x hs; exact hs
  | bad => intro σ x hs; exact hs
  | reg lp ds pp ops kn kp =>
    intro σ x hs
    simp only [evC2] at hs ⊢
    split at hs
    · rename_i σ1 h1
      rw [stepL2_le h h1]
      exact hs
    · cases hs
  | seq a b iha ihb =>
    intro σ x hs
    simp only [evC2] at hs ⊢
    split at hs
    · rename_i σ1 h1
      rw [iha h1]
      exact ihb hs
    · rename_i hne
      rw [iha hs]
      split
      · rename_i σ1 h1
        injection h1 with h1
        subst h1
        exact (hne _ hs).elim
      · rfl
  | alt ts ks a b iha ihb =>
    intro σ x hs
    simp only [evC2] at hs ⊢
    split at hs
    · exact ihb hs
    · exact iha hs
    · cases hs
  | cond cc a b iha ihb =>
    intro σ x hs
    simp only [evC2] at hs ⊢
    split at hs
    · rename_i t ht
      cases t with
      | true => simp only [if_true] at hs ⊢; exact iha hs
      | false => simp only [Bool.false_eq_true, if_false] at hs ⊢; exact ihb hs
    · cases hs
  | block id a ih =>
    intro σ x hs
    simp only [evC2] at hs ⊢
    split at hs
    · rename_i j σ1 h1
      rw [ih h1]
      exact hs
    · rename_i hne
      rw [ih hs]
      split
      · rename_i j σ1 h1
        injection h1 with h1
        subst h1
        exact (hne _ _ hs).elim
      · rfl
  | loop a ih =>
    intro σ x hs
    simp only [evC2] at hs ⊢
    exact iter_le (fun _ _ h => ih h) hN hs
  | rng g ps wr a b iha ihb =>
    intro σ x hs
    simp only [evC2] at hs ⊢
    split at hs
    · split at hs
      · split at hs
        · rename_i hc
          rw [if_pos hc]
          exact rngE_le (fun _ _ _ h => roundE_le (fun _ _ h => iha h) (fun _ _ h => ihb h) h) (fun _ R hR => h _ _ R hR) hs
        · cases hs
      · cases hs
    · split at hs
      · split at hs
        · rename_i hc
          rw [if_pos hc]
          exact rngE_le (fun _ _ _ h => roundE_le (fun _ _ h => iha h) (fun _ _ h => ihb h) h) (fun _ R hR => h _ _ R hR) hs
        · cases hs
      · cases hs
    · cases hs
theorem evBody2_le (h : Le c c') {N N' : Nat} (hN : N ≤ N') {lf : LFun} {args : List V} {r : V} (hs : evBody2 c N lf args = some r) : evBody2 c' N' lf args = some r := by
  unfold evBody2 at hs ⊢
  split at hs
  · rename_i hl
    rw [if_pos hl]
    split at hs
    · rename_i σ h1; rw [evC2_le h hN _ h1]; exact hs
    · rename_i σ h1; rw [evC2_le h hN _ h1]; exact hs
    · cases hs
  · cases hs
end
section
variable {F : Nat → Option (List V → Option V)} {C : Nat → Option LFun}
theorem evF2_succ : ∀ (n : Nat), Le (evF2 F C n) (evF2 F C (n + 1))
  | 0, f, as9, r, h => by simp [evF2] at h
  | n + 1, f, as9, r, h => by
    rw [evF2] at h ⊢
    split at h
    · exact h
    · split at h
      · exact evBody2_le (evF2_succ n) (Nat.le_succ n) h
      · cases h
theorem evF2_le {n m : Nat} (h : n ≤ m) : Le (evF2 F C n) (evF2 F C m) := by
  induction h with
  | refl => exact fun _ _ _ h => h
  | step _ ih => exact fun f as9 r hr => evF2_succ _ f as9 r (ih f as9 r hr)
/-- What a function gives back, if it ends: whatever the fuel. -/
noncomputable def run2 (F : Nat → Option (List V → Option V)) (C : Nat → Option LFun) (f : Nat) (as9 : List V) : Option V :=
  open Classical in if h : ∃ r n, evF2 F C n f as9 = some r then some (Classical.choose h) else none
theorem run2_of {n f : Nat} {as9 : List V} {r : V} (h : evF2 F C n f as9 = some r) : run2 F C f as9 = some r := by
  unfold run2
  have hex : ∃ r n, evF2 F C n f as9 = some r := ⟨r, n, h⟩
  rw [dif_pos hex]
  obtain ⟨m, hm⟩ := Classical.choose_spec hex
  have h1 := evF2_le (Nat.le_max_left n m) f as9 r h
  have h2 := evF2_le (Nat.le_max_right n m) f as9 _ hm
  rw [h1] at h2
  exact h2.symm
theorem of_run2 {f : Nat} {as9 : List V} {r : V} (h : run2 F C f as9 = some r) : ∃ n, evF2 F C n f as9 = some r := by
  unfold run2 at h
  split at h
  · rename_i hex
    injection h with h; subst h
    exact Classical.choose_spec hex
  · cases h
/-! Few calls need little fuel. -/
theorem sem2_fin {bx : Nat → Option (List V)} {ex : List Nat} {d : Nat} {k : K} {vs : List V} {e : Eff2} (he : sem2 (run2 F C) bx ex d k vs = some e) : ∃ n, sem2 (evF2 F C n) bx ex d k vs = some e := by
  cases k with
  | call dr al mk =>
    have key : ∀ {f : Nat} {us : List V}, callE2 (run2 F C) bx d dr al mk f us = some e → ∃ n, callE2 (evF2 F C n) bx d dr al mk f us = some e := fun he => by
      unfold callE2 at he ⊢
      split at he
      · rename_i as9 has
        split at he
        · rename_i r hr
          obtain ⟨n, hn⟩ := of_run2 hr
          refine ⟨n, ?_⟩
          simp only [hn]
          exact he
        · cases he
      · cases he
    simp only [sem2] at he ⊢
    split at he
    · exact key he
    · exact key he
    · exact ⟨0, he⟩
    · exact ⟨0, he⟩
  | _ => exact ⟨0, he⟩
theorem stepI2_fin {i : LIns} {σ σ' : St} (hs : stepI2 (run2 F C) i σ = some σ') : ∃ n, stepI2 (evF2 F C n) i σ = some σ' := by
  unfold stepI2 at hs ⊢
  cases hw : wanted σ.fr i.guard with
  | none => rw [hw] at hs; cases hs
  | some b =>
    rw [hw] at hs
    cases b with
    | false => exact ⟨0, hs⟩
    | true =>
      simp only at hs ⊢
      cases hvs : opds σ.fr i.xs with
      | none => rw [hvs] at hs; cases hs
      | some vs =>
        rw [hvs] at hs
        simp only at hs ⊢
        cases he : sem2 (run2 F C) (bxOf σ.fr i.ex) i.ex (i.dst.getD 0) i.k vs with
        | none => rw [he] at hs; cases hs
        | some e =>
          rw [he] at hs
          obtain ⟨n, hn⟩ := sem2_fin he
          exact ⟨n, by rw [hn]; exact hs⟩
theorem stepL2_fin : ∀ {is : List LIns} {σ σ' : St}, stepL2 (run2 F C) is σ = some σ' → ∃ n, stepL2 (evF2 F C n) is σ = some σ'
  | [], _, _, hs => ⟨0, hs⟩
  | i :: is, σ, σ', hs => by
    simp only [stepL2] at hs ⊢
    split at hs
    · rename_i σ1 h1
      obtain ⟨n, hn⟩ := stepI2_fin h1
      obtain ⟨m, hm⟩ := stepL2_fin hs
      refine ⟨max n m, ?_⟩
      rw [stepI2_le (evF2_le (Nat.le_max_left n m)) hn]
      exact stepL2_le (evF2_le (Nat.le_max_right n m)) hm
    · cases hs
theorem evC2_fin {N : Nat} : ∀ (lc : LCode) {σ : St} {x : Ex × St}, evC2 (run2 F C) N lc σ = some x → ∃ n, evC2 (evF2 F C n) N lc σ = some x := by
  intro lc
  induction lc with
  | skip => intro σ x hs; exact ⟨0, hs⟩
  | exit id => intro σ x hs; exact ⟨0, hs⟩
  | ret => intro σ x hs; exact ⟨0, hs⟩
  | bad => intro σ x hs; exact ⟨0, hs⟩
  | reg lp ds pp ops kn kp =>
    intro σ x hs
    simp only [evC2] at hs ⊢
    split at hs
    · rename_i σ1 h1
      obtain ⟨n, hn⟩ := stepL2_fin h1
      exact ⟨n, by rw [hn]; exact hs⟩
    · cases hs
  | seq a b iha ihb =>
    intro σ x hs
    simp only [evC2] at hs ⊢
    split at hs
    · rename_i σ1 h1
      obtain ⟨n, hn⟩ := iha h1
      obtain ⟨m, hm⟩ := ihb hs
      refine ⟨max n m, ?_⟩
      rw [evC2_le (evF2_le (Nat.le_max_left n m)) (Nat.le_refl N) _ hn]
      exact evC2_le (evF2_le (Nat.le_max_right n m)) (Nat.le_refl N) _ hm
    · rename_i hne
      obtain ⟨n, hn⟩ := iha hs
      refine ⟨n, ?_⟩
      rw [hn]
      split
      · rename_i σ1 h1
        injection h1 with h1
        subst h1
        exact (hne _ hs).elim
      · rfl
  | alt ts ks a b iha ihb =>
    intro σ x hs
    simp only [evC2] at hs ⊢
    split at hs
    · exact ihb hs
    · exact iha hs
    · cases hs
  | cond cc a b iha ihb =>
    intro σ x hs
    simp only [evC2] at hs ⊢
    split at hs
    · rename_i t ht
      cases t with
      | true => simp only [if_true] at hs ⊢; exact iha hs
      | false => simp only [Bool.false_eq_true, if_false] at hs ⊢; exact ihb hs
    · cases hs
  | block id a ih =>
    intro σ x hs
    simp only [evC2] at hs ⊢
    split at hs
    · rename_i j σ1 h1
      obtain ⟨n, hn⟩ := ih h1
      exact ⟨n, by rw [hn]; exact hs⟩
    · rename_i hne
      obtain ⟨n, hn⟩ := ih hs
      refine ⟨n, ?_⟩
      rw [hn]
      split
      · rename_i j σ1 h1
        injection h1 with h1
        subst h1
        exact (hne _ _ hs).elim
      · rfl
  | loop a ih =>
    intro σ x hs
    simp only [evC2] at hs ⊢
    exact iter_fin (f := fun n => evC2 (evF2 F C n) N a) (fun n m hnm σ x h => evC2_le (evF2_le hnm) (Nat.le_refl N) a h) (fun σ x h => ih h) hs
  | rng g ps wr a b iha ihb =>
    intro σ x hs
    have key : ∀ {f : Nat} {mkA : Nat → List V} {τ : St}, rngE (roundE (evC2 (run2 F C) N a) (evC2 (run2 F C) N b) ps wr) (fun a => run2 F C f (mkA a)) τ = some x → ∃ n, rngE (roundE (evC2 (evF2 F C n) N a) (evC2 (evF2 F C n) N b) ps wr) (fun a => evF2 F C n f (mkA a)) τ = some x := by
      intro f mkA τ hs
      refine rngE_fin (it := fun a => run2 F C f (mkA a)) (jt := fun n a => evF2 F C n f (mkA a)) (f := fun n => roundE (evC2 (evF2 F C n) N a) (evC2 (evF2 F C n) N b) ps wr) (fun n m hnm σ as9 x h => ?_) (fun σ as9 x h => ?_) (fun n m hnm a R h => evF2_le hnm _ _ R h) (fun a R h => of_run2 h) hs
      · exact roundE_le (fun _ _ h => evC2_le (evF2_le hnm) (Nat.le_refl N) a h) (fun _ _ h => evC2_le (evF2_le hnm) (Nat.le_refl N) b h) h
      · exact roundE_fin (fA := fun n => evC2 (evF2 F C n) N a) (fB := fun n => evC2 (evF2 F C n) N b) (fun n m hnm σ x h => evC2_le (evF2_le hnm) (Nat.le_refl N) a h) (fun n m hnm σ x h => evC2_le (evF2_le hnm) (Nat.le_refl N) b h) (fun _ _ h => iha h) (fun _ _ h => ihb h) h
    simp only [evC2] at hs ⊢
    split at hs
    · split at hs
      · split at hs
        · rename_i hc
          simp only [if_pos hc]
          exact key (mkA := fun a => .fn (.y a) [] :: _) hs
        · cases hs
      · cases hs
    · split at hs
      · split at hs
        · rename_i hc
          simp only [if_pos hc]
          exact key (mkA := fun a => _ ++ [.fn (.y a) []]) hs
        · cases hs
      · cases hs
    · cases hs
/-- A body's equation: the calls in it may be told by theirs. -/
theorem run2_of_body {f N : Nat} {lf : LFun} {as9 : List V} {r : V} (hF : F f = none) (hC : C f = some lf) (h : evBody2 (run2 F C) N lf as9 = some r) : run2 F C f as9 = some r := by
  have key : ∃ n, evBody2 (evF2 F C n) N lf as9 = some r := by
    unfold evBody2 at h ⊢
    split at h
    · rename_i hl
      split at h
      · rename_i σ h1
        obtain ⟨n, hn⟩ := evC2_fin _ h1
        exact ⟨n, by rw [if_pos hl, hn]; exact h⟩
      · rename_i σ h1
        obtain ⟨n, hn⟩ := evC2_fin _ h1
        exact ⟨n, by rw [if_pos hl, hn]; exact h⟩
      · cases h
    · cases h
  obtain ⟨n, hn⟩ := key
  refine run2_of (n := max n N + 1) ?_
  rw [evF2, hF]
  simp only [hC]
  exact evBody2_le (evF2_le (Nat.le_max_left n N)) (Nat.le_max_right n N) hn
theorem run2_told {f : Nat} {g : List V → Option V} {as9 : List V} (hF : F f = some g) : run2 F C f as9 = g as9 := by
  cases hg : g as9 with
  | some r => exact run2_of (n := 1) (by rw [evF2, hF]; exact hg)
  | none =>
    cases hr : run2 F C f as9 with
    | none => rfl
    | some r =>
      obtain ⟨n, hn⟩ := of_run2 hr
      cases n with
      | zero => simp [evF2] at hn
      | succ n =>
        rw [evF2, hF] at hn
        simp only at hn
        rw [hg] at hn
        cases hn
/-- What the tables of the two machines have to do with each other. -/
structure TabR (F2 F : Nat → Option (List V → Option V)) (C2 C : Nat → Option LFun) : Prop where
  told : ∀ f g2 as2 r2 as9, F2 f = some g2 → g2 as2 = some r2 → RelL as2 noT as9 → ∃ r, run F C f as9 = some r ∧ RelR r2 r ∧ ∀ l2, itemsOf (some r2) = some l2 → ∃ l, itemsOf (some r) = some l ∧ RelE l2 l
  code : ∀ f lf, F2 f = none → C2 f = some lf → F f = none ∧ C f = some (unF lf) ∧ okC lf.body = true ∧ lf.sl = []
theorem evF2_sim {F2 F : Nat → Option (List V → Option V)} {C2 C : Nat → Option LFun} (h : TabR F2 F C2 C) : ∀ n, CallSim (evF2 F2 C2 n) (run F C)
  | 0, f, as2, r2, as9, hr, _ => by simp [evF2] at hr
  | n + 1, f, as2, r2, as9, hr, ha => by
    rw [evF2] at hr
    split at hr
    · rename_i g2 hg
      exact h.told f g2 as2 r2 as9 hg hr ha
    · rename_i hg
      split at hr
      · rename_i lf hlf
        obtain ⟨k0, k1, k2, k3⟩ := h.code f lf hg hlf
        obtain ⟨r, g1, g2⟩ := body_sim (evF2_sim h n) n k2 k3 ha hr
        exact ⟨r, run_of_body k0 k1 g1, g2⟩
      · cases hr
theorem run2_sim {F2 F : Nat → Option (List V → Option V)} {C2 C : Nat → Option LFun} (h : TabR F2 F C2 C) {f : Nat} {as2 as9 : List V} {r2 : V} (hr : run2 F2 C2 f as2 = some r2) (ha : RelL as2 noT as9) : ∃ r, run F C f as9 = some r ∧ RelR r2 r := by
  obtain ⟨n, hn⟩ := of_run2 hr
  obtain ⟨r, g1, g2, _⟩ := evF2_sim h n f as2 r2 as9 hn ha
  exact ⟨r, g1, g2⟩
/-- A law that is true for the plain machine. -/
theorem run2_true {F2 F : Nat → Option (List V → Option V)} {C2 C : Nat → Option LFun} (h : TabR F2 F C2 C) {f : Nat} {as2 as9 : List V} (hr : run2 F2 C2 f as2 = some (.bool true)) (ha : RelL as2 noT as9) : run F C f as9 = some (.bool true) := by
  obtain ⟨r, g1, g2⟩ := run2_sim h hr ha
  obtain ⟨ρ, hρ⟩ := g2.ex
  simp only [Rel] at hρ
  rw [g1, hρ]
end
end Go.Lo

/- The functions that are reached, compiled for the plain machine. -/
namespace Go.Lo
open Go.Proofs
/-- acme/acmetop.TopZoneFit -/
def l4 : LFun := ⟨3, 247, [],
 (.seq
 (.reg false [3, 4, 5] [3, 4, 5] [
 ⟨(some 3), .box, [(.t 0)], none, []⟩,
 ⟨(some 4), .box, [(.t 1)], none, []⟩,
 ⟨(some 5), .box, [(.t 2)], none, []⟩,
 ⟨(some 6), .mv, [(.c (.bool false))], none, []⟩] 0 [3, 4, 5])
 (.seq
 (.reg false [7] [7] [
 ⟨(some 30), (.load (some 5)), [(.t 3)], none, [32, 33, 34, 35, 36, 7]⟩,
 ⟨(some 31), (.call true false false), [(.f 15), (.t 30)], none, [32, 33, 34, 35, 36, 7]⟩,
 ⟨(some 32), (.ixa 3 1), [(.t 5), (.c (.int .i64 2))], none, [30, 31, 7]⟩,
 ⟨(some 33), (.load none), [(.t 32)], none, [30, 31, 7]⟩,
 ⟨(some 34), (.conv .i64), [(.t 33)], none, [30, 31, 7]⟩,
 ⟨(some 35), (.bin 0 .rem), [(.t 34), (.c (.int .i64 5))], none, [30, 31, 7]⟩,
 ⟨(some 36), (.bin 0 .add), [(.c (.int .i64 1)), (.t 35)], none, [30, 31, 7]⟩,
 ⟨(some 7), (.alloc [(.int .i64 0), (.int .i64 0), (.int .i64 0), (.int .i64 0), (.int .i64 0), (.int .i64 0), (.bool false), (.int .i64 0)]), [], none, [30, 31, 32, 33, 34, 35, 36]⟩,
 ⟨none, (.store 8 (some 7)), [(.t 7), (.t 31)], none, [32, 33, 34, 35, 36]⟩,
 ⟨(some 8), .mv, [(.t 36)], none, []⟩] 0 [3, 4, 5, 7, 8])
 (.seq
 (.reg false [] [] [
 ⟨(some 37), (.ixa 4 1), [(.t 4), (.c (.int .i64 0))], none, []⟩,
 ⟨(some 38), (.load none), [(.t 37)], none, []⟩,
 ⟨(some 39), (.conv .i64), [(.t 38)], none, []⟩,
 ⟨(some 40), (.bin 0 .mul), [(.c (.int .i64 100)), (.t 39)], none, []⟩,
 ⟨(some 41), (.bin 0 .add), [(.c (.int .i64 20000)), (.t 40)], none, []⟩,
 ⟨(some 9), .mv, [(.t 41)], none, []⟩] 0 [3, 4, 5, 7, 8, 9])
 (.seq
 (.reg false [42, 48, 54, 55, 62, 63, 64, 10] [42, 48, 54, 55, 62, 63, 64, 10] [
 ⟨(some 42), (.bsl 1 [(.int .i64 0)] 1 [0]), [(.c (.int .i64 50000))], none, []⟩,
 ⟨(some 43), (.ixa 4 1), [(.t 4), (.c (.int .i64 1))], none, []⟩,
 ⟨(some 44), (.load none), [(.t 43)], none, []⟩,
 ⟨(some 45), (.conv .i64), [(.t 44)], none, []⟩,
 ⟨(some 46), (.bin 0 .rem), [(.t 45), (.c (.int .i64 40))], none, []⟩,
 ⟨(some 47), (.bin 0 .mul), [(.c (.int .i64 2)), (.t 46)], none, []⟩,
 ⟨(some 48), (.bsl 1 [(.int .i64 0)] 1 [0]), [(.t 47)], none, []⟩,
 ⟨(some 49), (.ixa 4 1), [(.t 4), (.c (.int .i64 2))], none, []⟩,
 ⟨(some 50), (.load none), [(.t 49)], none, []⟩,
 ⟨(some 51), (.conv .i64), [(.t 50)], none, []⟩,
 ⟨(some 52), (.bin 0 .rem), [(.t 51), (.c (.int .i64 40))], none, []⟩,
 ⟨(some 53), (.bin 0 .mul), [(.c (.int .i64 2)), (.t 52)], none, []⟩,
 ⟨(some 54), (.bsl 1 [(.int .i64 0)] 1 [0]), [(.t 53)], none, []⟩,
 ⟨(some 55), (.bsl 1 [.nil] 2 [0, 1]), [(.t 48), (.t 54)], none, []⟩,
 ⟨(some 56), (.ixa 4 1), [(.t 4), (.c (.int .i64 3))], none, []⟩,
 ⟨(some 57), (.load none), [(.t 56)], none, []⟩,
 ⟨(some 58), (.conv .i64), [(.t 57)], none, []⟩,
 ⟨(some 59), (.bin 0 .rem), [(.t 58), (.c (.int .i64 60))], none, []⟩,
 ⟨(some 60), (.bin 0 .sub), [(.t 59), (.c (.int .i64 20))], none, []⟩,
 ⟨(some 61), (.bin 0 .mul), [(.c (.int .i64 2)), (.t 60)], none, []⟩,
 ⟨(some 62), (.bsl 1 [(.int .i64 0)] 1 [0]), [(.t 61)], none, []⟩,
 ⟨(some 63), (.bsl 1 [(.int .i64 0)] 1 [0]), [(.c (.int .i64 0))], none, []⟩,
 ⟨(some 64), (.bsl 1 [.nil] 2 [0, 1]), [(.t 62), (.t 63)], none, []⟩,
 ⟨(some 65), (.build [(.sl none 1 []), (.sl none 1 []), (.sl none 1 [])] [(0, 1), (1, 1), (2, 1)]), [(.t 42), (.t 55), (.t 64)], none, []⟩,
 ⟨(some 10), (.alloc [(.sl none 1 []), (.sl none 1 []), (.sl none 1 [])]), [], none, []⟩,
 ⟨none, (.store 3 none), [(.t 10), (.t 65)], none, []⟩] 0 [3, 5, 7, 8, 9, 10])
 (.seq
 (.reg false [11] [11] [
 ⟨(some 66), (.build [(.int .i64 0), (.int .i64 0)] [(0, 1), (1, 1)]), [(.c (.int .i64 0)), (.c (.int .i64 0))], none, []⟩,
 ⟨(some 67), (.build [(.int .i64 0), (.int .i64 0)] [(0, 1), (1, 1)]), [(.c (.int .i64 1)), (.c (.int .i64 1))], none, []⟩,
 ⟨(some 68), (.build [(.int .i64 0), (.int .i64 0), (.int .i64 0), (.int .i64 0)] [(0, 2), (2, 2)]), [(.t 66), (.t 67)], none, []⟩,
 ⟨(some 11), (.alloc [(.int .i64 0), (.int .i64 0), (.int .i64 0), (.int .i64 0)]), [], none, []⟩,
 ⟨none, (.store 4 none), [(.t 11), (.t 68)], none, []⟩] 0 [3, 5, 7, 8, 9, 10, 11])
 (.seq
 (.reg false [12] [12] [
 ⟨(some 70), (.load (some 3)), [(.t 10)], none, []⟩,
 ⟨(some 71), (.fa 0), [(.t 11)], none, []⟩,
 ⟨(some 72), (.load (some 2)), [(.t 71)], none, []⟩,
 ⟨(some 73), .mv, [(.t 9)], none, []⟩,
 ⟨(some 74), (.call false false false), [(.f 6), (.t 70), (.t 72), (.c (.bool false)), (.t 73)], none, []⟩,
 ⟨(some 69), .mv, [(.t 74)], none, []⟩,
 ⟨(some 75), (.ext 0), [(.t 69)], none, []⟩,
 ⟨(some 76), (.ext 1), [(.t 69)], none, []⟩,
 ⟨(some 12), (.alloc [(.int .i64 0), (.int .i64 0)]), [], none, []⟩,
 ⟨none, (.store 2 none), [(.t 12), (.t 75)], none, []⟩,
 ⟨(some 13), .mv, [(.t 76)], none, []⟩] 0 [3, 5, 7, 8, 9, 10, 11, 12, 13])
 (.seq
 (.reg false [14] [14] [
 ⟨(some 78), (.load (some 3)), [(.t 10)], none, []⟩,
 ⟨(some 79), (.fa 2), [(.t 11)], none, []⟩,
 ⟨(some 80), (.load (some 2)), [(.t 79)], none, []⟩,
 ⟨(some 81), .mv, [(.t 9)], none, []⟩,
 ⟨(some 82), (.call false false false), [(.f 6), (.t 78), (.t 80), (.c (.bool true)), (.t 81)], none, []⟩,
 ⟨(some 77), .mv, [(.t 82)], none, []⟩,
 ⟨(some 83), (.ext 0), [(.t 77)], none, []⟩,
 ⟨(some 84), (.ext 1), [(.t 77)], none, []⟩,
 ⟨(some 14), (.alloc [(.int .i64 0), (.int .i64 0)]), [], none, []⟩,
 ⟨none, (.store 2 none), [(.t 14), (.t 83)], none, []⟩,
 ⟨(some 15), .mv, [(.t 84)], none, []⟩] 0 [3, 5, 7, 8, 9, 10, 11, 12, 13, 14, 15])
 (.seq
 (.reg false [16] [16] [
 ⟨(some 86), (.load (some 3)), [(.t 10)], none, []⟩,
 ⟨(some 87), (.load (some 4)), [(.t 11)], none, []⟩,
 ⟨(some 88), .mv, [(.t 9)], none, []⟩,
 ⟨(some 89), (.call false false false), [(.f 7), (.t 86), (.t 87), (.t 88)], none, []⟩,
 ⟨(some 85), .mv, [(.t 89)], none, []⟩,
 ⟨(some 90), (.ext 0), [(.t 85)], none, []⟩,
 ⟨(some 91), (.ext 1), [(.t 85)], none, []⟩,
 ⟨(some 16), (.alloc [(.int .i64 0), (.int .i64 0)]), [], none, []⟩,
 ⟨none, (.store 2 none), [(.t 16), (.t 90)], none, []⟩,
 ⟨(some 17), .mv, [(.t 91)], none, []⟩] 0 [3, 5, 7, 8, 9, 12, 13, 14, 15, 16, 17])
 (.seq
 (.seq
 (.reg false [] [] [
 ⟨(some 92), .mv, [(.t 13)], none, []⟩,
 ⟨(some 93), (.bin 0 .neq), [(.t 92), (.c (.int .i64 0))], none, []⟩,
 ⟨(some 94), .mv, [(.t 93)], none, []⟩,
 ⟨(some 95), .mv, [(.t 15)], (some (94, false)), []⟩,
 ⟨(some 96), (.bin 0 .neq), [(.t 95), (.c (.int .i64 0))], (some (94, false)), []⟩,
 ⟨(some 97), .pick, [(.t 94), (.c (.bool true)), (.t 96)], none, []⟩,
 ⟨(some 98), .mv, [(.t 97)], none, []⟩,
 ⟨(some 99), .mv, [(.t 17)], (some (98, false)), []⟩,
 ⟨(some 100), (.bin 0 .neq), [(.t 99), (.c (.int .i64 0))], (some (98, false)), []⟩,
 ⟨(some 101), .pick, [(.t 98), (.c (.bool true)), (.t 100)], none, []⟩,
 ⟨(some 102), .mv, [(.t 101)], none, []⟩,
 ⟨(some 103), (.load (some 2)), [(.t 16)], (some (102, false)), [104, 105, 106, 107, 108, 109, 110, 111, 112, 113, 114]⟩,
 ⟨(some 104), (.fa 0), [(.t 14)], (some (102, false)), [103, 106, 107, 109, 110, 111, 112, 113]⟩,
 ⟨(some 105), (.load none), [(.t 104)], (some (102, false)), [103, 106, 107, 109, 110, 111, 112, 113]⟩,
 ⟨(some 106), (.fa 1), [(.t 12)], (some (102, false)), [103, 104, 105, 109, 110, 111, 112, 113]⟩,
 ⟨(some 107), (.load none), [(.t 106)], (some (102, false)), [103, 104, 105, 109, 110, 111, 112, 113]⟩,
 ⟨(some 108), (.bin 0 .sub), [(.t 105), (.t 107)], (some (102, false)), [103, 109, 110, 111, 112, 113]⟩,
 ⟨(some 109), (.fa 1), [(.t 14)], (some (102, false)), [103, 104, 105, 106, 107, 108, 111, 112]⟩,
 ⟨(some 110), (.load none), [(.t 109)], (some (102, false)), [103, 104, 105, 106, 107, 108, 111, 112]⟩,
 ⟨(some 111), (.fa 0), [(.t 12)], (some (102, false)), [103, 104, 105, 106, 107, 108, 109, 110]⟩,
 ⟨(some 112), (.load none), [(.t 111)], (some (102, false)), [103, 104, 105, 106, 107, 108, 109, 110]⟩,
 ⟨(some 113), (.bin 0 .sub), [(.t 110), (.t 112)], (some (102, false)), [103, 104, 105, 106, 107, 108]⟩,
 ⟨(some 114), (.call true false false), [(.f 8), (.t 108), (.t 113)], (some (102, false)), [103]⟩,
 ⟨(some 115), (.eqs true [(some .i64), (some .i64)]), [(.t 103), (.t 114)], (some (102, false)), []⟩,
 ⟨(some 116), .pick, [(.t 102), (.c (.bool true)), (.t 115)], none, []⟩] 0 [3, 5, 7, 8, 9, 12, 14, 16, 116])
 (.cond (.t 116)
 (.seq
 (.reg false [] [] [
 ⟨(some 6), .mv, [(.c (.bool false))], none, []⟩] 0 [6])
 .ret)
 .skip))
 (.seq
 (.reg false [] [] [
 ⟨(some 117), (.fa 0), [(.t 12)], none, [119, 120, 121, 122, 123, 124, 125, 126, 127, 128, 129, 131, 132, 133, 134, 135, 136, 137, 138, 139, 140, 141, 142, 143, 144]⟩,
 ⟨(some 118), (.load none), [(.t 117)], none, [119, 120, 121, 122, 123, 124, 125, 126, 127, 128, 129, 131, 132, 133, 134, 135, 136, 137, 138, 139, 140, 141, 142, 143, 144]⟩,
 ⟨(some 119), (.ixa 3 1), [(.t 5), (.c (.int .i64 0))], none, [117, 118, 122, 123, 124, 125, 126, 131, 132, 133, 134, 135, 136, 137, 138, 139, 140, 141, 142, 143, 144]⟩,
 ⟨(some 120), (.load none), [(.t 119)], none, [117, 118, 122, 123, 124, 125, 126, 131, 132, 133, 134, 135, 136, 137, 138, 139, 140, 141, 142, 143, 144]⟩,
 ⟨(some 121), (.conv .i64), [(.t 120)], none, [117, 118, 122, 123, 124, 125, 126, 131, 132, 133, 134, 135, 136, 137, 138, 139, 140, 141, 142, 143, 144]⟩,
 ⟨(some 122), (.fa 1), [(.t 12)], none, [117, 118, 119, 120, 121, 124, 125, 131, 132, 133, 134, 135, 136, 137, 138, 139, 140, 141, 142, 143, 144]⟩,
 ⟨(some 123), (.load none), [(.t 122)], none, [117, 118, 119, 120, 121, 124, 125, 131, 132, 133, 134, 135, 136, 137, 138, 139, 140, 141, 142, 143, 144]⟩,
 ⟨(some 124), (.fa 0), [(.t 12)], none, [117, 118, 119, 120, 121, 122, 123, 131, 132, 133, 134, 135, 136, 137, 138, 139, 140, 141, 142, 143, 144]⟩,
 ⟨(some 125), (.load none), [(.t 124)], none, [117, 118, 119, 120, 121, 122, 123, 131, 132, 133, 134, 135, 136, 137, 138, 139, 140, 141, 142, 143, 144]⟩,
 ⟨(some 126), (.bin 0 .sub), [(.t 123), (.t 125)], none, [117, 118, 119, 120, 121, 131, 132, 133, 134, 135, 136, 137, 138, 139, 140, 141, 142, 143, 144]⟩,
 ⟨(some 127), (.bin 0 .mul), [(.t 121), (.t 126)], none, [117, 118, 131, 132, 133, 134, 135, 136, 137, 138, 139, 140, 141, 142, 143, 144]⟩,
 ⟨(some 128), (.bin 0 .quo), [(.t 127), (.c (.int .i64 512))], none, [117, 118, 131, 132, 133, 134, 135, 136, 137, 138, 139, 140, 141, 142, 143, 144]⟩,
 ⟨(some 129), (.bin 0 .mul), [(.c (.int .i64 2)), (.t 128)], none, [117, 118, 131, 132, 133, 134, 135, 136, 137, 138, 139, 140, 141, 142, 143, 144]⟩,
 ⟨(some 130), (.bin 0 .add), [(.t 118), (.t 129)], none, [131, 132, 133, 134, 135, 136, 137, 138, 139, 140, 141, 142, 143, 144]⟩,
 ⟨(some 131), (.fa 0), [(.t 14)], none, [117, 118, 119, 120, 121, 122, 123, 124, 125, 126, 127, 128, 129, 130, 133, 134, 135, 136, 137, 138, 139, 140, 141, 142, 143, 18]⟩,
 ⟨(some 132), (.load none), [(.t 131)], none, [117, 118, 119, 120, 121, 122, 123, 124, 125, 126, 127, 128, 129, 130, 133, 134, 135, 136, 137, 138, 139, 140, 141, 142, 143, 18]⟩,
 ⟨(some 133), (.ixa 3 1), [(.t 5), (.c (.int .i64 1))], none, [117, 118, 119, 120, 121, 122, 123, 124, 125, 126, 127, 128, 129, 130, 131, 132, 136, 137, 138, 139, 140, 18]⟩,
 ⟨(some 134), (.load none), [(.t 133)], none, [117, 118, 119, 120, 121, 122, 123, 124, 125, 126, 127, 128, 129, 130, 131, 132, 136, 137, 138, 139, 140, 18]⟩,
 ⟨(some 135), (.conv .i64), [(.t 134)], none, [117, 118, 119, 120, 121, 122, 123, 124, 125, 126, 127, 128, 129, 130, 131, 132, 136, 137, 138, 139, 140, 18]⟩,
 ⟨(some 136), (.fa 1), [(.t 14)], none, [117, 118, 119, 120, 121, 122, 123, 124, 125, 126, 127, 128, 129, 130, 131, 132, 133, 134, 135, 138, 139, 18]⟩,
 ⟨(some 137), (.load none), [(.t 136)], none, [117, 118, 119, 120, 121, 122, 123, 124, 125, 126, 127, 128, 129, 130, 131, 132, 133, 134, 135, 138, 139, 18]⟩,
 ⟨(some 138), (.fa 0), [(.t 14)], none, [117, 118, 119, 120, 121, 122, 123, 124, 125, 126, 127, 128, 129, 130, 131, 132, 133, 134, 135, 136, 137, 18]⟩,
 ⟨(some 139), (.load none), [(.t 138)], none, [117, 118, 119, 120, 121, 122, 123, 124, 125, 126, 127, 128, 129, 130, 131, 132, 133, 134, 135, 136, 137, 18]⟩,
 ⟨(some 140), (.bin 0 .sub), [(.t 137), (.t 139)], none, [117, 118, 119, 120, 121, 122, 123, 124, 125, 126, 127, 128, 129, 130, 131, 132, 133, 134, 135, 18]⟩,
 ⟨(some 141), (.bin 0 .mul), [(.t 135), (.t 140)], none, [117, 118, 119, 120, 121, 122, 123, 124, 125, 126, 127, 128, 129, 130, 131, 132, 18]⟩,
 ⟨(some 142), (.bin 0 .quo), [(.t 141), (.c (.int .i64 512))], none, [117, 118, 119, 120, 121, 122, 123, 124, 125, 126, 127, 128, 129, 130, 131, 132, 18]⟩,
 ⟨(some 143), (.bin 0 .mul), [(.c (.int .i64 2)), (.t 142)], none, [117, 118, 119, 120, 121, 122, 123, 124, 125, 126, 127, 128, 129, 130, 131, 132, 18]⟩,
 ⟨(some 144), (.bin 0 .add), [(.t 132), (.t 143)], none, [117, 118, 119, 120, 121, 122, 123, 124, 125, 126, 127, 128, 129, 130, 18]⟩,
 ⟨(some 18), .mv, [(.t 130)], none, [131, 132, 133, 134, 135, 136, 137, 138, 139, 140, 141, 142, 143, 144]⟩,
 ⟨(some 19), .mv, [(.t 144)], none, []⟩] 0 [3, 7, 8, 9, 12, 14, 16, 18, 19])
 (.seq
 (.reg false [] [] [
 ⟨(some 145), .mv, [(.t 18)], none, []⟩,
 ⟨(some 146), .mv, [(.t 9)], none, []⟩,
 ⟨(some 147), (.bin 0 .sub), [(.t 145), (.t 146)], none, []⟩,
 ⟨(some 148), (.bin 0 .quo), [(.t 147), (.c (.int .i64 2))], none, []⟩,
 ⟨(some 149), .mv, [(.t 19)], none, []⟩,
 ⟨(some 150), .mv, [(.t 9)], none, []⟩,
 ⟨(some 151), (.bin 0 .sub), [(.t 149), (.t 150)], none, []⟩,
 ⟨(some 152), (.bin 0 .quo), [(.t 151), (.c (.int .i64 2))], none, []⟩,
 ⟨(some 20), .mv, [(.t 148)], none, []⟩,
 ⟨(some 21), .mv, [(.t 152)], none, []⟩] 0 [3, 7, 8, 9, 12, 14, 16, 18, 19, 20, 21])
 (.seq
 (.reg false [160, 22, 23] [160, 22, 23] [
 ⟨(some 154), (.load (some 8)), [(.t 7)], none, [155, 156, 157, 158, 159, 22, 23]⟩,
 ⟨(some 155), .mv, [(.t 20)], none, [154, 156, 157, 158, 159, 22, 23]⟩,
 ⟨(some 156), .mv, [(.t 21)], none, [154, 155, 157, 158, 159, 22, 23]⟩,
 ⟨(some 157), .mv, [(.t 8)], none, [154, 155, 156, 158, 159, 22, 23]⟩,
 ⟨(some 158), (.load (some 5)), [(.t 3)], none, [154, 155, 156, 157, 22, 23]⟩,
 ⟨(some 159), (.call true false false), [(.f 17), (.t 158)], none, [154, 155, 156, 157, 22, 23]⟩,
 ⟨(some 160), (.call false false true), [(.f 16), (.t 154), (.t 155), (.t 156), (.t 157), (.t 159)], none, [22, 23]⟩,
 ⟨(some 153), .mv, [(.t 160)], none, [22, 23]⟩,
 ⟨(some 161), (.ext 0), [(.t 153)], none, [162, 163, 164, 22, 23]⟩,
 ⟨(some 162), (.ext 1), [(.t 153)], none, [161, 163, 164, 22, 23]⟩,
 ⟨(some 163), (.ext 2), [(.t 153)], none, [161, 162, 164, 22, 23]⟩,
 ⟨(some 164), (.ext 3), [(.t 153)], none, [161, 162, 163, 22, 23, 24]⟩,
 ⟨(some 22), (.alloc [.nil, (.int .i64 0), (.int .i64 0)]), [], none, [154, 155, 156, 157, 158, 159, 160, 153, 161, 162, 163, 164, 23]⟩,
 ⟨(some 23), (.alloc [.nil, (.int .i64 0), (.int .i64 0)]), [], none, [154, 155, 156, 157, 158, 159, 160, 153, 161, 162, 163, 164, 22]⟩,
 ⟨none, (.store 3 (some 22)), [(.t 22), (.t 161)], none, [162, 163, 164]⟩,
 ⟨none, (.store 3 (some 23)), [(.t 23), (.t 162)], none, [163, 164]⟩,
 ⟨(some 24), .mv, [(.t 163)], none, [164]⟩,
 ⟨(some 25), .mv, [(.t 164)], none, []⟩] 0 [3, 7, 8, 9, 12, 14, 16, 18, 19, 20, 21, 24, 25])
 (.seq
 (.seq
 (.reg false [] [] [
 ⟨(some 165), .mv, [(.t 25)], none, []⟩,
 ⟨(some 166), (.bin 0 .neq), [(.t 165), (.c (.int .i64 0))], none, []⟩,
 ⟨(some 167), .mv, [(.t 166)], none, []⟩,
 ⟨(some 168), .mv, [(.t 19)], (some (167, false)), []⟩,
 ⟨(some 169), .mv, [(.t 18)], (some (167, false)), []⟩,
 ⟨(some 170), (.bin 0 .sub), [(.t 168), (.t 169)], (some (167, false)), []⟩,
 ⟨(some 171), (.bin 0 .geq), [(.t 170), (.c (.int .i64 0))], (some (167, false)), []⟩,
 ⟨(some 172), .mv, [(.t 20)], (some (167, false)), []⟩,
 ⟨(some 173), .mv, [(.t 21)], (some (167, false)), []⟩,
 ⟨(some 174), (.bin 0 .leq), [(.t 172), (.t 173)], (some (167, false)), []⟩,
 ⟨(some 175), (.bin 1 .neq), [(.t 171), (.t 174)], (some (167, false)), []⟩,
 ⟨(some 176), .pick, [(.t 167), (.c (.bool true)), (.t 175)], none, []⟩,
 ⟨(some 177), .mv, [(.t 176)], none, []⟩,
 ⟨(some 178), .mv, [(.t 20)], (some (177, false)), []⟩,
 ⟨(some 179), .mv, [(.t 21)], (some (177, false)), []⟩,
 ⟨(some 180), (.bin 0 .leq), [(.t 178), (.t 179)], (some (177, false)), []⟩,
 ⟨(some 181), .mv, [(.t 180)], (some (177, false)), []⟩,
 ⟨(some 182), .mv, [(.t 24)], (some (181, true)), []⟩,
 ⟨(some 183), (.un .not), [(.t 182)], (some (181, true)), []⟩,
 ⟨(some 184), .pick, [(.t 181), (.t 183), (.c (.bool false))], (some (177, false)), []⟩,
 ⟨(some 185), .pick, [(.t 177), (.c (.bool true)), (.t 184)], none, []⟩,
 ⟨(some 186), .mv, [(.t 185)], none, []⟩,
 ⟨(some 187), (.fa 0), [(.t 16)], (some (186, false)), []⟩,
 ⟨(some 188), (.load none), [(.t 187)], (some (186, false)), []⟩,
 ⟨(some 189), (.bin 0 .geq), [(.t 188), (.c (.int .i64 0))], (some (186, false)), []⟩,
 ⟨(some 190), .mv, [(.t 189)], (some (186, false)), []⟩,
 ⟨(some 191), .mv, [(.t 24)], (some (190, true)), []⟩,
 ⟨(some 192), (.un .not), [(.t 191)], (some (190, true)), []⟩,
 ⟨(some 193), .pick, [(.t 190), (.t 192), (.c (.bool false))], (some (186, false)), []⟩,
 ⟨(some 194), .pick, [(.t 186), (.c (.bool true)), (.t 193)], none, []⟩] 0 [3, 7, 8, 9, 12, 14, 16, 194])
 (.cond (.t 194)
 (.seq
 (.reg false [] [] [
 ⟨(some 6), .mv, [(.c (.bool false))], none, []⟩] 0 [6])
 .ret)
 .skip))
 (.seq
 (.reg false [210, 26, 27] [210, 26, 27] [
 ⟨(some 196), (.load (some 8)), [(.t 7)], none, [197, 198, 199, 200, 201, 202, 203, 204, 205, 206, 207, 208, 209, 26, 27]⟩,
 ⟨(some 197), (.fa 1), [(.t 12)], none, [196, 199, 202, 203, 204, 205, 206, 207, 208, 209, 26, 27]⟩,
 ⟨(some 198), (.load none), [(.t 197)], none, [196, 199, 202, 203, 204, 205, 206, 207, 208, 209, 26, 27]⟩,
 ⟨(some 199), .mv, [(.t 9)], none, [196, 197, 198, 202, 203, 204, 205, 206, 207, 208, 209, 26, 27]⟩,
 ⟨(some 200), (.bin 0 .sub), [(.t 198), (.t 199)], none, [196, 202, 203, 204, 205, 206, 207, 208, 209, 26, 27]⟩,
 ⟨(some 201), (.bin 0 .quo), [(.t 200), (.c (.int .i64 2))], none, [196, 202, 203, 204, 205, 206, 207, 208, 209, 26, 27]⟩,
 ⟨(some 202), (.fa 0), [(.t 14)], none, [196, 197, 198, 199, 200, 201, 204, 207, 208, 209, 26, 27]⟩,
 ⟨(some 203), (.load none), [(.t 202)], none, [196, 197, 198, 199, 200, 201, 204, 207, 208, 209, 26, 27]⟩,
 ⟨(some 204), .mv, [(.t 9)], none, [196, 197, 198, 199, 200, 201, 202, 203, 207, 208, 209, 26, 27]⟩,
 ⟨(some 205), (.bin 0 .sub), [(.t 203), (.t 204)], none, [196, 197, 198, 199, 200, 201, 207, 208, 209, 26, 27]⟩,
 ⟨(some 206), (.bin 0 .quo), [(.t 205), (.c (.int .i64 2))], none, [196, 197, 198, 199, 200, 201, 207, 208, 209, 26, 27]⟩,
 ⟨(some 207), .mv, [(.t 8)], none, [196, 197, 198, 199, 200, 201, 202, 203, 204, 205, 206, 208, 209, 26, 27]⟩,
 ⟨(some 208), (.load (some 5)), [(.t 3)], none, [196, 197, 198, 199, 200, 201, 202, 203, 204, 205, 206, 207, 26, 27]⟩,
 ⟨(some 209), (.call true false false), [(.f 17), (.t 208)], none, [196, 197, 198, 199, 200, 201, 202, 203, 204, 205, 206, 207, 26, 27]⟩,
 ⟨(some 210), (.call false false true), [(.f 16), (.t 196), (.t 201), (.t 206), (.t 207), (.t 209)], none, [26, 27]⟩,
 ⟨(some 195), .mv, [(.t 210)], none, [26, 27]⟩,
 ⟨(some 211), (.ext 0), [(.t 195)], none, [212, 213, 214, 26, 27]⟩,
 ⟨(some 212), (.ext 1), [(.t 195)], none, [211, 213, 214, 26, 27]⟩,
 ⟨(some 213), (.ext 2), [(.t 195)], none, [211, 212, 214, 26, 27]⟩,
 ⟨(some 214), (.ext 3), [(.t 195)], none, [211, 212, 213, 26, 27, 28]⟩,
 ⟨(some 26), (.alloc [.nil, (.int .i64 0), (.int .i64 0)]), [], none, [196, 197, 198, 199, 200, 201, 202, 203, 204, 205, 206, 207, 208, 209, 210, 195, 211, 212, 213, 214, 27]⟩,
 ⟨(some 27), (.alloc [.nil, (.int .i64 0), (.int .i64 0)]), [], none, [196, 197, 198, 199, 200, 201, 202, 203, 204, 205, 206, 207, 208, 209, 210, 195, 211, 212, 213, 214, 26]⟩,
 ⟨none, (.store 3 (some 26)), [(.t 26), (.t 211)], none, [212, 213, 214]⟩,
 ⟨none, (.store 3 (some 27)), [(.t 27), (.t 212)], none, [213, 214]⟩,
 ⟨(some 28), .mv, [(.t 213)], none, [214]⟩,
 ⟨(some 29), .mv, [(.t 214)], none, []⟩] 0 [7, 16, 28, 29])
 (.seq
 (.reg false [] [] [
 ⟨(some 215), .mv, [(.t 29)], none, []⟩,
 ⟨(some 216), (.bin 0 .eql), [(.t 215), (.c (.int .i64 0))], none, []⟩,
 ⟨(some 217), .mv, [(.t 216)], none, []⟩,
 ⟨(some 218), (.fa 0), [(.t 16)], (some (217, true)), []⟩,
 ⟨(some 219), (.load none), [(.t 218)], (some (217, true)), []⟩,
 ⟨(some 220), (.bin 0 .lss), [(.t 219), (.c (.int .i64 0))], (some (217, true)), []⟩,
 ⟨(some 221), .mv, [(.t 220)], (some (217, true)), []⟩,
 ⟨(some 222), .mv, [(.t 28)], (some (221, false)), []⟩,
 ⟨(some 223), .pick, [(.t 221), (.c (.bool true)), (.t 222)], (some (217, true)), []⟩,
 ⟨(some 224), .pick, [(.t 217), (.t 223), (.c (.bool false))], none, []⟩,
 ⟨(some 225), .mv, [(.t 224)], none, []⟩,
 ⟨(some 226), (.fa 0), [(.t 16)], (some (225, true)), []⟩,
 ⟨(some 227), (.load none), [(.t 226)], (some (225, true)), []⟩,
 ⟨(some 228), (.un .neg), [(.t 227)], (some (225, true)), []⟩,
 ⟨(some 229), (.fa 1), [(.t 7)], (some (225, true)), []⟩,
 ⟨(some 230), (.load none), [(.t 229)], (some (225, true)), []⟩,
 ⟨(some 231), (.fa 2), [(.t 7)], (some (225, true)), []⟩,
 ⟨(some 232), (.load none), [(.t 231)], (some (225, true)), []⟩,
 ⟨(some 233), (.bin 0 .add), [(.t 230), (.t 232)], (some (225, true)), []⟩,
 ⟨(some 234), (.bin 0 .mul), [(.t 228), (.t 233)], (some (225, true)), []⟩,
 ⟨(some 235), (.bin 0 .leq), [(.t 234), (.c (.int .i64 8000))], (some (225, true)), []⟩,
 ⟨(some 236), .mv, [(.t 235)], (some (225, true)), []⟩,
 ⟨(some 237), .mv, [(.t 28)], (some (236, false)), []⟩,
 ⟨(some 238), (.un .not), [(.t 237)], (some (236, false)), []⟩,
 ⟨(some 239), .pick, [(.t 236), (.c (.bool true)), (.t 238)], (some (225, true)), []⟩,
 ⟨(some 240), .pick, [(.t 225), (.t 239), (.c (.bool false))], none, []⟩,
 ⟨(some 241), .mv, [(.t 240)], none, []⟩,
 ⟨(some 242), (.call false false false), [(.f 10)], (some (241, true)), []⟩,
 ⟨(some 243), .pick, [(.t 241), (.t 242), (.c (.bool false))], none, []⟩,
 ⟨(some 244), .mv, [(.t 243)], none, []⟩,
 ⟨(some 245), (.call false false false), [(.f 18)], (some (244, true)), []⟩,
 ⟨(some 246), .pick, [(.t 244), (.t 245), (.c (.bool false))], none, []⟩,
 ⟨(some 6), .mv, [(.t 246)], none, []⟩] 0 [6])
 .ret))))))))))))))),
 [(.t 6)]⟩
theorem c4 : funC Try.prog [(0, [3, 4, 5]), (1, [3, 4, 5, 7, 8]), (2, [3, 4, 5, 7, 8, 9]), (3, [3, 5, 7, 8, 9, 10]), (4, [3, 5, 7, 8, 9, 10, 11]), (5, [3, 5, 7, 8, 9, 10, 11, 12, 13]), (6, [3, 5, 7, 8, 9, 10, 11, 12, 13, 14, 15]), (7, [3, 5, 7, 8, 9, 12, 13, 14, 15, 16, 17]), (8, [3, 5, 7, 8, 9, 12, 14, 16, 116]), (9, [6]), (10, [3, 7, 8, 9, 12, 14, 16, 18, 19]), (11, [3, 7, 8, 9, 12, 14, 16, 18, 19, 20, 21]), (12, [3, 7, 8, 9, 12, 14, 16, 18, 19, 20, 21, 24, 25]), (13, [3, 7, 8, 9, 12, 14, 16, 194]), (14, [6]), (15, [7, 16, 28, 29]), (16, [6])] Try.f4 = some (unF l4) := by kernel_rfl
/-- acme/zone.Limits -/
def l6 : LFun := ⟨4, 33, [],
 (.seq
 (.reg false [4, 5, 8] [4, 5, 8] [
 ⟨(some 4), .box, [(.t 0)], none, []⟩,
 ⟨(some 5), .box, [(.t 1)], none, []⟩,
 ⟨(some 8), (.alloc [(.int .i64 0), (.int .i64 0)]), [], none, []⟩,
 ⟨(some 9), .mv, [(.c (.int .i64 0))], none, []⟩] 0 [2, 3, 4, 5, 8])
 (.seq
 (.reg false [17, 18, 10] [17, 18, 10] [
 ⟨(some 14), (.load (some 3)), [(.t 4)], none, []⟩,
 ⟨(some 15), .mv, [(.t 3)], none, []⟩,
 ⟨(some 16), (.load (some 2)), [(.t 5)], none, []⟩,
 ⟨(some 17), (.bsl 2 [(.int .i64 0), (.int .i64 0)] 1 [0]), [(.t 16)], none, []⟩,
 ⟨(some 18), (.call false true true), [(.f 22), (.t 14), (.t 15), (.t 17)], none, []⟩,
 ⟨(some 13), .mv, [(.t 18)], none, []⟩,
 ⟨(some 19), (.ext 0), [(.t 13)], none, []⟩,
 ⟨(some 20), (.ext 1), [(.t 13)], none, []⟩,
 ⟨(some 21), (.ext 2), [(.t 13)], none, []⟩,
 ⟨(some 10), (.alloc [.nil, (.sl none 1 []), (.sl none 1 [])]), [], none, []⟩,
 ⟨none, (.store 3 none), [(.t 10), (.t 19)], none, []⟩,
 ⟨(some 11), .mv, [(.t 20)], none, []⟩,
 ⟨(some 12), .mv, [(.t 21)], none, []⟩] 0 [2, 3, 5, 8, 10, 11, 12])
 (.seq
 (.seq
 (.reg false [] [] [
 ⟨(some 22), .mv, [(.t 12)], none, []⟩,
 ⟨(some 23), (.bin 0 .neq), [(.t 22), (.c (.int .i64 0))], none, []⟩] 0 [2, 3, 5, 8, 10, 11, 12, 23])
 (.cond (.t 23)
 (.seq
 (.reg false [] [] [
 ⟨(some 24), (.build [(.int .i64 0), (.int .i64 0)] []), [], none, []⟩,
 ⟨(some 25), .mv, [(.t 12)], none, []⟩,
 ⟨none, (.store 2 none), [(.t 8), (.t 24)], none, []⟩,
 ⟨(some 9), .mv, [(.t 25)], none, []⟩] 0 [8, 9])
 .ret)
 .skip))
 (.seq
 (.reg false [] [] [
 ⟨(some 26), (.load (some 3)), [(.t 10)], none, []⟩,
 ⟨(some 27), (.load (some 2)), [(.t 5)], none, []⟩,
 ⟨(some 28), .mv, [(.t 2)], none, []⟩,
 ⟨(some 29), .mv, [(.t 3)], none, []⟩,
 ⟨(some 30), .mv, [(.t 11)], none, []⟩,
 ⟨(some 31), (.call false false false), [(.f 23), (.t 26), (.t 27), (.t 28), (.t 29), (.t 30)], none, []⟩,
 ⟨(some 32), (.fld 0 (some 2)), [(.t 31)], none, []⟩,
 ⟨none, (.store 2 none), [(.t 8), (.t 32)], none, []⟩,
 ⟨(some 9), .mv, [(.c (.int .i64 0))], none, []⟩] 0 [8, 9])
 .ret)))),
 [(.c 8 (some 2)), (.t 9)]⟩
theorem c6 : funC Try.prog [(0, [2, 3, 4, 5, 8]), (1, [2, 3, 5, 8, 10, 11, 12]), (2, [2, 3, 5, 8, 10, 11, 12, 23]), (3, [8, 9]), (4, [8, 9])] Try.f6 = some (unF l6) := by kernel_rfl
/-- acme/zone.Play -/
def l7 : LFun := ⟨3, 33, [],
 (.seq
 (.reg false [3, 4, 6] [3, 4, 6] [
 ⟨(some 3), .box, [(.t 0)], none, []⟩,
 ⟨(some 4), .box, [(.t 1)], none, []⟩,
 ⟨(some 6), (.alloc [(.int .i64 0), (.int .i64 0)]), [], none, []⟩,
 ⟨(some 7), .mv, [(.c (.int .i64 0))], none, []⟩] 0 [2, 3, 4, 6])
 (.seq
 (.reg false [18, 19, 8] [18, 19, 8] [
 ⟨(some 12), (.load (some 3)), [(.t 3)], none, []⟩,
 ⟨(some 13), .mv, [(.t 2)], none, []⟩,
 ⟨(some 14), (.fa 0), [(.t 4)], none, []⟩,
 ⟨(some 15), (.load (some 2)), [(.t 14)], none, []⟩,
 ⟨(some 16), (.fa 2), [(.t 4)], none, []⟩,
 ⟨(some 17), (.load (some 2)), [(.t 16)], none, []⟩,
 ⟨(some 18), (.bsl 2 [(.int .i64 0), (.int .i64 0)] 2 [0, 1]), [(.t 15), (.t 17)], none, []⟩,
 ⟨(some 19), (.call false true true), [(.f 22), (.t 12), (.t 13), (.t 18)], none, []⟩,
 ⟨(some 11), .mv, [(.t 19)], none, []⟩,
 ⟨(some 20), (.ext 0), [(.t 11)], none, []⟩,
 ⟨(some 21), (.ext 1), [(.t 11)], none, []⟩,
 ⟨(some 22), (.ext 2), [(.t 11)], none, []⟩,
 ⟨(some 8), (.alloc [.nil, (.sl none 1 []), (.sl none 1 [])]), [], none, []⟩,
 ⟨none, (.store 3 none), [(.t 8), (.t 20)], none, []⟩,
 ⟨(some 9), .mv, [(.t 21)], none, []⟩,
 ⟨(some 10), .mv, [(.t 22)], none, []⟩] 0 [2, 4, 6, 8, 9, 10])
 (.seq
 (.seq
 (.reg false [] [] [
 ⟨(some 23), .mv, [(.t 10)], none, []⟩,
 ⟨(some 24), (.bin 0 .neq), [(.t 23), (.c (.int .i64 0))], none, []⟩] 0 [2, 4, 6, 8, 9, 10, 24])
 (.cond (.t 24)
 (.seq
 (.reg false [] [] [
 ⟨(some 25), (.build [(.int .i64 0), (.int .i64 0)] []), [], none, []⟩,
 ⟨(some 26), .mv, [(.t 10)], none, []⟩,
 ⟨none, (.store 2 none), [(.t 6), (.t 25)], none, []⟩,
 ⟨(some 7), .mv, [(.t 26)], none, []⟩] 0 [6, 7])
 .ret)
 .skip))
 (.seq
 (.reg false [] [] [
 ⟨(some 27), (.load (some 3)), [(.t 8)], none, []⟩,
 ⟨(some 28), (.load (some 4)), [(.t 4)], none, []⟩,
 ⟨(some 29), .mv, [(.t 2)], none, []⟩,
 ⟨(some 30), .mv, [(.t 9)], none, []⟩,
 ⟨(some 31), (.call false false false), [(.f 24), (.t 27), (.t 28), (.t 29), (.t 30)], none, []⟩,
 ⟨(some 32), (.fld 0 (some 2)), [(.t 31)], none, []⟩,
 ⟨none, (.store 2 none), [(.t 6), (.t 32)], none, []⟩,
 ⟨(some 7), .mv, [(.c (.int .i64 0))], none, []⟩] 0 [6, 7])
 .ret)))),
 [(.c 6 (some 2)), (.t 7)]⟩
theorem c7 : funC Try.prog [(0, [2, 3, 4, 6]), (1, [2, 4, 6, 8, 9, 10]), (2, [2, 4, 6, 8, 9, 10, 24]), (3, [6, 7]), (4, [6, 7])] Try.f7 = some (unF l7) := by kernel_rfl
/-- acme/acmetop.armSpan -/
def l8 : LFun := ⟨2, 8, [],
 (.seq
 (.reg false [4] [4] [
 ⟨(some 4), (.alloc [(.int .i64 0), (.int .i64 0)]), [], none, []⟩] 0 [0, 1, 4])
 (.seq
 (.reg false [] [] [
 ⟨(some 5), .mv, [(.t 0)], none, []⟩,
 ⟨(some 6), .mv, [(.t 1)], none, []⟩,
 ⟨(some 7), (.build [(.int .i64 0), (.int .i64 0)] [(0, 1), (1, 1)]), [(.t 5), (.t 6)], none, []⟩,
 ⟨none, (.store 2 none), [(.t 4), (.t 7)], none, []⟩] 0 [4])
 .ret)),
 [(.c 4 (some 2))]⟩
theorem c8 : funC Try.prog [(0, [0, 1, 4]), (1, [4])] Try.f8 = some (unF l8) := by kernel_rfl
/-- acme/zone.Before -/
def l9 : LFun := ⟨3, 44, [],
 (.seq
 (.reg false [3, 5, 6] [3, 5, 6] [
 ⟨(some 3), .box, [(.t 0)], none, []⟩,
 ⟨(some 5), .box, [(.t 2)], none, []⟩,
 ⟨(some 6), (.alloc [(.int .i64 0), (.int .i64 0)]), [], none, []⟩,
 ⟨(some 7), .mv, [(.c (.int .i64 0))], none, []⟩] 0 [1, 3, 5, 6])
 (.seq
 (.reg false [8] [8] [
 ⟨(some 10), (.load (some 2)), [(.t 3)], none, []⟩,
 ⟨(some 11), .mv, [(.t 1)], none, []⟩,
 ⟨(some 12), (.load (some 4)), [(.t 5)], none, []⟩,
 ⟨(some 13), (.call false false false), [(.f 25), (.t 10), (.t 11), (.t 12)], none, []⟩,
 ⟨(some 9), .mv, [(.t 13)], none, []⟩,
 ⟨(some 14), (.ext 0), [(.t 9)], none, []⟩,
 ⟨(some 15), (.ext 1), [(.t 9)], none, []⟩,
 ⟨(some 8), (.alloc [(.int .i64 0), (.int .i64 0), (.int .i64 0), (.int .i64 0), (.int .i64 0), (.int .i64 0)]), [], none, []⟩,
 ⟨none, (.store 6 none), [(.t 8), (.t 14)], none, []⟩,
 ⟨(some 7), .mv, [(.t 15)], none, []⟩] 0 [3, 6, 7, 8])
 (.seq
 (.seq
 (.reg false [] [] [
 ⟨(some 16), .mv, [(.t 7)], none, []⟩,
 ⟨(some 17), (.bin 0 .neq), [(.t 16), (.c (.int .i64 0))], none, []⟩] 0 [3, 6, 7, 8, 17])
 (.cond (.t 17)
 (.seq
 (.reg false [] [] [
 ⟨(some 18), (.load (some 2)), [(.t 6)], none, []⟩,
 ⟨(some 19), .mv, [(.t 7)], none, []⟩,
 ⟨none, (.store 2 none), [(.t 6), (.t 18)], none, []⟩,
 ⟨(some 7), .mv, [(.t 19)], none, []⟩] 0 [6, 7])
 .ret)
 .skip))
 (.seq
 (.reg false [] [] [
 ⟨(some 20), (.fa 0), [(.t 3)], none, [22, 23, 24, 25, 26, 28, 29, 30, 31, 32, 33, 34, 35]⟩,
 ⟨(some 21), (.load none), [(.t 20)], none, [22, 23, 24, 25, 26, 28, 29, 30, 31, 32, 33, 34, 35]⟩,
 ⟨(some 22), (.load (some 6)), [(.t 8)], none, [20, 21, 23, 24, 25, 28, 29, 30, 31, 32, 33]⟩,
 ⟨(some 23), (.fa 4), [(.t 8)], none, [20, 21, 22, 28, 29, 30, 31, 32, 33]⟩,
 ⟨(some 24), (.load none), [(.t 23)], none, [20, 21, 22, 28, 29, 30, 31, 32, 33]⟩,
 ⟨(some 25), (.un .neg), [(.t 24)], none, [20, 21, 22, 28, 29, 30, 31, 32, 33]⟩,
 ⟨(some 26), (.call true false false), [(.f 26), (.t 22), (.t 25)], none, [20, 21, 28, 29, 30, 31, 32, 33]⟩,
 ⟨(some 27), (.bin 0 .add), [(.t 21), (.t 26)], none, [28, 29, 30, 31, 32, 33, 34, 35]⟩,
 ⟨(some 28), (.fa 1), [(.t 3)], none, [20, 21, 22, 23, 24, 25, 26, 27, 30, 31, 32, 33, 34]⟩,
 ⟨(some 29), (.load none), [(.t 28)], none, [20, 21, 22, 23, 24, 25, 26, 27, 30, 31, 32, 33, 34]⟩,
 ⟨(some 30), (.load (some 6)), [(.t 8)], none, [20, 21, 22, 23, 24, 25, 26, 27, 28, 29, 31, 32, 33]⟩,
 ⟨(some 31), (.fa 5), [(.t 8)], none, [20, 21, 22, 23, 24, 25, 26, 27, 28, 29, 30]⟩,
 ⟨(some 32), (.load none), [(.t 31)], none, [20, 21, 22, 23, 24, 25, 26, 27, 28, 29, 30]⟩,
 ⟨(some 33), (.un .neg), [(.t 32)], none, [20, 21, 22, 23, 24, 25, 26, 27, 28, 29, 30]⟩,
 ⟨(some 34), (.call true false false), [(.f 27), (.t 30), (.t 33)], none, [20, 21, 27, 28, 29]⟩,
 ⟨(some 35), (.bin 0 .add), [(.t 29), (.t 34)], none, [20, 21, 27]⟩,
 ⟨(some 36), (.build [(.int .i64 0), (.int .i64 0)] [(0, 1), (1, 1)]), [(.t 27), (.t 35)], none, []⟩,
 ⟨none, (.store 2 (some 6)), [(.t 6), (.t 36)], none, []⟩] 0 [6])
 (.seq
 (.seq
 (.reg false [] [] [
 ⟨(some 37), (.fa 0), [(.t 6)], none, []⟩,
 ⟨(some 38), (.load none), [(.t 37)], none, []⟩,
 ⟨(some 39), (.fa 1), [(.t 6)], none, []⟩,
 ⟨(some 40), (.load none), [(.t 39)], none, []⟩,
 ⟨(some 41), (.bin 0 .gtr), [(.t 38), (.t 40)], none, []⟩] 0 [6, 41])
 (.cond (.t 41)
 (.seq
 (.reg false [] [] [
 ⟨(some 42), (.build [(.int .i64 0), (.int .i64 0)] []), [], none, []⟩,
 ⟨none, (.store 2 none), [(.t 6), (.t 42)], none, []⟩,
 ⟨(some 7), .mv, [(.c (.int .i64 9))], none, []⟩] 0 [6, 7])
 .ret)
 .skip))
 (.seq
 (.reg false [] [] [
 ⟨(some 43), (.load (some 2)), [(.t 6)], none, []⟩,
 ⟨none, (.store 2 none), [(.t 6), (.t 43)], none, []⟩,
 ⟨(some 7), .mv, [(.c (.int .i64 0))], none, []⟩] 0 [6, 7])
 .ret)))))),
 [(.c 6 (some 2)), (.t 7)]⟩
theorem c9 : funC Try.prog [(0, [1, 3, 5, 6]), (1, [3, 6, 7, 8]), (2, [3, 6, 7, 8, 17]), (3, [6, 7]), (4, [6]), (5, [6, 41]), (6, [6, 7]), (7, [6, 7])] Try.f9 = some (unF l9) := by kernel_rfl
/-- acme/acmetop.armZone -/
def l10 : LFun := ⟨0, 35, [],
 (.seq
 (.reg false [] [] [
 ⟨(some 0), .mv, [(.c (.bool false))], none, []⟩] 0 [])
 (.seq
 (.reg false [1] [1] [
 ⟨(some 6), (.call false false false), [(.f 8), (.c (.int .i64 59840)), (.c (.int .i64 59960))], none, []⟩,
 ⟨(some 7), (.call false false false), [(.f 8), (.c (.int .i64 5)), (.c (.int .i64 8))], none, []⟩,
 ⟨(some 8), (.build [(.int .i64 0), (.int .i64 0)] [(0, 1), (1, 1)]), [(.c (.int .i64 4)), (.c (.int .i64 1))], none, []⟩,
 ⟨(some 9), (.build [(.int .i64 0), (.int .i64 0), (.int .i64 0), (.int .i64 0)] [(0, 2), (2, 2)]), [(.t 7), (.t 8)], none, []⟩,
 ⟨(some 10), (.call false false false), [(.f 9), (.t 6), (.c (.bool false)), (.t 9)], none, []⟩,
 ⟨(some 5), .mv, [(.t 10)], none, []⟩,
 ⟨(some 11), (.ext 0), [(.t 5)], none, []⟩,
 ⟨(some 12), (.ext 1), [(.t 5)], none, []⟩,
 ⟨(some 1), (.alloc [(.int .i64 0), (.int .i64 0)]), [], none, []⟩,
 ⟨none, (.store 2 none), [(.t 1), (.t 11)], none, []⟩,
 ⟨(some 2), .mv, [(.t 12)], none, []⟩] 0 [1, 2])
 (.seq
 (.reg false [] [] [
 ⟨(some 14), (.call false false false), [(.f 8), (.c (.int .i64 1000)), (.c (.int .i64 1009))], none, []⟩,
 ⟨(some 15), (.call false false false), [(.f 8), (.c (.int .i64 1020)), (.c (.int .i64 1029))], none, []⟩,
 ⟨(some 16), (.call false false false), [(.f 8), (.c (.int .i64 12)), (.c (.int .i64 28))], none, []⟩,
 ⟨(some 17), (.call false false false), [(.f 28), (.t 14), (.t 15), (.t 16)], none, []⟩,
 ⟨(some 13), .mv, [(.t 17)], none, []⟩,
 ⟨(some 18), (.ext 0), [(.t 13)], none, []⟩,
 ⟨(some 19), (.ext 1), [(.t 13)], none, []⟩,
 ⟨(some 3), .mv, [(.t 18)], none, []⟩,
 ⟨(some 4), .mv, [(.t 19)], none, []⟩] 0 [1, 2, 3, 4])
 (.seq
 (.reg false [] [] [
 ⟨(some 20), .mv, [(.t 2)], none, []⟩,
 ⟨(some 21), (.bin 0 .eql), [(.t 20), (.c (.int .i64 0))], none, []⟩,
 ⟨(some 22), .mv, [(.t 21)], none, []⟩,
 ⟨(some 23), .mv, [(.t 4)], (some (22, true)), []⟩,
 ⟨(some 24), (.bin 0 .eql), [(.t 23), (.c (.int .i64 0))], (some (22, true)), []⟩,
 ⟨(some 25), .pick, [(.t 22), (.t 24), (.c (.bool false))], none, []⟩,
 ⟨(some 26), .mv, [(.t 25)], none, []⟩,
 ⟨(some 27), (.load (some 2)), [(.t 1)], (some (26, true)), [28]⟩,
 ⟨(some 28), (.call true false false), [(.f 8), (.c (.int .i64 59820)), (.c (.int .i64 59928))], (some (26, true)), [27]⟩,
 ⟨(some 29), (.eqs false [(some .i64), (some .i64)]), [(.t 27), (.t 28)], (some (26, true)), []⟩,
 ⟨(some 30), .pick, [(.t 26), (.t 29), (.c (.bool false))], none, []⟩,
 ⟨(some 31), .mv, [(.t 30)], none, []⟩,
 ⟨(some 32), .mv, [(.t 3)], (some (31, true)), []⟩,
 ⟨(some 33), (.bin 0 .eql), [(.t 32), (.c (.int .i64 2))], (some (31, true)), []⟩,
 ⟨(some 34), .pick, [(.t 31), (.t 33), (.c (.bool false))], none, []⟩,
 ⟨(some 0), .mv, [(.t 34)], none, []⟩] 0 [0])
 .ret)))),
 [(.t 0)]⟩
theorem c10 : funC Try.prog [(0, []), (1, [1, 2]), (2, [1, 2, 3, 4]), (3, [0])] Try.f10 = some (unF l10) := by kernel_rfl
/-- (acme/acmetop.ArmForm).form -/
def l15 : LFun := ⟨1, 25, [],
 (.seq
 (.reg false [1, 2] [1, 2] [
 ⟨(some 1), .box, [(.t 0)], none, []⟩,
 ⟨(some 2), (.alloc [(.int .i64 0), (.int .i64 0), (.int .i64 0), (.int .i64 0), (.int .i64 0), (.int .i64 0), (.bool false), (.int .i64 0)]), [], none, []⟩] 0 [1, 2])
 (.seq
 (.reg false [] [] [
 ⟨(some 3), (.fa 0), [(.t 1)], none, []⟩,
 ⟨(some 4), (.load none), [(.t 3)], none, []⟩,
 ⟨(some 5), (.conv .i64), [(.t 4)], none, []⟩,
 ⟨(some 6), (.bin 0 .rem), [(.t 5), (.c (.int .i64 5000))], none, []⟩,
 ⟨(some 7), (.bin 0 .add), [(.c (.int .i64 1000)), (.t 6)], none, []⟩,
 ⟨(some 8), (.bin 0 .mul), [(.c (.int .i64 4)), (.t 7)], none, []⟩,
 ⟨(some 9), (.fa 1), [(.t 1)], none, []⟩,
 ⟨(some 10), (.load none), [(.t 9)], none, []⟩,
 ⟨(some 11), (.conv .i64), [(.t 10)], none, []⟩,
 ⟨(some 12), (.bin 0 .rem), [(.t 11), (.c (.int .i64 900))], none, []⟩,
 ⟨(some 13), (.bin 0 .add), [(.c (.int .i64 1)), (.t 12)], none, []⟩,
 ⟨(some 14), (.fa 2), [(.t 1)], none, []⟩,
 ⟨(some 15), (.load none), [(.t 14)], none, []⟩,
 ⟨(some 16), (.conv .i64), [(.t 15)], none, []⟩,
 ⟨(some 17), (.bin 0 .rem), [(.t 16), (.c (.int .i64 900))], none, []⟩,
 ⟨(some 18), (.bin 0 .add), [(.c (.int .i64 1)), (.t 17)], none, []⟩,
 ⟨(some 19), (.fa 0), [(.t 1)], none, []⟩,
 ⟨(some 20), (.load none), [(.t 19)], none, []⟩,
 ⟨(some 21), (.conv .i64), [(.t 20)], none, []⟩,
 ⟨(some 22), (.bin 0 .rem), [(.t 21), (.c (.int .i64 3))], none, []⟩,
 ⟨(some 23), (.bin 0 .add), [(.c (.int .i64 1)), (.t 22)], none, []⟩,
 ⟨(some 24), (.build [(.int .i64 0), (.int .i64 0), (.int .i64 0), (.int .i64 0), (.int .i64 0), (.int .i64 0), (.bool false), (.int .i64 0)] [(0, 1), (1, 1), (2, 1), (3, 1), (4, 1), (5, 1)]), [(.t 8), (.t 13), (.t 18), (.c (.int .i64 900)), (.c (.int .i64 900)), (.t 23)], none, []⟩,
 ⟨none, (.store 8 none), [(.t 2), (.t 24)], none, []⟩] 0 [2])
 .ret)),
 [(.c 2 (some 8))]⟩
theorem c15 : funC Try.prog [(0, [1, 2]), (1, [2])] Try.f15 = some (unF l15) := by kernel_rfl
/-- acme/fit.Show -/
def l16 : LFun := ⟨5, 64, [],
 (.seq
 (.reg false [5, 9, 10, 11] [5, 9, 10, 11] [
 ⟨(some 5), .box, [(.t 0)], none, []⟩,
 ⟨(some 9), .box, [(.t 4)], none, []⟩,
 ⟨(some 10), (.alloc [(.sl none 2 []), (.int .i64 0), (.int .i64 0)]), [], none, []⟩,
 ⟨(some 11), (.alloc [(.sl none 2 []), (.int .i64 0), (.int .i64 0)]), [], none, []⟩,
 ⟨(some 12), .mv, [(.c (.bool false))], none, []⟩,
 ⟨(some 13), .mv, [(.c (.int .i64 0))], none, []⟩] 0 [1, 2, 3, 5, 9, 10, 11])
 (.seq
 (.block 0
 (.seq
 (.reg false [] [] [
 ⟨(some 18), (.load (some 8)), [(.t 5)], none, []⟩,
 ⟨(some 19), (.call false false false), [(.f 34), (.t 18)], none, []⟩,
 ⟨(some 20), (.bin 0 .neq), [(.t 19), (.c (.int .i64 0))], none, []⟩,
 ⟨(some 17), .mv, [(.t 20)], none, []⟩] 0 [1, 2, 3, 5, 9, 10, 11, 17])
 (.cond (.t 17)
 (.seq
 (.reg false [] [] [
 ⟨(some 21), (.load (some 3)), [(.t 10)], none, [22]⟩,
 ⟨(some 22), (.load (some 3)), [(.t 11)], none, [21, 10]⟩,
 ⟨none, (.store 3 (some 10)), [(.t 10), (.t 21)], none, [22]⟩,
 ⟨none, (.store 3 (some 11)), [(.t 11), (.t 22)], none, []⟩,
 ⟨(some 12), .mv, [(.c (.bool false))], none, []⟩,
 ⟨(some 13), .mv, [(.c (.int .i64 2))], none, []⟩] 0 [10, 11, 12, 13])
 .ret)
 (.seq
 (.seq
 (.reg false [25] [25] [
 ⟨(some 24), .mv, [(.t 3)], none, []⟩,
 ⟨(some 25), (.bsl 1 [(.int .i64 0)] 1 [0]), [(.t 24)], none, []⟩,
 ⟨(some 26), (.call false false false), [(.f 35), (.c (.int .i64 1)), (.c (.int .i64 60)), (.t 25)], none, []⟩,
 ⟨(some 27), (.un .not), [(.t 26)], none, []⟩,
 ⟨(some 23), .mv, [(.t 27)], none, []⟩] 0 [1, 2, 3, 5, 9, 10, 11, 23])
 (.cond (.t 23)
 .skip
 (.seq
 (.reg false [30] [30] [
 ⟨(some 28), .mv, [(.t 1)], none, []⟩,
 ⟨(some 29), .mv, [(.t 2)], none, []⟩,
 ⟨(some 30), (.bsl 1 [(.int .i64 0)] 2 [0, 1]), [(.t 28), (.t 29)], none, []⟩,
 ⟨(some 31), (.call false false false), [(.f 35), (.c (.int .i64 (-10000))), (.c (.int .i64 10000)), (.t 30)], none, []⟩,
 ⟨(some 32), (.un .not), [(.t 31)], none, []⟩,
 ⟨(some 23), .mv, [(.t 32)], none, []⟩] 0 [1, 2, 3, 5, 9, 10, 11, 23])
 (.cond (.t 23)
 .skip
 (.reg false [] [] [
 ⟨(some 33), (.load (some 2)), [(.t 9)], none, []⟩,
 ⟨(some 34), (.call false false false), [(.f 36), (.t 33)], none, []⟩,
 ⟨(some 35), (.bin 0 .neq), [(.t 34), (.c (.int .i64 0))], none, []⟩,
 ⟨(some 23), .mv, [(.t 35)], none, []⟩] 0 [1, 2, 3, 5, 9, 10, 11, 23])))))
 (.cond (.t 23)
 (.seq
 (.reg false [] [] [
 ⟨(some 36), (.load (some 3)), [(.t 10)], none, [37]⟩,
 ⟨(some 37), (.load (some 3)), [(.t 11)], none, [36, 10]⟩,
 ⟨none, (.store 3 (some 10)), [(.t 10), (.t 36)], none, [37]⟩,
 ⟨none, (.store 3 (some 11)), [(.t 11), (.t 37)], none, []⟩,
 ⟨(some 12), .mv, [(.c (.bool false))], none, []⟩,
 ⟨(some 13), .mv, [(.c (.int .i64 3))], none, []⟩] 0 [10, 11, 12, 13])
 .ret)
 .skip)))))
 (.seq
 (.reg false [14] [14] [
 ⟨(some 38), (.load (some 8)), [(.t 5)], none, []⟩,
 ⟨(some 39), (.load (some 2)), [(.t 9)], none, []⟩,
 ⟨(some 40), (.build [(.int .i64 0), (.int .i64 0)] [(0, 2)]), [(.t 39)], none, []⟩,
 ⟨(some 41), (.build [(.int .i64 0), (.int .i64 0), (.int .i64 0), (.int .i64 0), (.int .i64 0), (.int .i64 0), (.bool false), (.int .i64 0), (.int .i64 0), (.int .i64 0)] [(0, 8), (8, 2)]), [(.t 38), (.t 40)], none, []⟩,
 ⟨(some 14), (.alloc [(.int .i64 0), (.int .i64 0), (.int .i64 0), (.int .i64 0), (.int .i64 0), (.int .i64 0), (.bool false), (.int .i64 0), (.int .i64 0), (.int .i64 0)]), [], none, []⟩,
 ⟨none, (.store 10 none), [(.t 14), (.t 41)], none, []⟩] 0 [1, 2, 3, 9, 10, 11, 14])
 (.seq
 (.reg false [45, 49, 15, 16] [45, 49, 15, 16] [
 ⟨(some 42), (.load (some 10)), [(.t 14)], none, [43, 44, 46, 47, 48, 15, 16]⟩,
 ⟨(some 43), .mv, [(.t 1)], none, [42, 44, 46, 47, 48, 15, 16]⟩,
 ⟨(some 44), .mv, [(.t 3)], none, [42, 43, 46, 47, 48, 15, 16]⟩,
 ⟨(some 45), (.call true false true), [(.f 37), (.t 42), (.t 43), (.t 44), (.f 38), (.f 39)], none, [46, 47, 48, 15, 16]⟩,
 ⟨(some 46), (.load (some 10)), [(.t 14)], none, [42, 43, 44, 45, 47, 48, 15, 16]⟩,
 ⟨(some 47), .mv, [(.t 2)], none, [42, 43, 44, 45, 46, 48, 15, 16]⟩,
 ⟨(some 48), .mv, [(.t 3)], none, [42, 43, 44, 45, 46, 47, 15, 16]⟩,
 ⟨(some 49), (.call false false true), [(.f 37), (.t 46), (.t 47), (.t 48), (.f 39), (.f 38)], none, [15, 16]⟩,
 ⟨(some 15), (.alloc [(.sl none 2 []), (.int .i64 0), (.int .i64 0)]), [], none, [42, 43, 44, 45, 46, 47, 48, 49, 16]⟩,
 ⟨(some 16), (.alloc [(.sl none 2 []), (.int .i64 0), (.int .i64 0)]), [], none, [42, 43, 44, 45, 46, 47, 48, 49, 15]⟩,
 ⟨none, (.store 3 (some 15)), [(.t 15), (.t 45)], none, []⟩,
 ⟨none, (.store 3 (some 16)), [(.t 16), (.t 49)], none, []⟩] 0 [9, 10, 11, 15, 16])
 (.seq
 (.seq
 (.reg false [53] [53] [
 ⟨(some 50), (.load (some 2)), [(.t 9)], none, []⟩,
 ⟨(some 51), (.load (some 3)), [(.t 15)], none, []⟩,
 ⟨(some 52), (.load (some 3)), [(.t 16)], none, []⟩,
 ⟨(some 53), (.bsl 3 [.nil, (.int .i64 0), (.int .i64 0)] 2 [0, 1]), [(.t 51), (.t 52)], none, []⟩,
 ⟨(some 54), (.call false false false), [(.f 40), (.t 50), (.t 53)], none, []⟩,
 ⟨(some 55), (.bin 0 .neq), [(.t 54), (.c (.int .i64 0))], none, []⟩] 0 [9, 10, 11, 15, 16, 55])
 (.cond (.t 55)
 (.seq
 (.reg false [] [] [
 ⟨(some 56), (.load (some 3)), [(.t 10)], none, [57]⟩,
 ⟨(some 57), (.load (some 3)), [(.t 11)], none, [56, 10]⟩,
 ⟨none, (.store 3 (some 10)), [(.t 10), (.t 56)], none, [57]⟩,
 ⟨none, (.store 3 (some 11)), [(.t 11), (.t 57)], none, []⟩,
 ⟨(some 12), .mv, [(.c (.bool false))], none, []⟩,
 ⟨(some 13), .mv, [(.c (.int .i64 9))], none, []⟩] 0 [10, 11, 12, 13])
 .ret)
 .skip))
 (.seq
 (.reg false [] [] [
 ⟨(some 58), (.load (some 3)), [(.t 15)], none, [59, 60, 61, 62, 63]⟩,
 ⟨(some 59), (.load (some 3)), [(.t 16)], none, [58, 60, 61, 62, 63, 10]⟩,
 ⟨(some 60), (.load (some 3)), [(.t 15)], none, [58, 59, 61, 62]⟩,
 ⟨(some 61), (.load (some 3)), [(.t 16)], none, [58, 59, 60, 62]⟩,
 ⟨(some 62), (.load (some 2)), [(.t 9)], none, [58, 59, 60, 61]⟩,
 ⟨(some 63), (.call true false false), [(.f 41), (.t 60), (.t 61), (.t 62)], none, [58, 59]⟩,
 ⟨none, (.store 3 (some 10)), [(.t 10), (.t 58)], none, [59]⟩,
 ⟨none, (.store 3 (some 11)), [(.t 11), (.t 59)], none, []⟩,
 ⟨(some 12), .mv, [(.t 63)], none, []⟩,
 ⟨(some 13), .mv, [(.c (.int .i64 0))], none, []⟩] 0 [10, 11, 12, 13])
 .ret)))))),
 [(.c 10 (some 3)), (.c 11 (some 3)), (.t 12), (.t 13)]⟩
theorem c16 : funC Try.prog [(0, [1, 2, 3, 5, 9, 10, 11]), (1, [1, 2, 3, 5, 9, 10, 11, 17]), (2, [10, 11, 12, 13]), (3, [1, 2, 3, 5, 9, 10, 11, 23]), (4, [1, 2, 3, 5, 9, 10, 11, 23]), (5, [1, 2, 3, 5, 9, 10, 11, 23]), (6, [10, 11, 12, 13]), (7, [1, 2, 3, 9, 10, 11, 14]), (8, [9, 10, 11, 15, 16]), (9, [9, 10, 11, 15, 16, 55]), (10, [10, 11, 12, 13]), (11, [10, 11, 12, 13])] Try.f16 = some (unF l16) := by kernel_rfl
/-- (acme/acmetop.ArmForm).depth -/
def l17 : LFun := ⟨1, 22, [],
 (.seq
 (.reg false [1, 2] [1, 2] [
 ⟨(some 1), .box, [(.t 0)], none, []⟩,
 ⟨(some 2), (.alloc [(.int .i64 0), (.int .i64 0)]), [], none, []⟩] 0 [1, 2])
 (.seq
 (.reg false [] [] [
 ⟨(some 5), (.fa 3), [(.t 1)], none, [10, 11, 12, 13, 14]⟩,
 ⟨(some 6), (.ixa 2 1), [(.t 5), (.c (.int .i64 0))], none, [10, 11, 12, 13, 14]⟩,
 ⟨(some 7), (.load none), [(.t 6)], none, [10, 11, 12, 13, 14]⟩,
 ⟨(some 8), (.conv .i64), [(.t 7)], none, [10, 11, 12, 13, 14]⟩,
 ⟨(some 9), (.bin 0 .mul), [(.c (.int .i64 7)), (.t 8)], none, [10, 11, 12, 13, 14]⟩,
 ⟨(some 10), (.fa 3), [(.t 1)], none, [5, 6, 7, 8, 9, 3]⟩,
 ⟨(some 11), (.ixa 2 1), [(.t 10), (.c (.int .i64 1))], none, [5, 6, 7, 8, 9, 3]⟩,
 ⟨(some 12), (.load none), [(.t 11)], none, [5, 6, 7, 8, 9, 3]⟩,
 ⟨(some 13), (.conv .i64), [(.t 12)], none, [5, 6, 7, 8, 9, 3]⟩,
 ⟨(some 14), (.bin 0 .mul), [(.c (.int .i64 7)), (.t 13)], none, [5, 6, 7, 8, 9, 3]⟩,
 ⟨(some 3), .mv, [(.t 9)], none, [10, 11, 12, 13, 14]⟩,
 ⟨(some 4), .mv, [(.t 14)], none, []⟩] 0 [2, 3, 4])
 (.seq
 (.reg false [] [] [
 ⟨(some 15), .mv, [(.t 3)], none, []⟩,
 ⟨(some 16), .mv, [(.t 4)], none, []⟩,
 ⟨(some 17), .min, [(.t 15), (.t 16)], none, []⟩,
 ⟨(some 18), .mv, [(.t 3)], none, []⟩,
 ⟨(some 19), .mv, [(.t 4)], none, []⟩,
 ⟨(some 20), .max, [(.t 18), (.t 19)], none, []⟩,
 ⟨(some 21), (.call false false false), [(.f 8), (.t 17), (.t 20)], none, []⟩,
 ⟨none, (.store 2 none), [(.t 2), (.t 21)], none, []⟩] 0 [2])
 .ret))),
 [(.c 2 (some 2))]⟩
theorem c17 : funC Try.prog [(0, [1, 2]), (1, [2, 3, 4]), (2, [2])] Try.f17 = some (unF l17) := by kernel_rfl
/-- acme/acmetop.armFit -/
def l18 : LFun := ⟨0, 41, [],
 (.seq
 (.reg false [] [] [
 ⟨(some 0), .mv, [(.c (.bool false))], none, []⟩] 0 [])
 (.seq
 (.reg false [7, 1] [7, 1] [
 ⟨(some 6), (.call false false false), [(.f 19)], none, []⟩,
 ⟨(some 7), (.call false false true), [(.f 42), (.t 6), (.c (.int .i64 2)), (.c (.int .i64 0))], none, []⟩,
 ⟨(some 1), (.alloc [(.sl none 2 []), (.int .i64 0), (.int .i64 0)]), [], none, []⟩,
 ⟨none, (.store 3 none), [(.t 1), (.t 7)], none, []⟩] 0 [1])
 (.seq
 (.reg false [] [] [
 ⟨(some 8), (.fa 0), [(.t 1)], none, []⟩,
 ⟨(some 9), (.load none), [(.t 8)], none, []⟩,
 ⟨(some 10), (.build [(.int .i64 0), (.int .i64 0)] [(0, 1), (1, 1)]), [(.c (.int .i64 7510)), (.c (.int .i64 12510))], none, []⟩,
 ⟨(some 11), (.ixs 2), [(.t 9), (.c (.int .i64 1))], none, []⟩,
 ⟨none, (.store 2 none), [(.t 11), (.t 10)], none, []⟩] 0 [1])
 (.seq
 (.reg false [] [] [
 ⟨(some 13), (.call true false false), [(.f 19)], none, [14]⟩,
 ⟨(some 14), (.load (some 3)), [(.t 1)], none, [13, 15]⟩,
 ⟨(some 15), (.call true false false), [(.f 8), (.c (.int .i64 (-3000))), (.c (.int .i64 3000))], none, [14]⟩,
 ⟨(some 16), (.call false false false), [(.f 20), (.t 13), (.t 14), (.t 15)], none, []⟩,
 ⟨(some 12), .mv, [(.t 16)], none, []⟩,
 ⟨(some 17), (.ext 0), [(.t 12)], none, [18]⟩,
 ⟨(some 18), (.ext 1), [(.t 12)], none, [17, 2]⟩,
 ⟨(some 2), .mv, [(.t 17)], none, [18]⟩,
 ⟨(some 3), .mv, [(.t 18)], none, []⟩] 0 [2, 3])
 (.seq
 (.reg false [22] [22] [
 ⟨(some 20), (.call false false false), [(.f 19)], none, []⟩,
 ⟨(some 21), (.call false false false), [(.f 19)], none, []⟩,
 ⟨(some 22), (.call false false true), [(.f 42), (.t 21), (.c (.int .i64 2)), (.c (.int .i64 10))], none, []⟩,
 ⟨(some 23), (.call false false false), [(.f 8), (.c (.int .i64 (-3000))), (.c (.int .i64 3000))], none, []⟩,
 ⟨(some 24), (.call false false false), [(.f 43), (.t 20), (.t 22), (.t 23)], none, []⟩,
 ⟨(some 19), .mv, [(.t 24)], none, []⟩,
 ⟨(some 25), (.ext 0), [(.t 19)], none, []⟩,
 ⟨(some 26), (.ext 1), [(.t 19)], none, []⟩,
 ⟨(some 4), .mv, [(.t 25)], none, []⟩,
 ⟨(some 5), .mv, [(.t 26)], none, []⟩] 0 [2, 3, 4, 5])
 (.seq
 (.reg false [] [] [
 ⟨(some 27), .mv, [(.t 3)], none, []⟩,
 ⟨(some 28), (.bin 0 .eql), [(.t 27), (.c (.int .i64 0))], none, []⟩,
 ⟨(some 29), .mv, [(.t 28)], none, []⟩,
 ⟨(some 30), .mv, [(.t 5)], (some (29, true)), []⟩,
 ⟨(some 31), (.bin 0 .eql), [(.t 30), (.c (.int .i64 0))], (some (29, true)), []⟩,
 ⟨(some 32), .pick, [(.t 29), (.t 31), (.c (.bool false))], none, []⟩,
 ⟨(some 33), .mv, [(.t 32)], none, []⟩,
 ⟨(some 34), .mv, [(.t 2)], (some (33, true)), []⟩,
 ⟨(some 35), (.bin 0 .eql), [(.t 34), (.c (.int .i64 9))], (some (33, true)), []⟩,
 ⟨(some 36), .pick, [(.t 33), (.t 35), (.c (.bool false))], none, []⟩,
 ⟨(some 37), .mv, [(.t 36)], none, []⟩,
 ⟨(some 38), .mv, [(.t 4)], (some (37, true)), []⟩,
 ⟨(some 39), (.bin 0 .eql), [(.t 38), (.c (.int .i64 17))], (some (37, true)), []⟩,
 ⟨(some 40), .pick, [(.t 37), (.t 39), (.c (.bool false))], none, []⟩,
 ⟨(some 0), .mv, [(.t 40)], none, []⟩] 0 [0])
 .ret)))))),
 [(.t 0)]⟩
theorem c18 : funC Try.prog [(0, []), (1, [1]), (2, [1]), (3, [2, 3]), (4, [2, 3, 4, 5]), (5, [0])] Try.f18 = some (unF l18) := by kernel_rfl
/-- acme/acmetop.armMetric -/
def l19 : LFun := ⟨0, 2, [],
 (.seq
 (.reg false [0] [0] [
 ⟨(some 0), (.alloc [(.int .i64 0), (.int .i64 0), (.int .i64 0), (.int .i64 0), (.int .i64 0), (.int .i64 0), (.bool false), (.int .i64 0)]), [], none, []⟩] 0 [0])
 (.seq
 (.reg false [] [] [
 ⟨(some 1), (.build [(.int .i64 0), (.int .i64 0), (.int .i64 0), (.int .i64 0), (.int .i64 0), (.int .i64 0), (.bool false), (.int .i64 0)] [(0, 1), (1, 1), (2, 1), (3, 1), (4, 1), (5, 1)]), [(.c (.int .i64 10000)), (.c (.int .i64 577)), (.c (.int .i64 577)), (.c (.int .i64 3000)), (.c (.int .i64 3000)), (.c (.int .i64 1))], none, []⟩,
 ⟨none, (.store 8 none), [(.t 0), (.t 1)], none, []⟩] 0 [0])
 .ret)),
 [(.c 0 (some 8))]⟩
theorem c19 : funC Try.prog [(0, [0]), (1, [0])] Try.f19 = some (unF l19) := by kernel_rfl
/-- acme/fit.Screw -/
def l20 : LFun := ⟨3, 32, [],
 (.seq
 (.reg false [3, 4, 5] [3, 4, 5] [
 ⟨(some 3), .box, [(.t 0)], none, []⟩,
 ⟨(some 4), .box, [(.t 1)], none, []⟩,
 ⟨(some 5), .box, [(.t 2)], none, []⟩,
 ⟨(some 6), .mv, [(.c (.int .i64 0))], none, []⟩,
 ⟨(some 7), .mv, [(.c (.int .i64 0))], none, []⟩] 0 [3, 4, 5])
 (.seq
 (.reg false [13, 8] [13, 8] [
 ⟨(some 10), (.load (some 8)), [(.t 3)], none, []⟩,
 ⟨(some 11), (.load (some 2)), [(.t 5)], none, []⟩,
 ⟨(some 12), (.load (some 3)), [(.t 4)], none, []⟩,
 ⟨(some 13), (.bsl 3 [.nil, (.int .i64 0), (.int .i64 0)] 1 [0]), [(.t 12)], none, []⟩,
 ⟨(some 14), (.call false false false), [(.f 44), (.t 10), (.t 11), (.t 13)], none, []⟩,
 ⟨(some 9), .mv, [(.t 14)], none, []⟩,
 ⟨(some 15), (.ext 0), [(.t 9)], none, []⟩,
 ⟨(some 16), (.ext 1), [(.t 9)], none, []⟩,
 ⟨(some 8), (.alloc [(.int .i64 0), (.int .i64 0), (.int .i64 0), (.int .i64 0), (.int .i64 0), (.int .i64 0), (.bool false), (.int .i64 0), (.int .i64 0), (.int .i64 0)]), [], none, []⟩,
 ⟨none, (.store 10 none), [(.t 8), (.t 15)], none, []⟩,
 ⟨(some 7), .mv, [(.t 16)], none, []⟩] 0 [4, 7, 8])
 (.seq
 (.block 0
 (.seq
 (.reg false [] [] [
 ⟨(some 18), .mv, [(.t 7)], none, []⟩,
 ⟨(some 19), (.bin 0 .neq), [(.t 18), (.c (.int .i64 0))], none, []⟩,
 ⟨(some 17), .mv, [(.t 19)], none, []⟩] 0 [4, 7, 8, 17])
 (.cond (.t 17)
 (.seq
 (.reg false [] [] [
 ⟨(some 20), .mv, [(.t 7)], none, []⟩,
 ⟨(some 6), .mv, [(.c (.int .i64 0))], none, []⟩,
 ⟨(some 7), .mv, [(.t 20)], none, []⟩] 0 [6, 7])
 .ret)
 (.seq
 (.reg false [] [] [
 ⟨(some 22), (.load (some 10)), [(.t 8)], none, []⟩,
 ⟨(some 23), (.call false false false), [(.f 45), (.t 22)], none, []⟩,
 ⟨(some 24), (.bin 0 .eql), [(.t 23), (.c (.int .i64 0))], none, []⟩,
 ⟨(some 21), .mv, [(.t 24)], none, []⟩] 0 [4, 8, 21])
 (.cond (.t 21)
 (.seq
 (.reg false [] [] [
 ⟨(some 6), .mv, [(.c (.int .i64 0))], none, []⟩,
 ⟨(some 7), .mv, [(.c (.int .i64 7))], none, []⟩] 0 [6, 7])
 .ret)
 .skip)))))
 (.seq
 (.reg false [] [] [
 ⟨(some 25), (.load (some 10)), [(.t 8)], none, [26, 28]⟩,
 ⟨(some 26), (.load (some 3)), [(.t 4)], none, [25, 28]⟩,
 ⟨(some 27), (.call true false false), [(.f 46), (.t 25), (.t 26), (.c (.int .i64 1))], none, [28]⟩,
 ⟨(some 28), (.load (some 10)), [(.t 8)], none, [25, 26, 27]⟩,
 ⟨(some 29), (.call false false false), [(.f 45), (.t 28)], none, []⟩,
 ⟨(some 30), (.bin 0 .mul), [(.c (.int .i64 4)), (.t 29)], none, []⟩,
 ⟨(some 31), (.call false false false), [(.f 38), (.t 27), (.t 30)], none, []⟩,
 ⟨(some 6), .mv, [(.t 31)], none, []⟩,
 ⟨(some 7), .mv, [(.c (.int .i64 0))], none, []⟩] 0 [6, 7])
 .ret)))),
 [(.t 6), (.t 7)]⟩
theorem c20 : funC Try.prog [(0, [3, 4, 5]), (1, [4, 7, 8]), (2, [4, 7, 8, 17]), (3, [6, 7]), (4, [4, 8, 21]), (5, [6, 7]), (6, [6, 7])] Try.f20 = some (unF l20) := by kernel_rfl
/-- acme/zone.open -/
def b22_0 : LCode :=
 (.seq
 (.reg true [] [] [
 ⟨(some 23), (.bin 0 .lss), [(.t 22), (.t 21)], none, []⟩] 0 [1, 6, 7, 20, 21, 22, 23])
 (.seq
 (.cond (.t 23)
 .skip
 (.exit 0))
 (.seq
 (.block 1
 (.seq
 (.reg true [11] [11] [
 ⟨(some 24), (.ixs 2), [(.t 20), (.t 22)], none, []⟩,
 ⟨(some 25), (.load (some 2)), [(.t 24)], none, []⟩,
 ⟨(some 11), (.alloc [(.int .i64 0), (.int .i64 0)]), [], none, []⟩,
 ⟨none, (.store 2 none), [(.t 11), (.t 25)], none, []⟩] 0 [1, 6, 11, 20, 21, 22])
 (.seq
 (.seq
 (.reg true [] [] [
 ⟨(some 26), (.load (some 3)), [(.t 6)], none, []⟩,
 ⟨(some 27), (.load (some 2)), [(.t 11)], none, []⟩,
 ⟨(some 28), (.call false false false), [(.f 49), (.t 26), (.t 27)], none, []⟩,
 ⟨(some 29), (.un .not), [(.t 28)], none, []⟩] 0 [1, 6, 20, 21, 22, 29])
 (.cond (.t 29)
 (.seq
 (.reg true [] [] [
 ⟨(some 30), (.load (some 3)), [(.t 6)], none, []⟩,
 ⟨none, (.store 3 none), [(.t 6), (.t 30)], none, []⟩,
 ⟨(some 7), .mv, [(.c (.int .i64 0))], none, []⟩,
 ⟨(some 8), .mv, [(.c (.int .i64 7))], none, []⟩] 0 [6, 7, 8])
 .ret)
 .skip))
 (.seq
 (.reg true [] [] [
 ⟨(some 32), (.load (some 3)), [(.t 6)], none, []⟩,
 ⟨(some 33), .mv, [(.t 1)], none, []⟩,
 ⟨(some 34), (.call false false false), [(.f 50), (.t 32), (.t 33)], none, []⟩,
 ⟨(some 31), .mv, [(.t 34)], none, []⟩,
 ⟨(some 35), (.ext 0), [(.t 31)], none, []⟩,
 ⟨(some 36), (.ext 1), [(.t 31)], none, []⟩,
 ⟨(some 7), .mv, [(.t 35)], none, []⟩,
 ⟨(some 8), .mv, [(.t 36)], none, []⟩] 0 [1, 6, 7, 8, 20, 21, 22])
 (.seq
 (.reg true [] [] [
 ⟨(some 37), .mv, [(.t 8)], none, []⟩,
 ⟨(some 38), (.bin 0 .neq), [(.t 37), (.c (.int .i64 0))], none, []⟩] 0 [1, 6, 7, 8, 20, 21, 22, 38])
 (.cond (.t 38)
 (.seq
 (.reg true [] [] [
 ⟨(some 39), (.load (some 3)), [(.t 6)], none, []⟩,
 ⟨(some 40), .mv, [(.t 8)], none, []⟩,
 ⟨none, (.store 3 none), [(.t 6), (.t 39)], none, []⟩,
 ⟨(some 7), .mv, [(.c (.int .i64 0))], none, []⟩,
 ⟨(some 8), .mv, [(.t 40)], none, []⟩] 0 [6, 7, 8])
 .ret)
 .skip))))))
 (.reg true [] [] [
 ⟨(some 41), (.bin 0 .add), [(.t 22), (.c (.int .i64 1))], none, []⟩,
 ⟨(some 22), .mv, [(.t 41)], none, []⟩] 0 [1, 6, 7, 20, 21, 22]))))
def l22 : LFun := ⟨3, 44, [],
 (.seq
 (.reg false [3, 6] [3, 6] [
 ⟨(some 3), .box, [(.t 0)], none, []⟩,
 ⟨(some 6), (.alloc [(.sl none 1 []), (.sl none 1 []), (.sl none 1 [])]), [], none, []⟩,
 ⟨(some 7), .mv, [(.c (.int .i64 0))], none, []⟩,
 ⟨(some 8), .mv, [(.c (.int .i64 0))], none, []⟩] 0 [1, 2, 3, 6, 7])
 (.seq
 (.reg false [] [] [
 ⟨(some 12), (.load (some 3)), [(.t 3)], none, []⟩,
 ⟨(some 13), (.build [(.sl none 1 []), (.sl none 1 []), (.sl none 1 [])] [(0, 3)]), [(.t 12)], none, []⟩,
 ⟨none, (.store 3 none), [(.t 6), (.t 13)], none, []⟩] 0 [1, 2, 3, 6, 7])
 (.seq
 (.seq
 (.reg false [] [] [
 ⟨(some 14), (.load (some 3)), [(.t 3)], none, []⟩,
 ⟨(some 15), (.call false false false), [(.f 48), (.t 14)], none, []⟩,
 ⟨(some 9), .mv, [(.t 15)], none, []⟩] 0 [1, 2, 6, 7, 9])
 (.seq
 (.reg false [] [] [
 ⟨(some 16), .mv, [(.t 9)], none, []⟩,
 ⟨(some 17), (.bin 0 .neq), [(.t 16), (.c (.int .i64 0))], none, []⟩] 0 [1, 2, 6, 7, 9, 17])
 (.cond (.t 17)
 (.seq
 (.reg false [] [] [
 ⟨(some 18), (.load (some 3)), [(.t 6)], none, []⟩,
 ⟨(some 19), .mv, [(.t 9)], none, []⟩,
 ⟨none, (.store 3 none), [(.t 6), (.t 18)], none, []⟩,
 ⟨(some 7), .mv, [(.c (.int .i64 0))], none, []⟩,
 ⟨(some 8), .mv, [(.t 19)], none, []⟩] 0 [6, 7, 8])
 .ret)
 .skip)))
 (.seq
 (.seq
 (.reg false [] [] [
 ⟨(some 20), .mv, [(.t 2)], none, []⟩,
 ⟨(some 21), .len, [(.t 20)], none, []⟩,
 ⟨(some 22), .mv, [(.c (.int .i64 0))], none, []⟩] 0 [1, 6, 7, 20, 21, 22])
 (.block 0
 (.loop b22_0)))
 (.seq
 (.reg false [] [] [
 ⟨(some 42), (.load (some 3)), [(.t 6)], none, []⟩,
 ⟨(some 43), .mv, [(.t 7)], none, []⟩,
 ⟨none, (.store 3 none), [(.t 6), (.t 42)], none, []⟩,
 ⟨(some 7), .mv, [(.t 43)], none, []⟩,
 ⟨(some 8), .mv, [(.c (.int .i64 0))], none, []⟩] 0 [6, 7, 8])
 .ret))))),
 [(.c 6 (some 3)), (.t 7), (.t 8)]⟩
theorem c22 : funC Try.prog [(0, [1, 2, 3, 6, 7]), (1, [1, 2, 3, 6, 7]), (2, [1, 2, 6, 7, 9]), (3, [1, 2, 6, 7, 9, 17]), (4, [6, 7, 8]), (5, [1, 6, 7, 20, 21, 22]), (6, [1, 6, 7, 20, 21, 22, 23]), (7, [1, 6, 11, 20, 21, 22]), (8, [1, 6, 20, 21, 22, 29]), (9, [6, 7, 8]), (10, [1, 6, 7, 8, 20, 21, 22]), (11, [1, 6, 7, 8, 20, 21, 22, 38]), (12, [6, 7, 8]), (13, [1, 6, 7, 20, 21, 22]), (14, [6, 7, 8])] Try.f22 = some (unF l22) := by kernel_rfl
/-- (acme/zone.table).zone -/
def l23 : LFun := ⟨5, 54, [],
 (.seq
 (.reg false [5, 6, 10] [5, 6, 10] [
 ⟨(some 5), .box, [(.t 0)], none, []⟩,
 ⟨(some 6), .box, [(.t 1)], none, []⟩,
 ⟨(some 10), (.alloc [(.int .i64 0), (.int .i64 0)]), [], none, []⟩] 0 [2, 3, 4, 5, 6, 10])
 (.seq
 (.reg false [] [] [
 ⟨(some 13), (.fa 0), [(.t 5)], none, [16, 17, 20, 23, 24, 25, 26, 27, 28, 29, 30, 31, 32]⟩,
 ⟨(some 14), (.fa 2), [(.t 13)], none, [16, 17, 20, 23, 24, 25, 26, 27, 28, 29, 30, 31, 32]⟩,
 ⟨(some 15), (.load none), [(.t 14)], none, [16, 17, 20, 23, 24, 25, 26, 27, 28, 29, 30, 31, 32]⟩,
 ⟨(some 16), (.fa 0), [(.t 6)], none, [13, 14, 15, 20, 23, 24, 25, 26, 27, 28, 29, 30, 31, 32]⟩,
 ⟨(some 17), (.load none), [(.t 16)], none, [13, 14, 15, 20, 23, 24, 25, 26, 27, 28, 29, 30, 31, 32]⟩,
 ⟨(some 18), (.ixs 1), [(.t 15), (.t 17)], none, [20, 23, 24, 25, 26, 27, 28, 29, 30, 31, 32]⟩,
 ⟨(some 19), (.load none), [(.t 18)], none, [20, 23, 24, 25, 26, 27, 28, 29, 30, 31, 32]⟩,
 ⟨(some 20), .mv, [(.t 4)], none, [13, 14, 15, 16, 17, 18, 19, 23, 24, 25, 26, 27, 28, 29, 30, 31, 32]⟩,
 ⟨(some 21), (.ixs 1), [(.t 19), (.t 20)], none, [23, 24, 25, 26, 27, 28, 29, 30, 31, 32]⟩,
 ⟨(some 22), (.load none), [(.t 21)], none, [23, 24, 25, 26, 27, 28, 29, 30, 31, 32]⟩,
 ⟨(some 23), (.fa 0), [(.t 5)], none, [13, 14, 15, 16, 17, 18, 19, 20, 21, 22, 26, 27, 30, 11]⟩,
 ⟨(some 24), (.fa 1), [(.t 23)], none, [13, 14, 15, 16, 17, 18, 19, 20, 21, 22, 26, 27, 30, 11]⟩,
 ⟨(some 25), (.load none), [(.t 24)], none, [13, 14, 15, 16, 17, 18, 19, 20, 21, 22, 26, 27, 30, 11]⟩,
 ⟨(some 26), (.fa 1), [(.t 6)], none, [13, 14, 15, 16, 17, 18, 19, 20, 21, 22, 23, 24, 25, 30, 11]⟩,
 ⟨(some 27), (.load none), [(.t 26)], none, [13, 14, 15, 16, 17, 18, 19, 20, 21, 22, 23, 24, 25, 30, 11]⟩,
 ⟨(some 28), (.ixs 1), [(.t 25), (.t 27)], none, [13, 14, 15, 16, 17, 18, 19, 20, 21, 22, 30, 11]⟩,
 ⟨(some 29), (.load none), [(.t 28)], none, [13, 14, 15, 16, 17, 18, 19, 20, 21, 22, 30, 11]⟩,
 ⟨(some 30), .mv, [(.t 4)], none, [13, 14, 15, 16, 17, 18, 19, 20, 21, 22, 23, 24, 25, 26, 27, 28, 29, 11]⟩,
 ⟨(some 31), (.ixs 1), [(.t 29), (.t 30)], none, [13, 14, 15, 16, 17, 18, 19, 20, 21, 22, 11]⟩,
 ⟨(some 32), (.load none), [(.t 31)], none, [13, 14, 15, 16, 17, 18, 19, 20, 21, 22, 11]⟩,
 ⟨(some 11), .mv, [(.t 22)], none, [23, 24, 25, 26, 27, 28, 29, 30, 31, 32]⟩,
 ⟨(some 12), .mv, [(.t 32)], none, []⟩] 0 [2, 3, 10, 11, 12])
 (.seq
 (.seq
 (.reg false [] [] [
 ⟨(some 33), .mv, [(.t 2)], none, []⟩] 0 [3, 10, 11, 12, 33])
 (.cond (.t 33)
 (.seq
 (.reg false [] [] [
 ⟨(some 34), .mv, [(.t 3)], none, []⟩,
 ⟨(some 35), .mv, [(.t 11)], none, []⟩,
 ⟨(some 36), (.bin 0 .add), [(.t 34), (.t 35)], none, []⟩,
 ⟨(some 37), .mv, [(.t 3)], none, []⟩,
 ⟨(some 38), .mv, [(.t 11)], none, []⟩,
 ⟨(some 39), (.bin 0 .add), [(.t 37), (.t 38)], none, []⟩,
 ⟨(some 40), .mv, [(.t 12)], none, []⟩,
 ⟨(some 41), (.bin 0 .add), [(.t 39), (.t 40)], none, []⟩,
 ⟨(some 42), (.build [(.int .i64 0), (.int .i64 0)] [(0, 1), (1, 1)]), [(.t 36), (.t 41)], none, []⟩,
 ⟨(some 43), (.build [(.int .i64 0), (.int .i64 0)] [(0, 2)]), [(.t 42)], none, []⟩,
 ⟨none, (.store 2 none), [(.t 10), (.t 43)], none, []⟩] 0 [10])
 .ret)
 .skip))
 (.seq
 (.reg false [] [] [
 ⟨(some 44), .mv, [(.t 3)], none, []⟩,
 ⟨(some 45), .mv, [(.t 11)], none, []⟩,
 ⟨(some 46), (.bin 0 .sub), [(.t 44), (.t 45)], none, []⟩,
 ⟨(some 47), .mv, [(.t 12)], none, []⟩,
 ⟨(some 48), (.bin 0 .sub), [(.t 46), (.t 47)], none, []⟩,
 ⟨(some 49), .mv, [(.t 3)], none, []⟩,
 ⟨(some 50), .mv, [(.t 11)], none, []⟩,
 ⟨(some 51), (.bin 0 .sub), [(.t 49), (.t 50)], none, []⟩,
 ⟨(some 52), (.build [(.int .i64 0), (.int .i64 0)] [(0, 1), (1, 1)]), [(.t 48), (.t 51)], none, []⟩,
 ⟨(some 53), (.build [(.int .i64 0), (.int .i64 0)] [(0, 2)]), [(.t 52)], none, []⟩,
 ⟨none, (.store 2 none), [(.t 10), (.t 53)], none, []⟩] 0 [10])
 .ret)))),
 [(.c 10 (some 2))]⟩
theorem c23 : funC Try.prog [(0, [2, 3, 4, 5, 6, 10]), (1, [2, 3, 10, 11, 12]), (2, [3, 10, 11, 12, 33]), (3, [10]), (4, [10])] Try.f23 = some (unF l23) := by kernel_rfl
/-- (acme/zone.table).play -/
def l24 : LFun := ⟨4, 22, [],
 (.seq
 (.reg false [4, 5, 8] [4, 5, 8] [
 ⟨(some 4), .box, [(.t 0)], none, []⟩,
 ⟨(some 5), .box, [(.t 1)], none, []⟩,
 ⟨(some 8), (.alloc [(.int .i64 0), (.int .i64 0)]), [], none, []⟩] 0 [2, 3, 4, 5, 8])
 (.seq
 (.reg false [] [] [
 ⟨(some 9), (.load (some 3)), [(.t 4)], none, [10, 11, 12, 13, 15, 16, 17, 18, 19]⟩,
 ⟨(some 10), (.fa 0), [(.t 5)], none, [9, 12, 13, 15, 16, 17, 18, 19]⟩,
 ⟨(some 11), (.load (some 2)), [(.t 10)], none, [9, 12, 13, 15, 16, 17, 18, 19]⟩,
 ⟨(some 12), .mv, [(.t 2)], none, [9, 10, 11, 13, 15, 16, 17, 18, 19]⟩,
 ⟨(some 13), .mv, [(.t 3)], none, [9, 10, 11, 12, 15, 16, 17, 18, 19]⟩,
 ⟨(some 14), (.call true false false), [(.f 23), (.t 9), (.t 11), (.c (.bool false)), (.t 12), (.t 13)], none, [15, 16, 17, 18, 19]⟩,
 ⟨(some 15), (.load (some 3)), [(.t 4)], none, [9, 10, 11, 12, 13, 14, 16, 17, 18, 19]⟩,
 ⟨(some 16), (.fa 2), [(.t 5)], none, [9, 10, 11, 12, 13, 14, 15, 18, 19]⟩,
 ⟨(some 17), (.load (some 2)), [(.t 16)], none, [9, 10, 11, 12, 13, 14, 15, 18, 19]⟩,
 ⟨(some 18), .mv, [(.t 2)], none, [9, 10, 11, 12, 13, 14, 15, 16, 17, 19]⟩,
 ⟨(some 19), .mv, [(.t 3)], none, [9, 10, 11, 12, 13, 14, 15, 16, 17, 18]⟩,
 ⟨(some 20), (.call false false false), [(.f 23), (.t 15), (.t 17), (.c (.bool true)), (.t 18), (.t 19)], none, []⟩,
 ⟨(some 21), (.call false false false), [(.f 51), (.t 14), (.t 20)], none, []⟩,
 ⟨none, (.store 2 (some 8)), [(.t 8), (.t 21)], none, []⟩] 0 [8])
 .ret)),
 [(.c 8 (some 2))]⟩
theorem c24 : funC Try.prog [(0, [2, 3, 4, 5, 8]), (1, [8])] Try.f24 = some (unF l24) := by kernel_rfl
/-- acme/zone.newCoat -/
def l25 : LFun := ⟨3, 57, [],
 (.seq
 (.reg false [3, 5, 6] [3, 5, 6] [
 ⟨(some 3), .box, [(.t 0)], none, []⟩,
 ⟨(some 5), .box, [(.t 2)], none, []⟩,
 ⟨(some 6), (.alloc [(.int .i64 0), (.int .i64 0), (.int .i64 0), (.int .i64 0), (.int .i64 0), (.int .i64 0)]), [], none, []⟩,
 ⟨(some 7), .mv, [(.c (.int .i64 0))], none, []⟩] 0 [1, 3, 5, 6])
 (.seq
 (.seq
 (.reg false [26] [26] [
 ⟨(some 8), (.load (some 2)), [(.t 3)], none, []⟩,
 ⟨(some 9), (.build [(.int .i64 0), (.int .i64 0)] [(0, 2)]), [(.t 8)], none, []⟩,
 ⟨(some 10), (.call false false false), [(.f 52), (.t 9), (.c (.int .i64 (-20000000))), (.c (.int .i64 20000000))], none, []⟩,
 ⟨(some 11), (.un .not), [(.t 10)], none, []⟩,
 ⟨(some 12), .mv, [(.t 11)], none, []⟩,
 ⟨(some 13), (.fa 0), [(.t 5)], (some (12, false)), []⟩,
 ⟨(some 14), (.load (some 2)), [(.t 13)], (some (12, false)), []⟩,
 ⟨(some 15), (.build [(.int .i64 0), (.int .i64 0)] [(0, 2)]), [(.t 14)], (some (12, false)), []⟩,
 ⟨(some 16), (.call false false false), [(.f 52), (.t 15), (.c (.int .i64 0)), (.c (.int .i64 10000))], (some (12, false)), []⟩,
 ⟨(some 17), (.un .not), [(.t 16)], (some (12, false)), []⟩,
 ⟨(some 18), .pick, [(.t 12), (.c (.bool true)), (.t 17)], none, []⟩,
 ⟨(some 19), .mv, [(.t 18)], none, []⟩,
 ⟨(some 20), (.fa 2), [(.t 5)], (some (19, false)), []⟩,
 ⟨(some 21), (.fa 0), [(.t 20)], (some (19, false)), []⟩,
 ⟨(some 22), (.load none), [(.t 21)], (some (19, false)), []⟩,
 ⟨(some 23), (.fa 2), [(.t 5)], (some (19, false)), []⟩,
 ⟨(some 24), (.fa 1), [(.t 23)], (some (19, false)), []⟩,
 ⟨(some 25), (.load none), [(.t 24)], (some (19, false)), []⟩,
 ⟨(some 26), (.bsl 1 [(.int .i64 0)] 2 [0, 1]), [(.t 22), (.t 25)], (some (19, false)), []⟩,
 ⟨(some 27), (.call false false false), [(.f 53), (.c (.int .i64 1)), (.c (.int .i64 1000)), (.t 26)], (some (19, false)), []⟩,
 ⟨(some 28), (.un .not), [(.t 27)], (some (19, false)), []⟩,
 ⟨(some 29), .pick, [(.t 19), (.c (.bool true)), (.t 28)], none, []⟩] 0 [1, 5, 6, 29])
 (.cond (.t 29)
 (.seq
 (.reg false [] [] [
 ⟨(some 30), (.load (some 6)), [(.t 6)], none, []⟩,
 ⟨none, (.store 6 none), [(.t 6), (.t 30)], none, []⟩,
 ⟨(some 7), .mv, [(.c (.int .i64 2))], none, []⟩] 0 [6, 7])
 .ret)
 .skip))
 (.seq
 (.reg false [] [] [
 ⟨(some 31), (.load (some 4)), [(.t 5)], none, []⟩,
 ⟨(some 32), (.fa 0), [(.t 5)], none, []⟩,
 ⟨(some 33), (.fa 0), [(.t 32)], none, []⟩,
 ⟨(some 34), (.load none), [(.t 33)], none, []⟩,
 ⟨(some 35), (.fa 2), [(.t 5)], none, []⟩,
 ⟨(some 36), (.fa 0), [(.t 35)], none, []⟩,
 ⟨(some 37), (.load none), [(.t 36)], none, []⟩,
 ⟨(some 38), (.bin 0 .mul), [(.t 34), (.t 37)], none, []⟩,
 ⟨(some 39), (.fa 0), [(.t 5)], none, []⟩,
 ⟨(some 40), (.fa 1), [(.t 39)], none, []⟩,
 ⟨(some 41), (.load none), [(.t 40)], none, []⟩,
 ⟨(some 42), (.fa 2), [(.t 5)], none, []⟩,
 ⟨(some 43), (.fa 0), [(.t 42)], none, []⟩,
 ⟨(some 44), (.load none), [(.t 43)], none, []⟩,
 ⟨(some 45), (.bin 0 .mul), [(.t 41), (.t 44)], none, []⟩,
 ⟨(some 46), (.build [(.int .i64 0), (.int .i64 0), (.int .i64 0), (.int .i64 0), (.int .i64 0), (.int .i64 0)] [(0, 4), (4, 1), (5, 1)]), [(.t 31), (.t 38), (.t 45)], none, []⟩,
 ⟨none, (.store 6 none), [(.t 6), (.t 46)], none, []⟩] 0 [1, 6])
 (.seq
 (.seq
 (.reg false [] [] [
 ⟨(some 47), .mv, [(.t 1)], none, []⟩] 0 [6, 47])
 (.cond (.t 47)
 (.reg false [] [] [
 ⟨(some 48), (.fa 5), [(.t 6)], none, []⟩,
 ⟨(some 49), (.load none), [(.t 48)], none, []⟩,
 ⟨(some 50), (.un .neg), [(.t 49)], none, []⟩,
 ⟨(some 51), (.fa 4), [(.t 6)], none, []⟩,
 ⟨(some 52), (.load none), [(.t 51)], none, []⟩,
 ⟨(some 53), (.un .neg), [(.t 52)], none, []⟩,
 ⟨(some 54), (.fa 4), [(.t 6)], none, []⟩,
 ⟨none, (.store 1 none), [(.t 54), (.t 50)], none, []⟩,
 ⟨(some 55), (.fa 5), [(.t 6)], none, []⟩,
 ⟨none, (.store 1 none), [(.t 55), (.t 53)], none, []⟩] 0 [6])
 .skip))
 (.seq
 (.reg false [] [] [
 ⟨(some 56), (.load (some 6)), [(.t 6)], none, []⟩,
 ⟨none, (.store 6 none), [(.t 6), (.t 56)], none, []⟩,
 ⟨(some 7), .mv, [(.c (.int .i64 0))], none, []⟩] 0 [6, 7])
 .ret))))),
 [(.c 6 (some 6)), (.t 7)]⟩
theorem c25 : funC Try.prog [(0, [1, 3, 5, 6]), (1, [1, 5, 6, 29]), (2, [6, 7]), (3, [1, 6]), (4, [6, 47]), (5, [6]), (6, [6, 7])] Try.f25 = some (unF l25) := by kernel_rfl
/-- (acme/zone.coat).up -/
def l26 : LFun := ⟨2, 10, [],
 (.seq
 (.reg false [2] [2] [
 ⟨(some 2), .box, [(.t 0)], none, []⟩,
 ⟨(some 4), .mv, [(.c (.int .i64 0))], none, []⟩] 0 [1, 2])
 (.seq
 (.reg false [] [] [
 ⟨(some 5), (.load (some 6)), [(.t 2)], none, []⟩,
 ⟨(some 6), .mv, [(.t 1)], none, []⟩,
 ⟨(some 7), (.un .neg), [(.t 6)], none, []⟩,
 ⟨(some 8), (.call false false false), [(.f 27), (.t 5), (.t 7)], none, []⟩,
 ⟨(some 9), (.un .neg), [(.t 8)], none, []⟩,
 ⟨(some 4), .mv, [(.t 9)], none, []⟩] 0 [4])
 .ret)),
 [(.t 4)]⟩
theorem c26 : funC Try.prog [(0, [1, 2]), (1, [4])] Try.f26 = some (unF l26) := by kernel_rfl
/-- (acme/zone.coat).down -/
def l27 : LFun := ⟨2, 21, [],
 (.seq
 (.reg false [2] [2] [
 ⟨(some 2), .box, [(.t 0)], none, []⟩,
 ⟨(some 4), .mv, [(.c (.int .i64 0))], none, []⟩] 0 [1, 2])
 (.seq
 (.reg false [] [] [
 ⟨(some 6), (.fa 0), [(.t 2)], none, []⟩,
 ⟨(some 7), (.fa 2), [(.t 6)], none, []⟩,
 ⟨(some 8), (.fa 1), [(.t 7)], none, []⟩,
 ⟨(some 9), (.load none), [(.t 8)], none, []⟩,
 ⟨(some 5), .mv, [(.t 9)], none, []⟩] 0 [1, 5])
 (.seq
 (.reg false [] [] [
 ⟨(some 10), .mv, [(.t 1)], none, []⟩,
 ⟨(some 11), .mv, [(.t 1)], none, []⟩,
 ⟨(some 12), .mv, [(.t 5)], none, []⟩,
 ⟨(some 13), (.bin 0 .rem), [(.t 11), (.t 12)], none, []⟩,
 ⟨(some 14), .mv, [(.t 5)], none, []⟩,
 ⟨(some 15), (.bin 0 .add), [(.t 13), (.t 14)], none, []⟩,
 ⟨(some 16), .mv, [(.t 5)], none, []⟩,
 ⟨(some 17), (.bin 0 .rem), [(.t 15), (.t 16)], none, []⟩,
 ⟨(some 18), (.bin 0 .sub), [(.t 10), (.t 17)], none, []⟩,
 ⟨(some 19), .mv, [(.t 5)], none, []⟩,
 ⟨(some 20), (.bin 0 .quo), [(.t 18), (.t 19)], none, []⟩,
 ⟨(some 4), .mv, [(.t 20)], none, []⟩] 0 [4])
 .ret))),
 [(.t 4)]⟩
theorem c27 : funC Try.prog [(0, [1, 2]), (1, [1, 5]), (2, [4])] Try.f27 = some (unF l27) := by kernel_rfl
/-- acme/zone.Groups -/
def b28_0 : LCode :=
 (.seq
 (.reg true [] [] [
 ⟨(some 17), (.bin 0 .lss), [(.t 16), (.c (.int .i64 2))], none, []⟩] 0 [3, 4, 5, 15, 16, 17])
 (.seq
 (.cond (.t 17)
 .skip
 (.exit 0))
 (.seq
 (.block 1
 (.seq
 (.reg true [9] [9] [
 ⟨(some 18), (.idx 2 2 (some 2)), [(.t 15), (.t 16)], none, []⟩,
 ⟨(some 9), (.alloc [(.int .i64 0), (.int .i64 0)]), [], none, []⟩,
 ⟨none, (.store 2 none), [(.t 9), (.t 18)], none, []⟩] 0 [3, 4, 5, 9, 15, 16])
 (.seq
 (.reg true [] [] [
 ⟨(some 19), (.load (some 2)), [(.t 9)], none, []⟩,
 ⟨(some 20), (.call false false false), [(.f 52), (.t 19), (.c (.int .i64 0)), (.c (.int .i64 20000000))], none, []⟩,
 ⟨(some 21), (.un .not), [(.t 20)], none, []⟩] 0 [3, 4, 5, 15, 16, 21])
 (.cond (.t 21)
 (.seq
 (.reg true [] [] [
 ⟨(some 6), .mv, [(.c (.int .i64 0))], none, []⟩,
 ⟨(some 7), .mv, [(.c (.int .i64 2))], none, []⟩] 0 [6, 7])
 .ret)
 .skip))))
 (.reg true [] [] [
 ⟨(some 22), (.bin 0 .add), [(.t 16), (.c (.int .i64 1))], none, []⟩,
 ⟨(some 16), .mv, [(.t 22)], none, []⟩] 0 [3, 4, 5, 15, 16]))))
def b28_1 : LCode :=
 (.seq
 (.reg true [] [] [
 ⟨(some 28), (.bin 0 .lss), [(.t 27), (.c (.int .i64 50))], none, []⟩] 0 [3, 4, 5, 27, 28])
 (.seq
 (.cond (.t 28)
 .skip
 (.exit 2))
 (.seq
 (.block 3
 (.seq
 (.reg true [] [] [
 ⟨(some 29), .mv, [(.t 27)], none, []⟩,
 ⟨(some 10), .mv, [(.t 29)], none, []⟩] 0 [3, 4, 5, 10, 27])
 (.seq
 (.reg true [] [] [
 ⟨(some 30), (.load (some 2)), [(.t 3)], none, []⟩,
 ⟨(some 31), (.build [(.int .i64 0), (.int .i64 0)] [(0, 2)]), [(.t 30)], none, []⟩,
 ⟨(some 32), (.load (some 2)), [(.t 4)], none, []⟩,
 ⟨(some 33), (.build [(.int .i64 0), (.int .i64 0)] [(0, 2)]), [(.t 32)], none, []⟩,
 ⟨(some 34), .mv, [(.t 10)], none, []⟩,
 ⟨(some 35), (.bin 0 .add), [(.t 34), (.c (.int .i64 1))], none, []⟩,
 ⟨(some 36), (.load (some 2)), [(.t 5)], none, []⟩,
 ⟨(some 37), (.call false false false), [(.f 54), (.t 31), (.t 33), (.t 35), (.t 36)], none, []⟩] 0 [3, 4, 5, 10, 27, 37])
 (.cond (.t 37)
 (.seq
 (.reg true [] [] [
 ⟨(some 38), .mv, [(.t 10)], none, []⟩,
 ⟨(some 39), (.bin 0 .add), [(.t 38), (.c (.int .i64 1))], none, []⟩,
 ⟨(some 6), .mv, [(.t 39)], none, []⟩,
 ⟨(some 7), .mv, [(.c (.int .i64 0))], none, []⟩] 0 [6, 7])
 .ret)
 .skip))))
 (.reg true [] [] [
 ⟨(some 40), (.bin 0 .add), [(.t 27), (.c (.int .i64 1))], none, []⟩,
 ⟨(some 27), .mv, [(.t 40)], none, []⟩] 0 [3, 4, 5, 27]))))
def l28 : LFun := ⟨3, 41, [],
 (.seq
 (.reg false [3, 4, 5] [3, 4, 5] [
 ⟨(some 3), .box, [(.t 0)], none, []⟩,
 ⟨(some 4), .box, [(.t 1)], none, []⟩,
 ⟨(some 5), .box, [(.t 2)], none, []⟩,
 ⟨(some 6), .mv, [(.c (.int .i64 0))], none, []⟩,
 ⟨(some 7), .mv, [(.c (.int .i64 0))], none, []⟩] 0 [3, 4, 5])
 (.seq
 (.seq
 (.reg false [] [] [
 ⟨(some 11), (.load (some 2)), [(.t 3)], none, []⟩,
 ⟨(some 12), (.build [(.int .i64 0), (.int .i64 0)] [(0, 2)]), [(.t 11)], none, []⟩,
 ⟨(some 13), (.load (some 2)), [(.t 4)], none, []⟩,
 ⟨(some 14), (.build [(.int .i64 0), (.int .i64 0)] [(0, 2)]), [(.t 13)], none, []⟩,
 ⟨(some 15), (.build [(.int .i64 0), (.int .i64 0), (.int .i64 0), (.int .i64 0)] [(0, 2), (2, 2)]), [(.t 12), (.t 14)], none, []⟩,
 ⟨(some 16), .mv, [(.c (.int .i64 0))], none, []⟩] 0 [3, 4, 5, 15, 16])
 (.block 0
 (.loop b28_0)))
 (.seq
 (.seq
 (.reg false [] [] [
 ⟨(some 23), (.load (some 2)), [(.t 5)], none, []⟩,
 ⟨(some 24), (.build [(.int .i64 0), (.int .i64 0)] [(0, 2)]), [(.t 23)], none, []⟩,
 ⟨(some 25), (.call false false false), [(.f 52), (.t 24), (.c (.int .i64 (-40000000))), (.c (.int .i64 40000000))], none, []⟩,
 ⟨(some 26), (.un .not), [(.t 25)], none, []⟩] 0 [3, 4, 5, 26])
 (.cond (.t 26)
 (.seq
 (.reg false [] [] [
 ⟨(some 6), .mv, [(.c (.int .i64 0))], none, []⟩,
 ⟨(some 7), .mv, [(.c (.int .i64 2))], none, []⟩] 0 [6, 7])
 .ret)
 .skip))
 (.seq
 (.seq
 (.reg false [] [] [
 ⟨(some 27), .mv, [(.c (.int .i64 0))], none, []⟩] 0 [3, 4, 5, 27])
 (.block 2
 (.loop b28_1)))
 (.seq
 (.reg false [] [] [
 ⟨(some 6), .mv, [(.c (.int .i64 0))], none, []⟩,
 ⟨(some 7), .mv, [(.c (.int .i64 7))], none, []⟩] 0 [6, 7])
 .ret))))),
 [(.t 6), (.t 7)]⟩
theorem c28 : funC Try.prog [(0, [3, 4, 5]), (1, [3, 4, 5, 15, 16]), (2, [3, 4, 5, 15, 16, 17]), (3, [3, 4, 5, 9, 15, 16]), (4, [3, 4, 5, 15, 16, 21]), (5, [6, 7]), (6, [3, 4, 5, 15, 16]), (7, [3, 4, 5, 26]), (8, [6, 7]), (9, [3, 4, 5, 27]), (10, [3, 4, 5, 27, 28]), (11, [3, 4, 5, 10, 27]), (12, [3, 4, 5, 10, 27, 37]), (13, [6, 7]), (14, [3, 4, 5, 27]), (15, [6, 7])] Try.f28 = some (unF l28) := by kernel_rfl
/-- acme/thread.Check -/
def l34 : LFun := ⟨1, 63, [],
 (.seq
 (.reg false [1] [1] [
 ⟨(some 1), .box, [(.t 0)], none, []⟩,
 ⟨(some 2), .mv, [(.c (.int .i64 0))], none, []⟩] 0 [1])
 (.seq
 (.reg false [3] [3] [
 ⟨(some 5), (.load (some 8)), [(.t 1)], none, []⟩,
 ⟨(some 6), (.build [(.int .i64 0), (.int .i64 0), (.int .i64 0), (.int .i64 0), (.int .i64 0), (.int .i64 0), (.bool false), (.int .i64 0)] [(0, 8)]), [(.t 5)], none, []⟩,
 ⟨(some 3), (.alloc [(.int .i64 0), (.int .i64 0), (.int .i64 0), (.int .i64 0), (.int .i64 0), (.int .i64 0), (.bool false), (.int .i64 0)]), [], none, []⟩,
 ⟨none, (.store 8 none), [(.t 3), (.t 6)], none, []⟩] 0 [1, 3])
 (.seq
 (.reg false [9, 16, 24] [9, 16, 24] [
 ⟨(some 7), (.fa 0), [(.t 1)], none, []⟩,
 ⟨(some 8), (.load none), [(.t 7)], none, []⟩,
 ⟨(some 9), (.bsl 1 [(.int .i64 0)] 1 [0]), [(.t 8)], none, []⟩,
 ⟨(some 10), (.call false false false), [(.f 62), (.c (.int .i64 100)), (.c (.int .i64 200000)), (.t 9)], none, []⟩,
 ⟨(some 11), .mv, [(.t 10)], none, []⟩,
 ⟨(some 12), (.fa 1), [(.t 1)], (some (11, true)), []⟩,
 ⟨(some 13), (.load none), [(.t 12)], (some (11, true)), []⟩,
 ⟨(some 14), (.fa 2), [(.t 1)], (some (11, true)), []⟩,
 ⟨(some 15), (.load none), [(.t 14)], (some (11, true)), []⟩,
 ⟨(some 16), (.bsl 1 [(.int .i64 0)] 2 [0, 1]), [(.t 13), (.t 15)], (some (11, true)), []⟩,
 ⟨(some 17), (.call false false false), [(.f 62), (.c (.int .i64 0)), (.c (.int .i64 3000)), (.t 16)], (some (11, true)), []⟩,
 ⟨(some 18), .pick, [(.t 11), (.t 17), (.c (.bool false))], none, []⟩,
 ⟨(some 19), .mv, [(.t 18)], none, []⟩,
 ⟨(some 20), (.fa 3), [(.t 1)], (some (19, true)), []⟩,
 ⟨(some 21), (.load none), [(.t 20)], (some (19, true)), []⟩,
 ⟨(some 22), (.fa 4), [(.t 1)], (some (19, true)), []⟩,
 ⟨(some 23), (.load none), [(.t 22)], (some (19, true)), []⟩,
 ⟨(some 24), (.bsl 1 [(.int .i64 0)] 2 [0, 1]), [(.t 21), (.t 23)], (some (19, true)), []⟩,
 ⟨(some 25), (.call false false false), [(.f 62), (.c (.int .i64 0)), (.c (.int .i64 200000)), (.t 24)], (some (19, true)), []⟩,
 ⟨(some 26), .pick, [(.t 19), (.t 25), (.c (.bool false))], none, []⟩,
 ⟨(some 27), .mv, [(.t 26)], none, []⟩,
 ⟨(some 28), (.fa 3), [(.t 1)], (some (27, true)), []⟩,
 ⟨(some 29), (.load none), [(.t 28)], (some (27, true)), []⟩,
 ⟨(some 30), (.fa 4), [(.t 1)], (some (27, true)), []⟩,
 ⟨(some 31), (.load none), [(.t 30)], (some (27, true)), []⟩,
 ⟨(some 32), (.bin 0 .add), [(.t 29), (.t 31)], (some (27, true)), []⟩,
 ⟨(some 33), (.bin 0 .geq), [(.t 32), (.c (.int .i64 1))], (some (27, true)), []⟩,
 ⟨(some 34), .pick, [(.t 27), (.t 33), (.c (.bool false))], none, []⟩,
 ⟨(some 4), .mv, [(.t 34)], none, []⟩] 0 [1, 3, 4])
 (.seq
 (.seq
 (.reg false [40, 47] [40, 47] [
 ⟨(some 35), .mv, [(.t 4)], none, []⟩,
 ⟨(some 36), (.un .not), [(.t 35)], none, []⟩,
 ⟨(some 37), .mv, [(.t 36)], none, []⟩,
 ⟨(some 38), (.fa 5), [(.t 1)], (some (37, false)), []⟩,
 ⟨(some 39), (.load none), [(.t 38)], (some (37, false)), []⟩,
 ⟨(some 40), (.bsl 1 [(.int .i64 0)] 1 [0]), [(.t 39)], (some (37, false)), []⟩,
 ⟨(some 41), (.call false false false), [(.f 62), (.c (.int .i64 1)), (.c (.int .i64 8)), (.t 40)], (some (37, false)), []⟩,
 ⟨(some 42), (.un .not), [(.t 41)], (some (37, false)), []⟩,
 ⟨(some 43), .pick, [(.t 37), (.c (.bool true)), (.t 42)], none, []⟩,
 ⟨(some 44), .mv, [(.t 43)], none, []⟩,
 ⟨(some 45), (.fa 7), [(.t 1)], (some (44, false)), []⟩,
 ⟨(some 46), (.load none), [(.t 45)], (some (44, false)), []⟩,
 ⟨(some 47), (.bsl 1 [(.int .i64 0)] 1 [0]), [(.t 46)], (some (44, false)), []⟩,
 ⟨(some 48), (.call false false false), [(.f 62), (.c (.int .i64 0)), (.c (.int .i64 100)), (.t 47)], (some (44, false)), []⟩,
 ⟨(some 49), (.un .not), [(.t 48)], (some (44, false)), []⟩,
 ⟨(some 50), .pick, [(.t 44), (.c (.bool true)), (.t 49)], none, []⟩] 0 [1, 3, 50])
 (.cond (.t 50)
 (.seq
 (.reg false [] [] [
 ⟨(some 2), .mv, [(.c (.int .i64 2))], none, []⟩] 0 [2])
 .ret)
 .skip))
 (.seq
 (.seq
 (.reg false [] [] [
 ⟨(some 51), (.load (some 8)), [(.t 3)], none, []⟩,
 ⟨(some 52), (.fa 3), [(.t 1)], none, []⟩,
 ⟨(some 53), (.load none), [(.t 52)], none, []⟩,
 ⟨(some 54), (.call false false false), [(.f 63), (.t 51), (.t 53)], none, []⟩,
 ⟨(some 55), (.bin 0 .lss), [(.t 54), (.c (.int .i64 0))], none, []⟩,
 ⟨(some 56), .mv, [(.t 55)], none, []⟩,
 ⟨(some 57), (.load (some 8)), [(.t 3)], (some (56, false)), []⟩,
 ⟨(some 58), (.fa 4), [(.t 1)], (some (56, false)), []⟩,
 ⟨(some 59), (.load none), [(.t 58)], (some (56, false)), []⟩,
 ⟨(some 60), (.call false false false), [(.f 63), (.t 57), (.t 59)], (some (56, false)), []⟩,
 ⟨(some 61), (.bin 0 .lss), [(.t 60), (.c (.int .i64 0))], (some (56, false)), []⟩,
 ⟨(some 62), .pick, [(.t 56), (.c (.bool true)), (.t 61)], none, []⟩] 0 [62])
 (.cond (.t 62)
 (.seq
 (.reg false [] [] [
 ⟨(some 2), .mv, [(.c (.int .i64 2))], none, []⟩] 0 [2])
 .ret)
 .skip))
 (.seq
 (.reg false [] [] [
 ⟨(some 2), .mv, [(.c (.int .i64 0))], none, []⟩] 0 [2])
 .ret)))))),
 [(.t 2)]⟩
theorem c34 : funC Try.prog [(0, [1]), (1, [1, 3]), (2, [1, 3, 4]), (3, [1, 3, 50]), (4, [2]), (5, [62]), (6, [2]), (7, [2])] Try.f34 = some (unF l34) := by kernel_rfl
/-- acme/fit.within -/
def l35 : LFun := ⟨3, 11, [],
 (.seq
 (.reg false [3, 4] [3, 4] [
 ⟨(some 3), .box, [(.t 0)], none, []⟩,
 ⟨(some 4), .box, [(.t 1)], none, []⟩,
 ⟨(some 6), .mv, [(.c (.bool false))], none, []⟩] 0 [2, 3, 4])
 (.seq
 (.reg false [] [] [
 ⟨(some 7), .mv, [(.t 2)], none, []⟩,
 ⟨(some 8), (.mkf 65), [(.t 3), (.t 4)], none, []⟩,
 ⟨(some 9), (.call false false false), [(.f 64), (.t 7), (.t 8)], none, []⟩,
 ⟨(some 10), (.un .not), [(.t 9)], none, []⟩,
 ⟨(some 6), .mv, [(.t 10)], none, []⟩] 0 [3, 4, 6])
 .ret)),
 [(.t 6)]⟩
theorem c35 : funC Try.prog [(0, [2, 3, 4]), (1, [3, 4, 6])] Try.f35 = some (unF l35) := by kernel_rfl
/-- acme/fit.checkDepth -/
def l36 : LFun := ⟨1, 6, [],
 (.seq
 (.reg false [1] [1] [
 ⟨(some 1), .box, [(.t 0)], none, []⟩,
 ⟨(some 2), .mv, [(.c (.int .i64 0))], none, []⟩] 0 [1])
 (.seq
 (.seq
 (.reg false [] [] [
 ⟨(some 3), (.load (some 2)), [(.t 1)], none, []⟩,
 ⟨(some 4), (.call false false false), [(.f 66), (.t 3), (.c (.int .i64 (-200000))), (.c (.int .i64 200000))], none, []⟩,
 ⟨(some 5), (.un .not), [(.t 4)], none, []⟩] 0 [5])
 (.cond (.t 5)
 (.seq
 (.reg false [] [] [
 ⟨(some 2), .mv, [(.c (.int .i64 3))], none, []⟩] 0 [2])
 .ret)
 .skip))
 (.seq
 (.reg false [] [] [
 ⟨(some 2), .mv, [(.c (.int .i64 0))], none, []⟩] 0 [2])
 .ret))),
 [(.t 2)]⟩
theorem c36 : funC Try.prog [(0, [1]), (1, [5]), (2, [2]), (3, [2])] Try.f36 = some (unF l36) := by kernel_rfl
/-- (acme/fit.ideal).perfect -/
def b37_0 : LCode :=
 (.seq
 (.reg true [] [] [
 ⟨(some 23), (.bin 0 .lss), [(.t 22), (.t 21)], none, []⟩] 0 [1, 3, 4, 5, 10, 21, 22, 23])
 (.seq
 (.cond (.t 23)
 .skip
 (.exit 0))
 (.seq
 (.block 1
 (.seq
 (.reg true [] [] [
 ⟨(some 24), .mv, [(.t 22)], none, []⟩,
 ⟨(some 11), .mv, [(.t 24)], none, []⟩] 0 [1, 3, 4, 5, 10, 11, 21, 22])
 (.seq
 (.reg true [] [] [
 ⟨(some 25), .mv, [(.t 11)], none, []⟩,
 ⟨(some 26), (.bin 0 .mul), [(.c (.int .i64 4000)), (.t 25)], none, []⟩,
 ⟨(some 27), (.fa 0), [(.t 5)], none, []⟩,
 ⟨(some 28), (.fa 0), [(.t 27)], none, []⟩,
 ⟨(some 29), (.load none), [(.t 28)], none, []⟩,
 ⟨(some 30), (.bin 0 .mul), [(.t 26), (.t 29)], none, []⟩,
 ⟨(some 12), .mv, [(.t 30)], none, []⟩] 0 [1, 3, 4, 5, 10, 12, 21, 22])
 (.reg true [62, 63] [62] [
 ⟨(some 31), (.fa 0), [(.t 10)], none, [33, 34, 35, 36, 37, 38, 39, 40, 41, 42, 43, 44, 45, 46, 47, 48, 49, 50, 51, 52, 53, 54, 55, 56, 57, 58, 59, 60, 61, 62]⟩,
 ⟨(some 32), (.load none), [(.t 31)], none, [33, 34, 35, 36, 37, 38, 39, 40, 41, 42, 43, 44, 45, 46, 47, 48, 49, 50, 51, 52, 53, 54, 55, 56, 57, 58, 59, 60, 61, 62]⟩,
 ⟨(some 33), .mv, [(.t 3)], none, [31, 32, 34, 35, 36, 37, 38, 39, 40, 41, 42, 43, 44, 45, 47, 48, 49, 50, 51, 52, 53, 54, 55, 56, 57, 58, 59]⟩,
 ⟨(some 34), .mv, [(.t 12)], none, [31, 32, 33, 35, 36, 37, 38, 40, 41, 42, 43, 44, 47, 48, 49, 50, 51, 52, 53, 54, 55, 56, 57, 58, 59]⟩,
 ⟨(some 35), (.fa 0), [(.t 5)], none, [31, 32, 33, 34, 40, 41, 42, 43, 44, 47, 48, 49, 50, 51, 52, 53, 54, 55, 56, 57, 58, 59]⟩,
 ⟨(some 36), (.fa 0), [(.t 35)], none, [31, 32, 33, 34, 40, 41, 42, 43, 44, 47, 48, 49, 50, 51, 52, 53, 54, 55, 56, 57, 58, 59]⟩,
 ⟨(some 37), (.load none), [(.t 36)], none, [31, 32, 33, 34, 40, 41, 42, 43, 44, 47, 48, 49, 50, 51, 52, 53, 54, 55, 56, 57, 58, 59]⟩,
 ⟨(some 38), (.bin 0 .mul), [(.c (.int .i64 1000)), (.t 37)], none, [31, 32, 33, 34, 40, 41, 42, 43, 44, 47, 48, 49, 50, 51, 52, 53, 54, 55, 56, 57, 58, 59]⟩,
 ⟨(some 39), (.bin 0 .sub), [(.t 34), (.t 38)], none, [31, 32, 33, 40, 41, 42, 43, 44, 47, 48, 49, 50, 51, 52, 53, 54, 55, 56, 57, 58, 59]⟩,
 ⟨(some 40), .mv, [(.t 1)], none, [31, 32, 33, 34, 35, 36, 37, 38, 39, 42, 43, 47, 48, 49, 50, 51, 52, 53, 54, 55, 56, 57, 58, 59]⟩,
 ⟨(some 41), (.bin 0 .mul), [(.c (.int .i64 4)), (.t 40)], none, [31, 32, 33, 34, 35, 36, 37, 38, 39, 42, 43, 47, 48, 49, 50, 51, 52, 53, 54, 55, 56, 57, 58, 59]⟩,
 ⟨(some 42), (.fa 1), [(.t 10)], none, [31, 32, 33, 34, 35, 36, 37, 38, 39, 40, 41, 47, 48, 49, 50, 51, 52, 53, 54, 55, 56, 57, 58, 59]⟩,
 ⟨(some 43), (.load none), [(.t 42)], none, [31, 32, 33, 34, 35, 36, 37, 38, 39, 40, 41, 47, 48, 49, 50, 51, 52, 53, 54, 55, 56, 57, 58, 59]⟩,
 ⟨(some 44), (.bin 0 .mul), [(.t 41), (.t 43)], none, [31, 32, 33, 34, 35, 36, 37, 38, 39, 47, 48, 49, 50, 51, 52, 53, 54, 55, 56, 57, 58, 59]⟩,
 ⟨(some 45), (.bin 0 .sub), [(.t 39), (.t 44)], none, [31, 32, 33, 47, 48, 49, 50, 51, 52, 53, 54, 55, 56, 57, 58, 59]⟩,
 ⟨(some 46), (.call true false false), [(.t 33), (.t 45), (.c (.int .i64 4000))], none, [31, 32, 47, 48, 49, 50, 51, 52, 53, 54, 55, 56, 57, 58, 59]⟩,
 ⟨(some 47), .mv, [(.t 4)], none, [31, 32, 33, 34, 35, 36, 37, 38, 39, 40, 41, 42, 43, 44, 45, 46, 48, 49, 50, 51, 52, 53, 54, 55, 56, 57, 58, 59]⟩,
 ⟨(some 48), .mv, [(.t 12)], none, [31, 32, 33, 34, 35, 36, 37, 38, 39, 40, 41, 42, 43, 44, 45, 46, 47, 49, 50, 51, 52, 54, 55, 56, 57, 58]⟩,
 ⟨(some 49), (.fa 0), [(.t 5)], none, [31, 32, 33, 34, 35, 36, 37, 38, 39, 40, 41, 42, 43, 44, 45, 46, 47, 48, 54, 55, 56, 57, 58]⟩,
 ⟨(some 50), (.fa 0), [(.t 49)], none, [31, 32, 33, 34, 35, 36, 37, 38, 39, 40, 41, 42, 43, 44, 45, 46, 47, 48, 54, 55, 56, 57, 58]⟩,
 ⟨(some 51), (.load none), [(.t 50)], none, [31, 32, 33, 34, 35, 36, 37, 38, 39, 40, 41, 42, 43, 44, 45, 46, 47, 48, 54, 55, 56, 57, 58]⟩,
 ⟨(some 52), (.bin 0 .mul), [(.c (.int .i64 1000)), (.t 51)], none, [31, 32, 33, 34, 35, 36, 37, 38, 39, 40, 41, 42, 43, 44, 45, 46, 47, 48, 54, 55, 56, 57, 58]⟩,
 ⟨(some 53), (.bin 0 .add), [(.t 48), (.t 52)], none, [31, 32, 33, 34, 35, 36, 37, 38, 39, 40, 41, 42, 43, 44, 45, 46, 47, 54, 55, 56, 57, 58]⟩,
 ⟨(some 54), .mv, [(.t 1)], none, [31, 32, 33, 34, 35, 36, 37, 38, 39, 40, 41, 42, 43, 44, 45, 46, 47, 48, 49, 50, 51, 52, 53, 56, 57]⟩,
 ⟨(some 55), (.bin 0 .mul), [(.c (.int .i64 4)), (.t 54)], none, [31, 32, 33, 34, 35, 36, 37, 38, 39, 40, 41, 42, 43, 44, 45, 46, 47, 48, 49, 50, 51, 52, 53, 56, 57]⟩,
 ⟨(some 56), (.fa 2), [(.t 10)], none, [31, 32, 33, 34, 35, 36, 37, 38, 39, 40, 41, 42, 43, 44, 45, 46, 47, 48, 49, 50, 51, 52, 53, 54, 55]⟩,
 ⟨(some 57), (.load none), [(.t 56)], none, [31, 32, 33, 34, 35, 36, 37, 38, 39, 40, 41, 42, 43, 44, 45, 46, 47, 48, 49, 50, 51, 52, 53, 54, 55]⟩,
 ⟨(some 58), (.bin 0 .mul), [(.t 55), (.t 57)], none, [31, 32, 33, 34, 35, 36, 37, 38, 39, 40, 41, 42, 43, 44, 45, 46, 47, 48, 49, 50, 51, 52, 53]⟩,
 ⟨(some 59), (.bin 0 .add), [(.t 53), (.t 58)], none, [31, 32, 33, 34, 35, 36, 37, 38, 39, 40, 41, 42, 43, 44, 45, 46, 47]⟩,
 ⟨(some 60), (.call true false false), [(.t 47), (.t 59), (.c (.int .i64 4000))], none, [31, 32]⟩,
 ⟨(some 61), (.build [(.int .i64 0), (.int .i64 0)] [(0, 1), (1, 1)]), [(.t 46), (.t 60)], none, [31, 32]⟩,
 ⟨(some 62), (.bsl 2 [(.int .i64 0), (.int .i64 0)] 1 [0]), [(.t 61)], none, [31, 32]⟩,
 ⟨(some 63), (.append false 2 16), [(.t 32), (.t 62)], none, []⟩,
 ⟨(some 64), (.fa 0), [(.t 10)], none, []⟩,
 ⟨none, (.store 1 (some 10)), [(.t 64), (.t 63)], none, []⟩] 0 [1, 3, 4, 5, 10, 21, 22]))))
 (.reg true [] [] [
 ⟨(some 65), (.bin 0 .add), [(.t 22), (.c (.int .i64 1))], none, []⟩,
 ⟨(some 22), .mv, [(.t 65)], none, []⟩] 0 [1, 3, 4, 5, 10, 21, 22]))))
def l37 : LFun := ⟨5, 67, [],
 (.seq
 (.reg false [5, 10] [5, 10] [
 ⟨(some 5), .box, [(.t 0)], none, []⟩,
 ⟨(some 10), (.alloc [(.sl (some 2006300) 2 []), (.int .i64 0), (.int .i64 0)]), [], none, []⟩] 0 [1, 2, 3, 4, 5, 10])
 (.seq
 (.reg false [] [] [
 ⟨(some 13), (.fa 0), [(.t 5)], none, [16, 17, 18]⟩,
 ⟨(some 14), (.fa 1), [(.t 13)], none, [16, 17, 18]⟩,
 ⟨(some 15), (.load none), [(.t 14)], none, [16, 17, 18]⟩,
 ⟨(some 16), (.fa 0), [(.t 5)], none, [13, 14, 15, 19, 10]⟩,
 ⟨(some 17), (.fa 2), [(.t 16)], none, [13, 14, 15, 19, 10]⟩,
 ⟨(some 18), (.load none), [(.t 17)], none, [13, 14, 15, 19, 10]⟩,
 ⟨(some 19), (.fa 1), [(.t 10)], none, [16, 17, 18]⟩,
 ⟨none, (.store 1 (some 10)), [(.t 19), (.t 15)], none, [16, 17, 18]⟩,
 ⟨(some 20), (.fa 2), [(.t 10)], none, []⟩,
 ⟨none, (.store 1 (some 10)), [(.t 20), (.t 18)], none, []⟩] 0 [1, 2, 3, 4, 5, 10])
 (.seq
 (.seq
 (.reg false [] [] [
 ⟨(some 21), .mv, [(.t 2)], none, []⟩,
 ⟨(some 22), .mv, [(.c (.int .i64 0))], none, []⟩] 0 [1, 3, 4, 5, 10, 21, 22])
 (.block 0
 (.loop b37_0)))
 (.seq
 (.reg false [] [] [
 ⟨(some 66), (.load (some 3)), [(.t 10)], none, []⟩,
 ⟨none, (.store 3 none), [(.t 10), (.t 66)], none, []⟩] 0 [10])
 .ret)))),
 [(.c 10 (some 3))]⟩
theorem c37 : funC Try.prog [(0, [1, 2, 3, 4, 5, 10]), (1, [1, 2, 3, 4, 5, 10]), (2, [1, 3, 4, 5, 10, 21, 22]), (3, [1, 3, 4, 5, 10, 21, 22, 23]), (4, [1, 3, 4, 5, 10, 11, 21, 22]), (5, [1, 3, 4, 5, 10, 12, 21, 22]), (6, [1, 3, 4, 5, 10, 21, 22]), (7, [1, 3, 4, 5, 10, 21, 22]), (8, [10])] Try.f37 = some (unF l37) := by kernel_rfl
/-- acme/fit.up -/
def l38 : LFun := ⟨2, 10, [],
 (.seq
 (.reg false [] [] [
 ⟨(some 4), .mv, [(.c (.int .i64 0))], none, []⟩] 0 [0, 1])
 (.seq
 (.reg false [] [] [
 ⟨(some 5), .mv, [(.t 0)], none, []⟩,
 ⟨(some 6), (.un .neg), [(.t 5)], none, []⟩,
 ⟨(some 7), .mv, [(.t 1)], none, []⟩,
 ⟨(some 8), (.call false false false), [(.f 39), (.t 6), (.t 7)], none, []⟩,
 ⟨(some 9), (.un .neg), [(.t 8)], none, []⟩,
 ⟨(some 4), .mv, [(.t 9)], none, []⟩] 0 [4])
 .ret)),
 [(.t 4)]⟩
theorem c38 : funC Try.prog [(0, [0, 1]), (1, [4])] Try.f38 = some (unF l38) := by kernel_rfl
/-- acme/fit.down -/
def l39 : LFun := ⟨2, 16, [],
 (.seq
 (.reg false [] [] [
 ⟨(some 4), .mv, [(.c (.int .i64 0))], none, []⟩] 0 [0, 1])
 (.seq
 (.reg false [] [] [
 ⟨(some 6), .mv, [(.t 0)], none, []⟩,
 ⟨(some 7), .mv, [(.t 1)], none, []⟩,
 ⟨(some 8), (.bin 0 .quo), [(.t 6), (.t 7)], none, []⟩,
 ⟨(some 5), .mv, [(.t 8)], none, []⟩] 0 [0, 1, 5])
 (.seq
 (.seq
 (.reg false [] [] [
 ⟨(some 9), .mv, [(.t 0)], none, []⟩,
 ⟨(some 10), .mv, [(.t 1)], none, []⟩,
 ⟨(some 11), (.bin 0 .rem), [(.t 9), (.t 10)], none, []⟩,
 ⟨(some 12), (.bin 0 .lss), [(.t 11), (.c (.int .i64 0))], none, []⟩] 0 [5, 12])
 (.cond (.t 12)
 (.reg false [] [] [
 ⟨(some 13), .mv, [(.t 5)], none, []⟩,
 ⟨(some 14), (.bin 0 .sub), [(.t 13), (.c (.int .i64 1))], none, []⟩,
 ⟨(some 5), .mv, [(.t 14)], none, []⟩] 0 [5])
 .skip))
 (.seq
 (.reg false [] [] [
 ⟨(some 15), .mv, [(.t 5)], none, []⟩,
 ⟨(some 4), .mv, [(.t 15)], none, []⟩] 0 [4])
 .ret)))),
 [(.t 4)]⟩
theorem c39 : funC Try.prog [(0, [0, 1]), (1, [0, 1, 5]), (2, [5, 12]), (3, [5]), (4, [4])] Try.f39 = some (unF l39) := by kernel_rfl
/-- acme/fit.checkAll -/
def b40_0 : LCode :=
 (.seq
 (.reg true [] [] [
 ⟨(some 11), (.bin 0 .lss), [(.t 10), (.t 9)], none, []⟩] 0 [2, 8, 9, 10, 11])
 (.seq
 (.cond (.t 11)
 .skip
 (.exit 0))
 (.seq
 (.block 1
 (.seq
 (.reg true [6] [6] [
 ⟨(some 12), (.ixs 3), [(.t 8), (.t 10)], none, []⟩,
 ⟨(some 13), (.load (some 3)), [(.t 12)], none, []⟩,
 ⟨(some 6), (.alloc [(.sl none 2 []), (.int .i64 0), (.int .i64 0)]), [], none, []⟩,
 ⟨none, (.store 3 none), [(.t 6), (.t 13)], none, []⟩] 0 [2, 6, 8, 9, 10])
 (.seq
 (.reg true [] [] [
 ⟨(some 14), (.load (some 3)), [(.t 6)], none, []⟩,
 ⟨(some 15), (.call false false false), [(.f 67), (.t 14)], none, []⟩,
 ⟨(some 7), .mv, [(.t 15)], none, []⟩] 0 [2, 7, 8, 9, 10])
 (.seq
 (.reg true [] [] [
 ⟨(some 16), .mv, [(.t 7)], none, []⟩,
 ⟨(some 17), (.bin 0 .neq), [(.t 16), (.c (.int .i64 0))], none, []⟩] 0 [2, 7, 8, 9, 10, 17])
 (.cond (.t 17)
 (.seq
 (.reg true [] [] [
 ⟨(some 18), .mv, [(.t 7)], none, []⟩,
 ⟨(some 4), .mv, [(.t 18)], none, []⟩] 0 [4])
 .ret)
 .skip)))))
 (.reg true [] [] [
 ⟨(some 19), (.bin 0 .add), [(.t 10), (.c (.int .i64 1))], none, []⟩,
 ⟨(some 10), .mv, [(.t 19)], none, []⟩] 0 [2, 8, 9, 10]))))
def l40 : LFun := ⟨2, 22, [],
 (.seq
 (.reg false [2] [2] [
 ⟨(some 2), .box, [(.t 0)], none, []⟩,
 ⟨(some 4), .mv, [(.c (.int .i64 0))], none, []⟩] 0 [1, 2])
 (.seq
 (.seq
 (.reg false [] [] [
 ⟨(some 8), .mv, [(.t 1)], none, []⟩,
 ⟨(some 9), .len, [(.t 8)], none, []⟩,
 ⟨(some 10), .mv, [(.c (.int .i64 0))], none, []⟩] 0 [2, 8, 9, 10])
 (.block 0
 (.loop b40_0)))
 (.seq
 (.reg false [] [] [
 ⟨(some 20), (.load (some 2)), [(.t 2)], none, []⟩,
 ⟨(some 21), (.call false false false), [(.f 36), (.t 20)], none, []⟩,
 ⟨(some 4), .mv, [(.t 21)], none, []⟩] 0 [4])
 .ret))),
 [(.t 4)]⟩
theorem c40 : funC Try.prog [(0, [1, 2]), (1, [2, 8, 9, 10]), (2, [2, 8, 9, 10, 11]), (3, [2, 6, 8, 9, 10]), (4, [2, 7, 8, 9, 10]), (5, [2, 7, 8, 9, 10, 17]), (6, [4]), (7, [2, 8, 9, 10]), (8, [4])] Try.f40 = some (unF l40) := by kernel_rfl
/-- acme/fit.goes -/
def l41 : LFun := ⟨3, 23, [],
 (.seq
 (.reg false [3, 4, 5] [3, 4, 5] [
 ⟨(some 3), .box, [(.t 0)], none, []⟩,
 ⟨(some 4), .box, [(.t 1)], none, []⟩,
 ⟨(some 5), .box, [(.t 2)], none, []⟩,
 ⟨(some 6), .mv, [(.c (.bool false))], none, []⟩] 0 [3, 4, 5])
 (.seq
 (.reg false [7] [7] [
 ⟨(some 10), (.load (some 2)), [(.t 5)], none, []⟩,
 ⟨(some 11), (.build [(.int .i64 0), (.int .i64 0)] [(0, 2)]), [(.t 10)], none, []⟩,
 ⟨(some 12), (.load (some 3)), [(.t 3)], none, []⟩,
 ⟨(some 13), (.load (some 3)), [(.t 4)], none, []⟩,
 ⟨(some 14), (.build [(.int .i64 0), (.int .i64 0), (.sl none 2 []), (.int .i64 0), (.int .i64 0), (.sl none 2 []), (.int .i64 0), (.int .i64 0)] [(0, 2), (2, 3), (5, 3)]), [(.t 11), (.t 12), (.t 13)], none, []⟩,
 ⟨(some 15), (.fa 0), [(.t 3)], none, []⟩,
 ⟨(some 16), (.load none), [(.t 15)], none, []⟩,
 ⟨(some 17), (.fa 0), [(.t 4)], none, []⟩,
 ⟨(some 18), (.load none), [(.t 17)], none, []⟩,
 ⟨(some 19), (.call false false false), [(.f 47), (.t 14), (.t 16), (.t 18)], none, []⟩,
 ⟨(some 9), .mv, [(.t 19)], none, []⟩,
 ⟨(some 20), (.ext 0), [(.t 9)], none, []⟩,
 ⟨(some 21), (.ext 1), [(.t 9)], none, []⟩,
 ⟨(some 7), (.alloc [(.int .i64 0), (.int .i64 0)]), [], none, []⟩,
 ⟨none, (.store 2 none), [(.t 7), (.t 20)], none, []⟩,
 ⟨(some 8), .mv, [(.t 21)], none, []⟩] 0 [8])
 (.seq
 (.reg false [] [] [
 ⟨(some 22), .mv, [(.t 8)], none, []⟩,
 ⟨(some 6), .mv, [(.t 22)], none, []⟩] 0 [6])
 .ret))),
 [(.t 6)]⟩
theorem c41 : funC Try.prog [(0, [3, 4, 5]), (1, [8]), (2, [6])] Try.f41 = some (unF l41) := by kernel_rfl
/-- acme/acmetop.armPerfect -/
def b42_0 : LCode :=
 (.seq
 (.seq
 (.reg true [] [] [
 ⟨(some 14), .mv, [(.t 8)], none, []⟩,
 ⟨(some 15), .mv, [(.t 1)], none, []⟩,
 ⟨(some 16), (.bin 0 .lss), [(.t 14), (.t 15)], none, []⟩] 0 [1, 2, 3, 6, 7, 8, 16])
 (.cond (.t 16)
 .skip
 (.exit 0)))
 (.seq
 (.block 1
 (.reg true [42, 43] [42] [
 ⟨(some 19), (.fa 0), [(.t 7)], none, []⟩,
 ⟨(some 20), (.load none), [(.t 19)], none, []⟩,
 ⟨(some 21), .mv, [(.t 8)], none, []⟩,
 ⟨(some 22), (.fa 0), [(.t 3)], none, []⟩,
 ⟨(some 23), (.load none), [(.t 22)], none, []⟩,
 ⟨(some 24), (.bin 0 .mul), [(.t 21), (.t 23)], none, []⟩,
 ⟨(some 25), (.fa 0), [(.t 3)], none, []⟩,
 ⟨(some 26), (.load none), [(.t 25)], none, []⟩,
 ⟨(some 27), (.bin 0 .quo), [(.t 26), (.c (.int .i64 4))], none, []⟩,
 ⟨(some 28), (.bin 0 .sub), [(.t 24), (.t 27)], none, []⟩,
 ⟨(some 29), .mv, [(.t 2)], none, []⟩,
 ⟨(some 30), (.bin 0 .sub), [(.t 28), (.t 29)], none, []⟩,
 ⟨(some 31), .mv, [(.t 8)], none, []⟩,
 ⟨(some 32), (.fa 0), [(.t 3)], none, []⟩,
 ⟨(some 33), (.load none), [(.t 32)], none, []⟩,
 ⟨(some 34), (.bin 0 .mul), [(.t 31), (.t 33)], none, []⟩,
 ⟨(some 35), (.fa 0), [(.t 3)], none, []⟩,
 ⟨(some 36), (.load none), [(.t 35)], none, []⟩,
 ⟨(some 37), (.bin 0 .quo), [(.t 36), (.c (.int .i64 4))], none, []⟩,
 ⟨(some 38), (.bin 0 .add), [(.t 34), (.t 37)], none, []⟩,
 ⟨(some 39), .mv, [(.t 2)], none, []⟩,
 ⟨(some 40), (.bin 0 .add), [(.t 38), (.t 39)], none, []⟩,
 ⟨(some 41), (.build [(.int .i64 0), (.int .i64 0)] [(0, 1), (1, 1)]), [(.t 30), (.t 40)], none, []⟩,
 ⟨(some 42), (.bsl 2 [(.int .i64 0), (.int .i64 0)] 1 [0]), [(.t 41)], none, []⟩,
 ⟨(some 43), (.append false 2 16), [(.t 20), (.t 42)], none, []⟩,
 ⟨(some 44), (.fa 0), [(.t 7)], none, []⟩,
 ⟨none, (.store 1 none), [(.t 44), (.t 43)], none, []⟩] 0 [1, 2, 3, 6, 7, 8]))
 (.reg true [] [] [
 ⟨(some 17), .mv, [(.t 8)], none, []⟩,
 ⟨(some 18), (.bin 0 .add), [(.t 17), (.c (.int .i64 1))], none, []⟩,
 ⟨(some 8), .mv, [(.t 18)], none, []⟩] 0 [1, 2, 3, 6, 7, 8])))
def l42 : LFun := ⟨3, 46, [],
 (.seq
 (.reg false [3, 6] [3, 6] [
 ⟨(some 3), .box, [(.t 0)], none, []⟩,
 ⟨(some 6), (.alloc [(.sl none 2 []), (.int .i64 0), (.int .i64 0)]), [], none, []⟩] 0 [1, 2, 3, 6])
 (.seq
 (.reg false [7] [7] [
 ⟨(some 9), (.fa 1), [(.t 3)], none, []⟩,
 ⟨(some 10), (.load none), [(.t 9)], none, []⟩,
 ⟨(some 11), (.fa 2), [(.t 3)], none, []⟩,
 ⟨(some 12), (.load none), [(.t 11)], none, []⟩,
 ⟨(some 13), (.build [(.sl (some 2004300) 2 []), (.int .i64 0), (.int .i64 0)] [(1, 1), (2, 1)]), [(.t 10), (.t 12)], none, []⟩,
 ⟨(some 7), (.alloc [(.sl (some 2004300) 2 []), (.int .i64 0), (.int .i64 0)]), [], none, []⟩,
 ⟨none, (.store 3 none), [(.t 7), (.t 13)], none, []⟩] 0 [1, 2, 3, 6, 7])
 (.seq
 (.seq
 (.reg false [] [] [
 ⟨(some 8), .mv, [(.c (.int .i64 0))], none, []⟩] 0 [1, 2, 3, 6, 7, 8])
 (.block 0
 (.loop b42_0)))
 (.seq
 (.reg false [] [] [
 ⟨(some 45), (.load (some 3)), [(.t 7)], none, []⟩,
 ⟨none, (.store 3 none), [(.t 6), (.t 45)], none, []⟩] 0 [6])
 .ret)))),
 [(.c 6 (some 3))]⟩
theorem c42 : funC Try.prog [(0, [1, 2, 3, 6]), (1, [1, 2, 3, 6, 7]), (2, [1, 2, 3, 6, 7, 8]), (3, [1, 2, 3, 6, 7, 8, 16]), (4, [1, 2, 3, 6, 7, 8]), (5, [1, 2, 3, 6, 7, 8]), (6, [6])] Try.f42 = some (unF l42) := by kernel_rfl
/-- acme/fit.Nut -/
def l43 : LFun := ⟨3, 33, [],
 (.seq
 (.reg false [3, 4, 5] [3, 4, 5] [
 ⟨(some 3), .box, [(.t 0)], none, []⟩,
 ⟨(some 4), .box, [(.t 1)], none, []⟩,
 ⟨(some 5), .box, [(.t 2)], none, []⟩,
 ⟨(some 6), .mv, [(.c (.int .i64 0))], none, []⟩,
 ⟨(some 7), .mv, [(.c (.int .i64 0))], none, []⟩] 0 [3, 4, 5])
 (.seq
 (.reg false [13, 8] [13, 8] [
 ⟨(some 10), (.load (some 8)), [(.t 3)], none, []⟩,
 ⟨(some 11), (.load (some 2)), [(.t 5)], none, []⟩,
 ⟨(some 12), (.load (some 3)), [(.t 4)], none, []⟩,
 ⟨(some 13), (.bsl 3 [.nil, (.int .i64 0), (.int .i64 0)] 1 [0]), [(.t 12)], none, []⟩,
 ⟨(some 14), (.call false false false), [(.f 44), (.t 10), (.t 11), (.t 13)], none, []⟩,
 ⟨(some 9), .mv, [(.t 14)], none, []⟩,
 ⟨(some 15), (.ext 0), [(.t 9)], none, []⟩,
 ⟨(some 16), (.ext 1), [(.t 9)], none, []⟩,
 ⟨(some 8), (.alloc [(.int .i64 0), (.int .i64 0), (.int .i64 0), (.int .i64 0), (.int .i64 0), (.int .i64 0), (.bool false), (.int .i64 0), (.int .i64 0), (.int .i64 0)]), [], none, []⟩,
 ⟨none, (.store 10 none), [(.t 8), (.t 15)], none, []⟩,
 ⟨(some 7), .mv, [(.t 16)], none, []⟩] 0 [4, 7, 8])
 (.seq
 (.block 0
 (.seq
 (.reg false [] [] [
 ⟨(some 18), .mv, [(.t 7)], none, []⟩,
 ⟨(some 19), (.bin 0 .neq), [(.t 18), (.c (.int .i64 0))], none, []⟩,
 ⟨(some 17), .mv, [(.t 19)], none, []⟩] 0 [4, 7, 8, 17])
 (.cond (.t 17)
 (.seq
 (.reg false [] [] [
 ⟨(some 20), .mv, [(.t 7)], none, []⟩,
 ⟨(some 6), .mv, [(.c (.int .i64 0))], none, []⟩,
 ⟨(some 7), .mv, [(.t 20)], none, []⟩] 0 [6, 7])
 .ret)
 (.seq
 (.reg false [] [] [
 ⟨(some 22), (.load (some 10)), [(.t 8)], none, []⟩,
 ⟨(some 23), (.call false false false), [(.f 45), (.t 22)], none, []⟩,
 ⟨(some 24), (.bin 0 .eql), [(.t 23), (.c (.int .i64 0))], none, []⟩,
 ⟨(some 21), .mv, [(.t 24)], none, []⟩] 0 [4, 8, 21])
 (.cond (.t 21)
 (.seq
 (.reg false [] [] [
 ⟨(some 6), .mv, [(.c (.int .i64 0))], none, []⟩,
 ⟨(some 7), .mv, [(.c (.int .i64 7))], none, []⟩] 0 [6, 7])
 .ret)
 .skip)))))
 (.seq
 (.reg false [] [] [
 ⟨(some 25), (.load (some 10)), [(.t 8)], none, [26, 29]⟩,
 ⟨(some 26), (.load (some 3)), [(.t 4)], none, [25, 29]⟩,
 ⟨(some 27), (.call true false false), [(.f 46), (.t 25), (.t 26), (.c (.int .i64 (-1)))], none, [29]⟩,
 ⟨(some 28), (.un .neg), [(.t 27)], none, [29, 30, 31]⟩,
 ⟨(some 29), (.load (some 10)), [(.t 8)], none, [25, 26, 27, 28]⟩,
 ⟨(some 30), (.call true false false), [(.f 45), (.t 29)], none, [28]⟩,
 ⟨(some 31), (.bin 0 .mul), [(.c (.int .i64 4)), (.t 30)], none, [28]⟩,
 ⟨(some 32), (.call false false false), [(.f 39), (.t 28), (.t 31)], none, []⟩,
 ⟨(some 6), .mv, [(.t 32)], none, []⟩,
 ⟨(some 7), .mv, [(.c (.int .i64 0))], none, []⟩] 0 [6, 7])
 .ret)))),
 [(.t 6), (.t 7)]⟩
theorem c43 : funC Try.prog [(0, [3, 4, 5]), (1, [4, 7, 8]), (2, [4, 7, 8, 17]), (3, [6, 7]), (4, [4, 8, 21]), (5, [6, 7]), (6, [6, 7])] Try.f43 = some (unF l43) := by kernel_rfl
/-- acme/fit.open -/
def l44 : LFun := ⟨3, 22, [],
 (.seq
 (.reg false [3, 4, 6] [3, 4, 6] [
 ⟨(some 3), .box, [(.t 0)], none, []⟩,
 ⟨(some 4), .box, [(.t 1)], none, []⟩,
 ⟨(some 6), (.alloc [(.int .i64 0), (.int .i64 0), (.int .i64 0), (.int .i64 0), (.int .i64 0), (.int .i64 0), (.bool false), (.int .i64 0), (.int .i64 0), (.int .i64 0)]), [], none, []⟩,
 ⟨(some 7), .mv, [(.c (.int .i64 0))], none, []⟩] 0 [2, 3, 4, 6])
 (.seq
 (.seq
 (.reg false [] [] [
 ⟨(some 9), (.load (some 8)), [(.t 3)], none, []⟩,
 ⟨(some 10), (.call false false false), [(.f 34), (.t 9)], none, []⟩,
 ⟨(some 8), .mv, [(.t 10)], none, []⟩] 0 [2, 3, 4, 6, 8])
 (.seq
 (.reg false [] [] [
 ⟨(some 11), .mv, [(.t 8)], none, []⟩,
 ⟨(some 12), (.bin 0 .neq), [(.t 11), (.c (.int .i64 0))], none, []⟩] 0 [2, 3, 4, 6, 8, 12])
 (.cond (.t 12)
 (.seq
 (.reg false [] [] [
 ⟨(some 13), (.load (some 10)), [(.t 6)], none, []⟩,
 ⟨(some 14), .mv, [(.t 8)], none, []⟩,
 ⟨none, (.store 10 none), [(.t 6), (.t 13)], none, []⟩,
 ⟨(some 7), .mv, [(.t 14)], none, []⟩] 0 [6, 7])
 .ret)
 .skip)))
 (.seq
 (.reg false [] [] [
 ⟨(some 15), (.load (some 8)), [(.t 3)], none, [16, 17, 19, 20, 21]⟩,
 ⟨(some 16), (.load (some 2)), [(.t 4)], none, [15, 19, 20, 21]⟩,
 ⟨(some 17), (.build [(.int .i64 0), (.int .i64 0)] [(0, 2)]), [(.t 16)], none, [15, 19, 20, 21]⟩,
 ⟨(some 18), (.build [(.int .i64 0), (.int .i64 0), (.int .i64 0), (.int .i64 0), (.int .i64 0), (.int .i64 0), (.bool false), (.int .i64 0), (.int .i64 0), (.int .i64 0)] [(0, 8), (8, 2)]), [(.t 15), (.t 17)], none, [19, 20, 21]⟩,
 ⟨(some 19), (.load (some 2)), [(.t 4)], none, [15, 16, 17, 18, 20]⟩,
 ⟨(some 20), .mv, [(.t 2)], none, [15, 16, 17, 18, 19]⟩,
 ⟨(some 21), (.call true false false), [(.f 40), (.t 19), (.t 20)], none, [15, 16, 17, 18]⟩,
 ⟨none, (.store 10 (some 6)), [(.t 6), (.t 18)], none, []⟩,
 ⟨(some 7), .mv, [(.t 21)], none, []⟩] 0 [6, 7])
 .ret))),
 [(.c 6 (some 10)), (.t 7)]⟩
theorem c44 : funC Try.prog [(0, [2, 3, 4, 6]), (1, [2, 3, 4, 6, 8]), (2, [2, 3, 4, 6, 8, 12]), (3, [6, 7]), (4, [6, 7])] Try.f44 = some (unF l44) := by kernel_rfl
/-- (acme/fit.ideal).leans -/
def l45 : LFun := ⟨1, 10, [],
 (.seq
 (.reg false [1] [1] [
 ⟨(some 1), .box, [(.t 0)], none, []⟩,
 ⟨(some 2), .mv, [(.c (.int .i64 0))], none, []⟩] 0 [1])
 (.seq
 (.reg false [] [] [
 ⟨(some 3), (.fa 0), [(.t 1)], none, []⟩,
 ⟨(some 4), (.fa 1), [(.t 3)], none, []⟩,
 ⟨(some 5), (.load none), [(.t 4)], none, []⟩,
 ⟨(some 6), (.fa 0), [(.t 1)], none, []⟩,
 ⟨(some 7), (.fa 2), [(.t 6)], none, []⟩,
 ⟨(some 8), (.load none), [(.t 7)], none, []⟩,
 ⟨(some 9), (.bin 0 .add), [(.t 5), (.t 8)], none, []⟩,
 ⟨(some 2), .mv, [(.t 9)], none, []⟩] 0 [2])
 .ret)),
 [(.t 2)]⟩
theorem c45 : funC Try.prog [(0, [1]), (1, [2])] Try.f45 = some (unF l45) := by kernel_rfl
/-- (acme/fit.ideal).size -/
def b46_0w : List Nat :=
 [15, 16, 9, 10, 17, 18, 19, 20, 21, 22, 23, 24, 25, 26, 27, 28, 29, 17, 18, 19, 20, 21, 22, 23, 24, 25, 26, 27, 28, 29]
def b46_0a : LCode :=
 (.seq
 (.reg true [] [] [
 ⟨(some 9), .mv, [(.t 15)], none, []⟩] 0 [3, 4, 5, 7, 8, 9, 16])
 (.reg true [] [] [
 ⟨(some 10), .mv, [(.t 16)], none, []⟩] 0 [3, 4, 5, 7, 8, 9, 10]))
def b46_0 : LCode :=
 (.block 1
 (.alt [23, 29] [7, 8]
 (.reg true [22, 23, 28, 29] [22, 23, 28, 29] [
 ⟨(some 17), (.load none), [(.t 7)], none, [18, 19, 20, 21, 22, 24, 25, 26, 27, 28]⟩,
 ⟨(some 18), (.load none), [(.t 5)], none, [17, 20, 24, 25, 26, 27, 28]⟩,
 ⟨(some 19), (.un .neg), [(.t 18)], none, [17, 20, 24, 25, 26, 27, 28]⟩,
 ⟨(some 20), .mv, [(.t 9)], none, [17, 18, 19, 24, 25, 26, 27, 28]⟩,
 ⟨(some 21), (.bin 0 .mul), [(.t 19), (.t 20)], none, [17, 24, 25, 26, 27, 28]⟩,
 ⟨(some 22), (.bsl 1 [(.int .i64 0)] 1 [0]), [(.t 21)], none, [17, 24, 25, 26, 27, 28]⟩,
 ⟨(some 23), (.append true 1 8), [(.t 17), (.t 22)], none, [24, 25, 26, 27, 28]⟩,
 ⟨(some 24), (.load none), [(.t 8)], none, [17, 18, 19, 20, 21, 22, 23, 25, 26, 27, 28]⟩,
 ⟨(some 25), (.load none), [(.t 5)], none, [17, 18, 19, 20, 21, 22, 23, 24, 26]⟩,
 ⟨(some 26), .mv, [(.t 10)], none, [17, 18, 19, 20, 21, 22, 23, 24, 25]⟩,
 ⟨(some 27), (.bin 0 .mul), [(.t 25), (.t 26)], none, [17, 18, 19, 20, 21, 22, 23, 24]⟩,
 ⟨(some 28), (.bsl 1 [(.int .i64 0)] 1 [0]), [(.t 27)], none, [17, 18, 19, 20, 21, 22, 23, 24]⟩,
 ⟨(some 29), (.append true 1 8), [(.t 24), (.t 28)], none, []⟩,
 ⟨none, (.store 1 (some 7)), [(.t 7), (.t 23)], none, []⟩,
 ⟨none, (.store 1 (some 8)), [(.t 8), (.t 29)], none, []⟩] 0 [3, 4, 5, 7, 8])
 (.reg true [22, 23, 28, 29] [22, 28] [
 ⟨(some 17), (.load none), [(.t 7)], none, [18, 19, 20, 21, 22, 24, 25, 26, 27, 28]⟩,
 ⟨(some 18), (.load none), [(.t 5)], none, [17, 20, 24, 25, 26, 27, 28]⟩,
 ⟨(some 19), (.un .neg), [(.t 18)], none, [17, 20, 24, 25, 26, 27, 28]⟩,
 ⟨(some 20), .mv, [(.t 9)], none, [17, 18, 19, 24, 25, 26, 27, 28]⟩,
 ⟨(some 21), (.bin 0 .mul), [(.t 19), (.t 20)], none, [17, 24, 25, 26, 27, 28]⟩,
 ⟨(some 22), (.bsl 1 [(.int .i64 0)] 1 [0]), [(.t 21)], none, [17, 24, 25, 26, 27, 28]⟩,
 ⟨(some 23), (.appo 1 8), [(.t 17), (.t 22)], none, [24, 25, 26, 27, 28]⟩,
 ⟨(some 24), (.load none), [(.t 8)], none, [17, 18, 19, 20, 21, 22, 23, 25, 26, 27, 28]⟩,
 ⟨(some 25), (.load none), [(.t 5)], none, [17, 18, 19, 20, 21, 22, 23, 24, 26]⟩,
 ⟨(some 26), .mv, [(.t 10)], none, [17, 18, 19, 20, 21, 22, 23, 24, 25]⟩,
 ⟨(some 27), (.bin 0 .mul), [(.t 25), (.t 26)], none, [17, 18, 19, 20, 21, 22, 23, 24]⟩,
 ⟨(some 28), (.bsl 1 [(.int .i64 0)] 1 [0]), [(.t 27)], none, [17, 18, 19, 20, 21, 22, 23, 24]⟩,
 ⟨(some 29), (.appo 1 8), [(.t 24), (.t 28)], none, []⟩,
 ⟨none, (.store 1 (some 7)), [(.t 7), (.t 23)], none, []⟩,
 ⟨none, (.store 1 (some 8)), [(.t 8), (.t 29)], none, []⟩] 0 [3, 4, 5, 7, 8])))
def l46 : LFun := ⟨3, 61, [],
 (.seq
 (.reg false [3, 4, 5] [3, 4, 5] [
 ⟨(some 3), .box, [(.t 0)], none, []⟩,
 ⟨(some 4), .box, [(.t 1)], none, []⟩,
 ⟨(some 5), .box, [(.t 2)], none, []⟩,
 ⟨(some 6), .mv, [(.c (.int .i64 0))], none, []⟩] 0 [3, 4, 5])
 (.seq
 (.reg false [7, 8] [7, 8] [
 ⟨(some 7), (.alloc [(.sl (some 2002300) 1 [])]), [], none, []⟩,
 ⟨(some 8), (.alloc [(.sl (some 2002900) 1 [])]), [], none, []⟩] 0 [3, 4, 5, 7, 8])
 (.seq
 (.seq
 (.reg false [14] [14] [
 ⟨(some 12), (.load (some 10)), [(.t 3)], none, []⟩,
 ⟨(some 13), (.load (some 3)), [(.t 4)], none, []⟩,
 ⟨(some 14), (.call false true true), [(.f 68), (.t 12), (.t 13)], none, []⟩] 0 [3, 4, 5, 7, 8, 14])
 (.block 0
 (.rng (.t 14) [15, 16] b46_0w b46_0a b46_0)))
 (.seq
 (.reg false [] [] [
 ⟨(some 30), (.fa 8), [(.t 3)], none, [32, 33, 34, 35, 36, 37, 38, 39, 41, 42, 43, 44, 45, 46, 47, 48, 49, 50]⟩,
 ⟨(some 31), (.load (some 2)), [(.t 30)], none, [32, 33, 34, 35, 36, 37, 38, 39, 41, 42, 43, 44, 45, 46, 47, 48, 49, 50]⟩,
 ⟨(some 32), (.load none), [(.t 5)], none, [30, 31, 33, 34, 35, 36, 37, 38, 41, 42, 43, 44, 45, 46, 47, 48, 49, 50]⟩,
 ⟨(some 33), (.fa 0), [(.t 3)], none, [30, 31, 32, 36, 37, 41, 42, 43, 44, 45, 46, 47, 48, 49, 50]⟩,
 ⟨(some 34), (.fa 1), [(.t 33)], none, [30, 31, 32, 36, 37, 41, 42, 43, 44, 45, 46, 47, 48, 49, 50]⟩,
 ⟨(some 35), (.load none), [(.t 34)], none, [30, 31, 32, 36, 37, 41, 42, 43, 44, 45, 46, 47, 48, 49, 50]⟩,
 ⟨(some 36), (.fa 1), [(.t 4)], none, [30, 31, 32, 33, 34, 35, 41, 42, 43, 44, 45, 46, 47, 48, 49, 50]⟩,
 ⟨(some 37), (.load none), [(.t 36)], none, [30, 31, 32, 33, 34, 35, 41, 42, 43, 44, 45, 46, 47, 48, 49, 50]⟩,
 ⟨(some 38), (.bin 0 .sub), [(.t 35), (.t 37)], none, [30, 31, 32, 41, 42, 43, 44, 45, 46, 47, 48, 49, 50]⟩,
 ⟨(some 39), (.bin 0 .mul), [(.t 32), (.t 38)], none, [30, 31, 41, 42, 43, 44, 45, 46, 47, 48, 49, 50]⟩,
 ⟨(some 40), (.call true false false), [(.f 69), (.t 31), (.t 39)], none, [41, 42, 43, 44, 45, 46, 47, 48, 49, 50]⟩,
 ⟨(some 41), (.fa 8), [(.t 3)], none, [30, 31, 32, 33, 34, 35, 36, 37, 38, 39, 40, 43, 44, 45, 46, 47, 48, 49, 50]⟩,
 ⟨(some 42), (.load (some 2)), [(.t 41)], none, [30, 31, 32, 33, 34, 35, 36, 37, 38, 39, 40, 43, 44, 45, 46, 47, 48, 49, 50]⟩,
 ⟨(some 43), (.load none), [(.t 5)], none, [30, 31, 32, 33, 34, 35, 36, 37, 38, 39, 40, 41, 42, 44, 45, 46, 47, 48, 49]⟩,
 ⟨(some 44), (.fa 0), [(.t 3)], none, [30, 31, 32, 33, 34, 35, 36, 37, 38, 39, 40, 41, 42, 43, 47, 48]⟩,
 ⟨(some 45), (.fa 2), [(.t 44)], none, [30, 31, 32, 33, 34, 35, 36, 37, 38, 39, 40, 41, 42, 43, 47, 48]⟩,
 ⟨(some 46), (.load none), [(.t 45)], none, [30, 31, 32, 33, 34, 35, 36, 37, 38, 39, 40, 41, 42, 43, 47, 48]⟩,
 ⟨(some 47), (.fa 2), [(.t 4)], none, [30, 31, 32, 33, 34, 35, 36, 37, 38, 39, 40, 41, 42, 43, 44, 45, 46]⟩,
 ⟨(some 48), (.load none), [(.t 47)], none, [30, 31, 32, 33, 34, 35, 36, 37, 38, 39, 40, 41, 42, 43, 44, 45, 46]⟩,
 ⟨(some 49), (.bin 0 .sub), [(.t 46), (.t 48)], none, [30, 31, 32, 33, 34, 35, 36, 37, 38, 39, 40, 41, 42, 43]⟩,
 ⟨(some 50), (.bin 0 .mul), [(.t 43), (.t 49)], none, [30, 31, 32, 33, 34, 35, 36, 37, 38, 39, 40, 41, 42]⟩,
 ⟨(some 51), (.call false false false), [(.f 69), (.t 42), (.t 50)], none, []⟩,
 ⟨(some 52), (.bin 0 .add), [(.t 40), (.t 51)], none, []⟩,
 ⟨(some 11), .mv, [(.t 52)], none, []⟩] 0 [7, 8, 11])
 (.seq
 (.reg false [] [] [
 ⟨(some 53), (.load none), [(.t 7)], none, [55, 58, 59]⟩,
 ⟨(some 54), (.call true false false), [(.f 70), (.t 53)], none, [55, 58, 59]⟩,
 ⟨(some 55), (.load none), [(.t 8)], none, [53, 54, 58, 59]⟩,
 ⟨(some 56), (.call true false false), [(.f 70), (.t 55)], none, [58, 59]⟩,
 ⟨(some 57), (.bin 0 .add), [(.t 54), (.t 56)], none, [58, 59]⟩,
 ⟨(some 58), .mv, [(.t 11)], none, [53, 54, 55, 56, 57]⟩,
 ⟨(some 59), (.bin 0 .mul), [(.c (.int .i64 4)), (.t 58)], none, [53, 54, 55, 56, 57]⟩,
 ⟨(some 60), (.bin 0 .add), [(.t 57), (.t 59)], none, []⟩,
 ⟨(some 6), .mv, [(.t 60)], none, []⟩] 0 [6])
 .ret))))),
 [(.t 6)]⟩
theorem c46 : funC Try.prog [(0, [3, 4, 5]), (1, [3, 4, 5, 7, 8]), (2, [3, 4, 5, 7, 8, 14]), (3, [3, 4, 5, 7, 8, 9, 16]), (4, [3, 4, 5, 7, 8, 9, 10]), (5, [3, 4, 5, 7, 8]), (6, [7, 8, 11]), (7, [6])] Try.f46 = some (unF l46) := by kernel_rfl
/-- (acme/fit.mesh).shifts -/
def b47_0 : LCode :=
 (.seq
 (.reg true [] [] [
 ⟨(some 14), (.bin 0 .lss), [(.t 13), (.t 12)], none, []⟩] 0 [2, 3, 6, 11, 12, 13, 14])
 (.seq
 (.cond (.t 14)
 .skip
 (.exit 0))
 (.seq
 (.block 1
 (.seq
 (.reg true [9] [9] [
 ⟨(some 15), .mv, [(.t 13)], none, []⟩,
 ⟨(some 16), (.ixs 2), [(.t 11), (.t 13)], none, []⟩,
 ⟨(some 17), (.load (some 2)), [(.t 16)], none, []⟩,
 ⟨(some 9), (.alloc [(.int .i64 0), (.int .i64 0)]), [], none, []⟩,
 ⟨(some 8), .mv, [(.t 15)], none, []⟩,
 ⟨none, (.store 2 none), [(.t 9), (.t 17)], none, []⟩] 0 [2, 3, 6, 8, 9, 11, 12, 13])
 (.seq
 (.reg true [10] [10] [
 ⟨(some 18), (.fa 0), [(.t 3)], none, [20, 21, 22, 23, 24, 25, 26, 27, 28, 10]⟩,
 ⟨(some 19), (.load (some 2)), [(.t 18)], none, [20, 21, 22, 23, 24, 25, 26, 27, 28, 10]⟩,
 ⟨(some 20), (.load (some 2)), [(.t 9)], none, [18, 19, 21, 22, 23, 24, 25, 26, 27, 28, 10]⟩,
 ⟨(some 21), .mv, [(.t 2)], none, [18, 19, 20, 22, 25, 26, 27, 28, 10]⟩,
 ⟨(some 22), .mv, [(.t 8)], none, [18, 19, 20, 21, 25, 26, 27, 28, 10]⟩,
 ⟨(some 23), (.ixs 2), [(.t 21), (.t 22)], none, [18, 19, 20, 25, 26, 27, 28, 10]⟩,
 ⟨(some 24), (.load (some 2)), [(.t 23)], none, [18, 19, 20, 25, 26, 27, 28, 10]⟩,
 ⟨(some 25), (.fa 2), [(.t 3)], none, [18, 19, 20, 21, 22, 23, 24, 27, 28, 10]⟩,
 ⟨(some 26), (.load (some 3)), [(.t 25)], none, [18, 19, 20, 21, 22, 23, 24, 27, 28, 10]⟩,
 ⟨(some 27), (.fa 5), [(.t 3)], none, [18, 19, 20, 21, 22, 23, 24, 25, 26, 10]⟩,
 ⟨(some 28), (.load (some 3)), [(.t 27)], none, [18, 19, 20, 21, 22, 23, 24, 25, 26, 10]⟩,
 ⟨(some 29), (.call false false false), [(.f 71), (.t 19), (.t 20), (.t 24), (.t 26), (.t 28)], none, [10]⟩,
 ⟨(some 10), (.alloc [(.int .i64 0), (.int .i64 0)]), [], none, [18, 19, 20, 21, 22, 23, 24, 25, 26, 27, 28, 29]⟩,
 ⟨none, (.store 2 (some 10)), [(.t 10), (.t 29)], none, []⟩] 0 [2, 3, 6, 8, 10, 11, 12, 13])
 (.seq
 (.seq
 (.reg true [] [] [
 ⟨(some 30), .mv, [(.t 8)], none, []⟩,
 ⟨(some 31), (.bin 0 .eql), [(.t 30), (.c (.int .i64 0))], none, []⟩] 0 [2, 3, 6, 10, 11, 12, 13, 31])
 (.cond (.t 31)
 (.reg true [] [] [
 ⟨(some 32), (.load (some 2)), [(.t 10)], none, []⟩,
 ⟨none, (.store 2 none), [(.t 6), (.t 32)], none, []⟩] 0 [2, 3, 6, 10, 11, 12, 13])
 .skip))
 (.reg true [] [] [
 ⟨(some 33), (.fa 0), [(.t 6)], none, []⟩,
 ⟨(some 34), (.load none), [(.t 33)], none, []⟩,
 ⟨(some 35), (.fa 0), [(.t 10)], none, []⟩,
 ⟨(some 36), (.load none), [(.t 35)], none, []⟩,
 ⟨(some 37), .max, [(.t 34), (.t 36)], none, []⟩,
 ⟨(some 38), (.fa 1), [(.t 6)], none, []⟩,
 ⟨(some 39), (.load none), [(.t 38)], none, []⟩,
 ⟨(some 40), (.fa 1), [(.t 10)], none, []⟩,
 ⟨(some 41), (.load none), [(.t 40)], none, []⟩,
 ⟨(some 42), .min, [(.t 39), (.t 41)], none, []⟩,
 ⟨(some 43), (.build [(.int .i64 0), (.int .i64 0)] [(0, 1), (1, 1)]), [(.t 37), (.t 42)], none, []⟩,
 ⟨none, (.store 2 none), [(.t 6), (.t 43)], none, []⟩] 0 [2, 3, 6, 11, 12, 13])))))
 (.reg true [] [] [
 ⟨(some 44), (.bin 0 .add), [(.t 13), (.c (.int .i64 1))], none, []⟩,
 ⟨(some 13), .mv, [(.t 44)], none, []⟩] 0 [2, 3, 6, 11, 12, 13]))))
def l47 : LFun := ⟨3, 51, [],
 (.seq
 (.reg false [3, 6] [3, 6] [
 ⟨(some 3), .box, [(.t 0)], none, []⟩,
 ⟨(some 6), (.alloc [(.int .i64 0), (.int .i64 0)]), [], none, []⟩,
 ⟨(some 7), .mv, [(.c (.bool false))], none, []⟩] 0 [1, 2, 3, 6])
 (.seq
 (.seq
 (.reg false [] [] [
 ⟨(some 11), .mv, [(.t 1)], none, []⟩,
 ⟨(some 12), .len, [(.t 11)], none, []⟩,
 ⟨(some 13), .mv, [(.c (.int .i64 0))], none, []⟩] 0 [2, 3, 6, 11, 12, 13])
 (.block 0
 (.loop b47_0)))
 (.seq
 (.reg false [] [] [
 ⟨(some 45), (.load (some 2)), [(.t 6)], none, []⟩,
 ⟨(some 46), (.fa 0), [(.t 6)], none, []⟩,
 ⟨(some 47), (.load none), [(.t 46)], none, []⟩,
 ⟨(some 48), (.fa 1), [(.t 6)], none, []⟩,
 ⟨(some 49), (.load none), [(.t 48)], none, []⟩,
 ⟨(some 50), (.bin 0 .leq), [(.t 47), (.t 49)], none, []⟩,
 ⟨none, (.store 2 none), [(.t 6), (.t 45)], none, []⟩,
 ⟨(some 7), .mv, [(.t 50)], none, []⟩] 0 [6, 7])
 .ret))),
 [(.c 6 (some 2)), (.t 7)]⟩
theorem c47 : funC Try.prog [(0, [1, 2, 3, 6]), (1, [2, 3, 6, 11, 12, 13]), (2, [2, 3, 6, 11, 12, 13, 14]), (3, [2, 3, 6, 8, 9, 11, 12, 13]), (4, [2, 3, 6, 8, 10, 11, 12, 13]), (5, [2, 3, 6, 10, 11, 12, 13, 31]), (6, [2, 3, 6, 10, 11, 12, 13]), (7, [2, 3, 6, 11, 12, 13]), (8, [2, 3, 6, 11, 12, 13]), (9, [6, 7])] Try.f47 = some (unF l47) := by kernel_rfl
/-- acme/zone.Check -/
def b48_0 : LCode :=
 (.seq
 (.reg true [] [] [
 ⟨(some 29), (.bin 0 .lss), [(.t 28), (.c (.int .i64 2))], none, []⟩] 0 [1, 27, 28, 29])
 (.seq
 (.cond (.t 29)
 .skip
 (.exit 0))
 (.seq
 (.block 1
 (.seq
 (.reg true [] [] [
 ⟨(some 30), (.idx 2 1 none), [(.t 27), (.t 28)], none, []⟩,
 ⟨(some 4), .mv, [(.t 30)], none, []⟩] 0 [1, 4, 27, 28])
 (.seq
 (.reg true [] [] [
 ⟨(some 31), .mv, [(.t 4)], none, []⟩,
 ⟨(some 32), (.mkf 75), [(.t 1)], none, []⟩,
 ⟨(some 33), (.call false false false), [(.f 74), (.t 31), (.t 32)], none, []⟩] 0 [1, 27, 28, 33])
 (.cond (.t 33)
 (.seq
 (.reg true [] [] [
 ⟨(some 2), .mv, [(.c (.int .i64 4))], none, []⟩] 0 [1, 2])
 .ret)
 .skip))))
 (.reg true [] [] [
 ⟨(some 34), (.bin 0 .add), [(.t 28), (.c (.int .i64 1))], none, []⟩,
 ⟨(some 28), .mv, [(.t 34)], none, []⟩] 0 [1, 27, 28]))))
def b48_1 : LCode :=
 (.seq
 (.reg true [] [] [
 ⟨(some 39), (.bin 0 .lss), [(.t 38), (.t 37)], none, []⟩] 0 [1, 5, 36, 37, 38, 39])
 (.seq
 (.cond (.t 39)
 .skip
 (.exit 2))
 (.seq
 (.block 3
 (.seq
 (.reg true [] [] [
 ⟨(some 40), (.ixs 1), [(.t 36), (.t 38)], none, []⟩,
 ⟨(some 41), (.load none), [(.t 40)], none, []⟩,
 ⟨(some 7), .mv, [(.t 41)], none, []⟩] 0 [1, 5, 7, 36, 37, 38])
 (.seq
 (.seq
 (.reg true [44] [44] [
 ⟨(some 42), .mv, [(.t 5)], none, []⟩,
 ⟨(some 43), .mv, [(.t 7)], none, []⟩,
 ⟨(some 44), (.bsl 1 [(.int .i64 0)] 1 [0]), [(.t 43)], none, []⟩,
 ⟨(some 45), (.call false false false), [(.f 53), (.t 42), (.c (.int .i64 10000000)), (.t 44)], none, []⟩,
 ⟨(some 46), (.un .not), [(.t 45)], none, []⟩] 0 [1, 7, 36, 37, 38, 46])
 (.cond (.t 46)
 (.seq
 (.reg true [] [] [
 ⟨(some 2), .mv, [(.c (.int .i64 2))], none, []⟩] 0 [1, 2])
 .ret)
 .skip))
 (.reg true [] [] [
 ⟨(some 47), .mv, [(.t 7)], none, []⟩,
 ⟨(some 48), (.bin 0 .add), [(.t 47), (.c (.int .i64 1))], none, []⟩,
 ⟨(some 5), .mv, [(.t 48)], none, []⟩] 0 [1, 5, 36, 37, 38]))))
 (.reg true [] [] [
 ⟨(some 49), (.bin 0 .add), [(.t 38), (.c (.int .i64 1))], none, []⟩,
 ⟨(some 38), .mv, [(.t 49)], none, []⟩] 0 [1, 5, 36, 37, 38]))))
def l48 : LFun := ⟨1, 74, [],
 (.seq
 (.reg false [1] [1] [
 ⟨(some 1), .box, [(.t 0)], none, []⟩,
 ⟨(some 2), .mv, [(.c (.int .i64 0))], none, []⟩] 0 [1])
 (.seq
 (.seq
 (.reg false [] [] [
 ⟨(some 10), (.fa 0), [(.t 1)], none, []⟩,
 ⟨(some 11), (.load none), [(.t 10)], none, []⟩,
 ⟨(some 12), (.call false false false), [(.f 72), (.t 11), (.c (.int .i64 20))], none, []⟩,
 ⟨(some 13), .mv, [(.t 12)], none, []⟩,
 ⟨(some 14), (.fa 1), [(.t 1)], (some (13, false)), []⟩,
 ⟨(some 15), (.load none), [(.t 14)], (some (13, false)), []⟩,
 ⟨(some 16), (.call false false false), [(.f 73), (.t 15), (.c (.int .i64 12))], (some (13, false)), []⟩,
 ⟨(some 17), .pick, [(.t 13), (.c (.bool true)), (.t 16)], none, []⟩,
 ⟨(some 18), .mv, [(.t 17)], none, []⟩,
 ⟨(some 19), (.fa 2), [(.t 1)], (some (18, false)), []⟩,
 ⟨(some 20), (.load none), [(.t 19)], (some (18, false)), []⟩,
 ⟨(some 21), (.call false false false), [(.f 73), (.t 20), (.c (.int .i64 12))], (some (18, false)), []⟩,
 ⟨(some 22), .pick, [(.t 18), (.c (.bool true)), (.t 21)], none, []⟩] 0 [1, 22])
 (.cond (.t 22)
 (.seq
 (.reg false [] [] [
 ⟨(some 2), .mv, [(.c (.int .i64 5))], none, []⟩] 0 [1, 2])
 .ret)
 .skip))
 (.seq
 (.seq
 (.reg false [] [] [
 ⟨(some 23), (.fa 1), [(.t 1)], none, []⟩,
 ⟨(some 24), (.load none), [(.t 23)], none, []⟩,
 ⟨(some 25), (.fa 2), [(.t 1)], none, []⟩,
 ⟨(some 26), (.load none), [(.t 25)], none, []⟩,
 ⟨(some 27), (.build [(.sl none 1 []), (.sl none 1 [])] [(0, 1), (1, 1)]), [(.t 24), (.t 26)], none, []⟩,
 ⟨(some 28), .mv, [(.c (.int .i64 0))], none, []⟩] 0 [1, 27, 28])
 (.block 0
 (.loop b48_0)))
 (.seq
 (.reg false [] [] [
 ⟨(some 5), .mv, [(.c (.int .i64 1))], none, []⟩] 0 [1, 5])
 (.seq
 (.seq
 (.reg false [] [] [
 ⟨(some 35), (.fa 0), [(.t 1)], none, []⟩,
 ⟨(some 36), (.load none), [(.t 35)], none, []⟩,
 ⟨(some 37), .len, [(.t 36)], none, []⟩,
 ⟨(some 38), .mv, [(.c (.int .i64 0))], none, []⟩] 0 [1, 5, 36, 37, 38])
 (.block 2
 (.loop b48_1)))
 (.seq
 (.reg false [52, 55] [52, 55] [
 ⟨(some 50), (.fa 1), [(.t 1)], none, [53, 54]⟩,
 ⟨(some 51), (.load none), [(.t 50)], none, [53, 54]⟩,
 ⟨(some 52), (.call true false true), [(.f 76), (.t 51)], none, [53, 54]⟩,
 ⟨(some 53), (.fa 2), [(.t 1)], none, [50, 51, 52]⟩,
 ⟨(some 54), (.load none), [(.t 53)], none, [50, 51, 52]⟩,
 ⟨(some 55), (.call false false true), [(.f 76), (.t 54)], none, []⟩,
 ⟨(some 8), .mv, [(.t 52)], none, []⟩,
 ⟨(some 9), .mv, [(.t 55)], none, []⟩] 0 [1, 8, 9])
 (.seq
 (.seq
 (.reg false [] [] [
 ⟨(some 56), .mv, [(.t 8)], none, []⟩,
 ⟨(some 57), .len, [(.t 56)], none, []⟩,
 ⟨(some 58), (.bin 0 .eql), [(.t 57), (.c (.int .i64 0))], none, []⟩,
 ⟨(some 59), .mv, [(.t 58)], none, []⟩,
 ⟨(some 60), .mv, [(.t 9)], (some (59, false)), []⟩,
 ⟨(some 61), .len, [(.t 60)], (some (59, false)), []⟩,
 ⟨(some 62), (.bin 0 .eql), [(.t 61), (.c (.int .i64 0))], (some (59, false)), []⟩,
 ⟨(some 63), .pick, [(.t 59), (.c (.bool true)), (.t 62)], none, []⟩,
 ⟨(some 64), .mv, [(.t 63)], none, []⟩,
 ⟨(some 65), .mv, [(.t 8)], (some (64, false)), []⟩,
 ⟨(some 66), (.call false false false), [(.f 53), (.c (.int .i64 0)), (.c (.int .i64 100000)), (.t 65)], (some (64, false)), []⟩,
 ⟨(some 67), (.un .not), [(.t 66)], (some (64, false)), []⟩,
 ⟨(some 68), .pick, [(.t 64), (.c (.bool true)), (.t 67)], none, []⟩,
 ⟨(some 69), .mv, [(.t 68)], none, []⟩,
 ⟨(some 70), .mv, [(.t 9)], (some (69, false)), []⟩,
 ⟨(some 71), (.call false false false), [(.f 53), (.c (.int .i64 (-100000))), (.c (.int .i64 100000)), (.t 70)], (some (69, false)), []⟩,
 ⟨(some 72), (.un .not), [(.t 71)], (some (69, false)), []⟩,
 ⟨(some 73), .pick, [(.t 69), (.c (.bool true)), (.t 72)], none, []⟩] 0 [1, 73])
 (.cond (.t 73)
 (.seq
 (.reg false [] [] [
 ⟨(some 2), .mv, [(.c (.int .i64 2))], none, []⟩] 0 [1, 2])
 .ret)
 .skip))
 (.seq
 (.reg false [] [] [
 ⟨(some 2), .mv, [(.c (.int .i64 0))], none, []⟩] 0 [1, 2])
 .ret)))))))),
 [(.t 2)]⟩
theorem c48 : funC Try.prog [(0, [1]), (1, [1, 22]), (2, [1, 2]), (3, [1, 27, 28]), (4, [1, 27, 28, 29]), (5, [1, 4, 27, 28]), (6, [1, 27, 28, 33]), (7, [1, 2]), (8, [1, 27, 28]), (9, [1, 5]), (10, [1, 5, 36, 37, 38]), (11, [1, 5, 36, 37, 38, 39]), (12, [1, 5, 7, 36, 37, 38]), (13, [1, 7, 36, 37, 38, 46]), (14, [1, 2]), (15, [1, 5, 36, 37, 38]), (16, [1, 5, 36, 37, 38]), (17, [1, 8, 9]), (18, [1, 73]), (19, [1, 2]), (20, [1, 2])] Try.f48 = some (unF l48) := by kernel_rfl
/-- (acme/zone.table).isClass -/
def l49 : LFun := ⟨2, 25, [],
 (.seq
 (.reg false [2, 3] [2, 3] [
 ⟨(some 2), .box, [(.t 0)], none, []⟩,
 ⟨(some 3), .box, [(.t 1)], none, []⟩,
 ⟨(some 4), .mv, [(.c (.bool false))], none, []⟩] 0 [2, 3])
 (.seq
 (.reg false [12, 22] [12, 22] [
 ⟨(some 5), (.fa 0), [(.t 2)], none, []⟩,
 ⟨(some 6), (.fa 2), [(.t 5)], none, []⟩,
 ⟨(some 7), (.load none), [(.t 6)], none, []⟩,
 ⟨(some 8), .len, [(.t 7)], none, []⟩,
 ⟨(some 9), (.bin 0 .sub), [(.t 8), (.c (.int .i64 1))], none, []⟩,
 ⟨(some 10), (.fa 0), [(.t 3)], none, []⟩,
 ⟨(some 11), (.load none), [(.t 10)], none, []⟩,
 ⟨(some 12), (.bsl 1 [(.int .i64 0)] 1 [0]), [(.t 11)], none, []⟩,
 ⟨(some 13), (.call false false false), [(.f 53), (.c (.int .i64 0)), (.t 9), (.t 12)], none, []⟩,
 ⟨(some 14), .mv, [(.t 13)], none, []⟩,
 ⟨(some 15), (.fa 0), [(.t 2)], (some (14, true)), []⟩,
 ⟨(some 16), (.fa 1), [(.t 15)], (some (14, true)), []⟩,
 ⟨(some 17), (.load none), [(.t 16)], (some (14, true)), []⟩,
 ⟨(some 18), .len, [(.t 17)], (some (14, true)), []⟩,
 ⟨(some 19), (.bin 0 .sub), [(.t 18), (.c (.int .i64 1))], (some (14, true)), []⟩,
 ⟨(some 20), (.fa 1), [(.t 3)], (some (14, true)), []⟩,
 ⟨(some 21), (.load none), [(.t 20)], (some (14, true)), []⟩,
 ⟨(some 22), (.bsl 1 [(.int .i64 0)] 1 [0]), [(.t 21)], (some (14, true)), []⟩,
 ⟨(some 23), (.call false false false), [(.f 53), (.c (.int .i64 0)), (.t 19), (.t 22)], (some (14, true)), []⟩,
 ⟨(some 24), .pick, [(.t 14), (.t 23), (.c (.bool false))], none, []⟩,
 ⟨(some 4), .mv, [(.t 24)], none, []⟩] 0 [4])
 .ret)),
 [(.t 4)]⟩
theorem c49 : funC Try.prog [(0, [2, 3]), (1, [4])] Try.f49 = some (unF l49) := by kernel_rfl
/-- (acme/zone.table).step -/
def l50 : LFun := ⟨2, 19, [],
 (.seq
 (.reg false [2, 3] [2, 3] [
 ⟨(some 2), .box, [(.t 0)], none, []⟩,
 ⟨(some 3), .box, [(.t 1)], none, []⟩,
 ⟨(some 4), .mv, [(.c (.int .i64 0))], none, []⟩,
 ⟨(some 5), .mv, [(.c (.int .i64 0))], none, []⟩] 0 [2, 3])
 (.seq
 (.reg false [] [] [
 ⟨(some 7), (.fa 0), [(.t 2)], none, []⟩,
 ⟨(some 8), (.fa 0), [(.t 7)], none, []⟩,
 ⟨(some 9), (.load none), [(.t 8)], none, []⟩,
 ⟨(some 10), (.mkf 78), [(.t 3)], none, []⟩,
 ⟨(some 11), (.call false false false), [(.f 77), (.t 9), (.t 10)], none, []⟩,
 ⟨(some 6), .mv, [(.t 11)], none, []⟩] 0 [3, 6])
 (.seq
 (.seq
 (.reg false [] [] [
 ⟨(some 12), (.load none), [(.t 3)], none, []⟩,
 ⟨(some 13), (.bin 0 .lss), [(.t 12), (.c (.int .i64 1))], none, []⟩,
 ⟨(some 14), .mv, [(.t 13)], none, []⟩,
 ⟨(some 15), .mv, [(.t 6)], (some (14, false)), []⟩,
 ⟨(some 16), (.bin 0 .lss), [(.t 15), (.c (.int .i64 0))], (some (14, false)), []⟩,
 ⟨(some 17), .pick, [(.t 14), (.c (.bool true)), (.t 16)], none, []⟩] 0 [3, 6, 17])
 (.cond (.t 17)
 (.seq
 (.reg false [] [] [
 ⟨(some 4), .mv, [(.c (.int .i64 0))], none, []⟩,
 ⟨(some 5), .mv, [(.c (.int .i64 3))], none, []⟩] 0 [3, 4, 5])
 .ret)
 .skip))
 (.seq
 (.reg false [] [] [
 ⟨(some 18), .mv, [(.t 6)], none, []⟩,
 ⟨(some 4), .mv, [(.t 18)], none, []⟩,
 ⟨(some 5), .mv, [(.c (.int .i64 0))], none, []⟩] 0 [3, 4, 5])
 .ret)))),
 [(.t 4), (.t 5)]⟩
theorem c50 : funC Try.prog [(0, [2, 3]), (1, [3, 6]), (2, [3, 6, 17]), (3, [3, 4, 5]), (4, [3, 4, 5])] Try.f50 = some (unF l50) := by kernel_rfl
/-- acme/zone.play -/
def l51 : LFun := ⟨2, 21, [],
 (.seq
 (.reg false [2, 3, 4] [2, 3, 4] [
 ⟨(some 2), .box, [(.t 0)], none, []⟩,
 ⟨(some 3), .box, [(.t 1)], none, []⟩,
 ⟨(some 4), (.alloc [(.int .i64 0), (.int .i64 0)]), [], none, []⟩] 0 [2, 3, 4])
 (.seq
 (.reg false [] [] [
 ⟨(some 5), (.fa 0), [(.t 3)], none, []⟩,
 ⟨(some 6), (.fa 0), [(.t 5)], none, []⟩,
 ⟨(some 7), (.load none), [(.t 6)], none, []⟩,
 ⟨(some 8), (.fa 0), [(.t 2)], none, []⟩,
 ⟨(some 9), (.fa 1), [(.t 8)], none, []⟩,
 ⟨(some 10), (.load none), [(.t 9)], none, []⟩,
 ⟨(some 11), (.bin 0 .sub), [(.t 7), (.t 10)], none, []⟩,
 ⟨(some 12), (.fa 0), [(.t 3)], none, []⟩,
 ⟨(some 13), (.fa 1), [(.t 12)], none, []⟩,
 ⟨(some 14), (.load none), [(.t 13)], none, []⟩,
 ⟨(some 15), (.fa 0), [(.t 2)], none, []⟩,
 ⟨(some 16), (.fa 0), [(.t 15)], none, []⟩,
 ⟨(some 17), (.load none), [(.t 16)], none, []⟩,
 ⟨(some 18), (.bin 0 .sub), [(.t 14), (.t 17)], none, []⟩,
 ⟨(some 19), (.build [(.int .i64 0), (.int .i64 0)] [(0, 1), (1, 1)]), [(.t 11), (.t 18)], none, []⟩,
 ⟨(some 20), (.build [(.int .i64 0), (.int .i64 0)] [(0, 2)]), [(.t 19)], none, []⟩,
 ⟨none, (.store 2 none), [(.t 4), (.t 20)], none, []⟩] 0 [4])
 .ret)),
 [(.c 4 (some 2))]⟩
theorem c51 : funC Try.prog [(0, [2, 3, 4]), (1, [4])] Try.f51 = some (unF l51) := by kernel_rfl
/-- (acme/zone.span).isValid -/
def l52 : LFun := ⟨3, 26, [],
 (.seq
 (.reg false [3] [3] [
 ⟨(some 3), .box, [(.t 0)], none, []⟩,
 ⟨(some 6), .mv, [(.c (.bool false))], none, []⟩] 0 [1, 2, 3])
 (.seq
 (.reg false [15] [15] [
 ⟨(some 7), .mv, [(.t 1)], none, []⟩,
 ⟨(some 8), .mv, [(.t 2)], none, []⟩,
 ⟨(some 9), (.fa 0), [(.t 3)], none, []⟩,
 ⟨(some 10), (.fa 0), [(.t 9)], none, []⟩,
 ⟨(some 11), (.load none), [(.t 10)], none, []⟩,
 ⟨(some 12), (.fa 0), [(.t 3)], none, []⟩,
 ⟨(some 13), (.fa 1), [(.t 12)], none, []⟩,
 ⟨(some 14), (.load none), [(.t 13)], none, []⟩,
 ⟨(some 15), (.bsl 1 [(.int .i64 0)] 2 [0, 1]), [(.t 11), (.t 14)], none, []⟩,
 ⟨(some 16), (.call false false false), [(.f 53), (.t 7), (.t 8), (.t 15)], none, []⟩,
 ⟨(some 17), .mv, [(.t 16)], none, []⟩,
 ⟨(some 18), (.fa 0), [(.t 3)], (some (17, true)), []⟩,
 ⟨(some 19), (.fa 0), [(.t 18)], (some (17, true)), []⟩,
 ⟨(some 20), (.load none), [(.t 19)], (some (17, true)), []⟩,
 ⟨(some 21), (.fa 0), [(.t 3)], (some (17, true)), []⟩,
 ⟨(some 22), (.fa 1), [(.t 21)], (some (17, true)), []⟩,
 ⟨(some 23), (.load none), [(.t 22)], (some (17, true)), []⟩,
 ⟨(some 24), (.bin 0 .leq), [(.t 20), (.t 23)], (some (17, true)), []⟩,
 ⟨(some 25), .pick, [(.t 17), (.t 24), (.c (.bool false))], none, []⟩,
 ⟨(some 6), .mv, [(.t 25)], none, []⟩] 0 [6])
 .ret)),
 [(.t 6)]⟩
theorem c52 : funC Try.prog [(0, [1, 2, 3]), (1, [6])] Try.f52 = some (unF l52) := by kernel_rfl
/-- acme/zone.within -/
def l53 : LFun := ⟨3, 11, [],
 (.seq
 (.reg false [3, 4] [3, 4] [
 ⟨(some 3), .box, [(.t 0)], none, []⟩,
 ⟨(some 4), .box, [(.t 1)], none, []⟩,
 ⟨(some 6), .mv, [(.c (.bool false))], none, []⟩] 0 [2, 3, 4])
 (.seq
 (.reg false [] [] [
 ⟨(some 7), .mv, [(.t 2)], none, []⟩,
 ⟨(some 8), (.mkf 79), [(.t 3), (.t 4)], none, []⟩,
 ⟨(some 9), (.call false false false), [(.f 64), (.t 7), (.t 8)], none, []⟩,
 ⟨(some 10), (.un .not), [(.t 9)], none, []⟩,
 ⟨(some 6), .mv, [(.t 10)], none, []⟩] 0 [3, 4, 6])
 .ret)),
 [(.t 6)]⟩
theorem c53 : funC Try.prog [(0, [2, 3, 4]), (1, [3, 4, 6])] Try.f53 = some (unF l53) := by kernel_rfl
/-- acme/zone.sorted -/
def b54_0 : LCode :=
 (.seq
 (.reg true [] [] [
 ⟨(some 14), (.bin 0 .lss), [(.t 13), (.t 12)], none, []⟩] 0 [2, 4, 5, 7, 12, 13, 14])
 (.seq
 (.cond (.t 14)
 .skip
 (.exit 0))
 (.seq
 (.block 1
 (.seq
 (.reg true [] [] [
 ⟨(some 15), .mv, [(.t 13)], none, []⟩,
 ⟨(some 9), .mv, [(.t 15)], none, []⟩] 0 [2, 4, 5, 7, 9, 12, 13])
 (.seq
 (.reg true [10, 11] [10, 11] [
 ⟨(some 16), (.load (some 2)), [(.t 4)], none, [17, 18, 20, 21, 22, 10, 11]⟩,
 ⟨(some 17), .mv, [(.t 9)], none, [16, 18, 20, 21, 22, 10, 11]⟩,
 ⟨(some 18), .mv, [(.t 2)], none, [16, 17, 20, 21, 22, 10, 11]⟩,
 ⟨(some 19), (.call true false false), [(.f 80), (.t 16), (.t 17), (.t 18)], none, [20, 21, 22, 10, 11]⟩,
 ⟨(some 20), (.load (some 2)), [(.t 5)], none, [16, 17, 18, 19, 21, 22, 10, 11]⟩,
 ⟨(some 21), .mv, [(.t 9)], none, [16, 17, 18, 19, 20, 22, 10, 11]⟩,
 ⟨(some 22), .mv, [(.t 2)], none, [16, 17, 18, 19, 20, 21, 10, 11]⟩,
 ⟨(some 23), (.call false false false), [(.f 80), (.t 20), (.t 21), (.t 22)], none, [10, 11]⟩,
 ⟨(some 10), (.alloc [(.int .i64 0), (.int .i64 0)]), [], none, [16, 17, 18, 19, 20, 21, 22, 23, 11]⟩,
 ⟨(some 11), (.alloc [(.int .i64 0), (.int .i64 0)]), [], none, [16, 17, 18, 19, 20, 21, 22, 23, 10]⟩,
 ⟨none, (.store 2 (some 10)), [(.t 10), (.t 19)], none, []⟩,
 ⟨none, (.store 2 (some 11)), [(.t 11), (.t 23)], none, []⟩] 0 [2, 4, 5, 7, 10, 11, 12, 13])
 (.seq
 (.reg true [] [] [
 ⟨(some 24), (.fa 0), [(.t 10)], none, [27, 28, 29]⟩,
 ⟨(some 25), (.fa 0), [(.t 24)], none, [27, 28, 29]⟩,
 ⟨(some 26), (.load none), [(.t 25)], none, [27, 28, 29]⟩,
 ⟨(some 27), (.fa 0), [(.t 10)], none, [24, 25, 26]⟩,
 ⟨(some 28), (.fa 1), [(.t 27)], none, [24, 25, 26]⟩,
 ⟨(some 29), (.load none), [(.t 28)], none, [24, 25, 26]⟩,
 ⟨(some 30), (.bin 0 .gtr), [(.t 26), (.t 29)], none, []⟩,
 ⟨(some 31), .mv, [(.t 30)], none, []⟩,
 ⟨(some 32), (.fa 0), [(.t 11)], (some (31, false)), [35, 36, 37]⟩,
 ⟨(some 33), (.fa 0), [(.t 32)], (some (31, false)), [35, 36, 37]⟩,
 ⟨(some 34), (.load none), [(.t 33)], (some (31, false)), [35, 36, 37]⟩,
 ⟨(some 35), (.fa 0), [(.t 11)], (some (31, false)), [32, 33, 34]⟩,
 ⟨(some 36), (.fa 1), [(.t 35)], (some (31, false)), [32, 33, 34]⟩,
 ⟨(some 37), (.load none), [(.t 36)], (some (31, false)), [32, 33, 34]⟩,
 ⟨(some 38), (.bin 0 .gtr), [(.t 34), (.t 37)], (some (31, false)), []⟩,
 ⟨(some 39), .pick, [(.t 31), (.c (.bool true)), (.t 38)], none, []⟩,
 ⟨(some 40), .mv, [(.t 39)], none, []⟩,
 ⟨(some 41), (.load (some 2)), [(.t 10)], (some (40, false)), [42, 44]⟩,
 ⟨(some 42), (.load (some 2)), [(.t 11)], (some (40, false)), [41, 44]⟩,
 ⟨(some 43), (.call true false false), [(.f 51), (.t 41), (.t 42)], (some (40, false)), [44]⟩,
 ⟨(some 44), (.load (some 2)), [(.t 7)], (some (40, false)), [41, 42, 43]⟩,
 ⟨(some 45), (.call false false false), [(.f 81), (.t 43), (.t 44)], (some (40, false)), []⟩,
 ⟨(some 46), (.un .not), [(.t 45)], (some (40, false)), []⟩,
 ⟨(some 47), .pick, [(.t 40), (.c (.bool true)), (.t 46)], none, []⟩] 0 [2, 4, 5, 7, 12, 13, 47])
 (.cond (.t 47)
 (.seq
 (.reg true [] [] [
 ⟨(some 8), .mv, [(.c (.bool false))], none, []⟩] 0 [8])
 .ret)
 .skip)))))
 (.reg true [] [] [
 ⟨(some 48), (.bin 0 .add), [(.t 13), (.c (.int .i64 1))], none, []⟩,
 ⟨(some 13), .mv, [(.t 48)], none, []⟩] 0 [2, 4, 5, 7, 12, 13]))))
def l54 : LFun := ⟨4, 49, [],
 (.seq
 (.reg false [4, 5, 7] [4, 5, 7] [
 ⟨(some 4), .box, [(.t 0)], none, []⟩,
 ⟨(some 5), .box, [(.t 1)], none, []⟩,
 ⟨(some 7), .box, [(.t 3)], none, []⟩,
 ⟨(some 8), .mv, [(.c (.bool false))], none, []⟩] 0 [2, 4, 5, 7])
 (.seq
 (.seq
 (.reg false [] [] [
 ⟨(some 12), .mv, [(.t 2)], none, []⟩,
 ⟨(some 13), .mv, [(.c (.int .i64 0))], none, []⟩] 0 [2, 4, 5, 7, 12, 13])
 (.block 0
 (.loop b54_0)))
 (.seq
 (.reg false [] [] [
 ⟨(some 8), .mv, [(.c (.bool true))], none, []⟩] 0 [8])
 .ret))),
 [(.t 8)]⟩
theorem c54 : funC Try.prog [(0, [2, 4, 5, 7]), (1, [2, 4, 5, 7, 12, 13]), (2, [2, 4, 5, 7, 12, 13, 14]), (3, [2, 4, 5, 7, 9, 12, 13]), (4, [2, 4, 5, 7, 10, 11, 12, 13]), (5, [2, 4, 5, 7, 12, 13, 47]), (6, [8]), (7, [2, 4, 5, 7, 12, 13]), (8, [8])] Try.f54 = some (unF l54) := by kernel_rfl
/-- acme/thread.within -/
def l62 : LFun := ⟨3, 11, [],
 (.seq
 (.reg false [3, 4] [3, 4] [
 ⟨(some 3), .box, [(.t 0)], none, []⟩,
 ⟨(some 4), .box, [(.t 1)], none, []⟩,
 ⟨(some 6), .mv, [(.c (.bool false))], none, []⟩] 0 [2, 3, 4])
 (.seq
 (.reg false [] [] [
 ⟨(some 7), .mv, [(.t 2)], none, []⟩,
 ⟨(some 8), (.mkf 92), [(.t 3), (.t 4)], none, []⟩,
 ⟨(some 9), (.call false false false), [(.f 64), (.t 7), (.t 8)], none, []⟩,
 ⟨(some 10), (.un .not), [(.t 9)], none, []⟩,
 ⟨(some 6), .mv, [(.t 10)], none, []⟩] 0 [3, 4, 6])
 .ret)),
 [(.t 6)]⟩
theorem c62 : funC Try.prog [(0, [2, 3, 4]), (1, [3, 4, 6])] Try.f62 = some (unF l62) := by kernel_rfl
/-- (acme/thread.form).width -/
def l63 : LFun := ⟨2, 15, [],
 (.seq
 (.reg false [2] [2] [
 ⟨(some 2), .box, [(.t 0)], none, []⟩,
 ⟨(some 4), .mv, [(.c (.int .i64 0))], none, []⟩] 0 [1, 2])
 (.seq
 (.reg false [] [] [
 ⟨(some 5), (.fa 0), [(.t 2)], none, [9, 10, 11, 12, 13]⟩,
 ⟨(some 6), (.fa 0), [(.t 5)], none, [9, 10, 11, 12, 13]⟩,
 ⟨(some 7), (.load none), [(.t 6)], none, [9, 10, 11, 12, 13]⟩,
 ⟨(some 8), (.bin 0 .mul), [(.c (.int .i64 1000)), (.t 7)], none, [9, 10, 11, 12, 13]⟩,
 ⟨(some 9), .mv, [(.t 1)], none, [5, 6, 7, 8, 11, 12]⟩,
 ⟨(some 10), (.bin 0 .mul), [(.c (.int .i64 2)), (.t 9)], none, [5, 6, 7, 8, 11, 12]⟩,
 ⟨(some 11), (.load (some 8)), [(.t 2)], none, [5, 6, 7, 8, 9, 10]⟩,
 ⟨(some 12), (.call true false false), [(.f 93), (.t 11)], none, [5, 6, 7, 8, 9, 10]⟩,
 ⟨(some 13), (.bin 0 .mul), [(.t 10), (.t 12)], none, [5, 6, 7, 8]⟩,
 ⟨(some 14), (.bin 0 .sub), [(.t 8), (.t 13)], none, []⟩,
 ⟨(some 4), .mv, [(.t 14)], none, []⟩] 0 [4])
 .ret)),
 [(.t 4)]⟩
theorem c63 : funC Try.prog [(0, [1, 2]), (1, [4])] Try.f63 = some (unF l63) := by kernel_rfl
/-- slices.ContainsFunc[[]int,int] -/
def l64 : LFun := ⟨2, 9, [],
 (.seq
 (.reg false [] [] [
 ⟨(some 4), .mv, [(.c (.bool false))], none, []⟩] 0 [0, 1])
 (.seq
 (.reg false [] [] [
 ⟨(some 5), .mv, [(.t 0)], none, []⟩,
 ⟨(some 6), .mv, [(.t 1)], none, []⟩,
 ⟨(some 7), (.call false false false), [(.f 77), (.t 5), (.t 6)], none, []⟩,
 ⟨(some 8), (.bin 0 .geq), [(.t 7), (.c (.int .i64 0))], none, []⟩,
 ⟨(some 4), .mv, [(.t 8)], none, []⟩] 0 [4])
 .ret)),
 [(.t 4)]⟩
theorem c64 : funC Try.prog [(0, [0, 1]), (1, [4])] Try.f64 = some (unF l64) := by kernel_rfl
/-- acme/fit.within$1 -/
def l65 : LFun := ⟨3, 13, [],
 (.seq
 (.reg false [] [] [
 ⟨(some 4), .mv, [(.c (.bool false))], none, []⟩] 0 [0, 1, 2])
 (.seq
 (.reg false [] [] [
 ⟨(some 5), .mv, [(.t 0)], none, []⟩,
 ⟨(some 6), (.load none), [(.t 1)], none, []⟩,
 ⟨(some 7), (.bin 0 .lss), [(.t 5), (.t 6)], none, []⟩,
 ⟨(some 8), .mv, [(.t 7)], none, []⟩,
 ⟨(some 9), .mv, [(.t 0)], (some (8, false)), []⟩,
 ⟨(some 10), (.load none), [(.t 2)], (some (8, false)), []⟩,
 ⟨(some 11), (.bin 0 .gtr), [(.t 9), (.t 10)], (some (8, false)), []⟩,
 ⟨(some 12), .pick, [(.t 8), (.c (.bool true)), (.t 11)], none, []⟩,
 ⟨(some 4), .mv, [(.t 12)], none, []⟩] 0 [4])
 .ret)),
 [(.t 4)]⟩
theorem c65 : funC Try.prog [(0, [0, 1, 2]), (1, [4])] Try.f65 = some (unF l65) := by kernel_rfl
/-- acme/fit.isSpan -/
def l66 : LFun := ⟨3, 22, [],
 (.seq
 (.reg false [3] [3] [
 ⟨(some 3), .box, [(.t 0)], none, []⟩,
 ⟨(some 6), .mv, [(.c (.bool false))], none, []⟩] 0 [1, 2, 3])
 (.seq
 (.reg false [19] [19] [
 ⟨(some 7), (.fa 0), [(.t 3)], none, []⟩,
 ⟨(some 8), (.load none), [(.t 7)], none, []⟩,
 ⟨(some 9), (.fa 1), [(.t 3)], none, []⟩,
 ⟨(some 10), (.load none), [(.t 9)], none, []⟩,
 ⟨(some 11), (.bin 0 .leq), [(.t 8), (.t 10)], none, []⟩,
 ⟨(some 12), .mv, [(.t 11)], none, []⟩,
 ⟨(some 13), .mv, [(.t 1)], (some (12, true)), []⟩,
 ⟨(some 14), .mv, [(.t 2)], (some (12, true)), []⟩,
 ⟨(some 15), (.fa 0), [(.t 3)], (some (12, true)), []⟩,
 ⟨(some 16), (.load none), [(.t 15)], (some (12, true)), []⟩,
 ⟨(some 17), (.fa 1), [(.t 3)], (some (12, true)), []⟩,
 ⟨(some 18), (.load none), [(.t 17)], (some (12, true)), []⟩,
 ⟨(some 19), (.bsl 1 [(.int .i64 0)] 2 [0, 1]), [(.t 16), (.t 18)], (some (12, true)), []⟩,
 ⟨(some 20), (.call false false false), [(.f 35), (.t 13), (.t 14), (.t 19)], (some (12, true)), []⟩,
 ⟨(some 21), .pick, [(.t 12), (.t 20), (.c (.bool false))], none, []⟩,
 ⟨(some 6), .mv, [(.t 21)], none, []⟩] 0 [6])
 .ret)),
 [(.t 6)]⟩
theorem c66 : funC Try.prog [(0, [1, 2, 3]), (1, [6])] Try.f66 = some (unF l66) := by kernel_rfl
/-- acme/fit.Check -/
def b67_0 : LCode :=
 (.seq
 (.reg true [] [] [
 ⟨(some 27), (.bin 0 .lss), [(.t 26), (.t 25)], none, []⟩] 0 [3, 24, 25, 26, 27])
 (.seq
 (.cond (.t 27)
 .skip
 (.exit 1))
 (.seq
 (.block 2
 (.seq
 (.reg true [5] [5] [
 ⟨(some 28), (.ixs 2), [(.t 24), (.t 26)], none, []⟩,
 ⟨(some 29), (.load (some 2)), [(.t 28)], none, []⟩,
 ⟨(some 5), (.alloc [(.int .i64 0), (.int .i64 0)]), [], none, []⟩,
 ⟨none, (.store 2 none), [(.t 5), (.t 29)], none, []⟩] 0 [3, 5, 24, 25, 26])
 (.seq
 (.seq
 (.reg true [33, 41] [33, 41] [
 ⟨(some 30), .mv, [(.t 3)], none, []⟩,
 ⟨(some 31), (.fa 0), [(.t 5)], none, []⟩,
 ⟨(some 32), (.load none), [(.t 31)], none, []⟩,
 ⟨(some 33), (.bsl 1 [(.int .i64 0)] 1 [0]), [(.t 32)], none, []⟩,
 ⟨(some 34), (.call false false false), [(.f 35), (.t 30), (.c (.int .i64 10000000)), (.t 33)], none, []⟩,
 ⟨(some 35), (.un .not), [(.t 34)], none, []⟩,
 ⟨(some 36), .mv, [(.t 35)], none, []⟩,
 ⟨(some 37), (.fa 0), [(.t 5)], (some (36, false)), []⟩,
 ⟨(some 38), (.load none), [(.t 37)], (some (36, false)), []⟩,
 ⟨(some 39), (.fa 1), [(.t 5)], (some (36, false)), []⟩,
 ⟨(some 40), (.load none), [(.t 39)], (some (36, false)), []⟩,
 ⟨(some 41), (.bsl 1 [(.int .i64 0)] 1 [0]), [(.t 40)], (some (36, false)), []⟩,
 ⟨(some 42), (.call false false false), [(.f 35), (.t 38), (.c (.int .i64 10000000)), (.t 41)], (some (36, false)), []⟩,
 ⟨(some 43), (.un .not), [(.t 42)], (some (36, false)), []⟩,
 ⟨(some 44), .pick, [(.t 36), (.c (.bool true)), (.t 43)], none, []⟩] 0 [5, 24, 25, 26, 44])
 (.cond (.t 44)
 (.seq
 (.reg true [] [] [
 ⟨(some 2), .mv, [(.c (.int .i64 2))], none, []⟩] 0 [2])
 .ret)
 .skip))
 (.reg true [] [] [
 ⟨(some 45), (.fa 1), [(.t 5)], none, []⟩,
 ⟨(some 46), (.load none), [(.t 45)], none, []⟩,
 ⟨(some 3), .mv, [(.t 46)], none, []⟩] 0 [3, 24, 25, 26]))))
 (.reg true [] [] [
 ⟨(some 47), (.bin 0 .add), [(.t 26), (.c (.int .i64 1))], none, []⟩,
 ⟨(some 26), .mv, [(.t 47)], none, []⟩] 0 [3, 24, 25, 26]))))
def l67 : LFun := ⟨1, 48, [],
 (.seq
 (.reg false [1] [1] [
 ⟨(some 1), .box, [(.t 0)], none, []⟩,
 ⟨(some 2), .mv, [(.c (.int .i64 0))], none, []⟩] 0 [1])
 (.seq
 (.block 0
 (.seq
 (.reg false [] [] [
 ⟨(some 7), (.fa 0), [(.t 1)], none, []⟩,
 ⟨(some 8), (.load none), [(.t 7)], none, []⟩,
 ⟨(some 9), .len, [(.t 8)], none, []⟩,
 ⟨(some 10), (.bin 0 .gtr), [(.t 9), (.c (.int .i64 60))], none, []⟩,
 ⟨(some 6), .mv, [(.t 10)], none, []⟩] 0 [1, 6])
 (.cond (.t 6)
 (.seq
 (.reg false [] [] [
 ⟨(some 2), .mv, [(.c (.int .i64 5))], none, []⟩] 0 [2])
 .ret)
 (.seq
 (.seq
 (.reg false [] [] [
 ⟨(some 12), (.fa 0), [(.t 1)], none, []⟩,
 ⟨(some 13), (.load none), [(.t 12)], none, []⟩,
 ⟨(some 14), .len, [(.t 13)], none, []⟩,
 ⟨(some 15), (.bin 0 .eql), [(.t 14), (.c (.int .i64 0))], none, []⟩,
 ⟨(some 11), .mv, [(.t 15)], none, []⟩] 0 [1, 11])
 (.cond (.t 11)
 .skip
 (.reg false [20] [20] [
 ⟨(some 16), (.fa 1), [(.t 1)], none, []⟩,
 ⟨(some 17), (.load none), [(.t 16)], none, []⟩,
 ⟨(some 18), (.fa 2), [(.t 1)], none, []⟩,
 ⟨(some 19), (.load none), [(.t 18)], none, []⟩,
 ⟨(some 20), (.bsl 1 [(.int .i64 0)] 2 [0, 1]), [(.t 17), (.t 19)], none, []⟩,
 ⟨(some 21), (.call false false false), [(.f 35), (.c (.int .i64 0)), (.c (.int .i64 3000)), (.t 20)], none, []⟩,
 ⟨(some 22), (.un .not), [(.t 21)], none, []⟩,
 ⟨(some 11), .mv, [(.t 22)], none, []⟩] 0 [1, 11])))
 (.cond (.t 11)
 (.seq
 (.reg false [] [] [
 ⟨(some 2), .mv, [(.c (.int .i64 2))], none, []⟩] 0 [2])
 .ret)
 .skip)))))
 (.seq
 (.reg false [] [] [
 ⟨(some 3), .mv, [(.c (.int .i64 (-10000000)))], none, []⟩] 0 [1, 3])
 (.seq
 (.seq
 (.reg false [] [] [
 ⟨(some 23), (.fa 0), [(.t 1)], none, []⟩,
 ⟨(some 24), (.load none), [(.t 23)], none, []⟩,
 ⟨(some 25), .len, [(.t 24)], none, []⟩,
 ⟨(some 26), .mv, [(.c (.int .i64 0))], none, []⟩] 0 [3, 24, 25, 26])
 (.block 1
 (.loop b67_0)))
 (.seq
 (.reg false [] [] [
 ⟨(some 2), .mv, [(.c (.int .i64 0))], none, []⟩] 0 [2])
 .ret))))),
 [(.t 2)]⟩
theorem c67 : funC Try.prog [(0, [1]), (1, [1, 6]), (2, [2]), (3, [1, 11]), (4, [1, 11]), (5, [2]), (6, [1, 3]), (7, [3, 24, 25, 26]), (8, [3, 24, 25, 26, 27]), (9, [3, 5, 24, 25, 26]), (10, [5, 24, 25, 26, 44]), (11, [2]), (12, [3, 24, 25, 26]), (13, [3, 24, 25, 26]), (14, [2])] Try.f67 = some (unF l67) := by kernel_rfl
/-- (acme/fit.ideal).flanks -/
def l68 : LFun := ⟨2, 6, [],
 (.seq
 (.reg false [2, 3] [2, 3] [
 ⟨(some 2), .box, [(.t 0)], none, []⟩,
 ⟨(some 3), .box, [(.t 1)], none, []⟩,
 ⟨(some 4), .mv, [(.c .dead)], none, []⟩] 0 [2, 3])
 (.seq
 (.reg false [] [] [
 ⟨(some 5), (.mkf 94), [(.t 3), (.t 2)], none, []⟩,
 ⟨(some 4), .mv, [(.t 5)], none, []⟩] 0 [2, 3, 4])
 .ret)),
 [(.t 4)]⟩
theorem c68 : funC Try.prog [(0, [2, 3]), (1, [2, 3, 4])] Try.f68 = some (unF l68) := by kernel_rfl
/-- (acme/fit.heights).most -/
def l69 : LFun := ⟨2, 16, [],
 (.seq
 (.reg false [2] [2] [
 ⟨(some 2), .box, [(.t 0)], none, []⟩,
 ⟨(some 4), .mv, [(.c (.int .i64 0))], none, []⟩] 0 [1, 2])
 (.seq
 (.reg false [] [] [
 ⟨(some 5), (.fa 0), [(.t 2)], none, []⟩,
 ⟨(some 6), (.fa 0), [(.t 5)], none, []⟩,
 ⟨(some 7), (.load none), [(.t 6)], none, []⟩,
 ⟨(some 8), .mv, [(.t 1)], none, []⟩,
 ⟨(some 9), (.bin 0 .mul), [(.t 7), (.t 8)], none, []⟩,
 ⟨(some 10), (.fa 0), [(.t 2)], none, []⟩,
 ⟨(some 11), (.fa 1), [(.t 10)], none, []⟩,
 ⟨(some 12), (.load none), [(.t 11)], none, []⟩,
 ⟨(some 13), .mv, [(.t 1)], none, []⟩,
 ⟨(some 14), (.bin 0 .mul), [(.t 12), (.t 13)], none, []⟩,
 ⟨(some 15), .max, [(.t 9), (.t 14)], none, []⟩,
 ⟨(some 4), .mv, [(.t 15)], none, []⟩] 0 [4])
 .ret)),
 [(.t 4)]⟩
theorem c69 : funC Try.prog [(0, [1, 2]), (1, [4])] Try.f69 = some (unF l69) := by kernel_rfl
/-- slices.Max[[]int,int] -/
def b70_0 : LCode :=
 (.seq
 (.seq
 (.reg true [] [] [
 ⟨(some 12), .mv, [(.t 4)], none, []⟩,
 ⟨(some 13), .mv, [(.t 0)], none, []⟩,
 ⟨(some 14), .len, [(.t 13)], none, []⟩,
 ⟨(some 15), (.bin 0 .lss), [(.t 12), (.t 14)], none, []⟩] 0 [0, 3, 4, 15])
 (.cond (.t 15)
 .skip
 (.exit 0)))
 (.seq
 (.block 1
 (.reg true [] [] [
 ⟨(some 18), .mv, [(.t 3)], none, []⟩,
 ⟨(some 19), .mv, [(.t 0)], none, []⟩,
 ⟨(some 20), .mv, [(.t 4)], none, []⟩,
 ⟨(some 21), (.ixs 1), [(.t 19), (.t 20)], none, []⟩,
 ⟨(some 22), (.load none), [(.t 21)], none, []⟩,
 ⟨(some 23), .max, [(.t 18), (.t 22)], none, []⟩,
 ⟨(some 3), .mv, [(.t 23)], none, []⟩] 0 [0, 3, 4]))
 (.reg true [] [] [
 ⟨(some 16), .mv, [(.t 4)], none, []⟩,
 ⟨(some 17), (.bin 0 .add), [(.t 16), (.c (.int .i64 1))], none, []⟩,
 ⟨(some 4), .mv, [(.t 17)], none, []⟩] 0 [0, 3, 4])))
def l70 : LFun := ⟨1, 25, [],
 (.seq
 (.reg false [] [] [
 ⟨(some 2), .mv, [(.c (.int .i64 0))], none, []⟩] 0 [0])
 (.seq
 (.seq
 (.reg false [] [] [
 ⟨(some 5), .mv, [(.t 0)], none, []⟩,
 ⟨(some 6), .len, [(.t 5)], none, []⟩,
 ⟨(some 7), (.bin 0 .lss), [(.t 6), (.c (.int .i64 1))], none, []⟩] 0 [0, 7])
 (.cond (.t 7)
 (.reg false [] [] [
 ⟨none, .bad, [], none, []⟩,
 ⟨none, .bad, [], none, []⟩] 0 [0])
 .skip))
 (.seq
 (.reg false [] [] [
 ⟨(some 9), .mv, [(.t 0)], none, []⟩,
 ⟨(some 10), (.ixs 1), [(.t 9), (.c (.int .i64 0))], none, []⟩,
 ⟨(some 11), (.load none), [(.t 10)], none, []⟩,
 ⟨(some 3), .mv, [(.t 11)], none, []⟩] 0 [0, 3])
 (.seq
 (.seq
 (.reg false [] [] [
 ⟨(some 4), .mv, [(.c (.int .i64 1))], none, []⟩] 0 [0, 3, 4])
 (.block 0
 (.loop b70_0)))
 (.seq
 (.reg false [] [] [
 ⟨(some 24), .mv, [(.t 3)], none, []⟩,
 ⟨(some 2), .mv, [(.t 24)], none, []⟩] 0 [2])
 .ret))))),
 [(.t 2)]⟩
theorem c70 : funC Try.prog [(0, [0]), (1, [0, 7]), (2, [0]), (3, [0, 3]), (4, [0, 3, 4]), (5, [0, 3, 4, 15]), (6, [0, 3, 4]), (7, [0, 3, 4]), (8, [2])] Try.f70 = some (unF l70) := by kernel_rfl
/-- (acme/fit.heights).needs -/
def l71 : LFun := ⟨5, 40, [],
 (.seq
 (.reg false [5, 6, 7, 8, 9, 10] [5, 6, 7, 8, 9, 10] [
 ⟨(some 5), .box, [(.t 0)], none, []⟩,
 ⟨(some 6), .box, [(.t 1)], none, []⟩,
 ⟨(some 7), .box, [(.t 2)], none, []⟩,
 ⟨(some 8), .box, [(.t 3)], none, []⟩,
 ⟨(some 9), .box, [(.t 4)], none, []⟩,
 ⟨(some 10), (.alloc [(.int .i64 0), (.int .i64 0)]), [], none, []⟩] 0 [5, 6, 7, 8, 9, 10])
 (.seq
 (.reg false [] [] [
 ⟨(some 11), (.fa 0), [(.t 7)], none, [13, 14, 17, 18, 19, 20, 21, 22, 23, 25, 26, 27, 28, 29, 30, 31, 32, 33, 34, 35, 36, 37, 38]⟩,
 ⟨(some 12), (.load none), [(.t 11)], none, [13, 14, 17, 18, 19, 20, 21, 22, 23, 25, 26, 27, 28, 29, 30, 31, 32, 33, 34, 35, 36, 37, 38]⟩,
 ⟨(some 13), (.fa 0), [(.t 6)], none, [11, 12, 17, 18, 19, 20, 21, 22, 23, 25, 26, 27, 28, 29, 30, 31, 32, 33, 34, 35, 36, 37, 38]⟩,
 ⟨(some 14), (.load none), [(.t 13)], none, [11, 12, 17, 18, 19, 20, 21, 22, 23, 25, 26, 27, 28, 29, 30, 31, 32, 33, 34, 35, 36, 37, 38]⟩,
 ⟨(some 15), (.bin 0 .sub), [(.t 12), (.t 14)], none, [17, 18, 19, 20, 21, 22, 23, 25, 26, 27, 28, 29, 30, 31, 32, 33, 34, 35, 36, 37, 38]⟩,
 ⟨(some 16), (.bin 0 .mul), [(.c (.int .i64 1000)), (.t 15)], none, [17, 18, 19, 20, 21, 22, 23, 25, 26, 27, 28, 29, 30, 31, 32, 33, 34, 35, 36, 37, 38]⟩,
 ⟨(some 17), (.load (some 2)), [(.t 5)], none, [11, 12, 13, 14, 15, 16, 18, 19, 20, 21, 22, 25, 26, 27, 28, 29, 30, 31, 32, 33, 34, 35, 36]⟩,
 ⟨(some 18), (.fa 1), [(.t 9)], none, [11, 12, 13, 14, 15, 16, 17, 20, 21, 25, 26, 27, 28, 29, 30, 31, 32, 33, 34, 35, 36]⟩,
 ⟨(some 19), (.load none), [(.t 18)], none, [11, 12, 13, 14, 15, 16, 17, 20, 21, 25, 26, 27, 28, 29, 30, 31, 32, 33, 34, 35, 36]⟩,
 ⟨(some 20), (.fa 1), [(.t 8)], none, [11, 12, 13, 14, 15, 16, 17, 18, 19, 25, 26, 27, 28, 29, 30, 31, 32, 33, 34, 35, 36]⟩,
 ⟨(some 21), (.load none), [(.t 20)], none, [11, 12, 13, 14, 15, 16, 17, 18, 19, 25, 26, 27, 28, 29, 30, 31, 32, 33, 34, 35, 36]⟩,
 ⟨(some 22), (.bin 0 .sub), [(.t 19), (.t 21)], none, [11, 12, 13, 14, 15, 16, 17, 25, 26, 27, 28, 29, 30, 31, 32, 33, 34, 35, 36]⟩,
 ⟨(some 23), (.call true false false), [(.f 69), (.t 17), (.t 22)], none, [11, 12, 13, 14, 15, 16, 25, 26, 27, 28, 29, 30, 31, 32, 33, 34, 35, 36]⟩,
 ⟨(some 24), (.bin 0 .add), [(.t 16), (.t 23)], none, [25, 26, 27, 28, 29, 30, 31, 32, 33, 34, 35, 36, 37, 38]⟩,
 ⟨(some 25), (.fa 1), [(.t 7)], none, [11, 12, 13, 14, 15, 16, 17, 18, 19, 20, 21, 22, 23, 24, 27, 28, 31, 32, 33, 34, 35, 36, 37]⟩,
 ⟨(some 26), (.load none), [(.t 25)], none, [11, 12, 13, 14, 15, 16, 17, 18, 19, 20, 21, 22, 23, 24, 27, 28, 31, 32, 33, 34, 35, 36, 37]⟩,
 ⟨(some 27), (.fa 1), [(.t 6)], none, [11, 12, 13, 14, 15, 16, 17, 18, 19, 20, 21, 22, 23, 24, 25, 26, 31, 32, 33, 34, 35, 36, 37]⟩,
 ⟨(some 28), (.load none), [(.t 27)], none, [11, 12, 13, 14, 15, 16, 17, 18, 19, 20, 21, 22, 23, 24, 25, 26, 31, 32, 33, 34, 35, 36, 37]⟩,
 ⟨(some 29), (.bin 0 .sub), [(.t 26), (.t 28)], none, [11, 12, 13, 14, 15, 16, 17, 18, 19, 20, 21, 22, 23, 24, 31, 32, 33, 34, 35, 36, 37]⟩,
 ⟨(some 30), (.bin 0 .mul), [(.c (.int .i64 1000)), (.t 29)], none, [11, 12, 13, 14, 15, 16, 17, 18, 19, 20, 21, 22, 23, 24, 31, 32, 33, 34, 35, 36, 37]⟩,
 ⟨(some 31), (.load (some 2)), [(.t 5)], none, [11, 12, 13, 14, 15, 16, 17, 18, 19, 20, 21, 22, 23, 24, 25, 26, 27, 28, 29, 30, 32, 33, 34, 35, 36]⟩,
 ⟨(some 32), (.fa 2), [(.t 9)], none, [11, 12, 13, 14, 15, 16, 17, 18, 19, 20, 21, 22, 23, 24, 25, 26, 27, 28, 29, 30, 31, 34, 35]⟩,
 ⟨(some 33), (.load none), [(.t 32)], none, [11, 12, 13, 14, 15, 16, 17, 18, 19, 20, 21, 22, 23, 24, 25, 26, 27, 28, 29, 30, 31, 34, 35]⟩,
 ⟨(some 34), (.fa 2), [(.t 8)], none, [11, 12, 13, 14, 15, 16, 17, 18, 19, 20, 21, 22, 23, 24, 25, 26, 27, 28, 29, 30, 31, 32, 33]⟩,
 ⟨(some 35), (.load none), [(.t 34)], none, [11, 12, 13, 14, 15, 16, 17, 18, 19, 20, 21, 22, 23, 24, 25, 26, 27, 28, 29, 30, 31, 32, 33]⟩,
 ⟨(some 36), (.bin 0 .sub), [(.t 33), (.t 35)], none, [11, 12, 13, 14, 15, 16, 17, 18, 19, 20, 21, 22, 23, 24, 25, 26, 27, 28, 29, 30, 31]⟩,
 ⟨(some 37), (.call true false false), [(.f 69), (.t 31), (.t 36)], none, [11, 12, 13, 14, 15, 16, 24, 25, 26, 27, 28, 29, 30]⟩,
 ⟨(some 38), (.bin 0 .sub), [(.t 30), (.t 37)], none, [11, 12, 13, 14, 15, 16, 24]⟩,
 ⟨(some 39), (.build [(.int .i64 0), (.int .i64 0)] [(0, 1), (1, 1)]), [(.t 24), (.t 38)], none, []⟩,
 ⟨none, (.store 2 (some 10)), [(.t 10), (.t 39)], none, []⟩] 0 [10])
 .ret)),
 [(.c 10 (some 2))]⟩
theorem c71 : funC Try.prog [(0, [5, 6, 7, 8, 9, 10]), (1, [10])] Try.f71 = some (unF l71) := by kernel_rfl
/-- acme/zone.isLong[int] -/
def l72 : LFun := ⟨2, 9, [],
 (.seq
 (.reg false [] [] [
 ⟨(some 4), .mv, [(.c (.bool false))], none, []⟩] 0 [0, 1])
 (.seq
 (.reg false [] [] [
 ⟨(some 5), .mv, [(.t 0)], none, []⟩,
 ⟨(some 6), .len, [(.t 5)], none, []⟩,
 ⟨(some 7), .mv, [(.t 1)], none, []⟩,
 ⟨(some 8), (.bin 0 .gtr), [(.t 6), (.t 7)], none, []⟩,
 ⟨(some 4), .mv, [(.t 8)], none, []⟩] 0 [4])
 .ret)),
 [(.t 4)]⟩
theorem c72 : funC Try.prog [(0, [0, 1]), (1, [4])] Try.f72 = some (unF l72) := by kernel_rfl
/-- acme/zone.isLong[[]int] -/
def l73 : LFun := ⟨2, 9, [],
 (.seq
 (.reg false [] [] [
 ⟨(some 4), .mv, [(.c (.bool false))], none, []⟩] 0 [0, 1])
 (.seq
 (.reg false [] [] [
 ⟨(some 5), .mv, [(.t 0)], none, []⟩,
 ⟨(some 6), .len, [(.t 5)], none, []⟩,
 ⟨(some 7), .mv, [(.t 1)], none, []⟩,
 ⟨(some 8), (.bin 0 .gtr), [(.t 6), (.t 7)], none, []⟩,
 ⟨(some 4), .mv, [(.t 8)], none, []⟩] 0 [4])
 .ret)),
 [(.t 4)]⟩
theorem c73 : funC Try.prog [(0, [0, 1]), (1, [4])] Try.f73 = some (unF l73) := by kernel_rfl
/-- slices.ContainsFunc[[][]int,[]int] -/
def l74 : LFun := ⟨2, 9, [],
 (.seq
 (.reg false [] [] [
 ⟨(some 4), .mv, [(.c (.bool false))], none, []⟩] 0 [0, 1])
 (.seq
 (.reg false [] [] [
 ⟨(some 5), .mv, [(.t 0)], none, []⟩,
 ⟨(some 6), .mv, [(.t 1)], none, []⟩,
 ⟨(some 7), (.call false false false), [(.f 95), (.t 5), (.t 6)], none, []⟩,
 ⟨(some 8), (.bin 0 .geq), [(.t 7), (.c (.int .i64 0))], none, []⟩,
 ⟨(some 4), .mv, [(.t 8)], none, []⟩] 0 [4])
 .ret)),
 [(.t 4)]⟩
theorem c74 : funC Try.prog [(0, [0, 1]), (1, [4])] Try.f74 = some (unF l74) := by kernel_rfl
/-- acme/zone.Check$1 -/
def l75 : LFun := ⟨2, 10, [],
 (.seq
 (.reg false [] [] [
 ⟨(some 3), .mv, [(.c (.bool false))], none, []⟩] 0 [0, 1])
 (.seq
 (.reg false [] [] [
 ⟨(some 4), .mv, [(.t 0)], none, []⟩,
 ⟨(some 5), .len, [(.t 4)], none, []⟩,
 ⟨(some 6), (.fa 0), [(.t 1)], none, []⟩,
 ⟨(some 7), (.load none), [(.t 6)], none, []⟩,
 ⟨(some 8), .len, [(.t 7)], none, []⟩,
 ⟨(some 9), (.bin 0 .neq), [(.t 5), (.t 8)], none, []⟩,
 ⟨(some 3), .mv, [(.t 9)], none, []⟩] 0 [3])
 .ret)),
 [(.t 3)]⟩
theorem c75 : funC Try.prog [(0, [0, 1]), (1, [3])] Try.f75 = some (unF l75) := by kernel_rfl
/-- slices.Concat[[]int,int] -/
def b76_0 : LCode :=
 (.seq
 (.reg true [] [] [
 ⟨(some 12), (.bin 0 .lss), [(.t 11), (.t 10)], none, []⟩] 0 [0, 3, 9, 10, 11, 12])
 (.seq
 (.cond (.t 12)
 .skip
 (.exit 0))
 (.seq
 (.block 1
 (.seq
 (.reg true [] [] [
 ⟨(some 13), (.ixs 1), [(.t 9), (.t 11)], none, []⟩,
 ⟨(some 14), (.load none), [(.t 13)], none, []⟩,
 ⟨(some 5), .mv, [(.t 14)], none, []⟩] 0 [0, 3, 5, 9, 10, 11])
 (.seq
 (.reg true [] [] [
 ⟨(some 15), .mv, [(.t 3)], none, []⟩,
 ⟨(some 16), .mv, [(.t 5)], none, []⟩,
 ⟨(some 17), .len, [(.t 16)], none, []⟩,
 ⟨(some 18), (.bin 0 .add), [(.t 15), (.t 17)], none, []⟩,
 ⟨(some 3), .mv, [(.t 18)], none, []⟩] 0 [0, 3, 9, 10, 11])
 (.seq
 (.reg true [] [] [
 ⟨(some 19), .mv, [(.t 3)], none, []⟩,
 ⟨(some 20), (.bin 0 .lss), [(.t 19), (.c (.int .i64 0))], none, []⟩] 0 [0, 3, 9, 10, 11, 20])
 (.cond (.t 20)
 (.reg true [] [] [
 ⟨none, .bad, [], none, []⟩,
 ⟨none, .bad, [], none, []⟩] 0 [0, 3, 9, 10, 11])
 .skip)))))
 (.reg true [] [] [
 ⟨(some 22), (.bin 0 .add), [(.t 11), (.c (.int .i64 1))], none, []⟩,
 ⟨(some 11), .mv, [(.t 22)], none, []⟩] 0 [0, 3, 9, 10, 11]))))
def b76_1 : LCode :=
 (.seq
 (.reg true [] [] [
 ⟨(some 28), (.bin 0 .lss), [(.t 27), (.t 26)], none, []⟩] 0 [6, 25, 26, 27, 28])
 (.seq
 (.cond (.t 28)
 .skip
 (.exit 2))
 (.seq
 (.block 3
 (.seq
 (.reg true [] [] [
 ⟨(some 29), (.ixs 1), [(.t 25), (.t 27)], none, []⟩,
 ⟨(some 30), (.load none), [(.t 29)], none, []⟩,
 ⟨(some 8), .mv, [(.t 30)], none, []⟩] 0 [6, 8, 25, 26, 27])
 (.reg true [33] [] [
 ⟨(some 31), .mv, [(.t 6)], none, []⟩,
 ⟨(some 32), .mv, [(.t 8)], none, []⟩,
 ⟨(some 33), (.append false 1 8), [(.t 31), (.t 32)], none, []⟩,
 ⟨(some 6), .mv, [(.t 33)], none, []⟩] 0 [6, 25, 26, 27])))
 (.reg true [] [] [
 ⟨(some 34), (.bin 0 .add), [(.t 27), (.c (.int .i64 1))], none, []⟩,
 ⟨(some 27), .mv, [(.t 34)], none, []⟩] 0 [6, 25, 26, 27]))))
def l76 : LFun := ⟨1, 36, [],
 (.seq
 (.reg false [] [] [
 ⟨(some 2), .mv, [(.c .nil)], none, []⟩] 0 [0])
 (.seq
 (.reg false [] [] [
 ⟨(some 3), .mv, [(.c (.int .i64 0))], none, []⟩] 0 [0, 3])
 (.seq
 (.seq
 (.reg false [] [] [
 ⟨(some 9), .mv, [(.t 0)], none, []⟩,
 ⟨(some 10), .len, [(.t 9)], none, []⟩,
 ⟨(some 11), .mv, [(.c (.int .i64 0))], none, []⟩] 0 [0, 3, 9, 10, 11])
 (.block 0
 (.loop b76_0)))
 (.seq
 (.reg false [24] [24] [
 ⟨(some 23), .mv, [(.t 3)], none, []⟩,
 ⟨(some 24), (.call false false true), [(.f 96), (.c .nil), (.t 23)], none, []⟩,
 ⟨(some 6), .mv, [(.t 24)], none, []⟩] 0 [0, 6])
 (.seq
 (.seq
 (.reg false [] [] [
 ⟨(some 25), .mv, [(.t 0)], none, []⟩,
 ⟨(some 26), .len, [(.t 25)], none, []⟩,
 ⟨(some 27), .mv, [(.c (.int .i64 0))], none, []⟩] 0 [6, 25, 26, 27])
 (.block 2
 (.loop b76_1)))
 (.seq
 (.reg false [] [] [
 ⟨(some 35), .mv, [(.t 6)], none, []⟩,
 ⟨(some 2), .mv, [(.t 35)], none, []⟩] 0 [2])
 .ret)))))),
 [(.t 2)]⟩
theorem c76 : funC Try.prog [(0, [0]), (1, [0, 3]), (2, [0, 3, 9, 10, 11]), (3, [0, 3, 9, 10, 11, 12]), (4, [0, 3, 5, 9, 10, 11]), (5, [0, 3, 9, 10, 11]), (6, [0, 3, 9, 10, 11, 20]), (7, [0, 3, 9, 10, 11]), (8, [0, 3, 9, 10, 11]), (9, [0, 6]), (10, [6, 25, 26, 27]), (11, [6, 25, 26, 27, 28]), (12, [6, 8, 25, 26, 27]), (13, [6, 25, 26, 27]), (14, [6, 25, 26, 27]), (15, [2])] Try.f76 = some (unF l76) := by kernel_rfl
/-- slices.IndexFunc[[]int,int] -/
def b77_0 : LCode :=
 (.seq
 (.reg true [] [] [
 ⟨(some 9), (.bin 0 .lss), [(.t 8), (.t 7)], none, []⟩] 0 [0, 1, 7, 8, 9])
 (.seq
 (.cond (.t 9)
 .skip
 (.exit 0))
 (.seq
 (.block 1
 (.seq
 (.reg true [] [] [
 ⟨(some 10), .mv, [(.t 8)], none, []⟩,
 ⟨(some 5), .mv, [(.t 10)], none, []⟩] 0 [0, 1, 5, 7, 8])
 (.seq
 (.reg true [] [] [
 ⟨(some 11), .mv, [(.t 1)], none, []⟩,
 ⟨(some 12), .mv, [(.t 0)], none, []⟩,
 ⟨(some 13), .mv, [(.t 5)], none, []⟩,
 ⟨(some 14), (.ixs 1), [(.t 12), (.t 13)], none, []⟩,
 ⟨(some 15), (.load none), [(.t 14)], none, []⟩,
 ⟨(some 16), (.call false false false), [(.t 11), (.t 15)], none, []⟩] 0 [0, 1, 5, 7, 8, 16])
 (.cond (.t 16)
 (.seq
 (.reg true [] [] [
 ⟨(some 17), .mv, [(.t 5)], none, []⟩,
 ⟨(some 4), .mv, [(.t 17)], none, []⟩] 0 [4])
 .ret)
 .skip))))
 (.reg true [] [] [
 ⟨(some 18), (.bin 0 .add), [(.t 8), (.c (.int .i64 1))], none, []⟩,
 ⟨(some 8), .mv, [(.t 18)], none, []⟩] 0 [0, 1, 7, 8]))))
def l77 : LFun := ⟨2, 19, [],
 (.seq
 (.reg false [] [] [
 ⟨(some 4), .mv, [(.c (.int .i64 0))], none, []⟩] 0 [0, 1])
 (.seq
 (.seq
 (.reg false [] [] [
 ⟨(some 6), .mv, [(.t 0)], none, []⟩,
 ⟨(some 7), .len, [(.t 6)], none, []⟩,
 ⟨(some 8), .mv, [(.c (.int .i64 0))], none, []⟩] 0 [0, 1, 7, 8])
 (.block 0
 (.loop b77_0)))
 (.seq
 (.reg false [] [] [
 ⟨(some 4), .mv, [(.c (.int .i64 (-1)))], none, []⟩] 0 [4])
 .ret))),
 [(.t 4)]⟩
theorem c77 : funC Try.prog [(0, [0, 1]), (1, [0, 1, 7, 8]), (2, [0, 1, 7, 8, 9]), (3, [0, 1, 5, 7, 8]), (4, [0, 1, 5, 7, 8, 16]), (5, [4]), (6, [0, 1, 7, 8]), (7, [4])] Try.f77 = some (unF l77) := by kernel_rfl
/-- (acme/zone.table).step$1 -/
def l78 : LFun := ⟨2, 7, [],
 (.seq
 (.reg false [] [] [
 ⟨(some 3), .mv, [(.c (.bool false))], none, []⟩] 0 [0, 1])
 (.seq
 (.reg false [] [] [
 ⟨(some 4), (.load none), [(.t 1)], none, []⟩,
 ⟨(some 5), .mv, [(.t 0)], none, []⟩,
 ⟨(some 6), (.bin 0 .leq), [(.t 4), (.t 5)], none, []⟩,
 ⟨(some 3), .mv, [(.t 6)], none, []⟩] 0 [3])
 .ret)),
 [(.t 3)]⟩
theorem c78 : funC Try.prog [(0, [0, 1]), (1, [3])] Try.f78 = some (unF l78) := by kernel_rfl
/-- acme/zone.within$1 -/
def l79 : LFun := ⟨3, 13, [],
 (.seq
 (.reg false [] [] [
 ⟨(some 4), .mv, [(.c (.bool false))], none, []⟩] 0 [0, 1, 2])
 (.seq
 (.reg false [] [] [
 ⟨(some 5), .mv, [(.t 0)], none, []⟩,
 ⟨(some 6), (.load none), [(.t 1)], none, []⟩,
 ⟨(some 7), (.bin 0 .lss), [(.t 5), (.t 6)], none, []⟩,
 ⟨(some 8), .mv, [(.t 7)], none, []⟩,
 ⟨(some 9), .mv, [(.t 0)], (some (8, false)), []⟩,
 ⟨(some 10), (.load none), [(.t 2)], (some (8, false)), []⟩,
 ⟨(some 11), (.bin 0 .gtr), [(.t 9), (.t 10)], (some (8, false)), []⟩,
 ⟨(some 12), .pick, [(.t 8), (.c (.bool true)), (.t 11)], none, []⟩,
 ⟨(some 4), .mv, [(.t 12)], none, []⟩] 0 [4])
 .ret)),
 [(.t 4)]⟩
theorem c79 : funC Try.prog [(0, [0, 1, 2]), (1, [4])] Try.f79 = some (unF l79) := by kernel_rfl
/-- (acme/zone.span).group -/
def l80 : LFun := ⟨3, 38, [],
 (.seq
 (.reg false [3, 6] [3, 6] [
 ⟨(some 3), .box, [(.t 0)], none, []⟩,
 ⟨(some 6), (.alloc [(.int .i64 0), (.int .i64 0)]), [], none, []⟩] 0 [1, 2, 3, 6])
 (.seq
 (.reg false [] [] [
 ⟨(some 8), (.fa 0), [(.t 3)], none, []⟩,
 ⟨(some 9), (.fa 1), [(.t 8)], none, []⟩,
 ⟨(some 10), (.load none), [(.t 9)], none, []⟩,
 ⟨(some 11), (.fa 0), [(.t 3)], none, []⟩,
 ⟨(some 12), (.fa 0), [(.t 11)], none, []⟩,
 ⟨(some 13), (.load none), [(.t 12)], none, []⟩,
 ⟨(some 14), (.bin 0 .sub), [(.t 10), (.t 13)], none, []⟩,
 ⟨(some 15), (.bin 0 .add), [(.t 14), (.c (.int .i64 1))], none, []⟩,
 ⟨(some 7), .mv, [(.t 15)], none, []⟩] 0 [1, 2, 3, 6, 7])
 (.seq
 (.reg false [] [] [
 ⟨(some 16), (.fa 0), [(.t 3)], none, [19, 20, 21, 22, 23, 25, 26, 27, 28, 29, 30, 31, 32, 33, 34, 35]⟩,
 ⟨(some 17), (.fa 0), [(.t 16)], none, [19, 20, 21, 22, 23, 25, 26, 27, 28, 29, 30, 31, 32, 33, 34, 35]⟩,
 ⟨(some 18), (.load none), [(.t 17)], none, [19, 20, 21, 22, 23, 25, 26, 27, 28, 29, 30, 31, 32, 33, 34, 35]⟩,
 ⟨(some 19), .mv, [(.t 1)], none, [16, 17, 18, 20, 22, 25, 26, 27, 28, 29, 30, 31, 32, 33, 34, 35]⟩,
 ⟨(some 20), .mv, [(.t 7)], none, [16, 17, 18, 19, 22, 25, 26, 27, 28, 29, 30, 31, 32, 33, 34, 35]⟩,
 ⟨(some 21), (.bin 0 .mul), [(.t 19), (.t 20)], none, [16, 17, 18, 22, 25, 26, 27, 28, 29, 30, 31, 32, 33, 34, 35]⟩,
 ⟨(some 22), .mv, [(.t 2)], none, [16, 17, 18, 19, 20, 21, 25, 26, 27, 28, 29, 30, 31, 32, 33, 34, 35]⟩,
 ⟨(some 23), (.bin 0 .quo), [(.t 21), (.t 22)], none, [16, 17, 18, 25, 26, 27, 28, 29, 30, 31, 32, 33, 34, 35]⟩,
 ⟨(some 24), (.bin 0 .add), [(.t 18), (.t 23)], none, [25, 26, 27, 28, 29, 30, 31, 32, 33, 34, 35]⟩,
 ⟨(some 25), (.fa 0), [(.t 3)], none, [16, 17, 18, 19, 20, 21, 22, 23, 24, 28, 29, 30, 31, 32, 33]⟩,
 ⟨(some 26), (.fa 0), [(.t 25)], none, [16, 17, 18, 19, 20, 21, 22, 23, 24, 28, 29, 30, 31, 32, 33]⟩,
 ⟨(some 27), (.load none), [(.t 26)], none, [16, 17, 18, 19, 20, 21, 22, 23, 24, 28, 29, 30, 31, 32, 33]⟩,
 ⟨(some 28), .mv, [(.t 1)], none, [16, 17, 18, 19, 20, 21, 22, 23, 24, 25, 26, 27, 30, 32]⟩,
 ⟨(some 29), (.bin 0 .add), [(.t 28), (.c (.int .i64 1))], none, [16, 17, 18, 19, 20, 21, 22, 23, 24, 25, 26, 27, 30, 32]⟩,
 ⟨(some 30), .mv, [(.t 7)], none, [16, 17, 18, 19, 20, 21, 22, 23, 24, 25, 26, 27, 28, 29, 32]⟩,
 ⟨(some 31), (.bin 0 .mul), [(.t 29), (.t 30)], none, [16, 17, 18, 19, 20, 21, 22, 23, 24, 25, 26, 27, 32]⟩,
 ⟨(some 32), .mv, [(.t 2)], none, [16, 17, 18, 19, 20, 21, 22, 23, 24, 25, 26, 27, 28, 29, 30, 31]⟩,
 ⟨(some 33), (.bin 0 .quo), [(.t 31), (.t 32)], none, [16, 17, 18, 19, 20, 21, 22, 23, 24, 25, 26, 27]⟩,
 ⟨(some 34), (.bin 0 .add), [(.t 27), (.t 33)], none, [16, 17, 18, 19, 20, 21, 22, 23, 24]⟩,
 ⟨(some 35), (.bin 0 .sub), [(.t 34), (.c (.int .i64 1))], none, [16, 17, 18, 19, 20, 21, 22, 23, 24]⟩,
 ⟨(some 36), (.build [(.int .i64 0), (.int .i64 0)] [(0, 1), (1, 1)]), [(.t 24), (.t 35)], none, []⟩,
 ⟨(some 37), (.build [(.int .i64 0), (.int .i64 0)] [(0, 2)]), [(.t 36)], none, []⟩,
 ⟨none, (.store 2 (some 6)), [(.t 6), (.t 37)], none, []⟩] 0 [6])
 .ret))),
 [(.c 6 (some 2))]⟩
theorem c80 : funC Try.prog [(0, [1, 2, 3, 6]), (1, [1, 2, 3, 6, 7]), (2, [6])] Try.f80 = some (unF l80) := by kernel_rfl
/-- (acme/zone.span).isIn -/
def l81 : LFun := ⟨2, 19, [],
 (.seq
 (.reg false [2, 3] [2, 3] [
 ⟨(some 2), .box, [(.t 0)], none, []⟩,
 ⟨(some 3), .box, [(.t 1)], none, []⟩,
 ⟨(some 4), .mv, [(.c (.bool false))], none, []⟩] 0 [2, 3])
 (.seq
 (.reg false [] [] [
 ⟨(some 5), (.fa 0), [(.t 2)], none, []⟩,
 ⟨(some 6), (.fa 0), [(.t 5)], none, []⟩,
 ⟨(some 7), (.load none), [(.t 6)], none, []⟩,
 ⟨(some 8), (.fa 0), [(.t 3)], none, []⟩,
 ⟨(some 9), (.load none), [(.t 8)], none, []⟩,
 ⟨(some 10), (.bin 0 .geq), [(.t 7), (.t 9)], none, []⟩,
 ⟨(some 11), .mv, [(.t 10)], none, []⟩,
 ⟨(some 12), (.fa 0), [(.t 2)], (some (11, true)), []⟩,
 ⟨(some 13), (.fa 1), [(.t 12)], (some (11, true)), []⟩,
 ⟨(some 14), (.load none), [(.t 13)], (some (11, true)), []⟩,
 ⟨(some 15), (.fa 1), [(.t 3)], (some (11, true)), []⟩,
 ⟨(some 16), (.load none), [(.t 15)], (some (11, true)), []⟩,
 ⟨(some 17), (.bin 0 .leq), [(.t 14), (.t 16)], (some (11, true)), []⟩,
 ⟨(some 18), .pick, [(.t 11), (.t 17), (.c (.bool false))], none, []⟩,
 ⟨(some 4), .mv, [(.t 18)], none, []⟩] 0 [4])
 .ret)),
 [(.t 4)]⟩
theorem c81 : funC Try.prog [(0, [2, 3]), (1, [4])] Try.f81 = some (unF l81) := by kernel_rfl
/-- acme/thread.within$1 -/
def l92 : LFun := ⟨3, 13, [],
 (.seq
 (.reg false [] [] [
 ⟨(some 4), .mv, [(.c (.bool false))], none, []⟩] 0 [0, 1, 2])
 (.seq
 (.reg false [] [] [
 ⟨(some 5), .mv, [(.t 0)], none, []⟩,
 ⟨(some 6), (.load none), [(.t 1)], none, []⟩,
 ⟨(some 7), (.bin 0 .lss), [(.t 5), (.t 6)], none, []⟩,
 ⟨(some 8), .mv, [(.t 7)], none, []⟩,
 ⟨(some 9), .mv, [(.t 0)], (some (8, false)), []⟩,
 ⟨(some 10), (.load none), [(.t 2)], (some (8, false)), []⟩,
 ⟨(some 11), (.bin 0 .gtr), [(.t 9), (.t 10)], (some (8, false)), []⟩,
 ⟨(some 12), .pick, [(.t 8), (.c (.bool true)), (.t 11)], none, []⟩,
 ⟨(some 4), .mv, [(.t 12)], none, []⟩] 0 [4])
 .ret)),
 [(.t 4)]⟩
theorem c92 : funC Try.prog [(0, [0, 1, 2]), (1, [4])] Try.f92 = some (unF l92) := by kernel_rfl
/-- (acme/thread.form).leans -/
def l93 : LFun := ⟨1, 10, [],
 (.seq
 (.reg false [1] [1] [
 ⟨(some 1), .box, [(.t 0)], none, []⟩,
 ⟨(some 2), .mv, [(.c (.int .i64 0))], none, []⟩] 0 [1])
 (.seq
 (.reg false [] [] [
 ⟨(some 3), (.fa 0), [(.t 1)], none, []⟩,
 ⟨(some 4), (.fa 1), [(.t 3)], none, []⟩,
 ⟨(some 5), (.load none), [(.t 4)], none, []⟩,
 ⟨(some 6), (.fa 0), [(.t 1)], none, []⟩,
 ⟨(some 7), (.fa 2), [(.t 6)], none, []⟩,
 ⟨(some 8), (.load none), [(.t 7)], none, []⟩,
 ⟨(some 9), (.bin 0 .add), [(.t 5), (.t 8)], none, []⟩,
 ⟨(some 2), .mv, [(.t 9)], none, []⟩] 0 [2])
 .ret)),
 [(.t 2)]⟩
theorem c93 : funC Try.prog [(0, [1]), (1, [2])] Try.f93 = some (unF l93) := by kernel_rfl
/-- (acme/fit.ideal).flanks$1 -/
def b94_0 : LCode :=
 (.seq
 (.reg true [] [] [
 ⟨(some 11), (.bin 0 .lss), [(.t 10), (.t 9)], none, []⟩] 0 [0, 2, 8, 9, 10, 11])
 (.seq
 (.cond (.t 11)
 .skip
 (.exit 0))
 (.seq
 (.block 1
 (.seq
 (.reg true [5] [5] [
 ⟨(some 12), .mv, [(.t 10)], none, []⟩,
 ⟨(some 13), (.ixs 2), [(.t 8), (.t 10)], none, []⟩,
 ⟨(some 14), (.load (some 2)), [(.t 13)], none, []⟩,
 ⟨(some 5), (.alloc [(.int .i64 0), (.int .i64 0)]), [], none, []⟩,
 ⟨(some 4), .mv, [(.t 12)], none, []⟩,
 ⟨none, (.store 2 none), [(.t 5), (.t 14)], none, []⟩] 0 [0, 2, 4, 5, 8, 9, 10])
 (.seq
 (.reg true [] [] [
 ⟨(some 15), .mv, [(.t 4)], none, []⟩,
 ⟨(some 16), (.bin 0 .mul), [(.c (.int .i64 4)), (.t 15)], none, []⟩,
 ⟨(some 17), (.fa 0), [(.t 2)], none, []⟩,
 ⟨(some 18), (.fa 0), [(.t 17)], none, []⟩,
 ⟨(some 19), (.load none), [(.t 18)], none, []⟩,
 ⟨(some 20), (.bin 0 .mul), [(.t 16), (.t 19)], none, []⟩,
 ⟨(some 6), .mv, [(.t 20)], none, []⟩] 0 [0, 2, 5, 6, 8, 9, 10])
 (.seq
 (.reg true [] [] [
 ⟨(some 21), .mv, [(.t 0)], none, []⟩,
 ⟨(some 22), (.fa 0), [(.t 5)], none, []⟩,
 ⟨(some 23), (.load none), [(.t 22)], none, []⟩,
 ⟨(some 24), (.bin 0 .mul), [(.c (.int .i64 4)), (.t 23)], none, []⟩,
 ⟨(some 25), .mv, [(.t 6)], none, []⟩,
 ⟨(some 26), (.bin 0 .sub), [(.t 24), (.t 25)], none, []⟩,
 ⟨(some 27), (.fa 0), [(.t 2)], none, []⟩,
 ⟨(some 28), (.fa 0), [(.t 27)], none, []⟩,
 ⟨(some 29), (.load none), [(.t 28)], none, []⟩,
 ⟨(some 30), (.bin 0 .add), [(.t 26), (.t 29)], none, []⟩,
 ⟨(some 31), (.bin 0 .mul), [(.c (.int .i64 1000)), (.t 30)], none, []⟩,
 ⟨(some 32), (.fa 1), [(.t 5)], none, []⟩,
 ⟨(some 33), (.load none), [(.t 32)], none, []⟩,
 ⟨(some 34), (.bin 0 .mul), [(.c (.int .i64 4)), (.t 33)], none, []⟩,
 ⟨(some 35), .mv, [(.t 6)], none, []⟩,
 ⟨(some 36), (.bin 0 .sub), [(.t 34), (.t 35)], none, []⟩,
 ⟨(some 37), (.fa 0), [(.t 2)], none, []⟩,
 ⟨(some 38), (.fa 0), [(.t 37)], none, []⟩,
 ⟨(some 39), (.load none), [(.t 38)], none, []⟩,
 ⟨(some 40), (.bin 0 .sub), [(.t 36), (.t 39)], none, []⟩,
 ⟨(some 41), (.bin 0 .mul), [(.c (.int .i64 1000)), (.t 40)], none, []⟩,
 ⟨(some 42), (.call false false false), [(.t 21), (.t 31), (.t 41)], none, []⟩,
 ⟨(some 43), (.un .not), [(.t 42)], none, []⟩] 0 [0, 2, 8, 9, 10, 43])
 (.cond (.t 43)
 .ret
 .skip)))))
 (.reg true [] [] [
 ⟨(some 44), (.bin 0 .add), [(.t 10), (.c (.int .i64 1))], none, []⟩,
 ⟨(some 10), .mv, [(.t 44)], none, []⟩] 0 [0, 2, 8, 9, 10]))))
def l94 : LFun := ⟨3, 45, [],
 (.seq
 (.reg false [] [] [
 ⟨(some 7), (.fa 0), [(.t 1)], none, []⟩,
 ⟨(some 8), (.load none), [(.t 7)], none, []⟩,
 ⟨(some 9), .len, [(.t 8)], none, []⟩,
 ⟨(some 10), .mv, [(.c (.int .i64 0))], none, []⟩] 0 [0, 2, 8, 9, 10])
 (.block 0
 (.loop b94_0))),
 []⟩
theorem c94 : funC Try.prog [(0, [0, 2, 8, 9, 10]), (1, [0, 2, 8, 9, 10, 11]), (2, [0, 2, 4, 5, 8, 9, 10]), (3, [0, 2, 5, 6, 8, 9, 10]), (4, [0, 2, 8, 9, 10, 43]), (5, [0, 2, 8, 9, 10])] Try.f94 = some (unF l94) := by kernel_rfl
/-- slices.IndexFunc[[][]int,[]int] -/
def b95_0 : LCode :=
 (.seq
 (.reg true [] [] [
 ⟨(some 9), (.bin 0 .lss), [(.t 8), (.t 7)], none, []⟩] 0 [0, 1, 7, 8, 9])
 (.seq
 (.cond (.t 9)
 .skip
 (.exit 0))
 (.seq
 (.block 1
 (.seq
 (.reg true [] [] [
 ⟨(some 10), .mv, [(.t 8)], none, []⟩,
 ⟨(some 5), .mv, [(.t 10)], none, []⟩] 0 [0, 1, 5, 7, 8])
 (.seq
 (.reg true [] [] [
 ⟨(some 11), .mv, [(.t 1)], none, []⟩,
 ⟨(some 12), .mv, [(.t 0)], none, []⟩,
 ⟨(some 13), .mv, [(.t 5)], none, []⟩,
 ⟨(some 14), (.ixs 1), [(.t 12), (.t 13)], none, []⟩,
 ⟨(some 15), (.load none), [(.t 14)], none, []⟩,
 ⟨(some 16), (.call false false false), [(.t 11), (.t 15)], none, []⟩] 0 [0, 1, 5, 7, 8, 16])
 (.cond (.t 16)
 (.seq
 (.reg true [] [] [
 ⟨(some 17), .mv, [(.t 5)], none, []⟩,
 ⟨(some 4), .mv, [(.t 17)], none, []⟩] 0 [4])
 .ret)
 .skip))))
 (.reg true [] [] [
 ⟨(some 18), (.bin 0 .add), [(.t 8), (.c (.int .i64 1))], none, []⟩,
 ⟨(some 8), .mv, [(.t 18)], none, []⟩] 0 [0, 1, 7, 8]))))
def l95 : LFun := ⟨2, 19, [],
 (.seq
 (.reg false [] [] [
 ⟨(some 4), .mv, [(.c (.int .i64 0))], none, []⟩] 0 [0, 1])
 (.seq
 (.seq
 (.reg false [] [] [
 ⟨(some 6), .mv, [(.t 0)], none, []⟩,
 ⟨(some 7), .len, [(.t 6)], none, []⟩,
 ⟨(some 8), .mv, [(.c (.int .i64 0))], none, []⟩] 0 [0, 1, 7, 8])
 (.block 0
 (.loop b95_0)))
 (.seq
 (.reg false [] [] [
 ⟨(some 4), .mv, [(.c (.int .i64 (-1)))], none, []⟩] 0 [4])
 .ret))),
 [(.t 4)]⟩
theorem c95 : funC Try.prog [(0, [0, 1]), (1, [0, 1, 7, 8]), (2, [0, 1, 7, 8, 9]), (3, [0, 1, 5, 7, 8]), (4, [0, 1, 5, 7, 8, 16]), (5, [4]), (6, [0, 1, 7, 8]), (7, [4])] Try.f95 = some (unF l95) := by kernel_rfl
/-- slices.Grow[[]int,int] -/
def l96 : LFun := ⟨2, 27, [],
 (.seq
 (.reg false [] [] [
 ⟨(some 4), .mv, [(.c .nil)], none, []⟩] 0 [0, 1])
 (.seq
 (.seq
 (.reg false [] [] [
 ⟨(some 5), .mv, [(.t 1)], none, []⟩,
 ⟨(some 6), (.bin 0 .lss), [(.t 5), (.c (.int .i64 0))], none, []⟩] 0 [0, 1, 6])
 (.cond (.t 6)
 (.reg false [] [] [
 ⟨none, .bad, [], none, []⟩,
 ⟨none, .bad, [], none, []⟩] 0 [0, 1])
 .skip))
 (.seq
 (.seq
 (.reg false [] [] [
 ⟨(some 8), .mv, [(.t 1)], none, []⟩,
 ⟨(some 9), .mv, [(.t 0)], none, []⟩,
 ⟨(some 10), .cap, [(.t 9)], none, []⟩,
 ⟨(some 11), .mv, [(.t 0)], none, []⟩,
 ⟨(some 12), .len, [(.t 11)], none, []⟩,
 ⟨(some 13), (.bin 0 .sub), [(.t 10), (.t 12)], none, []⟩,
 ⟨(some 14), (.bin 0 .sub), [(.t 8), (.t 13)], none, []⟩,
 ⟨(some 1), .mv, [(.t 14)], none, []⟩] 0 [0, 1])
 (.seq
 (.reg false [] [] [
 ⟨(some 15), .mv, [(.t 1)], none, []⟩,
 ⟨(some 16), (.bin 0 .gtr), [(.t 15), (.c (.int .i64 0))], none, []⟩] 0 [0, 1, 16])
 (.cond (.t 16)
 (.reg false [22] [] [
 ⟨(some 17), .mv, [(.t 0)], none, []⟩,
 ⟨(some 18), .mv, [(.t 0)], none, []⟩,
 ⟨(some 19), .cap, [(.t 18)], none, []⟩,
 ⟨(some 20), (.sls 1 false true false), [(.t 17), (.t 19)], none, []⟩,
 ⟨(some 21), .mv, [(.t 1)], none, []⟩,
 ⟨(some 22), (.appz 1 8 [(.int .i64 0)]), [(.t 20), (.t 21)], none, []⟩,
 ⟨(some 23), .mv, [(.t 0)], none, []⟩,
 ⟨(some 24), .len, [(.t 23)], none, []⟩,
 ⟨(some 25), (.trunc 1), [(.t 22), (.t 24)], none, []⟩,
 ⟨(some 0), .mv, [(.t 25)], none, []⟩] 0 [0])
 .skip)))
 (.seq
 (.reg false [] [] [
 ⟨(some 26), .mv, [(.t 0)], none, []⟩,
 ⟨(some 4), .mv, [(.t 26)], none, []⟩] 0 [4])
 .ret)))),
 [(.t 4)]⟩
theorem c96 : funC Try.prog [(0, [0, 1]), (1, [0, 1, 6]), (2, [0, 1]), (3, [0, 1]), (4, [0, 1, 16]), (5, [0]), (6, [4])] Try.f96 = some (unF l96) := by kernel_rfl
end Go.Lo

/- The functions that are reached, compiled for the plain machine. -/
namespace Go.Lo
open Go.Proofs
def C2 : Nat → Option LFun
  | 4 => some l4
  | 6 => some l6
  | 7 => some l7
  | 8 => some l8
  | 9 => some l9
  | 10 => some l10
  | 15 => some l15
  | 16 => some l16
  | 17 => some l17
  | 18 => some l18
  | 19 => some l19
  | 20 => some l20
  | 22 => some l22
  | 23 => some l23
  | 24 => some l24
  | 25 => some l25
  | 26 => some l26
  | 27 => some l27
  | 28 => some l28
  | 34 => some l34
  | 35 => some l35
  | 36 => some l36
  | 37 => some l37
  | 38 => some l38
  | 39 => some l39
  | 40 => some l40
  | 41 => some l41
  | 42 => some l42
  | 43 => some l43
  | 44 => some l44
  | 45 => some l45
  | 46 => some l46
  | 47 => some l47
  | 48 => some l48
  | 49 => some l49
  | 50 => some l50
  | 51 => some l51
  | 52 => some l52
  | 53 => some l53
  | 54 => some l54
  | 62 => some l62
  | 63 => some l63
  | 64 => some l64
  | 65 => some l65
  | 66 => some l66
  | 67 => some l67
  | 68 => some l68
  | 69 => some l69
  | 70 => some l70
  | 71 => some l71
  | 72 => some l72
  | 73 => some l73
  | 74 => some l74
  | 75 => some l75
  | 76 => some l76
  | 77 => some l77
  | 78 => some l78
  | 79 => some l79
  | 80 => some l80
  | 81 => some l81
  | 92 => some l92
  | 93 => some l93
  | 94 => some l94
  | 95 => some l95
  | 96 => some l96
  | _ => none
def Ct : Nat → Option LFun := fun k => (C2 k).map unF
def Ft : Nat → Option (List V → Option V) := fun _ => none
theorem tabOk : TabOk Try.prog Ft Ct where
  mixed := by kernel_rfl
  told _ _ _ _ h := by cases h
  code f lf h := by
    unfold Ct at h
    obtain ⟨l, hl, rfl⟩ := Option.map_eq_some_iff.1 h
    unfold C2 at hl
    split at hl
    · injection hl with hl; subst hl; exact ⟨_, _, Try.func4, of_decide_eq_true (by kernel_rfl), c4⟩
    · injection hl with hl; subst hl; exact ⟨_, _, Try.func6, of_decide_eq_true (by kernel_rfl), c6⟩
    · injection hl with hl; subst hl; exact ⟨_, _, Try.func7, of_decide_eq_true (by kernel_rfl), c7⟩
    · injection hl with hl; subst hl; exact ⟨_, _, Try.func8, of_decide_eq_true (by kernel_rfl), c8⟩
    · injection hl with hl; subst hl; exact ⟨_, _, Try.func9, of_decide_eq_true (by kernel_rfl), c9⟩
    · injection hl with hl; subst hl; exact ⟨_, _, Try.func10, of_decide_eq_true (by kernel_rfl), c10⟩
    · injection hl with hl; subst hl; exact ⟨_, _, Try.func15, of_decide_eq_true (by kernel_rfl), c15⟩
    · injection hl with hl; subst hl; exact ⟨_, _, Try.func16, of_decide_eq_true (by kernel_rfl), c16⟩
    · injection hl with hl; subst hl; exact ⟨_, _, Try.func17, of_decide_eq_true (by kernel_rfl), c17⟩
    · injection hl with hl; subst hl; exact ⟨_, _, Try.func18, of_decide_eq_true (by kernel_rfl), c18⟩
    · injection hl with hl; subst hl; exact ⟨_, _, Try.func19, of_decide_eq_true (by kernel_rfl), c19⟩
    · injection hl with hl; subst hl; exact ⟨_, _, Try.func20, of_decide_eq_true (by kernel_rfl), c20⟩
    · injection hl with hl; subst hl; exact ⟨_, _, Try.func22, of_decide_eq_true (by kernel_rfl), c22⟩
    · injection hl with hl; subst hl; exact ⟨_, _, Try.func23, of_decide_eq_true (by kernel_rfl), c23⟩
    · injection hl with hl; subst hl; exact ⟨_, _, Try.func24, of_decide_eq_true (by kernel_rfl), c24⟩
    · injection hl with hl; subst hl; exact ⟨_, _, Try.func25, of_decide_eq_true (by kernel_rfl), c25⟩
    · injection hl with hl; subst hl; exact ⟨_, _, Try.func26, of_decide_eq_true (by kernel_rfl), c26⟩
    · injection hl with hl; subst hl; exact ⟨_, _, Try.func27, of_decide_eq_true (by kernel_rfl), c27⟩
    · injection hl with hl; subst hl; exact ⟨_, _, Try.func28, of_decide_eq_true (by kernel_rfl), c28⟩
    · injection hl with hl; subst hl; exact ⟨_, _, Try.func34, of_decide_eq_true (by kernel_rfl), c34⟩
    · injection hl with hl; subst hl; exact ⟨_, _, Try.func35, of_decide_eq_true (by kernel_rfl), c35⟩
    · injection hl with hl; subst hl; exact ⟨_, _, Try.func36, of_decide_eq_true (by kernel_rfl), c36⟩
    · injection hl with hl; subst hl; exact ⟨_, _, Try.func37, of_decide_eq_true (by kernel_rfl), c37⟩
    · injection hl with hl; subst hl; exact ⟨_, _, Try.func38, of_decide_eq_true (by kernel_rfl), c38⟩
    · injection hl with hl; subst hl; exact ⟨_, _, Try.func39, of_decide_eq_true (by kernel_rfl), c39⟩
    · injection hl with hl; subst hl; exact ⟨_, _, Try.func40, of_decide_eq_true (by kernel_rfl), c40⟩
    · injection hl with hl; subst hl; exact ⟨_, _, Try.func41, of_decide_eq_true (by kernel_rfl), c41⟩
    · injection hl with hl; subst hl; exact ⟨_, _, Try.func42, of_decide_eq_true (by kernel_rfl), c42⟩
    · injection hl with hl; subst hl; exact ⟨_, _, Try.func43, of_decide_eq_true (by kernel_rfl), c43⟩
    · injection hl with hl; subst hl; exact ⟨_, _, Try.func44, of_decide_eq_true (by kernel_rfl), c44⟩
    · injection hl with hl; subst hl; exact ⟨_, _, Try.func45, of_decide_eq_true (by kernel_rfl), c45⟩
    · injection hl with hl; subst hl; exact ⟨_, _, Try.func46, of_decide_eq_true (by kernel_rfl), c46⟩
    · injection hl with hl; subst hl; exact ⟨_, _, Try.func47, of_decide_eq_true (by kernel_rfl), c47⟩
    · injection hl with hl; subst hl; exact ⟨_, _, Try.func48, of_decide_eq_true (by kernel_rfl), c48⟩
    · injection hl with hl; subst hl; exact ⟨_, _, Try.func49, of_decide_eq_true (by kernel_rfl), c49⟩
    · injection hl with hl; subst hl; exact ⟨_, _, Try.func50, of_decide_eq_true (by kernel_rfl), c50⟩
    · injection hl with hl; subst hl; exact ⟨_, _, Try.func51, of_decide_eq_true (by kernel_rfl), c51⟩
    · injection hl with hl; subst hl; exact ⟨_, _, Try.func52, of_decide_eq_true (by kernel_rfl), c52⟩
    · injection hl with hl; subst hl; exact ⟨_, _, Try.func53, of_decide_eq_true (by kernel_rfl), c53⟩
    · injection hl with hl; subst hl; exact ⟨_, _, Try.func54, of_decide_eq_true (by kernel_rfl), c54⟩
    · injection hl with hl; subst hl; exact ⟨_, _, Try.func62, of_decide_eq_true (by kernel_rfl), c62⟩
    · injection hl with hl; subst hl; exact ⟨_, _, Try.func63, of_decide_eq_true (by kernel_rfl), c63⟩
    · injection hl with hl; subst hl; exact ⟨_, _, Try.func64, of_decide_eq_true (by kernel_rfl), c64⟩
    · injection hl with hl; subst hl; exact ⟨_, _, Try.func65, of_decide_eq_true (by kernel_rfl), c65⟩
    · injection hl with hl; subst hl; exact ⟨_, _, Try.func66, of_decide_eq_true (by kernel_rfl), c66⟩
    · injection hl with hl; subst hl; exact ⟨_, _, Try.func67, of_decide_eq_true (by kernel_rfl), c67⟩
    · injection hl with hl; subst hl; exact ⟨_, _, Try.func68, of_decide_eq_true (by kernel_rfl), c68⟩
    · injection hl with hl; subst hl; exact ⟨_, _, Try.func69, of_decide_eq_true (by kernel_rfl), c69⟩
    · injection hl with hl; subst hl; exact ⟨_, _, Try.func70, of_decide_eq_true (by kernel_rfl), c70⟩
    · injection hl with hl; subst hl; exact ⟨_, _, Try.func71, of_decide_eq_true (by kernel_rfl), c71⟩
    · injection hl with hl; subst hl; exact ⟨_, _, Try.func72, of_decide_eq_true (by kernel_rfl), c72⟩
    · injection hl with hl; subst hl; exact ⟨_, _, Try.func73, of_decide_eq_true (by kernel_rfl), c73⟩
    · injection hl with hl; subst hl; exact ⟨_, _, Try.func74, of_decide_eq_true (by kernel_rfl), c74⟩
    · injection hl with hl; subst hl; exact ⟨_, _, Try.func75, of_decide_eq_true (by kernel_rfl), c75⟩
    · injection hl with hl; subst hl; exact ⟨_, _, Try.func76, of_decide_eq_true (by kernel_rfl), c76⟩
    · injection hl with hl; subst hl; exact ⟨_, _, Try.func77, of_decide_eq_true (by kernel_rfl), c77⟩
    · injection hl with hl; subst hl; exact ⟨_, _, Try.func78, of_decide_eq_true (by kernel_rfl), c78⟩
    · injection hl with hl; subst hl; exact ⟨_, _, Try.func79, of_decide_eq_true (by kernel_rfl), c79⟩
    · injection hl with hl; subst hl; exact ⟨_, _, Try.func80, of_decide_eq_true (by kernel_rfl), c80⟩
    · injection hl with hl; subst hl; exact ⟨_, _, Try.func81, of_decide_eq_true (by kernel_rfl), c81⟩
    · injection hl with hl; subst hl; exact ⟨_, _, Try.func92, of_decide_eq_true (by kernel_rfl), c92⟩
    · injection hl with hl; subst hl; exact ⟨_, _, Try.func93, of_decide_eq_true (by kernel_rfl), c93⟩
    · injection hl with hl; subst hl; exact ⟨_, _, Try.func94, of_decide_eq_true (by kernel_rfl), c94⟩
    · injection hl with hl; subst hl; exact ⟨_, _, Try.func95, of_decide_eq_true (by kernel_rfl), c95⟩
    · injection hl with hl; subst hl; exact ⟨_, _, Try.func96, of_decide_eq_true (by kernel_rfl), c96⟩
    · cases hl
theorem tabC (f : Nat) (lf : LFun) (h : C2 f = some lf) : Ct f = some (unF lf) ∧ okC lf.body = true ∧ lf.sl = [] := by
  refine ⟨by unfold Ct; rw [h]; rfl, ?_⟩
  unfold C2 at h
  split at h
  · injection h with h; subst h; exact ⟨by kernel_rfl, rfl⟩
  · injection h with h; subst h; exact ⟨by kernel_rfl, rfl⟩
  · injection h with h; subst h; exact ⟨by kernel_rfl, rfl⟩
  · injection h with h; subst h; exact ⟨by kernel_rfl, rfl⟩
  · injection h with h; subst h; exact ⟨by kernel_rfl, rfl⟩
  · injection h with h; subst h; exact ⟨by kernel_rfl, rfl⟩
  · injection h with h; subst h; exact ⟨by kernel_rfl, rfl⟩
  · injection h with h; subst h; exact ⟨by kernel_rfl, rfl⟩
  · injection h with h; subst h; exact ⟨by kernel_rfl, rfl⟩
  · injection h with h; subst h; exact ⟨by kernel_rfl, rfl⟩
  · injection h with h; subst h; exact ⟨by kernel_rfl, rfl⟩
  · injection h with h; subst h; exact ⟨by kernel_rfl, rfl⟩
  · injection h with h; subst h; exact ⟨by kernel_rfl, rfl⟩
  · injection h with h; subst h; exact ⟨by kernel_rfl, rfl⟩
  · injection h with h; subst h; exact ⟨by kernel_rfl, rfl⟩
  · injection h with h; subst h; exact ⟨by kernel_rfl, rfl⟩
  · injection h with h; subst h; exact ⟨by kernel_rfl, rfl⟩
  · injection h with h; subst h; exact ⟨by kernel_rfl, rfl⟩
  · injection h with h; subst h; exact ⟨by kernel_rfl, rfl⟩
  · injection h with h; subst h; exact ⟨by kernel_rfl, rfl⟩
  · injection h with h; subst h; exact ⟨by kernel_rfl, rfl⟩
  · injection h with h; subst h; exact ⟨by kernel_rfl, rfl⟩
  · injection h with h; subst h; exact ⟨by kernel_rfl, rfl⟩
  · injection h with h; subst h; exact ⟨by kernel_rfl, rfl⟩
  · injection h with h; subst h; exact ⟨by kernel_rfl, rfl⟩
  · injection h with h; subst h; exact ⟨by kernel_rfl, rfl⟩
  · injection h with h; subst h; exact ⟨by kernel_rfl, rfl⟩
  · injection h with h; subst h; exact ⟨by kernel_rfl, rfl⟩
  · injection h with h; subst h; exact ⟨by kernel_rfl, rfl⟩
  · injection h with h; subst h; exact ⟨by kernel_rfl, rfl⟩
  · injection h with h; subst h; exact ⟨by kernel_rfl, rfl⟩
  · injection h with h; subst h; exact ⟨by kernel_rfl, rfl⟩
  · injection h with h; subst h; exact ⟨by kernel_rfl, rfl⟩
  · injection h with h; subst h; exact ⟨by kernel_rfl, rfl⟩
  · injection h with h; subst h; exact ⟨by kernel_rfl, rfl⟩
  · injection h with h; subst h; exact ⟨by kernel_rfl, rfl⟩
  · injection h with h; subst h; exact ⟨by kernel_rfl, rfl⟩
  · injection h with h; subst h; exact ⟨by kernel_rfl, rfl⟩
  · injection h with h; subst h; exact ⟨by kernel_rfl, rfl⟩
  · injection h with h; subst h; exact ⟨by kernel_rfl, rfl⟩
  · injection h with h; subst h; exact ⟨by kernel_rfl, rfl⟩
  · injection h with h; subst h; exact ⟨by kernel_rfl, rfl⟩
  · injection h with h; subst h; exact ⟨by kernel_rfl, rfl⟩
  · injection h with h; subst h; exact ⟨by kernel_rfl, rfl⟩
  · injection h with h; subst h; exact ⟨by kernel_rfl, rfl⟩
  · injection h with h; subst h; exact ⟨by kernel_rfl, rfl⟩
  · injection h with h; subst h; exact ⟨by kernel_rfl, rfl⟩
  · injection h with h; subst h; exact ⟨by kernel_rfl, rfl⟩
  · injection h with h; subst h; exact ⟨by kernel_rfl, rfl⟩
  · injection h with h; subst h; exact ⟨by kernel_rfl, rfl⟩
  · injection h with h; subst h; exact ⟨by kernel_rfl, rfl⟩
  · injection h with h; subst h; exact ⟨by kernel_rfl, rfl⟩
  · injection h with h; subst h; exact ⟨by kernel_rfl, rfl⟩
  · injection h with h; subst h; exact ⟨by kernel_rfl, rfl⟩
  · injection h with h; subst h; exact ⟨by kernel_rfl, rfl⟩
  · injection h with h; subst h; exact ⟨by kernel_rfl, rfl⟩
  · injection h with h; subst h; exact ⟨by kernel_rfl, rfl⟩
  · injection h with h; subst h; exact ⟨by kernel_rfl, rfl⟩
  · injection h with h; subst h; exact ⟨by kernel_rfl, rfl⟩
  · injection h with h; subst h; exact ⟨by kernel_rfl, rfl⟩
  · injection h with h; subst h; exact ⟨by kernel_rfl, rfl⟩
  · injection h with h; subst h; exact ⟨by kernel_rfl, rfl⟩
  · injection h with h; subst h; exact ⟨by kernel_rfl, rfl⟩
  · injection h with h; subst h; exact ⟨by kernel_rfl, rfl⟩
  · injection h with h; subst h; exact ⟨by kernel_rfl, rfl⟩
  · cases h
end Go.Lo
