/- Texts put together. -/
import Derived.Test.YtohdbgibdopinaaPd
import Derived.Test.YtohdbgibdopinaaProg
import Derived.KernelRfl
/- The limit of the plain machine; what it says is said of the logical one. -/
namespace Go.Lo
section
variable {c c' : Nat → List V → Option V}
theorem sem2_le (h : Le c c') {bx : Nat → Option (List V)} {ex : List Nat} {d : Nat} {k : K} {vs : List V} {e : Eff2} (he : sem2 c bx ex d k vs = some e) : sem2 c' bx ex d k vs = some e := by
  cases k with
  | call dr al mk =>
    have key : ∀ {f : Nat} {us : List V}, callE2 c bx d dr al mk f us = some e → callE2 c' bx d dr al mk f us = some e := fun he => by
      unfold callE2 at he ⊢
      split at he
      · rename_i as9 has
        split at he
        · rename_i r hr
          simp only [h _ as9 r hr]
          exact he
        · cases he
      · cases he
    simp only [sem2] at he ⊢
    split at he
    · exact key he
    · exact key he
    · exact he
    · exact he
  | _ => exact he
theorem stepI2_le (h : Le c c') {i : LIns} {σ σ' : St} (hs : stepI2 c i σ = some σ') : stepI2 c' i σ = some σ' := by
  unfold stepI2 at hs ⊢
  cases hw : wanted σ.fr i.guard with
  | none => rw [hw] at hs; cases hs
  | some b =>
    rw [hw] at hs
    cases b with
    | false => exact hs
    | true =>
      simp only at hs ⊢
      cases hvs : opds σ.fr i.xs with
      | none => rw [hvs] at hs; cases hs
      | some vs =>
        rw [hvs] at hs
        simp only at hs ⊢
        cases he : sem2 c (bxOf σ.fr i.ex) i.ex (i.dst.getD 0) i.k vs with
        | none => rw [he] at hs; cases hs
        | some e =>
          rw [he] at hs
          rw [sem2_le h he]
          exact hs
theorem stepL2_le (h : Le c c') : ∀ {is : List LIns} {σ σ' : St}, stepL2 c is σ = some σ' → stepL2 c' is σ = some σ'
  | [], _, _, hs => hs
  | i :: is, σ, σ', hs => by
    simp only [stepL2] at hs ⊢
    split at hs
    · rename_i σ1 h1
      rw [stepI2_le h h1]
      exact stepL2_le h hs
    · cases hs
theorem evC2_le (h : Le c c') {N N' : Nat} (hN : N ≤ N') : ∀ (lc : LCode) {σ : St} {x : Ex × St}, evC2 c N lc σ = some x → evC2 c' N' lc σ = some x := by
  intro lc
  induction lc with
  | skip => intro σ x hs; exact hs
  | exit id => intro σ x hs; exact hs
  | ret => intro σ x hs; exact hs
  | bad => intro σ x hs; exact hs
  | reg lp ds pp ops kn kp =>
    intro σ x hs
    simp only [evC2] at hs ⊢
    split at hs
    · rename_i σ1 h1
      rw [stepL2_le h h1]
      exact hs
    · cases hs
  | seq a b iha ihb =>
    intro σ x hs
    simp only [evC2] at hs ⊢
    split at hs
    · rename_i σ1 h1
      rw [iha h1]
      exact ihb hs
    · rename_i hne
      rw [iha hs]
      split
      · rename_i σ1 h1
        injection h1 with h1
        subst h1
        exact (hne _ hs).elim
      · rfl
  | alt ts ks a b iha ihb =>
    intro σ x hs
    simp only [evC2] at hs ⊢
    split at hs
    · exact ihb hs
    · exact iha hs
    · cases hs
  | cond cc a b iha ihb =>
    intro σ x hs
    simp only [evC2] at hs ⊢
    split at hs
    · rename_i t ht
      cases t with
      | true => simp only [if_true] at hs ⊢; exact iha hs
      | false => simp only [Bool.false_eq_true, if_false] at hs ⊢; exact ihb hs
    · cases hs
  | block id a ih =>
    intro σ x hs
    simp only [evC2] at hs ⊢
    split at hs
    · rename_i j σ1 h1
      rw [ih h1]
      exact hs
    · rename_i hne
      rw [ih hs]
      split
      · rename_i j σ1 h1
        injection h1 with h1
        subst h1
        exact (hne _ _ hs).elim
      · rfl
  | loop a ih =>
    intro σ x hs
    simp only [evC2] at hs ⊢
    exact iter_le (fun _ _ h => ih h) hN hs
  | rng g ps wr a b iha ihb =>
    intro σ x hs
    simp only [evC2] at hs ⊢
    split at hs
    · split at hs
      · split at hs
        · rename_i hc
          rw [if_pos hc]
          exact rngE_le (fun _ _ _ h => roundE_le (fun _ _ h => iha h) (fun _ _ h => ihb h) h) (fun _ R hR => h _ _ R hR) hs
        · cases hs
      · cases hs
    · split at hs
      · split at hs
        · rename_i hc
          rw [if_pos hc]
          exact rngE_le (fun _ _ _ h => roundE_le (fun _ _ h => iha h) (fun _ _ h => ihb h) h) (fun _ R hR => h _ _ R hR) hs
        · cases hs
      · cases hs
    · cases hs
theorem evBody2_le (h : Le c c') {N N' : Nat} (hN : N ≤ N') {lf : LFun} {args : List V} {r : V} (hs : evBody2 c N lf args = some r) : evBody2 c' N' lf args = some r := by
  unfold evBody2 at hs ⊢
  split at hs
  · rename_i hl
    rw [if_pos hl]
    split at hs
    · rename_i σ h1; rw [evC2_le h hN _ h1]; exact hs
    · rename_i σ h1; rw [evC2_le h hN _ h1]; exact hs
    · cases hs
  · cases hs
end
section
variable {F : Nat → Option (List V → Option V)} {C : Nat → Option LFun}
theorem evF2_succ : ∀ (n : Nat), Le (evF2 F C n) (evF2 F C (n + 1))
  | 0, f, as9, r, h => by simp [evF2] at h
  | n + 1, f, as9, r, h => by
    rw [evF2] at h ⊢
    split at h
    · exact h
    · split at h
      · exact evBody2_le (evF2_succ n) (Nat.le_succ n) h
      · cases h
theorem evF2_le {n m : Nat} (h : n ≤ m) : Le (evF2 F C n) (evF2 F C m) := by
  induction h with
  | refl => exact fun _ _ _ h => h
  | step _ ih => exact fun f as9 r hr => evF2_succ _ f as9 r (ih f as9 r hr)
/-- What a function gives back, if it ends: whatever the fuel. -/
noncomputable def run2 (F : Nat → Option (List V → Option V)) (C : Nat → Option LFun) (f : Nat) (as9 : List V) : Option V :=
  open Classical in if h : ∃ r n, evF2 F C n f as9 = some r then some (Classical.choose h) else none
theorem run2_of {n f : Nat} {as9 : List V} {r : V} (h : evF2 F C n f as9 = some r) : run2 F C f as9 = some r := by
  unfold run2
  have hex : ∃ r n, evF2 F C n f as9 = some r := ⟨r, n, h⟩
  rw [dif_pos hex]
  obtain ⟨m, hm⟩ := Classical.choose_spec hex
  have h1 := evF2_le (Nat.le_max_left n m) f as9 r h
  have h2 := evF2_le (Nat.le_max_right n m) f as9 _ hm
  rw [h1] at h2
  exact h2.symm
theorem of_run2 {f : Nat} {as9 : List V} {r : V} (h : run2 F C f as9 = some r) : ∃ n, evF2 F C n f as9 = some r := by
  unfold run2 at h
  split at h
  · rename_i hex
    injection h with h; subst h
    exact Classical.choose_spec hex
  · cases h
/-! Few calls need little fuel. -/
theorem sem2_fin {bx : Nat → Option (List V)} {ex : List Nat} {d : Nat} {k : K} {vs : List V} {e : Eff2} (he : sem2 (run2 F C) bx ex d k vs = some e) : ∃ n, sem2 (evF2 F C n) bx ex d k vs = some e := by
  cases k with
  | call dr al mk =>
    have key : ∀ {f : Nat} {us : List V}, callE2 (run2 F C) bx d dr al mk f us = some e → ∃ n, callE2 (evF2 F C n) bx d dr al mk f us = some e := fun he => by
      unfold callE2 at he ⊢
      split at he
      · rename_i as9 has
        split at he
        · rename_i r hr
          obtain ⟨n, hn⟩ := of_run2 hr
          refine ⟨n, ?_⟩
          simp only [hn]
          exact he
        · cases he
      · cases he
    simp only [sem2] at he ⊢
    split at he
    · exact key he
    · exact key he
    · exact ⟨0, he⟩
    · exact ⟨0, he⟩
  | _ => exact ⟨0, he⟩
theorem stepI2_fin {i : LIns} {σ σ' : St} (hs : stepI2 (run2 F C) i σ = some σ') : ∃ n, stepI2 (evF2 F C n) i σ = some σ' := by
  unfold stepI2 at hs ⊢
  cases hw : wanted σ.fr i.guard with
  | none => rw [hw] at hs; cases hs
  | some b =>
    rw [hw] at hs
    cases b with
    | false => exact ⟨0, hs⟩
    | true =>
      simp only at hs ⊢
      cases hvs : opds σ.fr i.xs with
      | none => rw [hvs] at hs; cases hs
      | some vs =>
        rw [hvs] at hs
        simp only at hs ⊢
        cases he : sem2 (run2 F C) (bxOf σ.fr i.ex) i.ex (i.dst.getD 0) i.k vs with
        | none => rw [he] at hs; cases hs
        | some e =>
          rw [he] at hs
          obtain ⟨n, hn⟩ := sem2_fin he
          exact ⟨n, by rw [hn]; exact hs⟩
theorem stepL2_fin : ∀ {is : List LIns} {σ σ' : St}, stepL2 (run2 F C) is σ = some σ' → ∃ n, stepL2 (evF2 F C n) is σ = some σ'
  | [], _, _, hs => ⟨0, hs⟩
  | i :: is, σ, σ', hs => by
    simp only [stepL2] at hs ⊢
    split at hs
    · rename_i σ1 h1
      obtain ⟨n, hn⟩ := stepI2_fin h1
      obtain ⟨m, hm⟩ := stepL2_fin hs
      refine ⟨max n m, ?_⟩
      rw [stepI2_le (evF2_le (Nat.le_max_left n m)) hn]
      exact stepL2_le (evF2_le (Nat.le_max_right n m)) hm
    · cases hs
theorem evC2_fin {N : Nat} : ∀ (lc : LCode) {σ : St} {x : Ex × St}, evC2 (run2 F C) N lc σ = some x → ∃ n, evC2 (evF2 F C n) N lc σ = some x := by
  intro lc
  induction lc with
  | skip => intro σ x hs; exact ⟨0, hs⟩
  | exit id => intro σ x hs; exact ⟨0, hs⟩
  | ret => intro σ x hs; exact ⟨0, hs⟩
  | bad => intro σ x hs; exact ⟨0, hs⟩
  | reg lp ds pp ops kn kp =>
    intro σ x hs
    simp only [evC2] at hs ⊢
    split at hs
    · rename_i σ1 h1
      obtain ⟨n, hn⟩ := stepL2_fin h1
      exact ⟨n, by rw [hn]; exact hs⟩
    · cases hs
  | seq a b iha ihb =>
    intro σ x hs
    simp only [evC2] at hs ⊢
    split at hs
    · rename_i σ1 h1
      obtain ⟨n, hn⟩ := iha h1
      obtain ⟨m, hm⟩ := ihb hs
      refine ⟨max n m, ?_⟩
      rw [evC2_le (evF2_le (Nat.le_max_left n m)) (Nat.le_refl N) _ hn]
      exact evC2_le (evF2_le (Nat.le_max_right n m)) (Nat.le_refl N) _ hm
    · rename_i hne
      obtain ⟨n, hn⟩ := iha hs
      refine ⟨n, ?_⟩
      rw [hn]
      split
      · rename_i σ1 h1
        injection h1 with h1
        subst h1
        exact (hne _ hs).elim
      · rfl
  | alt ts ks a b iha ihb =>
    intro σ x hs
    simp only [evC2] at hs ⊢
    split at hs
    · exact ihb hs
    · exact iha hs
    · cases hs
  | cond cc a b iha ihb =>
    intro σ x hs
    simp only [evC2] at hs ⊢
    split at hs
    · rename_i t ht
      cases t with
      | true => simp only [if_true] at hs ⊢; exact iha hs
      | false => simp only [Bool.false_eq_true, if_false] at hs ⊢; exact ihb hs
    · cases hs
  | block id a ih =>
    intro σ x hs
    simp only [evC2] at hs ⊢
    split at hs
    · rename_i j σ1 h1
      obtain ⟨n, hn⟩ := ih h1
      exact ⟨n, by rw [hn]; exact hs⟩
    · rename_i hne
      obtain ⟨n, hn⟩ := ih hs
      refine ⟨n, ?_⟩
      rw [hn]
      split
      · rename_i j σ1 h1
        injection h1 with h1
        subst h1
        exact (hne _ _ hs).elim
      · rfl
  | loop a ih =>
    intro σ x hs
    simp only [evC2] at hs ⊢
    exact iter_fin (f := fun n => evC2 (evF2 F C n) N a) (fun n m hnm σ x h => evC2_le (evF2_le hnm) (Nat.le_refl N) a h) (fun σ x h => ih h) hs
  | rng g ps wr a b iha ihb =>
    intro σ x hs
    have key : ∀ {f : Nat} {mkA : Nat → List V} {τ : St}, rngE (roundE (evC2 (run2 F C) N a) (evC2 (run2 F C) N b) ps wr) (fun a => run2 F C f (mkA a)) τ = some x → ∃ n, rngE (roundE (evC2 (evF2 F C n) N a) (evC2 (evF2 F C n) N b) ps wr) (fun a => evF2 F C n f (mkA a)) τ = some x := by
      intro f mkA τ hs
      refine rngE_fin (it := fun a => run2 F C f (mkA a)) (jt := fun n a => evF2 F C n f (mkA a)) (f := fun n => roundE (evC2 (evF2 F C n) N a) (evC2 (evF2 F C n) N b) ps wr) (fun n m hnm σ as9 x h => ?_) (fun σ as9 x h => ?_) (fun n m hnm a R h => evF2_le hnm _ _ R h) (fun a R h => of_run2 h) hs
      · exact roundE_le (fun _ _ h => evC2_le (evF2_le hnm) (Nat.le_refl N) a h) (fun _ _ h => evC2_le (evF2_le hnm) (Nat.le_refl N) b h) h
      · exact roundE_fin (fA := fun n => evC2 (evF2 F C n) N a) (fB := fun n => evC2 (evF2 F C n) N b) (fun n m hnm σ x h => evC2_le (evF2_le hnm) (Nat.le_refl N) a h) (fun n m hnm σ x h => evC2_le (evF2_le hnm) (Nat.le_refl N) b h) (fun _ _ h => iha h) (fun _ _ h => ihb h) h
    simp only [evC2] at hs ⊢
    split at hs
    · split at hs
      · split at hs
        · rename_i hc
          simp only [if_pos hc]
          exact key (mkA := fun a => .fn (.y a) [] :: _) hs
        · cases hs
      · cases hs
    · split at hs
      · split at hs
        · rename_i hc
          simp only [if_pos hc]
          exact key (mkA := fun a => _ ++ [.fn (.y a) []]) hs
        · cases hs
      · cases hs
    · cases hs
/-- A body's equation: the calls in it may be told by theirs. -/
theorem run2_of_body {f N : Nat} {lf : LFun} {as9 : List V} {r : V} (hF : F f = none) (hC : C f = some lf) (h : evBody2 (run2 F C) N lf as9 = some r) : run2 F C f as9 = some r := by
  have key : ∃ n, evBody2 (evF2 F C n) N lf as9 = some r := by
    unfold evBody2 at h ⊢
    split at h
    · rename_i hl
      split at h
      · rename_i σ h1
        obtain ⟨n, hn⟩ := evC2_fin _ h1
        exact ⟨n, by rw [if_pos hl, hn]; exact h⟩
      · rename_i σ h1
        obtain ⟨n, hn⟩ := evC2_fin _ h1
        exact ⟨n, by rw [if_pos hl, hn]; exact h⟩
      · cases h
    · cases h
  obtain ⟨n, hn⟩ := key
  refine run2_of (n := max n N + 1) ?_
  rw [evF2, hF]
  simp only [hC]
  exact evBody2_le (evF2_le (Nat.le_max_left n N)) (Nat.le_max_right n N) hn
theorem run2_told {f : Nat} {g : List V → Option V} {as9 : List V} (hF : F f = some g) : run2 F C f as9 = g as9 := by
  cases hg : g as9 with
  | some r => exact run2_of (n := 1) (by rw [evF2, hF]; exact hg)
  | none =>
    cases hr : run2 F C f as9 with
    | none => rfl
    | some r =>
      obtain ⟨n, hn⟩ := of_run2 hr
      cases n with
      | zero => simp [evF2] at hn
      | succ n =>
        rw [evF2, hF] at hn
        simp only at hn
        rw [hg] at hn
        cases hn
/-- What the tables of the two machines have to do with each other. -/
structure TabR (F2 F : Nat → Option (List V → Option V)) (C2 C : Nat → Option LFun) : Prop where
  told : ∀ f g2 as2 r2 as9, F2 f = some g2 → g2 as2 = some r2 → RelL as2 noT as9 → ∃ r, run F C f as9 = some r ∧ RelR r2 r ∧ ∀ l2, itemsOf (some r2) = some l2 → ∃ l, itemsOf (some r) = some l ∧ RelE l2 l
  code : ∀ f lf, F2 f = none → C2 f = some lf → F f = none ∧ C f = some (unF lf) ∧ okC lf.body = true ∧ lf.sl = []
theorem evF2_sim {F2 F : Nat → Option (List V → Option V)} {C2 C : Nat → Option LFun} (h : TabR F2 F C2 C) : ∀ n, CallSim (evF2 F2 C2 n) (run F C)
  | 0, f, as2, r2, as9, hr, _ => by simp [evF2] at hr
  | n + 1, f, as2, r2, as9, hr, ha => by
    rw [evF2] at hr
    split at hr
    · rename_i g2 hg
      exact h.told f g2 as2 r2 as9 hg hr ha
    · rename_i hg
      split at hr
      · rename_i lf hlf
        obtain ⟨k0, k1, k2, k3⟩ := h.code f lf hg hlf
        obtain ⟨r, g1, g2⟩ := body_sim (evF2_sim h n) n k2 k3 ha hr
        exact ⟨r, run_of_body k0 k1 g1, g2⟩
      · cases hr
theorem run2_sim {F2 F : Nat → Option (List V → Option V)} {C2 C : Nat → Option LFun} (h : TabR F2 F C2 C) {f : Nat} {as2 as9 : List V} {r2 : V} (hr : run2 F2 C2 f as2 = some r2) (ha : RelL as2 noT as9) : ∃ r, run F C f as9 = some r ∧ RelR r2 r := by
  obtain ⟨n, hn⟩ := of_run2 hr
  obtain ⟨r, g1, g2, _⟩ := evF2_sim h n f as2 r2 as9 hn ha
  exact ⟨r, g1, g2⟩
/-- A law that is true for the plain machine. -/
theorem run2_true {F2 F : Nat → Option (List V → Option V)} {C2 C : Nat → Option LFun} (h : TabR F2 F C2 C) {f : Nat} {as2 as9 : List V} (hr : run2 F2 C2 f as2 = some (.bool true)) (ha : RelL as2 noT as9) : run F C f as9 = some (.bool true) := by
  obtain ⟨r, g1, g2⟩ := run2_sim h hr ha
  obtain ⟨ρ, hρ⟩ := g2.ex
  simp only [Rel] at hρ
  rw [g1, hρ]
end
end Go.Lo

/- The functions that are reached, compiled for the plain machine. -/
namespace Go.Lo
open Go.Proofs
/-- acme/acmetop.TopDieFit -/
def b5_0 : LCode :=
 (.seq
 (.seq
 (.reg true [] [] [
 ⟨(some 64), .mv, [(.t 15)], none, []⟩,
 ⟨(some 65), .mv, [(.t 7)], none, []⟩,
 ⟨(some 66), .len, [(.t 65)], none, []⟩,
 ⟨(some 67), (.bin 0 .lss), [(.t 64), (.t 66)], none, []⟩,
 ⟨(some 68), .mv, [(.t 67)], none, []⟩,
 ⟨(some 69), .mv, [(.t 8)], (some (68, true)), []⟩,
 ⟨(some 70), .pick, [(.t 68), (.t 69), (.c (.bool false))], none, []⟩] 0 [5, 6, 7, 8, 10, 12, 15, 70])
 (.cond (.t 70)
 .skip
 (.exit 0)))
 (.seq
 (.block 1
 (.seq
 (.reg true [] [] [
 ⟨(some 73), .mv, [(.t 7)], none, []⟩,
 ⟨(some 74), .mv, [(.t 15)], none, []⟩,
 ⟨(some 75), (.ixs 1), [(.t 73), (.t 74)], none, []⟩,
 ⟨(some 76), (.load none), [(.t 75)], none, []⟩,
 ⟨(some 77), (.bin 0 .sub), [(.t 76), (.c (.int .i64 90000))], none, []⟩,
 ⟨(some 78), (.bin 0 .quo), [(.t 77), (.c (.int .i64 2))], none, []⟩,
 ⟨(some 16), .mv, [(.t 78)], none, []⟩] 0 [5, 6, 7, 8, 10, 12, 15, 16])
 (.seq
 (.seq
 (.reg true [] [] [
 ⟨(some 79), .mv, [(.t 16)], none, []⟩,
 ⟨(some 80), (.bin 0 .mul), [(.c (.int .i64 2)), (.t 79)], none, []⟩,
 ⟨(some 81), .mv, [(.t 7)], none, []⟩,
 ⟨(some 82), .mv, [(.t 15)], none, []⟩,
 ⟨(some 83), (.ixs 1), [(.t 81), (.t 82)], none, []⟩,
 ⟨(some 84), (.load none), [(.t 83)], none, []⟩,
 ⟨(some 85), (.bin 0 .sub), [(.t 84), (.c (.int .i64 90000))], none, []⟩,
 ⟨(some 86), (.bin 0 .gtr), [(.t 80), (.t 85)], none, []⟩] 0 [5, 6, 7, 8, 10, 12, 15, 16, 86])
 (.cond (.t 86)
 (.reg true [] [] [
 ⟨(some 87), .mv, [(.t 16)], none, []⟩,
 ⟨(some 88), (.bin 0 .sub), [(.t 87), (.c (.int .i64 1))], none, []⟩,
 ⟨(some 16), .mv, [(.t 88)], none, []⟩] 0 [5, 6, 7, 8, 10, 12, 15, 16])
 .skip))
 (.seq
 (.reg true [95, 17, 18] [95, 17, 18] [
 ⟨(some 90), (.call true false false), [(.f 19)], none, [91, 92, 93, 94, 17, 18]⟩,
 ⟨(some 91), .mv, [(.t 16)], none, [90, 92, 93, 94, 17, 18]⟩,
 ⟨(some 92), .mv, [(.t 5)], none, [90, 91, 93, 94, 17, 18]⟩,
 ⟨(some 93), .mv, [(.t 6)], none, [90, 91, 92, 94, 17, 18]⟩,
 ⟨(some 94), (.load (some 2)), [(.t 10)], none, [90, 91, 92, 93, 17, 18]⟩,
 ⟨(some 95), (.call false false true), [(.f 16), (.t 90), (.t 91), (.t 92), (.t 93), (.t 94)], none, [17, 18]⟩,
 ⟨(some 89), .mv, [(.t 95)], none, [17, 18]⟩,
 ⟨(some 96), (.ext 0), [(.t 89)], none, [97, 98, 99, 17, 18]⟩,
 ⟨(some 97), (.ext 1), [(.t 89)], none, [96, 98, 99, 17, 18]⟩,
 ⟨(some 98), (.ext 2), [(.t 89)], none, [96, 97, 99, 17, 18]⟩,
 ⟨(some 99), (.ext 3), [(.t 89)], none, [96, 97, 98, 17, 18, 19]⟩,
 ⟨(some 17), (.alloc [(.sl none 2 []), (.int .i64 0), (.int .i64 0)]), [], none, [90, 91, 92, 93, 94, 95, 89, 96, 97, 98, 99, 18]⟩,
 ⟨(some 18), (.alloc [.nil, (.int .i64 0), (.int .i64 0)]), [], none, [90, 91, 92, 93, 94, 95, 89, 96, 97, 98, 99, 17]⟩,
 ⟨none, (.store 3 (some 17)), [(.t 17), (.t 96)], none, [97, 98, 99]⟩,
 ⟨none, (.store 3 (some 18)), [(.t 18), (.t 97)], none, [98, 99]⟩,
 ⟨(some 19), .mv, [(.t 98)], none, [99]⟩,
 ⟨(some 20), .mv, [(.t 99)], none, []⟩] 0 [5, 6, 7, 8, 10, 12, 15, 17, 20])
 (.seq
 (.reg true [] [] [
 ⟨(some 101), (.call true false false), [(.f 19)], none, [102, 103]⟩,
 ⟨(some 102), (.load (some 3)), [(.t 17)], none, [101, 103]⟩,
 ⟨(some 103), (.load (some 2)), [(.t 10)], none, [101, 102]⟩,
 ⟨(some 104), (.call false false false), [(.f 20), (.t 101), (.t 102), (.t 103)], none, []⟩,
 ⟨(some 100), .mv, [(.t 104)], none, []⟩,
 ⟨(some 105), (.ext 0), [(.t 100)], none, [106]⟩,
 ⟨(some 106), (.ext 1), [(.t 100)], none, [105, 21]⟩,
 ⟨(some 21), .mv, [(.t 105)], none, [106]⟩,
 ⟨(some 22), .mv, [(.t 106)], none, []⟩] 0 [5, 6, 7, 8, 10, 12, 15, 17, 20, 21, 22])
 (.seq
 (.reg true [23] [23] [
 ⟨(some 108), (.load (some 3)), [(.t 17)], none, []⟩,
 ⟨(some 109), (.load (some 3)), [(.t 12)], none, []⟩,
 ⟨(some 110), .mv, [(.t 6)], none, []⟩,
 ⟨(some 111), (.load (some 2)), [(.t 10)], none, []⟩,
 ⟨(some 112), (.call false false false), [(.f 21), (.t 108), (.t 109), (.c (.int .i64 0)), (.c (.int .i64 0)), (.t 110), (.t 111)], none, []⟩,
 ⟨(some 107), .mv, [(.t 112)], none, []⟩,
 ⟨(some 113), (.ext 0), [(.t 107)], none, []⟩,
 ⟨(some 114), (.ext 1), [(.t 107)], none, []⟩,
 ⟨(some 23), (.alloc [(.int .i64 0), (.int .i64 0)]), [], none, []⟩,
 ⟨none, (.store 2 none), [(.t 23), (.t 113)], none, []⟩,
 ⟨(some 24), .mv, [(.t 114)], none, []⟩] 0 [5, 6, 7, 8, 10, 12, 15, 20, 21, 22, 23, 24])
 (.seq
 (.reg true [] [] [
 ⟨(some 115), .mv, [(.t 20)], none, []⟩,
 ⟨(some 116), (.bin 0 .neq), [(.t 115), (.c (.int .i64 0))], none, []⟩,
 ⟨(some 117), .mv, [(.t 116)], none, []⟩,
 ⟨(some 118), .mv, [(.t 22)], (some (117, false)), []⟩,
 ⟨(some 119), (.bin 0 .neq), [(.t 118), (.c (.int .i64 0))], (some (117, false)), []⟩,
 ⟨(some 120), .pick, [(.t 117), (.c (.bool true)), (.t 119)], none, []⟩,
 ⟨(some 121), .mv, [(.t 120)], none, []⟩,
 ⟨(some 122), .mv, [(.t 24)], (some (121, false)), []⟩,
 ⟨(some 123), (.bin 0 .neq), [(.t 122), (.c (.int .i64 0))], (some (121, false)), []⟩,
 ⟨(some 124), .pick, [(.t 121), (.c (.bool true)), (.t 123)], none, []⟩,
 ⟨(some 125), .mv, [(.t 124)], none, []⟩,
 ⟨(some 126), .mv, [(.t 21)], (some (125, false)), []⟩,
 ⟨(some 127), .mv, [(.t 5)], (some (125, false)), []⟩,
 ⟨(some 128), (.bin 0 .gtr), [(.t 126), (.t 127)], (some (125, false)), []⟩,
 ⟨(some 129), .pick, [(.t 125), (.c (.bool true)), (.t 128)], none, []⟩,
 ⟨(some 130), .mv, [(.t 129)], none, []⟩,
 ⟨(some 131), (.fa 0), [(.t 23)], (some (130, false)), []⟩,
 ⟨(some 132), (.load none), [(.t 131)], (some (130, false)), []⟩,
 ⟨(some 133), (.fa 1), [(.t 23)], (some (130, false)), []⟩,
 ⟨(some 134), (.load none), [(.t 133)], (some (130, false)), []⟩,
 ⟨(some 135), (.bin 0 .gtr), [(.t 132), (.t 134)], (some (130, false)), []⟩,
 ⟨(some 136), .pick, [(.t 130), (.c (.bool true)), (.t 135)], none, []⟩] 0 [5, 6, 7, 8, 10, 12, 15, 136])
 (.cond (.t 136)
 (.seq
 (.reg true [] [] [
 ⟨(some 4), .mv, [(.c (.bool false))], none, []⟩] 0 [4])
 .ret)
 .skip))))))))
 (.reg true [] [] [
 ⟨(some 71), .mv, [(.t 15)], none, []⟩,
 ⟨(some 72), (.bin 0 .add), [(.t 71), (.c (.int .i64 7))], none, []⟩,
 ⟨(some 15), .mv, [(.t 72)], none, []⟩] 0 [5, 6, 7, 8, 10, 12, 15])))
def l5 : LFun := ⟨2, 141, [],
 (.seq
 (.reg false [2, 3] [2, 3] [
 ⟨(some 2), .box, [(.t 0)], none, []⟩,
 ⟨(some 3), .box, [(.t 1)], none, []⟩,
 ⟨(some 4), .mv, [(.c (.bool false))], none, []⟩] 0 [2, 3])
 (.seq
 (.reg false [] [] [
 ⟨(some 25), (.ixa 3 1), [(.t 3), (.c (.int .i64 0))], none, [29, 30, 31, 32, 33]⟩,
 ⟨(some 26), (.load none), [(.t 25)], none, [29, 30, 31, 32, 33]⟩,
 ⟨(some 27), (.conv .i64), [(.t 26)], none, [29, 30, 31, 32, 33]⟩,
 ⟨(some 28), (.bin 0 .rem), [(.t 27), (.c (.int .i64 60))], none, [29, 30, 31, 32, 33]⟩,
 ⟨(some 29), (.ixa 3 1), [(.t 3), (.c (.int .i64 1))], none, [25, 26, 27, 28, 5]⟩,
 ⟨(some 30), (.load none), [(.t 29)], none, [25, 26, 27, 28, 5]⟩,
 ⟨(some 31), (.conv .i64), [(.t 30)], none, [25, 26, 27, 28, 5]⟩,
 ⟨(some 32), (.bin 0 .rem), [(.t 31), (.c (.int .i64 4))], none, [25, 26, 27, 28, 5]⟩,
 ⟨(some 33), (.bin 0 .add), [(.c (.int .i64 1)), (.t 32)], none, [25, 26, 27, 28, 5]⟩,
 ⟨(some 5), .mv, [(.t 28)], none, [29, 30, 31, 32, 33]⟩,
 ⟨(some 6), .mv, [(.t 33)], none, []⟩] 0 [2, 3, 5, 6])
 (.seq
 (.reg false [40] [40] [
 ⟨(some 35), (.load (some 8)), [(.t 2)], none, [36, 37, 38, 39]⟩,
 ⟨(some 36), .mv, [(.t 5)], none, [35]⟩,
 ⟨(some 37), (.bin 0 .mul), [(.c (.int .i64 2)), (.t 36)], none, [35]⟩,
 ⟨(some 38), (.bin 0 .add), [(.c (.int .i64 90000)), (.t 37)], none, [35]⟩,
 ⟨(some 39), (.call true false false), [(.f 8), (.c (.int .i64 89700)), (.t 38)], none, [35]⟩,
 ⟨(some 40), (.call false false true), [(.f 12), (.t 35), (.t 39)], none, []⟩,
 ⟨(some 34), .mv, [(.t 40)], none, []⟩,
 ⟨(some 41), (.ext 0), [(.t 34)], none, [42, 43]⟩,
 ⟨(some 42), (.ext 1), [(.t 34)], none, [41, 43, 7]⟩,
 ⟨(some 43), (.ext 2), [(.t 34)], none, [41, 42, 7, 8]⟩,
 ⟨(some 7), .mv, [(.t 41)], none, [42, 43]⟩,
 ⟨(some 8), .mv, [(.t 42)], none, [43]⟩,
 ⟨(some 9), .mv, [(.t 43)], none, []⟩] 0 [3, 5, 6, 7, 8, 9])
 (.seq
 (.seq
 (.reg false [] [] [
 ⟨(some 44), .mv, [(.t 9)], none, []⟩,
 ⟨(some 45), (.un .not), [(.t 44)], none, []⟩] 0 [3, 5, 6, 7, 8, 45])
 (.cond (.t 45)
 (.seq
 (.reg false [] [] [
 ⟨(some 4), .mv, [(.c (.bool false))], none, []⟩] 0 [4])
 .ret)
 .skip))
 (.seq
 (.reg false [10] [10] [
 ⟨(some 46), (.call false false false), [(.f 8), (.c (.int .i64 (-3000))), (.c (.int .i64 3000))], none, []⟩,
 ⟨(some 10), (.alloc [(.int .i64 0), (.int .i64 0)]), [], none, []⟩,
 ⟨none, (.store 2 none), [(.t 10), (.t 46)], none, []⟩] 0 [3, 5, 6, 7, 8, 10])
 (.seq
 (.reg false [53, 11, 12] [53, 11, 12] [
 ⟨(some 48), (.call true false false), [(.f 19)], none, [49, 50, 51, 52, 11, 12]⟩,
 ⟨(some 49), .mv, [(.t 5)], none, [48, 50, 51, 52, 11, 12]⟩,
 ⟨(some 50), .mv, [(.t 5)], none, [48, 49, 51, 52, 11, 12]⟩,
 ⟨(some 51), .mv, [(.t 6)], none, [48, 49, 50, 52, 11, 12]⟩,
 ⟨(some 52), (.load (some 2)), [(.t 10)], none, [48, 49, 50, 51, 11, 12]⟩,
 ⟨(some 53), (.call false false true), [(.f 16), (.t 48), (.t 49), (.t 50), (.t 51), (.t 52)], none, [11, 12]⟩,
 ⟨(some 47), .mv, [(.t 53)], none, [11, 12]⟩,
 ⟨(some 54), (.ext 0), [(.t 47)], none, [55, 56, 57, 11, 12]⟩,
 ⟨(some 55), (.ext 1), [(.t 47)], none, [54, 56, 57, 11, 12]⟩,
 ⟨(some 56), (.ext 2), [(.t 47)], none, [54, 55, 57, 11, 12]⟩,
 ⟨(some 57), (.ext 3), [(.t 47)], none, [54, 55, 56, 11, 12, 13]⟩,
 ⟨(some 11), (.alloc [.nil, (.int .i64 0), (.int .i64 0)]), [], none, [48, 49, 50, 51, 52, 53, 47, 54, 55, 56, 57, 12]⟩,
 ⟨(some 12), (.alloc [(.sl none 2 []), (.int .i64 0), (.int .i64 0)]), [], none, [48, 49, 50, 51, 52, 53, 47, 54, 55, 56, 57, 11]⟩,
 ⟨none, (.store 3 (some 11)), [(.t 11), (.t 54)], none, [55, 56, 57]⟩,
 ⟨none, (.store 3 (some 12)), [(.t 12), (.t 55)], none, [56, 57]⟩,
 ⟨(some 13), .mv, [(.t 56)], none, [57]⟩,
 ⟨(some 14), .mv, [(.t 57)], none, []⟩] 0 [3, 5, 6, 7, 8, 10, 12, 14])
 (.seq
 (.seq
 (.reg false [] [] [
 ⟨(some 58), .mv, [(.t 14)], none, []⟩,
 ⟨(some 59), (.bin 0 .neq), [(.t 58), (.c (.int .i64 0))], none, []⟩] 0 [3, 5, 6, 7, 8, 10, 12, 59])
 (.cond (.t 59)
 (.seq
 (.reg false [] [] [
 ⟨(some 4), .mv, [(.c (.bool false))], none, []⟩] 0 [4])
 .ret)
 .skip))
 (.seq
 (.seq
 (.reg false [] [] [
 ⟨(some 60), (.ixa 3 1), [(.t 3), (.c (.int .i64 2))], none, []⟩,
 ⟨(some 61), (.load none), [(.t 60)], none, []⟩,
 ⟨(some 62), (.conv .i64), [(.t 61)], none, []⟩,
 ⟨(some 63), (.bin 0 .rem), [(.t 62), (.c (.int .i64 7))], none, []⟩,
 ⟨(some 15), .mv, [(.t 63)], none, []⟩] 0 [5, 6, 7, 8, 10, 12, 15])
 (.block 0
 (.loop b5_0)))
 (.seq
 (.reg false [] [] [
 ⟨(some 137), (.call false false false), [(.f 18)], none, []⟩,
 ⟨(some 138), .mv, [(.t 137)], none, []⟩,
 ⟨(some 139), (.call false false false), [(.f 11)], (some (138, true)), []⟩,
 ⟨(some 140), .pick, [(.t 138), (.t 139), (.c (.bool false))], none, []⟩,
 ⟨(some 4), .mv, [(.t 140)], none, []⟩] 0 [4])
 .ret))))))))),
 [(.t 4)]⟩
theorem c5 : funC Try.prog [(0, [2, 3]), (1, [2, 3, 5, 6]), (2, [3, 5, 6, 7, 8, 9]), (3, [3, 5, 6, 7, 8, 45]), (4, [4]), (5, [3, 5, 6, 7, 8, 10]), (6, [3, 5, 6, 7, 8, 10, 12, 14]), (7, [3, 5, 6, 7, 8, 10, 12, 59]), (8, [4]), (9, [5, 6, 7, 8, 10, 12, 15]), (10, [5, 6, 7, 8, 10, 12, 15, 70]), (11, [5, 6, 7, 8, 10, 12, 15]), (12, [5, 6, 7, 8, 10, 12, 15, 16]), (13, [5, 6, 7, 8, 10, 12, 15, 16, 86]), (14, [5, 6, 7, 8, 10, 12, 15, 16]), (15, [5, 6, 7, 8, 10, 12, 15, 17, 20]), (16, [5, 6, 7, 8, 10, 12, 15, 17, 20, 21, 22]), (17, [5, 6, 7, 8, 10, 12, 15, 20, 21, 22, 23, 24]), (18, [5, 6, 7, 8, 10, 12, 15, 136]), (19, [4]), (20, [4])] Try.f5 = some (unF l5) := by kernel_rfl
/-- acme/acmetop.armSpan -/
def l8 : LFun := ⟨2, 8, [],
 (.seq
 (.reg false [4] [4] [
 ⟨(some 4), (.alloc [(.int .i64 0), (.int .i64 0)]), [], none, []⟩] 0 [0, 1, 4])
 (.seq
 (.reg false [] [] [
 ⟨(some 5), .mv, [(.t 0)], none, []⟩,
 ⟨(some 6), .mv, [(.t 1)], none, []⟩,
 ⟨(some 7), (.build [(.int .i64 0), (.int .i64 0)] [(0, 1), (1, 1)]), [(.t 5), (.t 6)], none, []⟩,
 ⟨none, (.store 2 none), [(.t 4), (.t 7)], none, []⟩] 0 [4])
 .ret)),
 [(.c 4 (some 2))]⟩
theorem c8 : funC Try.prog [(0, [0, 1, 4]), (1, [4])] Try.f8 = some (unF l8) := by kernel_rfl
/-- acme/acmetop.armDie -/
def l11 : LFun := ⟨0, 52, [],
 (.seq
 (.reg false [] [] [
 ⟨(some 0), .mv, [(.c (.bool false))], none, []⟩] 0 [])
 (.seq
 (.reg false [11, 1] [11, 1] [
 ⟨(some 7), (.call false false false), [(.f 8), (.c (.int .i64 (-1000))), (.c (.int .i64 1000))], none, []⟩,
 ⟨(some 8), (.call false false false), [(.f 8), (.c (.int .i64 (-500))), (.c (.int .i64 500))], none, []⟩,
 ⟨(some 9), (.call false false false), [(.f 8), (.c (.int .i64 10)), (.c (.int .i64 20))], none, []⟩,
 ⟨(some 10), (.call false false false), [(.f 8), (.c (.int .i64 50)), (.c (.int .i64 100))], none, []⟩,
 ⟨(some 11), (.bsl 2 [(.int .i64 0), (.int .i64 0)] 2 [0, 1]), [(.t 9), (.t 10)], none, []⟩,
 ⟨(some 12), (.build [(.bool false), (.int .i64 0), (.int .i64 0), (.int .i64 0), (.int .i64 0), (.sl none 2 [])] [(1, 2), (3, 2), (5, 1)]), [(.t 7), (.t 8), (.t 11)], none, []⟩,
 ⟨(some 1), (.alloc [(.bool false), (.int .i64 0), (.int .i64 0), (.int .i64 0), (.int .i64 0), (.sl none 2 [])]), [], none, []⟩,
 ⟨none, (.store 6 none), [(.t 1), (.t 12)], none, []⟩] 0 [1])
 (.seq
 (.reg false [17] [17] [
 ⟨(some 13), (.call false false false), [(.f 8), (.c (.int .i64 100000)), (.c (.int .i64 110000))], none, []⟩,
 ⟨(some 14), (.build [(.int .i64 0), (.int .i64 0), (.int .i64 0), (.int .i64 0)] [(0, 1), (2, 2)]), [(.c (.int .i64 200)), (.t 13)], none, []⟩,
 ⟨(some 15), (.call false false false), [(.f 8), (.c (.int .i64 100000)), (.c (.int .i64 110000))], none, []⟩,
 ⟨(some 16), (.build [(.int .i64 0), (.int .i64 0), (.int .i64 0), (.int .i64 0)] [(0, 1), (1, 1), (2, 2)]), [(.c (.int .i64 100)), (.c (.int .i64 1)), (.t 15)], none, []⟩,
 ⟨(some 17), (.bsl 4 [(.int .i64 0), (.int .i64 0), (.int .i64 0), (.int .i64 0)] 2 [0, 1]), [(.t 14), (.t 16)], none, []⟩,
 ⟨(some 2), .mv, [(.t 17)], none, []⟩] 0 [1, 2])
 (.seq
 (.reg false [] [] [
 ⟨(some 19), (.load (some 6)), [(.t 1)], none, []⟩,
 ⟨(some 20), .mv, [(.t 2)], none, []⟩,
 ⟨(some 21), (.call false false false), [(.f 29), (.t 19), (.t 20), (.c (.int .i64 0))], none, []⟩,
 ⟨(some 18), .mv, [(.t 21)], none, []⟩,
 ⟨(some 22), (.ext 0), [(.t 18)], none, []⟩,
 ⟨(some 23), (.ext 1), [(.t 18)], none, []⟩,
 ⟨(some 3), .mv, [(.t 22)], none, []⟩,
 ⟨(some 4), .mv, [(.t 23)], none, []⟩] 0 [1, 2, 3, 4])
 (.seq
 (.reg false [27] [27] [
 ⟨(some 25), (.load (some 6)), [(.t 1)], none, []⟩,
 ⟨(some 26), .mv, [(.t 2)], none, []⟩,
 ⟨(some 27), (.call false false true), [(.f 30), (.t 25), (.t 26)], none, []⟩,
 ⟨(some 24), .mv, [(.t 27)], none, []⟩,
 ⟨(some 28), (.ext 0), [(.t 24)], none, []⟩,
 ⟨(some 29), (.ext 1), [(.t 24)], none, []⟩,
 ⟨(some 5), .mv, [(.t 28)], none, []⟩,
 ⟨(some 6), .mv, [(.t 29)], none, []⟩] 0 [3, 4, 5, 6])
 (.seq
 (.reg false [] [] [
 ⟨(some 30), .mv, [(.t 4)], none, []⟩,
 ⟨(some 31), (.bin 0 .eql), [(.t 30), (.c (.int .i64 0))], none, []⟩,
 ⟨(some 32), .mv, [(.t 31)], none, []⟩,
 ⟨(some 33), .mv, [(.t 6)], (some (32, true)), []⟩,
 ⟨(some 34), (.bin 0 .eql), [(.t 33), (.c (.int .i64 0))], (some (32, true)), []⟩,
 ⟨(some 35), .pick, [(.t 32), (.t 34), (.c (.bool false))], none, []⟩,
 ⟨(some 36), .mv, [(.t 35)], none, []⟩,
 ⟨(some 37), .mv, [(.t 3)], (some (36, true)), []⟩,
 ⟨(some 38), (.bin 0 .eql), [(.t 37), (.c (.int .i64 231))], (some (36, true)), []⟩,
 ⟨(some 39), .pick, [(.t 36), (.t 38), (.c (.bool false))], none, []⟩,
 ⟨(some 40), .mv, [(.t 39)], none, []⟩,
 ⟨(some 41), .mv, [(.t 5)], (some (40, true)), []⟩,
 ⟨(some 42), .len, [(.t 41)], (some (40, true)), []⟩,
 ⟨(some 43), (.bin 0 .eql), [(.t 42), (.c (.int .i64 2))], (some (40, true)), []⟩,
 ⟨(some 44), .pick, [(.t 40), (.t 43), (.c (.bool false))], none, []⟩,
 ⟨(some 45), .mv, [(.t 44)], none, []⟩,
 ⟨(some 46), .mv, [(.t 5)], (some (45, true)), []⟩,
 ⟨(some 47), (.ixs 2), [(.t 46), (.c (.int .i64 1))], (some (45, true)), []⟩,
 ⟨(some 48), (.load (some 2)), [(.t 47)], (some (45, true)), []⟩,
 ⟨(some 49), (.build [(.int .i64 0), (.int .i64 0)] [(0, 1), (1, 1)]), [(.c (.int .i64 231)), (.c (.int .i64 101500))], (some (45, true)), []⟩,
 ⟨(some 50), (.eqs false [(some .i64), (some .i64)]), [(.t 48), (.t 49)], (some (45, true)), []⟩,
 ⟨(some 51), .pick, [(.t 45), (.t 50), (.c (.bool false))], none, []⟩,
 ⟨(some 0), .mv, [(.t 51)], none, []⟩] 0 [0])
 .ret)))))),
 [(.t 0)]⟩
theorem c11 : funC Try.prog [(0, []), (1, [1]), (2, [1, 2]), (3, [1, 2, 3, 4]), (4, [3, 4, 5, 6]), (5, [0])] Try.f11 = some (unF l11) := by kernel_rfl
/-- (acme/acmetop.ArmDie).planned -/
def b12_0 : LCode :=
 (.seq
 (.seq
 (.reg true [] [] [
 ⟨(some 36), .mv, [(.t 12)], none, []⟩,
 ⟨(some 37), .mv, [(.t 8)], none, []⟩,
 ⟨(some 38), .len, [(.t 37)], none, []⟩,
 ⟨(some 39), (.bin 0 .lss), [(.t 36), (.t 38)], none, []⟩] 0 [2, 8, 9, 10, 11, 12, 39])
 (.cond (.t 39)
 .skip
 (.exit 0)))
 (.seq
 (.block 1
 (.seq
 (.reg true [] [] [
 ⟨(some 42), .mv, [(.t 11)], none, []⟩,
 ⟨(some 13), .mv, [(.t 42)], none, []⟩] 0 [2, 8, 9, 10, 11, 12, 13])
 (.seq
 (.seq
 (.reg true [] [] [
 ⟨(some 43), .mv, [(.t 12)], none, []⟩,
 ⟨(some 44), (.bin 0 .add), [(.t 43), (.c (.int .i64 1))], none, []⟩,
 ⟨(some 45), .mv, [(.t 8)], none, []⟩,
 ⟨(some 46), .len, [(.t 45)], none, []⟩,
 ⟨(some 47), (.bin 0 .lss), [(.t 44), (.t 46)], none, []⟩] 0 [2, 8, 9, 10, 11, 12, 13, 47])
 (.cond (.t 47)
 (.reg true [] [] [
 ⟨(some 48), .mv, [(.t 8)], none, []⟩,
 ⟨(some 49), .mv, [(.t 12)], none, []⟩,
 ⟨(some 50), (.bin 0 .add), [(.t 49), (.c (.int .i64 1))], none, []⟩,
 ⟨(some 51), (.ixs 2), [(.t 48), (.t 50)], none, []⟩,
 ⟨(some 52), (.fa 0), [(.t 51)], none, []⟩,
 ⟨(some 53), (.load none), [(.t 52)], none, []⟩,
 ⟨(some 13), .mv, [(.t 53)], none, []⟩] 0 [2, 8, 9, 10, 11, 12, 13])
 .skip))
 (.seq
 (.seq
 (.reg true [] [] [
 ⟨(some 54), .mv, [(.t 8)], none, []⟩,
 ⟨(some 55), .mv, [(.t 12)], none, []⟩,
 ⟨(some 56), (.ixs 2), [(.t 54), (.t 55)], none, []⟩,
 ⟨(some 57), (.fa 0), [(.t 56)], none, []⟩,
 ⟨(some 58), (.load none), [(.t 57)], none, []⟩,
 ⟨(some 59), .mv, [(.t 10)], none, []⟩,
 ⟨(some 60), .len, [(.t 59)], none, []⟩,
 ⟨(some 61), (.bin 0 .neq), [(.t 58), (.t 60)], none, []⟩,
 ⟨(some 62), .mv, [(.t 61)], none, []⟩,
 ⟨(some 63), .mv, [(.t 13)], (some (62, false)), []⟩,
 ⟨(some 64), .mv, [(.t 10)], (some (62, false)), []⟩,
 ⟨(some 65), .len, [(.t 64)], (some (62, false)), []⟩,
 ⟨(some 66), (.bin 0 .leq), [(.t 63), (.t 65)], (some (62, false)), []⟩,
 ⟨(some 67), .pick, [(.t 62), (.c (.bool true)), (.t 66)], none, []⟩,
 ⟨(some 68), .mv, [(.t 67)], none, []⟩,
 ⟨(some 69), .mv, [(.t 13)], (some (68, false)), []⟩,
 ⟨(some 70), .mv, [(.t 11)], (some (68, false)), []⟩,
 ⟨(some 71), (.bin 0 .gtr), [(.t 69), (.t 70)], (some (68, false)), []⟩,
 ⟨(some 72), .pick, [(.t 68), (.c (.bool true)), (.t 71)], none, []⟩] 0 [2, 8, 9, 10, 11, 12, 13, 72])
 (.cond (.t 72)
 (.seq
 (.reg true [] [] [
 ⟨(some 4), .mv, [(.c (.sl none 1 []))], none, []⟩,
 ⟨(some 5), .mv, [(.c (.bool false))], none, []⟩,
 ⟨(some 6), .mv, [(.c (.bool false))], none, []⟩] 0 [4, 5, 6])
 .ret)
 .skip))
 (.reg true [86, 87] [86] [
 ⟨(some 73), .mv, [(.t 10)], none, [74, 75, 76, 77, 78, 79, 80, 81, 82, 83, 84, 85, 86]⟩,
 ⟨(some 74), (.load (some 8)), [(.t 2)], none, [73, 75, 76, 77, 78, 79, 80, 81, 82, 83, 84, 85]⟩,
 ⟨(some 75), .mv, [(.t 8)], none, [73, 74, 76, 80, 81, 82, 83, 84, 85]⟩,
 ⟨(some 76), .mv, [(.t 12)], none, [73, 74, 75, 80, 81, 82, 83, 84, 85]⟩,
 ⟨(some 77), (.ixs 2), [(.t 75), (.t 76)], none, [73, 74, 80, 81, 82, 83, 84, 85]⟩,
 ⟨(some 78), (.fa 1), [(.t 77)], none, [73, 74, 80, 81, 82, 83, 84, 85]⟩,
 ⟨(some 79), (.load none), [(.t 78)], none, [73, 74, 80, 81, 82, 83, 84, 85]⟩,
 ⟨(some 80), .mv, [(.t 8)], none, [73, 74, 75, 76, 77, 78, 79, 81, 85]⟩,
 ⟨(some 81), .mv, [(.t 12)], none, [73, 74, 75, 76, 77, 78, 79, 80, 85]⟩,
 ⟨(some 82), (.ixs 2), [(.t 80), (.t 81)], none, [73, 74, 75, 76, 77, 78, 79, 85]⟩,
 ⟨(some 83), (.fa 0), [(.t 82)], none, [73, 74, 75, 76, 77, 78, 79, 85]⟩,
 ⟨(some 84), (.load none), [(.t 83)], none, [73, 74, 75, 76, 77, 78, 79, 85]⟩,
 ⟨(some 85), .mv, [(.t 13)], none, [73, 74, 75, 76, 77, 78, 79, 80, 81, 82, 83, 84]⟩,
 ⟨(some 86), (.call true false true), [(.f 33), (.t 74), (.t 79), (.t 84), (.t 85)], none, [73]⟩,
 ⟨(some 87), (.append false 1 8), [(.t 73), (.t 86)], none, []⟩,
 ⟨(some 10), .mv, [(.t 87)], none, []⟩] 0 [2, 8, 9, 10, 11, 12])))))
 (.reg true [] [] [
 ⟨(some 40), .mv, [(.t 12)], none, []⟩,
 ⟨(some 41), (.bin 0 .add), [(.t 40), (.c (.int .i64 1))], none, []⟩,
 ⟨(some 12), .mv, [(.t 41)], none, []⟩] 0 [2, 8, 9, 10, 11, 12])))
def l12 : LFun := ⟨2, 99, [],
 (.seq
 (.reg false [2, 3] [2, 3] [
 ⟨(some 2), .box, [(.t 0)], none, []⟩,
 ⟨(some 3), .box, [(.t 1)], none, []⟩,
 ⟨(some 4), .mv, [(.c (.sl none 1 []))], none, []⟩,
 ⟨(some 5), .mv, [(.c (.bool false))], none, []⟩,
 ⟨(some 6), .mv, [(.c (.bool false))], none, []⟩] 0 [2, 3])
 (.seq
 (.reg false [16] [16] [
 ⟨(some 14), (.load (some 8)), [(.t 2)], none, []⟩,
 ⟨(some 15), (.load (some 2)), [(.t 3)], none, []⟩,
 ⟨(some 16), (.call false false true), [(.f 31), (.t 14), (.t 15)], none, []⟩,
 ⟨(some 7), .mv, [(.t 16)], none, []⟩] 0 [2, 7])
 (.seq
 (.reg false [19, 20, 22, 23] [19, 20, 23] [
 ⟨(some 18), (.load (some 8)), [(.t 2)], none, []⟩,
 ⟨(some 19), (.call false false true), [(.f 32), (.t 18)], none, []⟩,
 ⟨(some 20), (.bsl 4 [(.int .i64 0), (.int .i64 0), (.int .i64 0), (.int .i64 0)] 0 []), [], none, []⟩,
 ⟨(some 21), .mv, [(.t 7)], none, []⟩,
 ⟨(some 22), (.append false 4 32), [(.t 20), (.t 21)], none, []⟩,
 ⟨(some 23), (.call false false true), [(.f 30), (.t 19), (.t 22)], none, []⟩,
 ⟨(some 17), .mv, [(.t 23)], none, []⟩,
 ⟨(some 24), (.ext 0), [(.t 17)], none, []⟩,
 ⟨(some 25), (.ext 1), [(.t 17)], none, []⟩,
 ⟨(some 8), .mv, [(.t 24)], none, []⟩,
 ⟨(some 9), .mv, [(.t 25)], none, []⟩] 0 [2, 7, 8, 9])
 (.seq
 (.seq
 (.reg false [] [] [
 ⟨(some 26), .mv, [(.t 9)], none, []⟩,
 ⟨(some 27), (.bin 0 .eql), [(.t 26), (.c (.int .i64 7))], none, []⟩] 0 [2, 7, 8, 9, 27])
 (.cond (.t 27)
 (.seq
 (.reg false [] [] [
 ⟨(some 28), .mv, [(.t 8)], none, []⟩,
 ⟨(some 29), .len, [(.t 28)], none, []⟩,
 ⟨(some 30), (.bin 0 .eql), [(.t 29), (.c (.int .i64 0))], none, []⟩,
 ⟨(some 4), .mv, [(.c (.sl none 1 []))], none, []⟩,
 ⟨(some 5), .mv, [(.c (.bool false))], none, []⟩,
 ⟨(some 6), .mv, [(.t 30)], none, []⟩] 0 [4, 5, 6])
 .ret)
 .skip))
 (.seq
 (.reg false [31] [31] [
 ⟨(some 31), (.bsl 1 [(.int .i64 0)] 0 []), [], none, [32, 33, 34, 35]⟩,
 ⟨(some 32), .mv, [(.t 7)], none, [31, 10]⟩,
 ⟨(some 33), (.ixs 4), [(.t 32), (.c (.int .i64 0))], none, [31, 10]⟩,
 ⟨(some 34), (.fa 0), [(.t 33)], none, [31, 10]⟩,
 ⟨(some 35), (.load none), [(.t 34)], none, [31, 10]⟩,
 ⟨(some 10), .mv, [(.t 31)], none, [32, 33, 34, 35]⟩,
 ⟨(some 11), .mv, [(.t 35)], none, []⟩] 0 [2, 8, 9, 10, 11])
 (.seq
 (.seq
 (.reg false [] [] [
 ⟨(some 12), .mv, [(.c (.int .i64 0))], none, []⟩] 0 [2, 8, 9, 10, 11, 12])
 (.block 0
 (.loop b12_0)))
 (.seq
 (.reg false [] [] [
 ⟨(some 88), .mv, [(.t 10)], none, []⟩,
 ⟨(some 89), .mv, [(.t 9)], none, []⟩,
 ⟨(some 90), (.bin 0 .eql), [(.t 89), (.c (.int .i64 0))], none, []⟩,
 ⟨(some 91), .mv, [(.t 9)], none, []⟩,
 ⟨(some 92), (.bin 0 .eql), [(.t 91), (.c (.int .i64 0))], none, []⟩,
 ⟨(some 93), .mv, [(.t 92)], none, []⟩,
 ⟨(some 94), .mv, [(.t 10)], (some (93, true)), []⟩,
 ⟨(some 95), .len, [(.t 94)], (some (93, true)), []⟩,
 ⟨(some 96), .mv, [(.t 11)], (some (93, true)), []⟩,
 ⟨(some 97), (.bin 0 .eql), [(.t 95), (.t 96)], (some (93, true)), []⟩,
 ⟨(some 98), .pick, [(.t 93), (.t 97), (.c (.bool false))], none, []⟩,
 ⟨(some 4), .mv, [(.t 88)], none, []⟩,
 ⟨(some 5), .mv, [(.t 90)], none, []⟩,
 ⟨(some 6), .mv, [(.t 98)], none, []⟩] 0 [4, 5, 6])
 .ret))))))),
 [(.t 4), (.t 5), (.t 6)]⟩
theorem c12 : funC Try.prog [(0, [2, 3]), (1, [2, 7]), (2, [2, 7, 8, 9]), (3, [2, 7, 8, 9, 27]), (4, [4, 5, 6]), (5, [2, 8, 9, 10, 11]), (6, [2, 8, 9, 10, 11, 12]), (7, [2, 8, 9, 10, 11, 12, 39]), (8, [2, 8, 9, 10, 11, 12]), (9, [2, 8, 9, 10, 11, 12, 13]), (10, [2, 8, 9, 10, 11, 12, 13, 47]), (11, [2, 8, 9, 10, 11, 12, 13]), (12, [2, 8, 9, 10, 11, 12, 13, 72]), (13, [4, 5, 6]), (14, [2, 8, 9, 10, 11, 12]), (15, [4, 5, 6])] Try.f12 = some (unF l12) := by kernel_rfl
/-- acme/acmetop.armIn -/
def l13 : LFun := ⟨2, 17, [],
 (.seq
 (.reg false [2] [2] [
 ⟨(some 2), .box, [(.t 0)], none, []⟩,
 ⟨(some 4), .mv, [(.c (.int .i64 0))], none, []⟩] 0 [1, 2])
 (.seq
 (.reg false [] [] [
 ⟨(some 5), (.fa 0), [(.t 2)], none, [7, 8, 9, 10, 11, 12, 13, 14, 15]⟩,
 ⟨(some 6), (.load none), [(.t 5)], none, [7, 8, 9, 10, 11, 12, 13, 14, 15]⟩,
 ⟨(some 7), .mv, [(.t 1)], none, [5, 6, 9, 10, 11, 12, 13, 14]⟩,
 ⟨(some 8), (.conv .i64), [(.t 7)], none, [5, 6, 9, 10, 11, 12, 13, 14]⟩,
 ⟨(some 9), (.fa 1), [(.t 2)], none, [5, 6, 7, 8, 11, 12]⟩,
 ⟨(some 10), (.load none), [(.t 9)], none, [5, 6, 7, 8, 11, 12]⟩,
 ⟨(some 11), (.fa 0), [(.t 2)], none, [5, 6, 7, 8, 9, 10]⟩,
 ⟨(some 12), (.load none), [(.t 11)], none, [5, 6, 7, 8, 9, 10]⟩,
 ⟨(some 13), (.bin 0 .sub), [(.t 10), (.t 12)], none, [5, 6, 7, 8]⟩,
 ⟨(some 14), (.bin 0 .add), [(.t 13), (.c (.int .i64 1))], none, [5, 6, 7, 8]⟩,
 ⟨(some 15), (.bin 0 .rem), [(.t 8), (.t 14)], none, [5, 6]⟩,
 ⟨(some 16), (.bin 0 .add), [(.t 6), (.t 15)], none, []⟩,
 ⟨(some 4), .mv, [(.t 16)], none, []⟩] 0 [4])
 .ret)),
 [(.t 4)]⟩
theorem c13 : funC Try.prog [(0, [1, 2]), (1, [4])] Try.f13 = some (unF l13) := by kernel_rfl
/-- acme/acmetop.armByte -/
def l14 : LFun := ⟨2, 16, [],
 (.seq
 (.reg false [] [] [
 ⟨(some 4), .mv, [(.c (.int .i64 0))], none, []⟩] 0 [0, 1])
 (.seq
 (.seq
 (.reg false [] [] [
 ⟨(some 5), .mv, [(.t 0)], none, []⟩,
 ⟨(some 6), .len, [(.t 5)], none, []⟩,
 ⟨(some 7), (.bin 0 .eql), [(.t 6), (.c (.int .i64 0))], none, []⟩] 0 [0, 1, 7])
 (.cond (.t 7)
 (.seq
 (.reg false [] [] [
 ⟨(some 4), .mv, [(.c (.int .i64 0))], none, []⟩] 0 [4])
 .ret)
 .skip))
 (.seq
 (.reg false [] [] [
 ⟨(some 8), .mv, [(.t 0)], none, []⟩,
 ⟨(some 9), .mv, [(.t 1)], none, []⟩,
 ⟨(some 10), .mv, [(.t 0)], none, []⟩,
 ⟨(some 11), .len, [(.t 10)], none, []⟩,
 ⟨(some 12), (.bin 0 .rem), [(.t 9), (.t 11)], none, []⟩,
 ⟨(some 13), (.ixs 1), [(.t 8), (.t 12)], none, []⟩,
 ⟨(some 14), (.load none), [(.t 13)], none, []⟩,
 ⟨(some 15), (.conv .i64), [(.t 14)], none, []⟩,
 ⟨(some 4), .mv, [(.t 15)], none, []⟩] 0 [4])
 .ret))),
 [(.t 4)]⟩
theorem c14 : funC Try.prog [(0, [0, 1]), (1, [0, 1, 7]), (2, [4]), (3, [4])] Try.f14 = some (unF l14) := by kernel_rfl
/-- acme/fit.Show -/
def l16 : LFun := ⟨5, 64, [],
 (.seq
 (.reg false [5, 9, 10, 11] [5, 9, 10, 11] [
 ⟨(some 5), .box, [(.t 0)], none, []⟩,
 ⟨(some 9), .box, [(.t 4)], none, []⟩,
 ⟨(some 10), (.alloc [(.sl none 2 []), (.int .i64 0), (.int .i64 0)]), [], none, []⟩,
 ⟨(some 11), (.alloc [(.sl none 2 []), (.int .i64 0), (.int .i64 0)]), [], none, []⟩,
 ⟨(some 12), .mv, [(.c (.bool false))], none, []⟩,
 ⟨(some 13), .mv, [(.c (.int .i64 0))], none, []⟩] 0 [1, 2, 3, 5, 9, 10, 11])
 (.seq
 (.block 0
 (.seq
 (.reg false [] [] [
 ⟨(some 18), (.load (some 8)), [(.t 5)], none, []⟩,
 ⟨(some 19), (.call false false false), [(.f 34), (.t 18)], none, []⟩,
 ⟨(some 20), (.bin 0 .neq), [(.t 19), (.c (.int .i64 0))], none, []⟩,
 ⟨(some 17), .mv, [(.t 20)], none, []⟩] 0 [1, 2, 3, 5, 9, 10, 11, 17])
 (.cond (.t 17)
 (.seq
 (.reg false [] [] [
 ⟨(some 21), (.load (some 3)), [(.t 10)], none, [22]⟩,
 ⟨(some 22), (.load (some 3)), [(.t 11)], none, [21, 10]⟩,
 ⟨none, (.store 3 (some 10)), [(.t 10), (.t 21)], none, [22]⟩,
 ⟨none, (.store 3 (some 11)), [(.t 11), (.t 22)], none, []⟩,
 ⟨(some 12), .mv, [(.c (.bool false))], none, []⟩,
 ⟨(some 13), .mv, [(.c (.int .i64 2))], none, []⟩] 0 [10, 11, 12, 13])
 .ret)
 (.seq
 (.seq
 (.reg false [25] [25] [
 ⟨(some 24), .mv, [(.t 3)], none, []⟩,
 ⟨(some 25), (.bsl 1 [(.int .i64 0)] 1 [0]), [(.t 24)], none, []⟩,
 ⟨(some 26), (.call false false false), [(.f 35), (.c (.int .i64 1)), (.c (.int .i64 60)), (.t 25)], none, []⟩,
 ⟨(some 27), (.un .not), [(.t 26)], none, []⟩,
 ⟨(some 23), .mv, [(.t 27)], none, []⟩] 0 [1, 2, 3, 5, 9, 10, 11, 23])
 (.cond (.t 23)
 .skip
 (.seq
 (.reg false [30] [30] [
 ⟨(some 28), .mv, [(.t 1)], none, []⟩,
 ⟨(some 29), .mv, [(.t 2)], none, []⟩,
 ⟨(some 30), (.bsl 1 [(.int .i64 0)] 2 [0, 1]), [(.t 28), (.t 29)], none, []⟩,
 ⟨(some 31), (.call false false false), [(.f 35), (.c (.int .i64 (-10000))), (.c (.int .i64 10000)), (.t 30)], none, []⟩,
 ⟨(some 32), (.un .not), [(.t 31)], none, []⟩,
 ⟨(some 23), .mv, [(.t 32)], none, []⟩] 0 [1, 2, 3, 5, 9, 10, 11, 23])
 (.cond (.t 23)
 .skip
 (.reg false [] [] [
 ⟨(some 33), (.load (some 2)), [(.t 9)], none, []⟩,
 ⟨(some 34), (.call false false false), [(.f 36), (.t 33)], none, []⟩,
 ⟨(some 35), (.bin 0 .neq), [(.t 34), (.c (.int .i64 0))], none, []⟩,
 ⟨(some 23), .mv, [(.t 35)], none, []⟩] 0 [1, 2, 3, 5, 9, 10, 11, 23])))))
 (.cond (.t 23)
 (.seq
 (.reg false [] [] [
 ⟨(some 36), (.load (some 3)), [(.t 10)], none, [37]⟩,
 ⟨(some 37), (.load (some 3)), [(.t 11)], none, [36, 10]⟩,
 ⟨none, (.store 3 (some 10)), [(.t 10), (.t 36)], none, [37]⟩,
 ⟨none, (.store 3 (some 11)), [(.t 11), (.t 37)], none, []⟩,
 ⟨(some 12), .mv, [(.c (.bool false))], none, []⟩,
 ⟨(some 13), .mv, [(.c (.int .i64 3))], none, []⟩] 0 [10, 11, 12, 13])
 .ret)
 .skip)))))
 (.seq
 (.reg false [14] [14] [
 ⟨(some 38), (.load (some 8)), [(.t 5)], none, []⟩,
 ⟨(some 39), (.load (some 2)), [(.t 9)], none, []⟩,
 ⟨(some 40), (.build [(.int .i64 0), (.int .i64 0)] [(0, 2)]), [(.t 39)], none, []⟩,
 ⟨(some 41), (.build [(.int .i64 0), (.int .i64 0), (.int .i64 0), (.int .i64 0), (.int .i64 0), (.int .i64 0), (.bool false), (.int .i64 0), (.int .i64 0), (.int .i64 0)] [(0, 8), (8, 2)]), [(.t 38), (.t 40)], none, []⟩,
 ⟨(some 14), (.alloc [(.int .i64 0), (.int .i64 0), (.int .i64 0), (.int .i64 0), (.int .i64 0), (.int .i64 0), (.bool false), (.int .i64 0), (.int .i64 0), (.int .i64 0)]), [], none, []⟩,
 ⟨none, (.store 10 none), [(.t 14), (.t 41)], none, []⟩] 0 [1, 2, 3, 9, 10, 11, 14])
 (.seq
 (.reg false [45, 49, 15, 16] [45, 49, 15, 16] [
 ⟨(some 42), (.load (some 10)), [(.t 14)], none, [43, 44, 46, 47, 48, 15, 16]⟩,
 ⟨(some 43), .mv, [(.t 1)], none, [42, 44, 46, 47, 48, 15, 16]⟩,
 ⟨(some 44), .mv, [(.t 3)], none, [42, 43, 46, 47, 48, 15, 16]⟩,
 ⟨(some 45), (.call true false true), [(.f 37), (.t 42), (.t 43), (.t 44), (.f 38), (.f 39)], none, [46, 47, 48, 15, 16]⟩,
 ⟨(some 46), (.load (some 10)), [(.t 14)], none, [42, 43, 44, 45, 47, 48, 15, 16]⟩,
 ⟨(some 47), .mv, [(.t 2)], none, [42, 43, 44, 45, 46, 48, 15, 16]⟩,
 ⟨(some 48), .mv, [(.t 3)], none, [42, 43, 44, 45, 46, 47, 15, 16]⟩,
 ⟨(some 49), (.call false false true), [(.f 37), (.t 46), (.t 47), (.t 48), (.f 39), (.f 38)], none, [15, 16]⟩,
 ⟨(some 15), (.alloc [(.sl none 2 []), (.int .i64 0), (.int .i64 0)]), [], none, [42, 43, 44, 45, 46, 47, 48, 49, 16]⟩,
 ⟨(some 16), (.alloc [(.sl none 2 []), (.int .i64 0), (.int .i64 0)]), [], none, [42, 43, 44, 45, 46, 47, 48, 49, 15]⟩,
 ⟨none, (.store 3 (some 15)), [(.t 15), (.t 45)], none, []⟩,
 ⟨none, (.store 3 (some 16)), [(.t 16), (.t 49)], none, []⟩] 0 [9, 10, 11, 15, 16])
 (.seq
 (.seq
 (.reg false [53] [53] [
 ⟨(some 50), (.load (some 2)), [(.t 9)], none, []⟩,
 ⟨(some 51), (.load (some 3)), [(.t 15)], none, []⟩,
 ⟨(some 52), (.load (some 3)), [(.t 16)], none, []⟩,
 ⟨(some 53), (.bsl 3 [.nil, (.int .i64 0), (.int .i64 0)] 2 [0, 1]), [(.t 51), (.t 52)], none, []⟩,
 ⟨(some 54), (.call false false false), [(.f 40), (.t 50), (.t 53)], none, []⟩,
 ⟨(some 55), (.bin 0 .neq), [(.t 54), (.c (.int .i64 0))], none, []⟩] 0 [9, 10, 11, 15, 16, 55])
 (.cond (.t 55)
 (.seq
 (.reg false [] [] [
 ⟨(some 56), (.load (some 3)), [(.t 10)], none, [57]⟩,
 ⟨(some 57), (.load (some 3)), [(.t 11)], none, [56, 10]⟩,
 ⟨none, (.store 3 (some 10)), [(.t 10), (.t 56)], none, [57]⟩,
 ⟨none, (.store 3 (some 11)), [(.t 11), (.t 57)], none, []⟩,
 ⟨(some 12), .mv, [(.c (.bool false))], none, []⟩,
 ⟨(some 13), .mv, [(.c (.int .i64 9))], none, []⟩] 0 [10, 11, 12, 13])
 .ret)
 .skip))
 (.seq
 (.reg false [] [] [
 ⟨(some 58), (.load (some 3)), [(.t 15)], none, [59, 60, 61, 62, 63]⟩,
 ⟨(some 59), (.load (some 3)), [(.t 16)], none, [58, 60, 61, 62, 63, 10]⟩,
 ⟨(some 60), (.load (some 3)), [(.t 15)], none, [58, 59, 61, 62]⟩,
 ⟨(some 61), (.load (some 3)), [(.t 16)], none, [58, 59, 60, 62]⟩,
 ⟨(some 62), (.load (some 2)), [(.t 9)], none, [58, 59, 60, 61]⟩,
 ⟨(some 63), (.call true false false), [(.f 41), (.t 60), (.t 61), (.t 62)], none, [58, 59]⟩,
 ⟨none, (.store 3 (some 10)), [(.t 10), (.t 58)], none, [59]⟩,
 ⟨none, (.store 3 (some 11)), [(.t 11), (.t 59)], none, []⟩,
 ⟨(some 12), .mv, [(.t 63)], none, []⟩,
 ⟨(some 13), .mv, [(.c (.int .i64 0))], none, []⟩] 0 [10, 11, 12, 13])
 .ret)))))),
 [(.c 10 (some 3)), (.c 11 (some 3)), (.t 12), (.t 13)]⟩
theorem c16 : funC Try.prog [(0, [1, 2, 3, 5, 9, 10, 11]), (1, [1, 2, 3, 5, 9, 10, 11, 17]), (2, [10, 11, 12, 13]), (3, [1, 2, 3, 5, 9, 10, 11, 23]), (4, [1, 2, 3, 5, 9, 10, 11, 23]), (5, [1, 2, 3, 5, 9, 10, 11, 23]), (6, [10, 11, 12, 13]), (7, [1, 2, 3, 9, 10, 11, 14]), (8, [9, 10, 11, 15, 16]), (9, [9, 10, 11, 15, 16, 55]), (10, [10, 11, 12, 13]), (11, [10, 11, 12, 13])] Try.f16 = some (unF l16) := by kernel_rfl
/-- acme/acmetop.armFit -/
def l18 : LFun := ⟨0, 41, [],
 (.seq
 (.reg false [] [] [
 ⟨(some 0), .mv, [(.c (.bool false))], none, []⟩] 0 [])
 (.seq
 (.reg false [7, 1] [7, 1] [
 ⟨(some 6), (.call false false false), [(.f 19)], none, []⟩,
 ⟨(some 7), (.call false false true), [(.f 42), (.t 6), (.c (.int .i64 2)), (.c (.int .i64 0))], none, []⟩,
 ⟨(some 1), (.alloc [(.sl none 2 []), (.int .i64 0), (.int .i64 0)]), [], none, []⟩,
 ⟨none, (.store 3 none), [(.t 1), (.t 7)], none, []⟩] 0 [1])
 (.seq
 (.reg false [] [] [
 ⟨(some 8), (.fa 0), [(.t 1)], none, []⟩,
 ⟨(some 9), (.load none), [(.t 8)], none, []⟩,
 ⟨(some 10), (.build [(.int .i64 0), (.int .i64 0)] [(0, 1), (1, 1)]), [(.c (.int .i64 7510)), (.c (.int .i64 12510))], none, []⟩,
 ⟨(some 11), (.ixs 2), [(.t 9), (.c (.int .i64 1))], none, []⟩,
 ⟨none, (.store 2 none), [(.t 11), (.t 10)], none, []⟩] 0 [1])
 (.seq
 (.reg false [] [] [
 ⟨(some 13), (.call true false false), [(.f 19)], none, [14]⟩,
 ⟨(some 14), (.load (some 3)), [(.t 1)], none, [13, 15]⟩,
 ⟨(some 15), (.call true false false), [(.f 8), (.c (.int .i64 (-3000))), (.c (.int .i64 3000))], none, [14]⟩,
 ⟨(some 16), (.call false false false), [(.f 20), (.t 13), (.t 14), (.t 15)], none, []⟩,
 ⟨(some 12), .mv, [(.t 16)], none, []⟩,
 ⟨(some 17), (.ext 0), [(.t 12)], none, [18]⟩,
 ⟨(some 18), (.ext 1), [(.t 12)], none, [17, 2]⟩,
 ⟨(some 2), .mv, [(.t 17)], none, [18]⟩,
 ⟨(some 3), .mv, [(.t 18)], none, []⟩] 0 [2, 3])
 (.seq
 (.reg false [22] [22] [
 ⟨(some 20), (.call false false false), [(.f 19)], none, []⟩,
 ⟨(some 21), (.call false false false), [(.f 19)], none, []⟩,
 ⟨(some 22), (.call false false true), [(.f 42), (.t 21), (.c (.int .i64 2)), (.c (.int .i64 10))], none, []⟩,
 ⟨(some 23), (.call false false false), [(.f 8), (.c (.int .i64 (-3000))), (.c (.int .i64 3000))], none, []⟩,
 ⟨(some 24), (.call false false false), [(.f 43), (.t 20), (.t 22), (.t 23)], none, []⟩,
 ⟨(some 19), .mv, [(.t 24)], none, []⟩,
 ⟨(some 25), (.ext 0), [(.t 19)], none, []⟩,
 ⟨(some 26), (.ext 1), [(.t 19)], none, []⟩,
 ⟨(some 4), .mv, [(.t 25)], none, []⟩,
 ⟨(some 5), .mv, [(.t 26)], none, []⟩] 0 [2, 3, 4, 5])
 (.seq
 (.reg false [] [] [
 ⟨(some 27), .mv, [(.t 3)], none, []⟩,
 ⟨(some 28), (.bin 0 .eql), [(.t 27), (.c (.int .i64 0))], none, []⟩,
 ⟨(some 29), .mv, [(.t 28)], none, []⟩,
 ⟨(some 30), .mv, [(.t 5)], (some (29, true)), []⟩,
 ⟨(some 31), (.bin 0 .eql), [(.t 30), (.c (.int .i64 0))], (some (29, true)), []⟩,
 ⟨(some 32), .pick, [(.t 29), (.t 31), (.c (.bool false))], none, []⟩,
 ⟨(some 33), .mv, [(.t 32)], none, []⟩,
 ⟨(some 34), .mv, [(.t 2)], (some (33, true)), []⟩,
 ⟨(some 35), (.bin 0 .eql), [(.t 34), (.c (.int .i64 9))], (some (33, true)), []⟩,
 ⟨(some 36), .pick, [(.t 33), (.t 35), (.c (.bool false))], none, []⟩,
 ⟨(some 37), .mv, [(.t 36)], none, []⟩,
 ⟨(some 38), .mv, [(.t 4)], (some (37, true)), []⟩,
 ⟨(some 39), (.bin 0 .eql), [(.t 38), (.c (.int .i64 17))], (some (37, true)), []⟩,
 ⟨(some 40), .pick, [(.t 37), (.t 39), (.c (.bool false))], none, []⟩,
 ⟨(some 0), .mv, [(.t 40)], none, []⟩] 0 [0])
 .ret)))))),
 [(.t 0)]⟩
theorem c18 : funC Try.prog [(0, []), (1, [1]), (2, [1]), (3, [2, 3]), (4, [2, 3, 4, 5]), (5, [0])] Try.f18 = some (unF l18) := by kernel_rfl
/-- acme/acmetop.armMetric -/
def l19 : LFun := ⟨0, 2, [],
 (.seq
 (.reg false [0] [0] [
 ⟨(some 0), (.alloc [(.int .i64 0), (.int .i64 0), (.int .i64 0), (.int .i64 0), (.int .i64 0), (.int .i64 0), (.bool false), (.int .i64 0)]), [], none, []⟩] 0 [0])
 (.seq
 (.reg false [] [] [
 ⟨(some 1), (.build [(.int .i64 0), (.int .i64 0), (.int .i64 0), (.int .i64 0), (.int .i64 0), (.int .i64 0), (.bool false), (.int .i64 0)] [(0, 1), (1, 1), (2, 1), (3, 1), (4, 1), (5, 1)]), [(.c (.int .i64 10000)), (.c (.int .i64 577)), (.c (.int .i64 577)), (.c (.int .i64 3000)), (.c (.int .i64 3000)), (.c (.int .i64 1))], none, []⟩,
 ⟨none, (.store 8 none), [(.t 0), (.t 1)], none, []⟩] 0 [0])
 .ret)),
 [(.c 0 (some 8))]⟩
theorem c19 : funC Try.prog [(0, [0]), (1, [0])] Try.f19 = some (unF l19) := by kernel_rfl
/-- acme/fit.Screw -/
def l20 : LFun := ⟨3, 32, [],
 (.seq
 (.reg false [3, 4, 5] [3, 4, 5] [
 ⟨(some 3), .box, [(.t 0)], none, []⟩,
 ⟨(some 4), .box, [(.t 1)], none, []⟩,
 ⟨(some 5), .box, [(.t 2)], none, []⟩,
 ⟨(some 6), .mv, [(.c (.int .i64 0))], none, []⟩,
 ⟨(some 7), .mv, [(.c (.int .i64 0))], none, []⟩] 0 [3, 4, 5])
 (.seq
 (.reg false [13, 8] [13, 8] [
 ⟨(some 10), (.load (some 8)), [(.t 3)], none, []⟩,
 ⟨(some 11), (.load (some 2)), [(.t 5)], none, []⟩,
 ⟨(some 12), (.load (some 3)), [(.t 4)], none, []⟩,
 ⟨(some 13), (.bsl 3 [.nil, (.int .i64 0), (.int .i64 0)] 1 [0]), [(.t 12)], none, []⟩,
 ⟨(some 14), (.call false false false), [(.f 44), (.t 10), (.t 11), (.t 13)], none, []⟩,
 ⟨(some 9), .mv, [(.t 14)], none, []⟩,
 ⟨(some 15), (.ext 0), [(.t 9)], none, []⟩,
 ⟨(some 16), (.ext 1), [(.t 9)], none, []⟩,
 ⟨(some 8), (.alloc [(.int .i64 0), (.int .i64 0), (.int .i64 0), (.int .i64 0), (.int .i64 0), (.int .i64 0), (.bool false), (.int .i64 0), (.int .i64 0), (.int .i64 0)]), [], none, []⟩,
 ⟨none, (.store 10 none), [(.t 8), (.t 15)], none, []⟩,
 ⟨(some 7), .mv, [(.t 16)], none, []⟩] 0 [4, 7, 8])
 (.seq
 (.block 0
 (.seq
 (.reg false [] [] [
 ⟨(some 18), .mv, [(.t 7)], none, []⟩,
 ⟨(some 19), (.bin 0 .neq), [(.t 18), (.c (.int .i64 0))], none, []⟩,
 ⟨(some 17), .mv, [(.t 19)], none, []⟩] 0 [4, 7, 8, 17])
 (.cond (.t 17)
 (.seq
 (.reg false [] [] [
 ⟨(some 20), .mv, [(.t 7)], none, []⟩,
 ⟨(some 6), .mv, [(.c (.int .i64 0))], none, []⟩,
 ⟨(some 7), .mv, [(.t 20)], none, []⟩] 0 [6, 7])
 .ret)
 (.seq
 (.reg false [] [] [
 ⟨(some 22), (.load (some 10)), [(.t 8)], none, []⟩,
 ⟨(some 23), (.call false false false), [(.f 45), (.t 22)], none, []⟩,
 ⟨(some 24), (.bin 0 .eql), [(.t 23), (.c (.int .i64 0))], none, []⟩,
 ⟨(some 21), .mv, [(.t 24)], none, []⟩] 0 [4, 8, 21])
 (.cond (.t 21)
 (.seq
 (.reg false [] [] [
 ⟨(some 6), .mv, [(.c (.int .i64 0))], none, []⟩,
 ⟨(some 7), .mv, [(.c (.int .i64 7))], none, []⟩] 0 [6, 7])
 .ret)
 .skip)))))
 (.seq
 (.reg false [] [] [
 ⟨(some 25), (.load (some 10)), [(.t 8)], none, [26, 28]⟩,
 ⟨(some 26), (.load (some 3)), [(.t 4)], none, [25, 28]⟩,
 ⟨(some 27), (.call true false false), [(.f 46), (.t 25), (.t 26), (.c (.int .i64 1))], none, [28]⟩,
 ⟨(some 28), (.load (some 10)), [(.t 8)], none, [25, 26, 27]⟩,
 ⟨(some 29), (.call false false false), [(.f 45), (.t 28)], none, []⟩,
 ⟨(some 30), (.bin 0 .mul), [(.c (.int .i64 4)), (.t 29)], none, []⟩,
 ⟨(some 31), (.call false false false), [(.f 38), (.t 27), (.t 30)], none, []⟩,
 ⟨(some 6), .mv, [(.t 31)], none, []⟩,
 ⟨(some 7), .mv, [(.c (.int .i64 0))], none, []⟩] 0 [6, 7])
 .ret)))),
 [(.t 6), (.t 7)]⟩
theorem c20 : funC Try.prog [(0, [3, 4, 5]), (1, [4, 7, 8]), (2, [4, 7, 8, 17]), (3, [6, 7]), (4, [4, 8, 21]), (5, [6, 7]), (6, [6, 7])] Try.f20 = some (unF l20) := by kernel_rfl
/-- acme/fit.Shift -/
def l21 : LFun := ⟨6, 86, [],
 (.seq
 (.reg false [6, 7, 11, 12] [6, 7, 11, 12] [
 ⟨(some 6), .box, [(.t 0)], none, []⟩,
 ⟨(some 7), .box, [(.t 1)], none, []⟩,
 ⟨(some 11), .box, [(.t 5)], none, []⟩,
 ⟨(some 12), (.alloc [(.int .i64 0), (.int .i64 0)]), [], none, []⟩,
 ⟨(some 13), .mv, [(.c (.int .i64 0))], none, []⟩] 0 [2, 3, 4, 6, 7, 11, 12])
 (.seq
 (.seq
 (.reg false [21] [21] [
 ⟨(some 18), (.load (some 2)), [(.t 11)], none, []⟩,
 ⟨(some 19), (.load (some 3)), [(.t 6)], none, []⟩,
 ⟨(some 20), (.load (some 3)), [(.t 7)], none, []⟩,
 ⟨(some 21), (.bsl 3 [.nil, (.int .i64 0), (.int .i64 0)] 2 [0, 1]), [(.t 19), (.t 20)], none, []⟩,
 ⟨(some 22), (.call false false false), [(.f 40), (.t 18), (.t 21)], none, []⟩,
 ⟨(some 14), .mv, [(.t 22)], none, []⟩] 0 [2, 3, 4, 6, 7, 11, 12, 14])
 (.seq
 (.reg false [] [] [
 ⟨(some 23), .mv, [(.t 14)], none, []⟩,
 ⟨(some 24), (.bin 0 .neq), [(.t 23), (.c (.int .i64 0))], none, []⟩] 0 [2, 3, 4, 6, 7, 11, 12, 14, 24])
 (.cond (.t 24)
 (.seq
 (.reg false [] [] [
 ⟨(some 25), (.load (some 2)), [(.t 12)], none, []⟩,
 ⟨(some 26), .mv, [(.t 14)], none, []⟩,
 ⟨none, (.store 2 none), [(.t 12), (.t 25)], none, []⟩,
 ⟨(some 13), .mv, [(.t 26)], none, []⟩] 0 [12, 13])
 .ret)
 .skip)))
 (.seq
 (.reg false [] [] [
 ⟨(some 27), (.fa 0), [(.t 6)], none, [30, 31, 32]⟩,
 ⟨(some 28), (.load none), [(.t 27)], none, [30, 31, 32]⟩,
 ⟨(some 29), .len, [(.t 28)], none, [30, 31, 32]⟩,
 ⟨(some 30), (.fa 0), [(.t 7)], none, [27, 28, 29, 15]⟩,
 ⟨(some 31), (.load none), [(.t 30)], none, [27, 28, 29, 15]⟩,
 ⟨(some 32), .len, [(.t 31)], none, [27, 28, 29, 15]⟩,
 ⟨(some 15), .mv, [(.t 29)], none, [30, 31, 32]⟩,
 ⟨(some 16), .mv, [(.t 32)], none, []⟩] 0 [2, 3, 4, 6, 7, 11, 12, 15, 16])
 (.seq
 (.seq
 (.reg false [37, 45, 54] [37, 45, 54] [
 ⟨(some 33), .mv, [(.t 15)], none, []⟩,
 ⟨(some 34), .mv, [(.t 16)], none, []⟩,
 ⟨(some 35), .min, [(.t 33), (.t 34)], none, []⟩,
 ⟨(some 36), .mv, [(.t 4)], none, []⟩,
 ⟨(some 37), (.bsl 1 [(.int .i64 0)] 1 [0]), [(.t 36)], none, []⟩,
 ⟨(some 38), (.call false false false), [(.f 35), (.c (.int .i64 1)), (.t 35), (.t 37)], none, []⟩,
 ⟨(some 39), (.un .not), [(.t 38)], none, []⟩,
 ⟨(some 40), .mv, [(.t 39)], none, []⟩,
 ⟨(some 41), .mv, [(.t 15)], (some (40, false)), []⟩,
 ⟨(some 42), .mv, [(.t 4)], (some (40, false)), []⟩,
 ⟨(some 43), (.bin 0 .sub), [(.t 41), (.t 42)], (some (40, false)), []⟩,
 ⟨(some 44), .mv, [(.t 2)], (some (40, false)), []⟩,
 ⟨(some 45), (.bsl 1 [(.int .i64 0)] 1 [0]), [(.t 44)], (some (40, false)), []⟩,
 ⟨(some 46), (.call false false false), [(.f 35), (.c (.int .i64 0)), (.t 43), (.t 45)], (some (40, false)), []⟩,
 ⟨(some 47), (.un .not), [(.t 46)], (some (40, false)), []⟩,
 ⟨(some 48), .pick, [(.t 40), (.c (.bool true)), (.t 47)], none, []⟩,
 ⟨(some 49), .mv, [(.t 48)], none, []⟩,
 ⟨(some 50), .mv, [(.t 16)], (some (49, false)), []⟩,
 ⟨(some 51), .mv, [(.t 4)], (some (49, false)), []⟩,
 ⟨(some 52), (.bin 0 .sub), [(.t 50), (.t 51)], (some (49, false)), []⟩,
 ⟨(some 53), .mv, [(.t 3)], (some (49, false)), []⟩,
 ⟨(some 54), (.bsl 1 [(.int .i64 0)] 1 [0]), [(.t 53)], (some (49, false)), []⟩,
 ⟨(some 55), (.call false false false), [(.f 35), (.c (.int .i64 0)), (.t 52), (.t 54)], (some (49, false)), []⟩,
 ⟨(some 56), (.un .not), [(.t 55)], (some (49, false)), []⟩,
 ⟨(some 57), .pick, [(.t 49), (.c (.bool true)), (.t 56)], none, []⟩] 0 [2, 3, 4, 6, 7, 11, 12, 57])
 (.cond (.t 57)
 (.seq
 (.reg false [] [] [
 ⟨(some 58), (.load (some 2)), [(.t 12)], none, []⟩,
 ⟨none, (.store 2 none), [(.t 12), (.t 58)], none, []⟩,
 ⟨(some 13), .mv, [(.c (.int .i64 7))], none, []⟩] 0 [12, 13])
 .ret)
 .skip))
 (.seq
 (.reg false [] [] [
 ⟨(some 60), (.load (some 2)), [(.t 11)], none, [62, 63, 65, 66, 67, 68, 69, 70, 71, 72, 73, 74, 75, 76, 77, 78]⟩,
 ⟨(some 61), (.build [(.int .i64 0), (.int .i64 0)] [(0, 2)]), [(.t 60)], none, [62, 63, 65, 66, 67, 68, 69, 70, 71, 72, 73, 74, 75, 76, 77, 78]⟩,
 ⟨(some 62), (.load (some 3)), [(.t 6)], none, [60, 61, 63, 65, 66, 67, 68, 69, 70, 71, 72, 73, 74, 75, 76, 77, 78]⟩,
 ⟨(some 63), (.load (some 3)), [(.t 7)], none, [60, 61, 62, 65, 66, 67, 68, 69, 70, 71, 72, 73, 74, 75, 76, 77, 78]⟩,
 ⟨(some 64), (.build [(.int .i64 0), (.int .i64 0), (.sl none 2 []), (.int .i64 0), (.int .i64 0), (.sl none 2 []), (.int .i64 0), (.int .i64 0)] [(0, 2), (2, 3), (5, 3)]), [(.t 61), (.t 62), (.t 63)], none, [65, 66, 67, 68, 69, 70, 71, 72, 73, 74, 75, 76, 77, 78]⟩,
 ⟨(some 65), (.fa 0), [(.t 6)], none, [60, 61, 62, 63, 64, 67, 68, 69, 70, 72, 73, 74, 75, 76, 77, 78]⟩,
 ⟨(some 66), (.load none), [(.t 65)], none, [60, 61, 62, 63, 64, 67, 68, 69, 70, 72, 73, 74, 75, 76, 77, 78]⟩,
 ⟨(some 67), .mv, [(.t 2)], none, [60, 61, 62, 63, 64, 65, 66, 68, 69, 70, 72, 73, 74, 75, 76, 77, 78]⟩,
 ⟨(some 68), .mv, [(.t 2)], none, [60, 61, 62, 63, 64, 65, 66, 67, 69, 72, 73, 74, 75, 76, 77, 78]⟩,
 ⟨(some 69), .mv, [(.t 4)], none, [60, 61, 62, 63, 64, 65, 66, 67, 68, 72, 73, 74, 75, 76, 77, 78]⟩,
 ⟨(some 70), (.bin 0 .add), [(.t 68), (.t 69)], none, [60, 61, 62, 63, 64, 65, 66, 67, 72, 73, 74, 75, 76, 77, 78]⟩,
 ⟨(some 71), (.sls 2 true true false), [(.t 66), (.t 67), (.t 70)], none, [60, 61, 62, 63, 64, 72, 73, 74, 75, 76, 77, 78]⟩,
 ⟨(some 72), (.fa 0), [(.t 7)], none, [60, 61, 62, 63, 64, 65, 66, 67, 68, 69, 70, 71, 74, 75, 76, 77]⟩,
 ⟨(some 73), (.load none), [(.t 72)], none, [60, 61, 62, 63, 64, 65, 66, 67, 68, 69, 70, 71, 74, 75, 76, 77]⟩,
 ⟨(some 74), .mv, [(.t 3)], none, [60, 61, 62, 63, 64, 65, 66, 67, 68, 69, 70, 71, 72, 73, 75, 76, 77]⟩,
 ⟨(some 75), .mv, [(.t 3)], none, [60, 61, 62, 63, 64, 65, 66, 67, 68, 69, 70, 71, 72, 73, 74, 76]⟩,
 ⟨(some 76), .mv, [(.t 4)], none, [60, 61, 62, 63, 64, 65, 66, 67, 68, 69, 70, 71, 72, 73, 74, 75]⟩,
 ⟨(some 77), (.bin 0 .add), [(.t 75), (.t 76)], none, [60, 61, 62, 63, 64, 65, 66, 67, 68, 69, 70, 71, 72, 73, 74]⟩,
 ⟨(some 78), (.sls 2 true true false), [(.t 73), (.t 74), (.t 77)], none, [60, 61, 62, 63, 64, 65, 66, 67, 68, 69, 70, 71]⟩,
 ⟨(some 79), (.call false false false), [(.f 47), (.t 64), (.t 71), (.t 78)], none, []⟩,
 ⟨(some 59), .mv, [(.t 79)], none, []⟩,
 ⟨(some 80), (.ext 0), [(.t 59)], none, [81]⟩,
 ⟨(some 81), (.ext 1), [(.t 59)], none, [80, 12]⟩,
 ⟨none, (.store 2 (some 12)), [(.t 12), (.t 80)], none, [81]⟩,
 ⟨(some 17), .mv, [(.t 81)], none, []⟩] 0 [12, 17])
 (.seq
 (.seq
 (.reg false [] [] [
 ⟨(some 82), .mv, [(.t 17)], none, []⟩,
 ⟨(some 83), (.un .not), [(.t 82)], none, []⟩] 0 [12, 83])
 (.cond (.t 83)
 (.seq
 (.reg false [] [] [
 ⟨(some 84), (.build [(.int .i64 0), (.int .i64 0)] []), [], none, []⟩,
 ⟨none, (.store 2 none), [(.t 12), (.t 84)], none, []⟩,
 ⟨(some 13), .mv, [(.c (.int .i64 9))], none, []⟩] 0 [12, 13])
 .ret)
 .skip))
 (.seq
 (.reg false [] [] [
 ⟨(some 85), (.load (some 2)), [(.t 12)], none, []⟩,
 ⟨none, (.store 2 none), [(.t 12), (.t 85)], none, []⟩,
 ⟨(some 13), .mv, [(.c (.int .i64 0))], none, []⟩] 0 [12, 13])
 .ret))))))),
 [(.c 12 (some 2)), (.t 13)]⟩
theorem c21 : funC Try.prog [(0, [2, 3, 4, 6, 7, 11, 12]), (1, [2, 3, 4, 6, 7, 11, 12, 14]), (2, [2, 3, 4, 6, 7, 11, 12, 14, 24]), (3, [12, 13]), (4, [2, 3, 4, 6, 7, 11, 12, 15, 16]), (5, [2, 3, 4, 6, 7, 11, 12, 57]), (6, [12, 13]), (7, [12, 17]), (8, [12, 83]), (9, [12, 13]), (10, [12, 13])] Try.f21 = some (unF l21) := by kernel_rfl
/-- acme/die.Reach -/
def l29 : LFun := ⟨3, 30, [],
 (.seq
 (.reg false [3] [3] [
 ⟨(some 3), .box, [(.t 0)], none, []⟩,
 ⟨(some 6), .mv, [(.c (.int .i64 0))], none, []⟩,
 ⟨(some 7), .mv, [(.c (.int .i64 0))], none, []⟩] 0 [1, 2, 3])
 (.seq
 (.reg false [12] [12] [
 ⟨(some 10), (.load (some 6)), [(.t 3)], none, []⟩,
 ⟨(some 11), .mv, [(.t 1)], none, []⟩,
 ⟨(some 12), (.call false true true), [(.f 55), (.t 10), (.t 11)], none, []⟩,
 ⟨(some 9), .mv, [(.t 12)], none, []⟩,
 ⟨(some 13), (.ext 0), [(.t 9)], none, []⟩,
 ⟨(some 14), (.ext 1), [(.t 9)], none, []⟩,
 ⟨(some 8), .mv, [(.t 13)], none, []⟩,
 ⟨(some 7), .mv, [(.t 14)], none, []⟩] 0 [2, 7, 8])
 (.seq
 (.block 0
 (.seq
 (.reg false [] [] [
 ⟨(some 16), .mv, [(.t 7)], none, []⟩,
 ⟨(some 17), (.bin 0 .neq), [(.t 16), (.c (.int .i64 0))], none, []⟩,
 ⟨(some 15), .mv, [(.t 17)], none, []⟩] 0 [2, 7, 8, 15])
 (.cond (.t 15)
 (.seq
 (.reg false [] [] [
 ⟨(some 18), .mv, [(.t 7)], none, []⟩,
 ⟨(some 6), .mv, [(.c (.int .i64 0))], none, []⟩,
 ⟨(some 7), .mv, [(.t 18)], none, []⟩] 0 [6, 7])
 .ret)
 (.seq
 (.reg false [24] [24] [
 ⟨(some 20), .mv, [(.t 8)], none, []⟩,
 ⟨(some 21), (.call false false false), [(.f 57), (.t 20)], none, []⟩,
 ⟨(some 22), (.bin 0 .sub), [(.t 21), (.c (.int .i64 1))], none, []⟩,
 ⟨(some 23), .mv, [(.t 2)], none, []⟩,
 ⟨(some 24), (.bsl 1 [(.int .i64 0)] 1 [0]), [(.t 23)], none, []⟩,
 ⟨(some 25), (.call false false false), [(.f 56), (.c (.int .i64 0)), (.t 22), (.t 24)], none, []⟩,
 ⟨(some 26), (.un .not), [(.t 25)], none, []⟩,
 ⟨(some 19), .mv, [(.t 26)], none, []⟩] 0 [2, 8, 19])
 (.cond (.t 19)
 (.seq
 (.reg false [] [] [
 ⟨(some 6), .mv, [(.c (.int .i64 0))], none, []⟩,
 ⟨(some 7), .mv, [(.c (.int .i64 3))], none, []⟩] 0 [6, 7])
 .ret)
 .skip)))))
 (.seq
 (.reg false [] [] [
 ⟨(some 27), .mv, [(.t 8)], none, []⟩,
 ⟨(some 28), .mv, [(.t 2)], none, []⟩,
 ⟨(some 29), (.call false false false), [(.f 58), (.t 27), (.t 28)], none, []⟩,
 ⟨(some 6), .mv, [(.t 29)], none, []⟩,
 ⟨(some 7), .mv, [(.c (.int .i64 0))], none, []⟩] 0 [6, 7])
 .ret)))),
 [(.t 6), (.t 7)]⟩
theorem c29 : funC Try.prog [(0, [1, 2, 3]), (1, [2, 7, 8]), (2, [2, 7, 8, 15]), (3, [6, 7]), (4, [2, 8, 19]), (5, [6, 7]), (6, [6, 7])] Try.f29 = some (unF l29) := by kernel_rfl
/-- acme/die.Plan -/
def b30_0w : List Nat :=
 [20, 21, 7, 8, 22, 23, 24, 25, 26, 27, 28, 29, 30, 31, 32, 33, 34, 35, 36]
def b30_0a : LCode :=
 (.seq
 (.reg true [] [] [
 ⟨(some 7), .mv, [(.t 20)], none, []⟩] 0 [4, 5, 6, 7, 21])
 (.reg true [] [] [
 ⟨(some 8), .mv, [(.t 21)], none, []⟩] 0 [4, 5, 6, 7, 8]))
def b30_0 : LCode :=
 (.block 1
 (.seq
 (.seq
 (.reg true [] [] [
 ⟨(some 22), .mv, [(.t 7)], none, []⟩,
 ⟨(some 23), .mv, [(.t 8)], none, []⟩,
 ⟨(some 24), (.bin 0 .eql), [(.t 22), (.t 23)], none, []⟩] 0 [4, 5, 6, 7, 8, 24])
 (.cond (.t 24)
 (.seq
 (.reg true [] [] [
 ⟨none, (.store 1 none), [(.t 4), (.c (.sl (some 2003600) 2 []))], none, []⟩,
 ⟨none, (.store 1 none), [(.t 5), (.c (.int .i64 7))], none, []⟩] 0 [4, 5])
 .ret)
 .skip))
 (.reg true [35, 36] [35] [
 ⟨(some 25), (.load none), [(.t 4)], none, [26, 27, 28, 29, 30, 31, 32, 33, 34, 35]⟩,
 ⟨(some 26), .mv, [(.t 7)], none, [25, 27, 28, 29, 30, 31, 32, 33]⟩,
 ⟨(some 27), (.load none), [(.t 6)], none, [25, 26, 28, 29, 30, 31]⟩,
 ⟨(some 28), (.load none), [(.t 6)], none, [25, 26, 27, 29, 30]⟩,
 ⟨(some 29), .mv, [(.t 7)], none, [25, 26, 27, 28, 30]⟩,
 ⟨(some 30), .mv, [(.t 8)], none, [25, 26, 27, 28, 29]⟩,
 ⟨(some 31), (.call true false false), [(.f 61), (.t 28), (.t 29), (.t 30)], none, [25, 26, 27]⟩,
 ⟨(some 32), (.call true false false), [(.f 60), (.t 27), (.t 31)], none, [25, 26]⟩,
 ⟨(some 33), (.fld 0 none), [(.t 32)], none, [25, 26]⟩,
 ⟨(some 34), (.build [(.int .i64 0), (.int .i64 0)] [(0, 1), (1, 1)]), [(.t 26), (.t 33)], none, [25]⟩,
 ⟨(some 35), (.bsl 2 [(.int .i64 0), (.int .i64 0)] 1 [0]), [(.t 34)], none, [25]⟩,
 ⟨(some 36), (.append false 2 16), [(.t 25), (.t 35)], none, []⟩,
 ⟨none, (.store 1 (some 4)), [(.t 4), (.t 36)], none, []⟩] 0 [4, 5, 6])))
def l30 : LFun := ⟨2, 38, [],
 (.seq
 (.reg false [2, 4, 5] [2, 4, 5] [
 ⟨(some 2), .box, [(.t 0)], none, []⟩,
 ⟨(some 4), (.alloc [(.sl (some 2003600) 2 [])]), [], none, []⟩,
 ⟨(some 5), (.alloc [(.int .i64 0)]), [], none, []⟩] 0 [1, 2, 4, 5])
 (.seq
 (.reg false [12, 6] [12, 6] [
 ⟨(some 10), (.load (some 6)), [(.t 2)], none, []⟩,
 ⟨(some 11), .mv, [(.t 1)], none, []⟩,
 ⟨(some 12), (.call false true true), [(.f 55), (.t 10), (.t 11)], none, []⟩,
 ⟨(some 9), .mv, [(.t 12)], none, []⟩,
 ⟨(some 13), (.ext 0), [(.t 9)], none, []⟩,
 ⟨(some 14), (.ext 1), [(.t 9)], none, []⟩,
 ⟨(some 6), (.alloc [.np]), [], none, []⟩,
 ⟨none, (.store 1 none), [(.t 6), (.t 13)], none, []⟩,
 ⟨none, (.store 1 none), [(.t 5), (.t 14)], none, []⟩] 0 [4, 5, 6])
 (.seq
 (.seq
 (.reg false [] [] [
 ⟨(some 15), (.load none), [(.t 5)], none, []⟩,
 ⟨(some 16), (.bin 0 .neq), [(.t 15), (.c (.int .i64 0))], none, []⟩] 0 [4, 5, 6, 16])
 (.cond (.t 16)
 (.seq
 (.reg false [] [] [
 ⟨(some 17), (.load none), [(.t 5)], none, [4]⟩,
 ⟨none, (.store 1 (some 4)), [(.t 4), (.c (.sl (some 2003600) 2 []))], none, [17]⟩,
 ⟨none, (.store 1 (some 5)), [(.t 5), (.t 17)], none, []⟩] 0 [4, 5])
 .ret)
 .skip))
 (.seq
 (.seq
 (.reg false [] [] [
 ⟨(some 18), (.load none), [(.t 6)], none, []⟩,
 ⟨(some 19), (.mkm 59), [(.t 18)], none, []⟩] 0 [4, 5, 6, 19])
 (.block 0
 (.rng (.t 19) [20, 21] b30_0w b30_0a b30_0)))
 (.seq
 (.reg false [] [] [
 ⟨(some 37), (.load none), [(.t 4)], none, []⟩,
 ⟨none, (.store 1 none), [(.t 4), (.t 37)], none, []⟩,
 ⟨none, (.store 1 none), [(.t 5), (.c (.int .i64 0))], none, []⟩] 0 [4, 5])
 .ret))))),
 [(.c 4 none), (.c 5 none)]⟩
theorem c30 : funC Try.prog [(0, [1, 2, 4, 5]), (1, [4, 5, 6]), (2, [4, 5, 6, 16]), (3, [4, 5]), (4, [4, 5, 6, 19]), (5, [4, 5, 6, 7, 21]), (6, [4, 5, 6, 7, 8]), (7, [4, 5, 6, 7, 8, 24]), (8, [4, 5]), (9, [4, 5, 6]), (10, [4, 5])] Try.f30 = some (unF l30) := by kernel_rfl
/-- (acme/acmetop.ArmDie).order -/
def l31 : LFun := ⟨2, 19, [],
 (.seq
 (.reg false [2, 3] [2, 3] [
 ⟨(some 2), .box, [(.t 0)], none, []⟩,
 ⟨(some 3), .box, [(.t 1)], none, []⟩,
 ⟨(some 4), .mv, [(.c (.sl none 4 []))], none, []⟩] 0 [2, 3])
 (.seq
 (.reg false [18] [18] [
 ⟨(some 5), (.fa 6), [(.t 2)], none, [10, 11, 12, 13, 14, 15, 16]⟩,
 ⟨(some 6), (.load none), [(.t 5)], none, [10, 11, 12, 13, 14, 15, 16]⟩,
 ⟨(some 7), (.conv .i64), [(.t 6)], none, [10, 11, 12, 13, 14, 15, 16]⟩,
 ⟨(some 8), (.bin 0 .rem), [(.t 7), (.c (.int .i64 60))], none, [10, 11, 12, 13, 14, 15, 16]⟩,
 ⟨(some 9), (.bin 0 .add), [(.c (.int .i64 1)), (.t 8)], none, [10, 11, 12, 13, 14, 15, 16]⟩,
 ⟨(some 10), (.fa 0), [(.t 3)], none, [5, 6, 7, 8, 9, 13, 14, 15]⟩,
 ⟨(some 11), (.load none), [(.t 10)], none, [5, 6, 7, 8, 9, 13, 14, 15]⟩,
 ⟨(some 12), (.bin 0 .mul), [(.c (.int .i64 1000)), (.t 11)], none, [5, 6, 7, 8, 9, 13, 14, 15]⟩,
 ⟨(some 13), (.fa 1), [(.t 3)], none, [5, 6, 7, 8, 9, 10, 11, 12]⟩,
 ⟨(some 14), (.load none), [(.t 13)], none, [5, 6, 7, 8, 9, 10, 11, 12]⟩,
 ⟨(some 15), (.bin 0 .mul), [(.c (.int .i64 1000)), (.t 14)], none, [5, 6, 7, 8, 9, 10, 11, 12]⟩,
 ⟨(some 16), (.call true false false), [(.f 8), (.t 12), (.t 15)], none, [5, 6, 7, 8, 9]⟩,
 ⟨(some 17), (.build [(.int .i64 0), (.int .i64 0), (.int .i64 0), (.int .i64 0)] [(0, 1), (2, 2)]), [(.t 9), (.t 16)], none, []⟩,
 ⟨(some 18), (.bsl 4 [(.int .i64 0), (.int .i64 0), (.int .i64 0), (.int .i64 0)] 1 [0]), [(.t 17)], none, []⟩,
 ⟨(some 4), .mv, [(.t 18)], none, []⟩] 0 [4])
 .ret)),
 [(.t 4)]⟩
theorem c31 : funC Try.prog [(0, [2, 3]), (1, [4])] Try.f31 = some (unF l31) := by kernel_rfl
/-- (acme/acmetop.ArmDie).tool -/
def l32 : LFun := ⟨1, 51, [],
 (.seq
 (.reg false [1, 2] [1, 2] [
 ⟨(some 1), .box, [(.t 0)], none, []⟩,
 ⟨(some 2), (.alloc [(.bool false), (.int .i64 0), (.int .i64 0), (.int .i64 0), (.int .i64 0), (.sl none 2 [])]), [], none, []⟩] 0 [1, 2])
 (.seq
 (.reg false [49] [49] [
 ⟨(some 3), (.fa 0), [(.t 1)], none, [9, 10, 11, 12, 13, 14, 16, 17, 18, 19, 20, 21, 22, 23, 24, 25, 26, 27, 29, 30, 31, 32, 33, 34, 35, 36, 37, 38, 39, 40, 41, 42, 43, 44, 45, 46, 47]⟩,
 ⟨(some 4), (.ixa 2 1), [(.t 3), (.c (.int .i64 0))], none, [9, 10, 11, 12, 13, 14, 16, 17, 18, 19, 20, 21, 22, 23, 24, 25, 26, 27, 29, 30, 31, 32, 33, 34, 35, 36, 37, 38, 39, 40, 41, 42, 43, 44, 45, 46, 47]⟩,
 ⟨(some 5), (.load none), [(.t 4)], none, [9, 10, 11, 12, 13, 14, 16, 17, 18, 19, 20, 21, 22, 23, 24, 25, 26, 27, 29, 30, 31, 32, 33, 34, 35, 36, 37, 38, 39, 40, 41, 42, 43, 44, 45, 46, 47]⟩,
 ⟨(some 6), (.bin 0 .rem), [(.t 5), (.c (.int .u8 9))], none, [9, 10, 11, 12, 13, 14, 16, 17, 18, 19, 20, 21, 22, 23, 24, 25, 26, 27, 29, 30, 31, 32, 33, 34, 35, 36, 37, 38, 39, 40, 41, 42, 43, 44, 45, 46, 47]⟩,
 ⟨(some 7), (.conv .i64), [(.t 6)], none, [9, 10, 11, 12, 13, 14, 16, 17, 18, 19, 20, 21, 22, 23, 24, 25, 26, 27, 29, 30, 31, 32, 33, 34, 35, 36, 37, 38, 39, 40, 41, 42, 43, 44, 45, 46, 47]⟩,
 ⟨(some 8), (.bin 0 .mul), [(.c (.int .i64 (-200))), (.t 7)], none, [9, 10, 11, 12, 13, 14, 16, 17, 18, 19, 20, 21, 22, 23, 24, 25, 26, 27, 29, 30, 31, 32, 33, 34, 35, 36, 37, 38, 39, 40, 41, 42, 43, 44, 45, 46, 47]⟩,
 ⟨(some 9), (.fa 0), [(.t 1)], none, [3, 4, 5, 6, 7, 8, 16, 17, 18, 19, 20, 21, 22, 23, 24, 25, 26, 27, 29, 30, 31, 32, 33, 34, 35, 36, 37, 38, 39, 40, 41, 42, 43, 44, 45, 46, 47]⟩,
 ⟨(some 10), (.ixa 2 1), [(.t 9), (.c (.int .i64 1))], none, [3, 4, 5, 6, 7, 8, 16, 17, 18, 19, 20, 21, 22, 23, 24, 25, 26, 27, 29, 30, 31, 32, 33, 34, 35, 36, 37, 38, 39, 40, 41, 42, 43, 44, 45, 46, 47]⟩,
 ⟨(some 11), (.load none), [(.t 10)], none, [3, 4, 5, 6, 7, 8, 16, 17, 18, 19, 20, 21, 22, 23, 24, 25, 26, 27, 29, 30, 31, 32, 33, 34, 35, 36, 37, 38, 39, 40, 41, 42, 43, 44, 45, 46, 47]⟩,
 ⟨(some 12), (.bin 0 .rem), [(.t 11), (.c (.int .u8 9))], none, [3, 4, 5, 6, 7, 8, 16, 17, 18, 19, 20, 21, 22, 23, 24, 25, 26, 27, 29, 30, 31, 32, 33, 34, 35, 36, 37, 38, 39, 40, 41, 42, 43, 44, 45, 46, 47]⟩,
 ⟨(some 13), (.conv .i64), [(.t 12)], none, [3, 4, 5, 6, 7, 8, 16, 17, 18, 19, 20, 21, 22, 23, 24, 25, 26, 27, 29, 30, 31, 32, 33, 34, 35, 36, 37, 38, 39, 40, 41, 42, 43, 44, 45, 46, 47]⟩,
 ⟨(some 14), (.bin 0 .mul), [(.c (.int .i64 200)), (.t 13)], none, [3, 4, 5, 6, 7, 8, 16, 17, 18, 19, 20, 21, 22, 23, 24, 25, 26, 27, 29, 30, 31, 32, 33, 34, 35, 36, 37, 38, 39, 40, 41, 42, 43, 44, 45, 46, 47]⟩,
 ⟨(some 15), (.call true false false), [(.f 8), (.t 8), (.t 14)], none, [16, 17, 18, 19, 20, 21, 22, 23, 24, 25, 26, 27, 29, 30, 31, 32, 33, 34, 35, 36, 37, 38, 39, 40, 41, 42, 43, 44, 45, 46, 47]⟩,
 ⟨(some 16), (.fa 2), [(.t 1)], none, [3, 4, 5, 6, 7, 8, 9, 10, 11, 12, 13, 14, 15, 22, 23, 24, 25, 26, 27, 29, 30, 31, 32, 33, 34, 35, 36, 37, 38, 39, 40, 41, 42, 43, 44, 45, 46, 47]⟩,
 ⟨(some 17), (.ixa 2 1), [(.t 16), (.c (.int .i64 0))], none, [3, 4, 5, 6, 7, 8, 9, 10, 11, 12, 13, 14, 15, 22, 23, 24, 25, 26, 27, 29, 30, 31, 32, 33, 34, 35, 36, 37, 38, 39, 40, 41, 42, 43, 44, 45, 46, 47]⟩,
 ⟨(some 18), (.load none), [(.t 17)], none, [3, 4, 5, 6, 7, 8, 9, 10, 11, 12, 13, 14, 15, 22, 23, 24, 25, 26, 27, 29, 30, 31, 32, 33, 34, 35, 36, 37, 38, 39, 40, 41, 42, 43, 44, 45, 46, 47]⟩,
 ⟨(some 19), (.bin 0 .rem), [(.t 18), (.c (.int .u8 9))], none, [3, 4, 5, 6, 7, 8, 9, 10, 11, 12, 13, 14, 15, 22, 23, 24, 25, 26, 27, 29, 30, 31, 32, 33, 34, 35, 36, 37, 38, 39, 40, 41, 42, 43, 44, 45, 46, 47]⟩,
 ⟨(some 20), (.conv .i64), [(.t 19)], none, [3, 4, 5, 6, 7, 8, 9, 10, 11, 12, 13, 14, 15, 22, 23, 24, 25, 26, 27, 29, 30, 31, 32, 33, 34, 35, 36, 37, 38, 39, 40, 41, 42, 43, 44, 45, 46, 47]⟩,
 ⟨(some 21), (.bin 0 .mul), [(.c (.int .i64 (-100))), (.t 20)], none, [3, 4, 5, 6, 7, 8, 9, 10, 11, 12, 13, 14, 15, 22, 23, 24, 25, 26, 27, 29, 30, 31, 32, 33, 34, 35, 36, 37, 38, 39, 40, 41, 42, 43, 44, 45, 46, 47]⟩,
 ⟨(some 22), (.fa 2), [(.t 1)], none, [3, 4, 5, 6, 7, 8, 9, 10, 11, 12, 13, 14, 15, 16, 17, 18, 19, 20, 21, 29, 30, 31, 32, 33, 34, 35, 36, 37, 38, 39, 40, 41, 42, 43, 44, 45, 46, 47]⟩,
 ⟨(some 23), (.ixa 2 1), [(.t 22), (.c (.int .i64 1))], none, [3, 4, 5, 6, 7, 8, 9, 10, 11, 12, 13, 14, 15, 16, 17, 18, 19, 20, 21, 29, 30, 31, 32, 33, 34, 35, 36, 37, 38, 39, 40, 41, 42, 43, 44, 45, 46, 47]⟩,
 ⟨(some 24), (.load none), [(.t 23)], none, [3, 4, 5, 6, 7, 8, 9, 10, 11, 12, 13, 14, 15, 16, 17, 18, 19, 20, 21, 29, 30, 31, 32, 33, 34, 35, 36, 37, 38, 39, 40, 41, 42, 43, 44, 45, 46, 47]⟩,
 ⟨(some 25), (.bin 0 .rem), [(.t 24), (.c (.int .u8 9))], none, [3, 4, 5, 6, 7, 8, 9, 10, 11, 12, 13, 14, 15, 16, 17, 18, 19, 20, 21, 29, 30, 31, 32, 33, 34, 35, 36, 37, 38, 39, 40, 41, 42, 43, 44, 45, 46, 47]⟩,
 ⟨(some 26), (.conv .i64), [(.t 25)], none, [3, 4, 5, 6, 7, 8, 9, 10, 11, 12, 13, 14, 15, 16, 17, 18, 19, 20, 21, 29, 30, 31, 32, 33, 34, 35, 36, 37, 38, 39, 40, 41, 42, 43, 44, 45, 46, 47]⟩,
 ⟨(some 27), (.bin 0 .mul), [(.c (.int .i64 100)), (.t 26)], none, [3, 4, 5, 6, 7, 8, 9, 10, 11, 12, 13, 14, 15, 16, 17, 18, 19, 20, 21, 29, 30, 31, 32, 33, 34, 35, 36, 37, 38, 39, 40, 41, 42, 43, 44, 45, 46, 47]⟩,
 ⟨(some 28), (.call true false false), [(.f 8), (.t 21), (.t 27)], none, [29, 30, 31, 32, 33, 34, 35, 36, 37, 38, 39, 40, 41, 42, 43, 44, 45, 46, 47]⟩,
 ⟨(some 29), (.fa 4), [(.t 1)], none, [3, 4, 5, 6, 7, 8, 9, 10, 11, 12, 13, 14, 15, 16, 17, 18, 19, 20, 21, 22, 23, 24, 25, 26, 27, 28, 35, 36, 37, 38, 39, 40, 41, 42, 43, 44, 45, 46, 47]⟩,
 ⟨(some 30), (.ixa 2 1), [(.t 29), (.c (.int .i64 0))], none, [3, 4, 5, 6, 7, 8, 9, 10, 11, 12, 13, 14, 15, 16, 17, 18, 19, 20, 21, 22, 23, 24, 25, 26, 27, 28, 35, 36, 37, 38, 39, 40, 41, 42, 43, 44, 45, 46, 47]⟩,
 ⟨(some 31), (.load none), [(.t 30)], none, [3, 4, 5, 6, 7, 8, 9, 10, 11, 12, 13, 14, 15, 16, 17, 18, 19, 20, 21, 22, 23, 24, 25, 26, 27, 28, 35, 36, 37, 38, 39, 40, 41, 42, 43, 44, 45, 46, 47]⟩,
 ⟨(some 32), (.bin 0 .rem), [(.t 31), (.c (.int .u8 20))], none, [3, 4, 5, 6, 7, 8, 9, 10, 11, 12, 13, 14, 15, 16, 17, 18, 19, 20, 21, 22, 23, 24, 25, 26, 27, 28, 35, 36, 37, 38, 39, 40, 41, 42, 43, 44, 45, 46, 47]⟩,
 ⟨(some 33), (.conv .i64), [(.t 32)], none, [3, 4, 5, 6, 7, 8, 9, 10, 11, 12, 13, 14, 15, 16, 17, 18, 19, 20, 21, 22, 23, 24, 25, 26, 27, 28, 35, 36, 37, 38, 39, 40, 41, 42, 43, 44, 45, 46, 47]⟩,
 ⟨(some 34), (.bin 0 .mul), [(.c (.int .i64 10)), (.t 33)], none, [3, 4, 5, 6, 7, 8, 9, 10, 11, 12, 13, 14, 15, 16, 17, 18, 19, 20, 21, 22, 23, 24, 25, 26, 27, 28, 35, 36, 37, 38, 39, 40, 41, 42, 43, 44, 45, 46, 47]⟩,
 ⟨(some 35), (.fa 4), [(.t 1)], none, [3, 4, 5, 6, 7, 8, 9, 10, 11, 12, 13, 14, 15, 16, 17, 18, 19, 20, 21, 22, 23, 24, 25, 26, 27, 28, 29, 30, 31, 32, 33, 34, 41, 42, 43, 44, 45, 46]⟩,
 ⟨(some 36), (.ixa 2 1), [(.t 35), (.c (.int .i64 0))], none, [3, 4, 5, 6, 7, 8, 9, 10, 11, 12, 13, 14, 15, 16, 17, 18, 19, 20, 21, 22, 23, 24, 25, 26, 27, 28, 29, 30, 31, 32, 33, 34, 41, 42, 43, 44, 45, 46]⟩,
 ⟨(some 37), (.load none), [(.t 36)], none, [3, 4, 5, 6, 7, 8, 9, 10, 11, 12, 13, 14, 15, 16, 17, 18, 19, 20, 21, 22, 23, 24, 25, 26, 27, 28, 29, 30, 31, 32, 33, 34, 41, 42, 43, 44, 45, 46]⟩,
 ⟨(some 38), (.bin 0 .rem), [(.t 37), (.c (.int .u8 20))], none, [3, 4, 5, 6, 7, 8, 9, 10, 11, 12, 13, 14, 15, 16, 17, 18, 19, 20, 21, 22, 23, 24, 25, 26, 27, 28, 29, 30, 31, 32, 33, 34, 41, 42, 43, 44, 45, 46]⟩,
 ⟨(some 39), (.conv .i64), [(.t 38)], none, [3, 4, 5, 6, 7, 8, 9, 10, 11, 12, 13, 14, 15, 16, 17, 18, 19, 20, 21, 22, 23, 24, 25, 26, 27, 28, 29, 30, 31, 32, 33, 34, 41, 42, 43, 44, 45, 46]⟩,
 ⟨(some 40), (.bin 0 .mul), [(.c (.int .i64 10)), (.t 39)], none, [3, 4, 5, 6, 7, 8, 9, 10, 11, 12, 13, 14, 15, 16, 17, 18, 19, 20, 21, 22, 23, 24, 25, 26, 27, 28, 29, 30, 31, 32, 33, 34, 41, 42, 43, 44, 45, 46]⟩,
 ⟨(some 41), (.fa 4), [(.t 1)], none, [3, 4, 5, 6, 7, 8, 9, 10, 11, 12, 13, 14, 15, 16, 17, 18, 19, 20, 21, 22, 23, 24, 25, 26, 27, 28, 29, 30, 31, 32, 33, 34, 35, 36, 37, 38, 39, 40]⟩,
 ⟨(some 42), (.ixa 2 1), [(.t 41), (.c (.int .i64 1))], none, [3, 4, 5, 6, 7, 8, 9, 10, 11, 12, 13, 14, 15, 16, 17, 18, 19, 20, 21, 22, 23, 24, 25, 26, 27, 28, 29, 30, 31, 32, 33, 34, 35, 36, 37, 38, 39, 40]⟩,
 ⟨(some 43), (.load none), [(.t 42)], none, [3, 4, 5, 6, 7, 8, 9, 10, 11, 12, 13, 14, 15, 16, 17, 18, 19, 20, 21, 22, 23, 24, 25, 26, 27, 28, 29, 30, 31, 32, 33, 34, 35, 36, 37, 38, 39, 40]⟩,
 ⟨(some 44), (.bin 0 .rem), [(.t 43), (.c (.int .u8 9))], none, [3, 4, 5, 6, 7, 8, 9, 10, 11, 12, 13, 14, 15, 16, 17, 18, 19, 20, 21, 22, 23, 24, 25, 26, 27, 28, 29, 30, 31, 32, 33, 34, 35, 36, 37, 38, 39, 40]⟩,
 ⟨(some 45), (.conv .i64), [(.t 44)], none, [3, 4, 5, 6, 7, 8, 9, 10, 11, 12, 13, 14, 15, 16, 17, 18, 19, 20, 21, 22, 23, 24, 25, 26, 27, 28, 29, 30, 31, 32, 33, 34, 35, 36, 37, 38, 39, 40]⟩,
 ⟨(some 46), (.bin 0 .mul), [(.c (.int .i64 10)), (.t 45)], none, [3, 4, 5, 6, 7, 8, 9, 10, 11, 12, 13, 14, 15, 16, 17, 18, 19, 20, 21, 22, 23, 24, 25, 26, 27, 28, 29, 30, 31, 32, 33, 34, 35, 36, 37, 38, 39, 40]⟩,
 ⟨(some 47), (.bin 0 .add), [(.t 40), (.t 46)], none, [3, 4, 5, 6, 7, 8, 9, 10, 11, 12, 13, 14, 15, 16, 17, 18, 19, 20, 21, 22, 23, 24, 25, 26, 27, 28, 29, 30, 31, 32, 33, 34]⟩,
 ⟨(some 48), (.call false false false), [(.f 8), (.t 34), (.t 47)], none, []⟩,
 ⟨(some 49), (.bsl 2 [(.int .i64 0), (.int .i64 0)] 1 [0]), [(.t 48)], none, []⟩,
 ⟨(some 50), (.build [(.bool false), (.int .i64 0), (.int .i64 0), (.int .i64 0), (.int .i64 0), (.sl none 2 [])] [(1, 2), (3, 2), (5, 1)]), [(.t 15), (.t 28), (.t 49)], none, []⟩,
 ⟨none, (.store 6 (some 2)), [(.t 2), (.t 50)], none, []⟩] 0 [2])
 .ret)),
 [(.c 2 (some 6))]⟩
theorem c32 : funC Try.prog [(0, [1, 2]), (1, [2])] Try.f32 = some (unF l32) := by kernel_rfl
/-- (acme/acmetop.ArmDie).cut -/
def b33_0 : LCode :=
 (.seq
 (.seq
 (.reg true [] [] [
 ⟨(some 28), .mv, [(.t 12)], none, []⟩,
 ⟨(some 29), .mv, [(.t 3)], none, []⟩,
 ⟨(some 30), (.bin 0 .lss), [(.t 28), (.t 29)], none, []⟩] 0 [3, 4, 9, 10, 11, 12, 30])
 (.cond (.t 30)
 .skip
 (.exit 0)))
 (.seq
 (.block 1
 (.seq
 (.reg true [] [] [
 ⟨(some 33), .mv, [(.t 11)], none, [34, 35, 36, 37, 38, 39, 40, 41, 42, 43]⟩,
 ⟨(some 34), (.fa 3), [(.t 9)], none, [33, 36, 37, 38, 39, 40, 41, 42]⟩,
 ⟨(some 35), (.load (some 2)), [(.t 34)], none, [33, 36, 37, 38, 39, 40, 41, 42]⟩,
 ⟨(some 36), (.fa 7), [(.t 4)], none, [33, 34, 35, 38, 39, 40]⟩,
 ⟨(some 37), (.load none), [(.t 36)], none, [33, 34, 35, 38, 39, 40]⟩,
 ⟨(some 38), .mv, [(.t 12)], none, [33, 34, 35, 36, 37]⟩,
 ⟨(some 39), (.bin 0 .mul), [(.c (.int .i64 2)), (.t 38)], none, [33, 34, 35, 36, 37]⟩,
 ⟨(some 40), (.bin 0 .add), [(.t 39), (.c (.int .i64 1))], none, [33, 34, 35, 36, 37]⟩,
 ⟨(some 41), (.call true false false), [(.f 14), (.t 37), (.t 40)], none, [33, 34, 35]⟩,
 ⟨(some 42), (.conv .u8), [(.t 41)], none, [33, 34, 35]⟩,
 ⟨(some 43), (.call true false false), [(.f 13), (.t 35), (.t 42)], none, [33]⟩,
 ⟨(some 44), (.bin 0 .add), [(.t 33), (.t 43)], none, []⟩,
 ⟨(some 13), .mv, [(.t 44)], none, []⟩] 0 [3, 4, 9, 10, 11, 12, 13])
 (.seq
 (.seq
 (.reg true [48, 49] [48] [
 ⟨(some 45), .mv, [(.t 10)], none, []⟩,
 ⟨(some 46), .mv, [(.t 13)], none, []⟩,
 ⟨(some 47), (.bin 0 .quo), [(.t 46), (.c (.int .i64 1000))], none, []⟩,
 ⟨(some 48), (.bsl 1 [(.int .i64 0)] 1 [0]), [(.t 47)], none, []⟩,
 ⟨(some 49), (.append false 1 8), [(.t 45), (.t 48)], none, []⟩,
 ⟨(some 10), .mv, [(.t 49)], none, []⟩] 0 [3, 4, 9, 10, 11, 12, 13])
 (.seq
 (.reg true [] [] [
 ⟨(some 50), .mv, [(.t 13)], none, []⟩,
 ⟨(some 51), (.bin 0 .rem), [(.t 50), (.c (.int .i64 1000))], none, []⟩,
 ⟨(some 52), (.bin 0 .neq), [(.t 51), (.c (.int .i64 0))], none, []⟩,
 ⟨(some 53), .mv, [(.t 52)], none, []⟩,
 ⟨(some 54), .mv, [(.t 13)], (some (53, true)), []⟩,
 ⟨(some 55), (.bin 0 .lss), [(.t 54), (.c (.int .i64 0))], (some (53, true)), []⟩,
 ⟨(some 56), .pick, [(.t 53), (.t 55), (.c (.bool false))], none, []⟩] 0 [3, 4, 9, 10, 11, 12, 56])
 (.cond (.t 56)
 (.reg true [] [] [
 ⟨(some 57), .mv, [(.t 10)], none, []⟩,
 ⟨(some 58), .mv, [(.t 10)], none, []⟩,
 ⟨(some 59), .len, [(.t 58)], none, []⟩,
 ⟨(some 60), (.bin 0 .sub), [(.t 59), (.c (.int .i64 1))], none, []⟩,
 ⟨(some 61), (.ixs 1), [(.t 57), (.t 60)], none, []⟩,
 ⟨(some 62), (.load none), [(.t 61)], none, []⟩,
 ⟨(some 63), (.bin 0 .sub), [(.t 62), (.c (.int .i64 1))], none, []⟩,
 ⟨(some 64), (.ixs 1), [(.t 57), (.t 60)], none, []⟩,
 ⟨none, (.store 1 none), [(.t 64), (.t 63)], none, []⟩] 0 [3, 4, 9, 10, 11, 12])
 .skip)))
 (.reg true [] [] [
 ⟨(some 65), .mv, [(.t 11)], none, [66, 67, 68, 69, 70, 71, 72, 73, 74, 75, 76]⟩,
 ⟨(some 66), (.fa 5), [(.t 9)], none, [65, 70, 71, 72, 73, 74, 75]⟩,
 ⟨(some 67), (.load none), [(.t 66)], none, [65, 70, 71, 72, 73, 74, 75]⟩,
 ⟨(some 68), (.ixs 2), [(.t 67), (.c (.int .i64 0))], none, [65, 70, 71, 72, 73, 74, 75]⟩,
 ⟨(some 69), (.load (some 2)), [(.t 68)], none, [65, 70, 71, 72, 73, 74, 75]⟩,
 ⟨(some 70), (.fa 7), [(.t 4)], none, [65, 66, 67, 68, 69, 72, 73]⟩,
 ⟨(some 71), (.load none), [(.t 70)], none, [65, 66, 67, 68, 69, 72, 73]⟩,
 ⟨(some 72), .mv, [(.t 12)], none, [65, 66, 67, 68, 69, 70, 71]⟩,
 ⟨(some 73), (.bin 0 .mul), [(.c (.int .i64 2)), (.t 72)], none, [65, 66, 67, 68, 69, 70, 71]⟩,
 ⟨(some 74), (.call true false false), [(.f 14), (.t 71), (.t 73)], none, [65, 66, 67, 68, 69]⟩,
 ⟨(some 75), (.conv .u8), [(.t 74)], none, [65, 66, 67, 68, 69]⟩,
 ⟨(some 76), (.call true false false), [(.f 13), (.t 69), (.t 75)], none, [65]⟩,
 ⟨(some 77), (.bin 0 .add), [(.t 65), (.t 76)], none, []⟩,
 ⟨(some 11), .mv, [(.t 77)], none, []⟩] 0 [3, 4, 9, 10, 11, 12]))))
 (.reg true [] [] [
 ⟨(some 31), .mv, [(.t 12)], none, []⟩,
 ⟨(some 32), (.bin 0 .add), [(.t 31), (.c (.int .i64 1))], none, []⟩,
 ⟨(some 12), .mv, [(.t 32)], none, []⟩] 0 [3, 4, 9, 10, 11, 12])))
def l33 : LFun := ⟨4, 79, [],
 (.seq
 (.reg false [4] [4] [
 ⟨(some 4), .box, [(.t 0)], none, []⟩,
 ⟨(some 8), .mv, [(.c (.sl none 1 []))], none, []⟩] 0 [1, 2, 3, 4])
 (.seq
 (.reg false [15, 16, 9] [15, 16, 9] [
 ⟨(some 14), (.load (some 8)), [(.t 4)], none, []⟩,
 ⟨(some 15), (.call false false true), [(.f 32), (.t 14)], none, []⟩,
 ⟨(some 16), (.bsl 1 [(.int .i64 0)] 0 []), [], none, []⟩,
 ⟨(some 9), (.alloc [(.bool false), (.int .i64 0), (.int .i64 0), (.int .i64 0), (.int .i64 0), (.sl none 2 [])]), [], none, []⟩,
 ⟨none, (.store 6 none), [(.t 9), (.t 15)], none, []⟩,
 ⟨(some 10), .mv, [(.t 16)], none, []⟩] 0 [1, 2, 3, 4, 9, 10])
 (.seq
 (.reg false [] [] [
 ⟨(some 17), .mv, [(.t 1)], none, [18, 19, 20, 21, 22, 23, 24, 25]⟩,
 ⟨(some 18), (.fa 1), [(.t 9)], none, [17, 20, 21, 22, 23, 24]⟩,
 ⟨(some 19), (.load (some 2)), [(.t 18)], none, [17, 20, 21, 22, 23, 24]⟩,
 ⟨(some 20), (.fa 7), [(.t 4)], none, [17, 18, 19, 22]⟩,
 ⟨(some 21), (.load none), [(.t 20)], none, [17, 18, 19, 22]⟩,
 ⟨(some 22), .mv, [(.t 2)], none, [17, 18, 19, 20, 21]⟩,
 ⟨(some 23), (.call true false false), [(.f 14), (.t 21), (.t 22)], none, [17, 18, 19]⟩,
 ⟨(some 24), (.conv .u8), [(.t 23)], none, [17, 18, 19]⟩,
 ⟨(some 25), (.call true false false), [(.f 13), (.t 19), (.t 24)], none, [17]⟩,
 ⟨(some 26), (.bin 0 .add), [(.t 17), (.t 25)], none, []⟩,
 ⟨(some 11), .mv, [(.t 26)], none, []⟩] 0 [2, 3, 4, 9, 10, 11])
 (.seq
 (.seq
 (.reg false [] [] [
 ⟨(some 27), .mv, [(.t 2)], none, []⟩,
 ⟨(some 12), .mv, [(.t 27)], none, []⟩] 0 [3, 4, 9, 10, 11, 12])
 (.block 0
 (.loop b33_0)))
 (.seq
 (.reg false [] [] [
 ⟨(some 78), .mv, [(.t 10)], none, []⟩,
 ⟨(some 8), .mv, [(.t 78)], none, []⟩] 0 [8])
 .ret))))),
 [(.t 8)]⟩
theorem c33 : funC Try.prog [(0, [1, 2, 3, 4]), (1, [1, 2, 3, 4, 9, 10]), (2, [2, 3, 4, 9, 10, 11]), (3, [3, 4, 9, 10, 11, 12]), (4, [3, 4, 9, 10, 11, 12, 30]), (5, [3, 4, 9, 10, 11, 12]), (6, [3, 4, 9, 10, 11, 12, 13]), (7, [3, 4, 9, 10, 11, 12, 13]), (8, [3, 4, 9, 10, 11, 12, 56]), (9, [3, 4, 9, 10, 11, 12]), (10, [3, 4, 9, 10, 11, 12]), (11, [8])] Try.f33 = some (unF l33) := by kernel_rfl
/-- acme/thread.Check -/
def l34 : LFun := ⟨1, 63, [],
 (.seq
 (.reg false [1] [1] [
 ⟨(some 1), .box, [(.t 0)], none, []⟩,
 ⟨(some 2), .mv, [(.c (.int .i64 0))], none, []⟩] 0 [1])
 (.seq
 (.reg false [3] [3] [
 ⟨(some 5), (.load (some 8)), [(.t 1)], none, []⟩,
 ⟨(some 6), (.build [(.int .i64 0), (.int .i64 0), (.int .i64 0), (.int .i64 0), (.int .i64 0), (.int .i64 0), (.bool false), (.int .i64 0)] [(0, 8)]), [(.t 5)], none, []⟩,
 ⟨(some 3), (.alloc [(.int .i64 0), (.int .i64 0), (.int .i64 0), (.int .i64 0), (.int .i64 0), (.int .i64 0), (.bool false), (.int .i64 0)]), [], none, []⟩,
 ⟨none, (.store 8 none), [(.t 3), (.t 6)], none, []⟩] 0 [1, 3])
 (.seq
 (.reg false [9, 16, 24] [9, 16, 24] [
 ⟨(some 7), (.fa 0), [(.t 1)], none, []⟩,
 ⟨(some 8), (.load none), [(.t 7)], none, []⟩,
 ⟨(some 9), (.bsl 1 [(.int .i64 0)] 1 [0]), [(.t 8)], none, []⟩,
 ⟨(some 10), (.call false false false), [(.f 62), (.c (.int .i64 100)), (.c (.int .i64 200000)), (.t 9)], none, []⟩,
 ⟨(some 11), .mv, [(.t 10)], none, []⟩,
 ⟨(some 12), (.fa 1), [(.t 1)], (some (11, true)), []⟩,
 ⟨(some 13), (.load none), [(.t 12)], (some (11, true)), []⟩,
 ⟨(some 14), (.fa 2), [(.t 1)], (some (11, true)), []⟩,
 ⟨(some 15), (.load none), [(.t 14)], (some (11, true)), []⟩,
 ⟨(some 16), (.bsl 1 [(.int .i64 0)] 2 [0, 1]), [(.t 13), (.t 15)], (some (11, true)), []⟩,
 ⟨(some 17), (.call false false false), [(.f 62), (.c (.int .i64 0)), (.c (.int .i64 3000)), (.t 16)], (some (11, true)), []⟩,
 ⟨(some 18), .pick, [(.t 11), (.t 17), (.c (.bool false))], none, []⟩,
 ⟨(some 19), .mv, [(.t 18)], none, []⟩,
 ⟨(some 20), (.fa 3), [(.t 1)], (some (19, true)), []⟩,
 ⟨(some 21), (.load none), [(.t 20)], (some (19, true)), []⟩,
 ⟨(some 22), (.fa 4), [(.t 1)], (some (19, true)), []⟩,
 ⟨(some 23), (.load none), [(.t 22)], (some (19, true)), []⟩,
 ⟨(some 24), (.bsl 1 [(.int .i64 0)] 2 [0, 1]), [(.t 21), (.t 23)], (some (19, true)), []⟩,
 ⟨(some 25), (.call false false false), [(.f 62), (.c (.int .i64 0)), (.c (.int .i64 200000)), (.t 24)], (some (19, true)), []⟩,
 ⟨(some 26), .pick, [(.t 19), (.t 25), (.c (.bool false))], none, []⟩,
 ⟨(some 27), .mv, [(.t 26)], none, []⟩,
 ⟨(some 28), (.fa 3), [(.t 1)], (some (27, true)), []⟩,
 ⟨(some 29), (.load none), [(.t 28)], (some (27, true)), []⟩,
 ⟨(some 30), (.fa 4), [(.t 1)], (some (27, true)), []⟩,
 ⟨(some 31), (.load none), [(.t 30)], (some (27, true)), []⟩,
 ⟨(some 32), (.bin 0 .add), [(.t 29), (.t 31)], (some (27, true)), []⟩,
 ⟨(some 33), (.bin 0 .geq), [(.t 32), (.c (.int .i64 1))], (some (27, true)), []⟩,
 ⟨(some 34), .pick, [(.t 27), (.t 33), (.c (.bool false))], none, []⟩,
 ⟨(some 4), .mv, [(.t 34)], none, []⟩] 0 [1, 3, 4])
 (.seq
 (.seq
 (.reg false [40, 47] [40, 47] [
 ⟨(some 35), .mv, [(.t 4)], none, []⟩,
 ⟨(some 36), (.un .not), [(.t 35)], none, []⟩,
 ⟨(some 37), .mv, [(.t 36)], none, []⟩,
 ⟨(some 38), (.fa 5), [(.t 1)], (some (37, false)), []⟩,
 ⟨(some 39), (.load none), [(.t 38)], (some (37, false)), []⟩,
 ⟨(some 40), (.bsl 1 [(.int .i64 0)] 1 [0]), [(.t 39)], (some (37, false)), []⟩,
 ⟨(some 41), (.call false false false), [(.f 62), (.c (.int .i64 1)), (.c (.int .i64 8)), (.t 40)], (some (37, false)), []⟩,
 ⟨(some 42), (.un .not), [(.t 41)], (some (37, false)), []⟩,
 ⟨(some 43), .pick, [(.t 37), (.c (.bool true)), (.t 42)], none, []⟩,
 ⟨(some 44), .mv, [(.t 43)], none, []⟩,
 ⟨(some 45), (.fa 7), [(.t 1)], (some (44, false)), []⟩,
 ⟨(some 46), (.load none), [(.t 45)], (some (44, false)), []⟩,
 ⟨(some 47), (.bsl 1 [(.int .i64 0)] 1 [0]), [(.t 46)], (some (44, false)), []⟩,
 ⟨(some 48), (.call false false false), [(.f 62), (.c (.int .i64 0)), (.c (.int .i64 100)), (.t 47)], (some (44, false)), []⟩,
 ⟨(some 49), (.un .not), [(.t 48)], (some (44, false)), []⟩,
 ⟨(some 50), .pick, [(.t 44), (.c (.bool true)), (.t 49)], none, []⟩] 0 [1, 3, 50])
 (.cond (.t 50)
 (.seq
 (.reg false [] [] [
 ⟨(some 2), .mv, [(.c (.int .i64 2))], none, []⟩] 0 [2])
 .ret)
 .skip))
 (.seq
 (.seq
 (.reg false [] [] [
 ⟨(some 51), (.load (some 8)), [(.t 3)], none, []⟩,
 ⟨(some 52), (.fa 3), [(.t 1)], none, []⟩,
 ⟨(some 53), (.load none), [(.t 52)], none, []⟩,
 ⟨(some 54), (.call false false false), [(.f 63), (.t 51), (.t 53)], none, []⟩,
 ⟨(some 55), (.bin 0 .lss), [(.t 54), (.c (.int .i64 0))], none, []⟩,
 ⟨(some 56), .mv, [(.t 55)], none, []⟩,
 ⟨(some 57), (.load (some 8)), [(.t 3)], (some (56, false)), []⟩,
 ⟨(some 58), (.fa 4), [(.t 1)], (some (56, false)), []⟩,
 ⟨(some 59), (.load none), [(.t 58)], (some (56, false)), []⟩,
 ⟨(some 60), (.call false false false), [(.f 63), (.t 57), (.t 59)], (some (56, false)), []⟩,
 ⟨(some 61), (.bin 0 .lss), [(.t 60), (.c (.int .i64 0))], (some (56, false)), []⟩,
 ⟨(some 62), .pick, [(.t 56), (.c (.bool true)), (.t 61)], none, []⟩] 0 [62])
 (.cond (.t 62)
 (.seq
 (.reg false [] [] [
 ⟨(some 2), .mv, [(.c (.int .i64 2))], none, []⟩] 0 [2])
 .ret)
 .skip))
 (.seq
 (.reg false [] [] [
 ⟨(some 2), .mv, [(.c (.int .i64 0))], none, []⟩] 0 [2])
 .ret)))))),
 [(.t 2)]⟩
theorem c34 : funC Try.prog [(0, [1]), (1, [1, 3]), (2, [1, 3, 4]), (3, [1, 3, 50]), (4, [2]), (5, [62]), (6, [2]), (7, [2])] Try.f34 = some (unF l34) := by kernel_rfl
/-- acme/fit.within -/
def l35 : LFun := ⟨3, 11, [],
 (.seq
 (.reg false [3, 4] [3, 4] [
 ⟨(some 3), .box, [(.t 0)], none, []⟩,
 ⟨(some 4), .box, [(.t 1)], none, []⟩,
 ⟨(some 6), .mv, [(.c (.bool false))], none, []⟩] 0 [2, 3, 4])
 (.seq
 (.reg false [] [] [
 ⟨(some 7), .mv, [(.t 2)], none, []⟩,
 ⟨(some 8), (.mkf 65), [(.t 3), (.t 4)], none, []⟩,
 ⟨(some 9), (.call false false false), [(.f 64), (.t 7), (.t 8)], none, []⟩,
 ⟨(some 10), (.un .not), [(.t 9)], none, []⟩,
 ⟨(some 6), .mv, [(.t 10)], none, []⟩] 0 [3, 4, 6])
 .ret)),
 [(.t 6)]⟩
theorem c35 : funC Try.prog [(0, [2, 3, 4]), (1, [3, 4, 6])] Try.f35 = some (unF l35) := by kernel_rfl
/-- acme/fit.checkDepth -/
def l36 : LFun := ⟨1, 6, [],
 (.seq
 (.reg false [1] [1] [
 ⟨(some 1), .box, [(.t 0)], none, []⟩,
 ⟨(some 2), .mv, [(.c (.int .i64 0))], none, []⟩] 0 [1])
 (.seq
 (.seq
 (.reg false [] [] [
 ⟨(some 3), (.load (some 2)), [(.t 1)], none, []⟩,
 ⟨(some 4), (.call false false false), [(.f 66), (.t 3), (.c (.int .i64 (-200000))), (.c (.int .i64 200000))], none, []⟩,
 ⟨(some 5), (.un .not), [(.t 4)], none, []⟩] 0 [5])
 (.cond (.t 5)
 (.seq
 (.reg false [] [] [
 ⟨(some 2), .mv, [(.c (.int .i64 3))], none, []⟩] 0 [2])
 .ret)
 .skip))
 (.seq
 (.reg false [] [] [
 ⟨(some 2), .mv, [(.c (.int .i64 0))], none, []⟩] 0 [2])
 .ret))),
 [(.t 2)]⟩
theorem c36 : funC Try.prog [(0, [1]), (1, [5]), (2, [2]), (3, [2])] Try.f36 = some (unF l36) := by kernel_rfl
/-- (acme/fit.ideal).perfect -/
def b37_0 : LCode :=
 (.seq
 (.reg true [] [] [
 ⟨(some 23), (.bin 0 .lss), [(.t 22), (.t 21)], none, []⟩] 0 [1, 3, 4, 5, 10, 21, 22, 23])
 (.seq
 (.cond (.t 23)
 .skip
 (.exit 0))
 (.seq
 (.block 1
 (.seq
 (.reg true [] [] [
 ⟨(some 24), .mv, [(.t 22)], none, []⟩,
 ⟨(some 11), .mv, [(.t 24)], none, []⟩] 0 [1, 3, 4, 5, 10, 11, 21, 22])
 (.seq
 (.reg true [] [] [
 ⟨(some 25), .mv, [(.t 11)], none, []⟩,
 ⟨(some 26), (.bin 0 .mul), [(.c (.int .i64 4000)), (.t 25)], none, []⟩,
 ⟨(some 27), (.fa 0), [(.t 5)], none, []⟩,
 ⟨(some 28), (.fa 0), [(.t 27)], none, []⟩,
 ⟨(some 29), (.load none), [(.t 28)], none, []⟩,
 ⟨(some 30), (.bin 0 .mul), [(.t 26), (.t 29)], none, []⟩,
 ⟨(some 12), .mv, [(.t 30)], none, []⟩] 0 [1, 3, 4, 5, 10, 12, 21, 22])
 (.reg true [62, 63] [62] [
 ⟨(some 31), (.fa 0), [(.t 10)], none, [33, 34, 35, 36, 37, 38, 39, 40, 41, 42, 43, 44, 45, 46, 47, 48, 49, 50, 51, 52, 53, 54, 55, 56, 57, 58, 59, 60, 61, 62]⟩,
 ⟨(some 32), (.load none), [(.t 31)], none, [33, 34, 35, 36, 37, 38, 39, 40, 41, 42, 43, 44, 45, 46, 47, 48, 49, 50, 51, 52, 53, 54, 55, 56, 57, 58, 59, 60, 61, 62]⟩,
 ⟨(some 33), .mv, [(.t 3)], none, [31, 32, 34, 35, 36, 37, 38, 39, 40, 41, 42, 43, 44, 45, 47, 48, 49, 50, 51, 52, 53, 54, 55, 56, 57, 58, 59]⟩,
 ⟨(some 34), .mv, [(.t 12)], none, [31, 32, 33, 35, 36, 37, 38, 40, 41, 42, 43, 44, 47, 48, 49, 50, 51, 52, 53, 54, 55, 56, 57, 58, 59]⟩,
 ⟨(some 35), (.fa 0), [(.t 5)], none, [31, 32, 33, 34, 40, 41, 42, 43, 44, 47, 48, 49, 50, 51, 52, 53, 54, 55, 56, 57, 58, 59]⟩,
 ⟨(some 36), (.fa 0), [(.t 35)], none, [31, 32, 33, 34, 40, 41, 42, 43, 44, 47, 48, 49, 50, 51, 52, 53, 54, 55, 56, 57, 58, 59]⟩,
 ⟨(some 37), (.load none), [(.t 36)], none, [31, 32, 33, 34, 40, 41, 42, 43, 44, 47, 48, 49, 50, 51, 52, 53, 54, 55, 56, 57, 58, 59]⟩,
 ⟨(some 38), (.bin 0 .mul), [(.c (.int .i64 1000)), (.t 37)], none, [31, 32, 33, 34, 40, 41, 42, 43, 44, 47, 48, 49, 50, 51, 52, 53, 54, 55, 56, 57, 58, 59]⟩,
 ⟨(some 39), (.bin 0 .sub), [(.t 34), (.t 38)], none, [31, 32, 33, 40, 41, 42, 43, 44, 47, 48, 49, 50, 51, 52, 53, 54, 55, 56, 57, 58, 59]⟩,
 ⟨(some 40), .mv, [(.t 1)], none, [31, 32, 33, 34, 35, 36, 37, 38, 39, 42, 43, 47, 48, 49, 50, 51, 52, 53, 54, 55, 56, 57, 58, 59]⟩,
 ⟨(some 41), (.bin 0 .mul), [(.c (.int .i64 4)), (.t 40)], none, [31, 32, 33, 34, 35, 36, 37, 38, 39, 42, 43, 47, 48, 49, 50, 51, 52, 53, 54, 55, 56, 57, 58, 59]⟩,
 ⟨(some 42), (.fa 1), [(.t 10)], none, [31, 32, 33, 34, 35, 36, 37, 38, 39, 40, 41, 47, 48, 49, 50, 51, 52, 53, 54, 55, 56, 57, 58, 59]⟩,
 ⟨(some 43), (.load none), [(.t 42)], none, [31, 32, 33, 34, 35, 36, 37, 38, 39, 40, 41, 47, 48, 49, 50, 51, 52, 53, 54, 55, 56, 57, 58, 59]⟩,
 ⟨(some 44), (.bin 0 .mul), [(.t 41), (.t 43)], none, [31, 32, 33, 34, 35, 36, 37, 38, 39, 47, 48, 49, 50, 51, 52, 53, 54, 55, 56, 57, 58, 59]⟩,
 ⟨(some 45), (.bin 0 .sub), [(.t 39), (.t 44)], none, [31, 32, 33, 47, 48, 49, 50, 51, 52, 53, 54, 55, 56, 57, 58, 59]⟩,
 ⟨(some 46), (.call true false false), [(.t 33), (.t 45), (.c (.int .i64 4000))], none, [31, 32, 47, 48, 49, 50, 51, 52, 53, 54, 55, 56, 57, 58, 59]⟩,
 ⟨(some 47), .mv, [(.t 4)], none, [31, 32, 33, 34, 35, 36, 37, 38, 39, 40, 41, 42, 43, 44, 45, 46, 48, 49, 50, 51, 52, 53, 54, 55, 56, 57, 58, 59]⟩,
 ⟨(some 48), .mv, [(.t 12)], none, [31, 32, 33, 34, 35, 36, 37, 38, 39, 40, 41, 42, 43, 44, 45, 46, 47, 49, 50, 51, 52, 54, 55, 56, 57, 58]⟩,
 ⟨(some 49), (.fa 0), [(.t 5)], none, [31, 32, 33, 34, 35, 36, 37, 38, 39, 40, 41, 42, 43, 44, 45, 46, 47, 48, 54, 55, 56, 57, 58]⟩,
 ⟨(some 50), (.fa 0), [(.t 49)], none, [31, 32, 33, 34, 35, 36, 37, 38, 39, 40, 41, 42, 43, 44, 45, 46, 47, 48, 54, 55, 56, 57, 58]⟩,
 ⟨(some 51), (.load none), [(.t 50)], none, [31, 32, 33, 34, 35, 36, 37, 38, 39, 40, 41, 42, 43, 44, 45, 46, 47, 48, 54, 55, 56, 57, 58]⟩,
 ⟨(some 52), (.bin 0 .mul), [(.c (.int .i64 1000)), (.t 51)], none, [31, 32, 33, 34, 35, 36, 37, 38, 39, 40, 41, 42, 43, 44, 45, 46, 47, 48, 54, 55, 56, 57, 58]⟩,
 ⟨(some 53), (.bin 0 .add), [(.t 48), (.t 52)], none, [31, 32, 33, 34, 35, 36, 37, 38, 39, 40, 41, 42, 43, 44, 45, 46, 47, 54, 55, 56, 57, 58]⟩,
 ⟨(some 54), .mv, [(.t 1)], none, [31, 32, 33, 34, 35, 36, 37, 38, 39, 40, 41, 42, 43, 44, 45, 46, 47, 48, 49, 50, 51, 52, 53, 56, 57]⟩,
 ⟨(some 55), (.bin 0 .mul), [(.c (.int .i64 4)), (.t 54)], none, [31, 32, 33, 34, 35, 36, 37, 38, 39, 40, 41, 42, 43, 44, 45, 46, 47, 48, 49, 50, 51, 52, 53, 56, 57]⟩,
 ⟨(some 56), (.fa 2), [(.t 10)], none, [31, 32, 33, 34, 35, 36, 37, 38, 39, 40, 41, 42, 43, 44, 45, 46, 47, 48, 49, 50, 51, 52, 53, 54, 55]⟩,
 ⟨(some 57), (.load none), [(.t 56)], none, [31, 32, 33, 34, 35, 36, 37, 38, 39, 40, 41, 42, 43, 44, 45, 46, 47, 48, 49, 50, 51, 52, 53, 54, 55]⟩,
 ⟨(some 58), (.bin 0 .mul), [(.t 55), (.t 57)], none, [31, 32, 33, 34, 35, 36, 37, 38, 39, 40, 41, 42, 43, 44, 45, 46, 47, 48, 49, 50, 51, 52, 53]⟩,
 ⟨(some 59), (.bin 0 .add), [(.t 53), (.t 58)], none, [31, 32, 33, 34, 35, 36, 37, 38, 39, 40, 41, 42, 43, 44, 45, 46, 47]⟩,
 ⟨(some 60), (.call true false false), [(.t 47), (.t 59), (.c (.int .i64 4000))], none, [31, 32]⟩,
 ⟨(some 61), (.build [(.int .i64 0), (.int .i64 0)] [(0, 1), (1, 1)]), [(.t 46), (.t 60)], none, [31, 32]⟩,
 ⟨(some 62), (.bsl 2 [(.int .i64 0), (.int .i64 0)] 1 [0]), [(.t 61)], none, [31, 32]⟩,
 ⟨(some 63), (.append false 2 16), [(.t 32), (.t 62)], none, []⟩,
 ⟨(some 64), (.fa 0), [(.t 10)], none, []⟩,
 ⟨none, (.store 1 (some 10)), [(.t 64), (.t 63)], none, []⟩] 0 [1, 3, 4, 5, 10, 21, 22]))))
 (.reg true [] [] [
 ⟨(some 65), (.bin 0 .add), [(.t 22), (.c (.int .i64 1))], none, []⟩,
 ⟨(some 22), .mv, [(.t 65)], none, []⟩] 0 [1, 3, 4, 5, 10, 21, 22]))))
def l37 : LFun := ⟨5, 67, [],
 (.seq
 (.reg false [5, 10] [5, 10] [
 ⟨(some 5), .box, [(.t 0)], none, []⟩,
 ⟨(some 10), (.alloc [(.sl (some 2006300) 2 []), (.int .i64 0), (.int .i64 0)]), [], none, []⟩] 0 [1, 2, 3, 4, 5, 10])
 (.seq
 (.reg false [] [] [
 ⟨(some 13), (.fa 0), [(.t 5)], none, [16, 17, 18]⟩,
 ⟨(some 14), (.fa 1), [(.t 13)], none, [16, 17, 18]⟩,
 ⟨(some 15), (.load none), [(.t 14)], none, [16, 17, 18]⟩,
 ⟨(some 16), (.fa 0), [(.t 5)], none, [13, 14, 15, 19, 10]⟩,
 ⟨(some 17), (.fa 2), [(.t 16)], none, [13, 14, 15, 19, 10]⟩,
 ⟨(some 18), (.load none), [(.t 17)], none, [13, 14, 15, 19, 10]⟩,
 ⟨(some 19), (.fa 1), [(.t 10)], none, [16, 17, 18]⟩,
 ⟨none, (.store 1 (some 10)), [(.t 19), (.t 15)], none, [16, 17, 18]⟩,
 ⟨(some 20), (.fa 2), [(.t 10)], none, []⟩,
 ⟨none, (.store 1 (some 10)), [(.t 20), (.t 18)], none, []⟩] 0 [1, 2, 3, 4, 5, 10])
 (.seq
 (.seq
 (.reg false [] [] [
 ⟨(some 21), .mv, [(.t 2)], none, []⟩,
 ⟨(some 22), .mv, [(.c (.int .i64 0))], none, []⟩] 0 [1, 3, 4, 5, 10, 21, 22])
 (.block 0
 (.loop b37_0)))
 (.seq
 (.reg false [] [] [
 ⟨(some 66), (.load (some 3)), [(.t 10)], none, []⟩,
 ⟨none, (.store 3 none), [(.t 10), (.t 66)], none, []⟩] 0 [10])
 .ret)))),
 [(.c 10 (some 3))]⟩
theorem c37 : funC Try.prog [(0, [1, 2, 3, 4, 5, 10]), (1, [1, 2, 3, 4, 5, 10]), (2, [1, 3, 4, 5, 10, 21, 22]), (3, [1, 3, 4, 5, 10, 21, 22, 23]), (4, [1, 3, 4, 5, 10, 11, 21, 22]), (5, [1, 3, 4, 5, 10, 12, 21, 22]), (6, [1, 3, 4, 5, 10, 21, 22]), (7, [1, 3, 4, 5, 10, 21, 22]), (8, [10])] Try.f37 = some (unF l37) := by kernel_rfl
/-- acme/fit.up -/
def l38 : LFun := ⟨2, 10, [],
 (.seq
 (.reg false [] [] [
 ⟨(some 4), .mv, [(.c (.int .i64 0))], none, []⟩] 0 [0, 1])
 (.seq
 (.reg false [] [] [
 ⟨(some 5), .mv, [(.t 0)], none, []⟩,
 ⟨(some 6), (.un .neg), [(.t 5)], none, []⟩,
 ⟨(some 7), .mv, [(.t 1)], none, []⟩,
 ⟨(some 8), (.call false false false), [(.f 39), (.t 6), (.t 7)], none, []⟩,
 ⟨(some 9), (.un .neg), [(.t 8)], none, []⟩,
 ⟨(some 4), .mv, [(.t 9)], none, []⟩] 0 [4])
 .ret)),
 [(.t 4)]⟩
theorem c38 : funC Try.prog [(0, [0, 1]), (1, [4])] Try.f38 = some (unF l38) := by kernel_rfl
/-- acme/fit.down -/
def l39 : LFun := ⟨2, 16, [],
 (.seq
 (.reg false [] [] [
 ⟨(some 4), .mv, [(.c (.int .i64 0))], none, []⟩] 0 [0, 1])
 (.seq
 (.reg false [] [] [
 ⟨(some 6), .mv, [(.t 0)], none, []⟩,
 ⟨(some 7), .mv, [(.t 1)], none, []⟩,
 ⟨(some 8), (.bin 0 .quo), [(.t 6), (.t 7)], none, []⟩,
 ⟨(some 5), .mv, [(.t 8)], none, []⟩] 0 [0, 1, 5])
 (.seq
 (.seq
 (.reg false [] [] [
 ⟨(some 9), .mv, [(.t 0)], none, []⟩,
 ⟨(some 10), .mv, [(.t 1)], none, []⟩,
 ⟨(some 11), (.bin 0 .rem), [(.t 9), (.t 10)], none, []⟩,
 ⟨(some 12), (.bin 0 .lss), [(.t 11), (.c (.int .i64 0))], none, []⟩] 0 [5, 12])
 (.cond (.t 12)
 (.reg false [] [] [
 ⟨(some 13), .mv, [(.t 5)], none, []⟩,
 ⟨(some 14), (.bin 0 .sub), [(.t 13), (.c (.int .i64 1))], none, []⟩,
 ⟨(some 5), .mv, [(.t 14)], none, []⟩] 0 [5])
 .skip))
 (.seq
 (.reg false [] [] [
 ⟨(some 15), .mv, [(.t 5)], none, []⟩,
 ⟨(some 4), .mv, [(.t 15)], none, []⟩] 0 [4])
 .ret)))),
 [(.t 4)]⟩
theorem c39 : funC Try.prog [(0, [0, 1]), (1, [0, 1, 5]), (2, [5, 12]), (3, [5]), (4, [4])] Try.f39 = some (unF l39) := by kernel_rfl
/-- acme/fit.checkAll -/
def b40_0 : LCode :=
 (.seq
 (.reg true [] [] [
 ⟨(some 11), (.bin 0 .lss), [(.t 10), (.t 9)], none, []⟩] 0 [2, 8, 9, 10, 11])
 (.seq
 (.cond (.t 11)
 .skip
 (.exit 0))
 (.seq
 (.block 1
 (.seq
 (.reg true [6] [6] [
 ⟨(some 12), (.ixs 3), [(.t 8), (.t 10)], none, []⟩,
 ⟨(some 13), (.load (some 3)), [(.t 12)], none, []⟩,
 ⟨(some 6), (.alloc [(.sl none 2 []), (.int .i64 0), (.int .i64 0)]), [], none, []⟩,
 ⟨none, (.store 3 none), [(.t 6), (.t 13)], none, []⟩] 0 [2, 6, 8, 9, 10])
 (.seq
 (.reg true [] [] [
 ⟨(some 14), (.load (some 3)), [(.t 6)], none, []⟩,
 ⟨(some 15), (.call false false false), [(.f 67), (.t 14)], none, []⟩,
 ⟨(some 7), .mv, [(.t 15)], none, []⟩] 0 [2, 7, 8, 9, 10])
 (.seq
 (.reg true [] [] [
 ⟨(some 16), .mv, [(.t 7)], none, []⟩,
 ⟨(some 17), (.bin 0 .neq), [(.t 16), (.c (.int .i64 0))], none, []⟩] 0 [2, 7, 8, 9, 10, 17])
 (.cond (.t 17)
 (.seq
 (.reg true [] [] [
 ⟨(some 18), .mv, [(.t 7)], none, []⟩,
 ⟨(some 4), .mv, [(.t 18)], none, []⟩] 0 [4])
 .ret)
 .skip)))))
 (.reg true [] [] [
 ⟨(some 19), (.bin 0 .add), [(.t 10), (.c (.int .i64 1))], none, []⟩,
 ⟨(some 10), .mv, [(.t 19)], none, []⟩] 0 [2, 8, 9, 10]))))
def l40 : LFun := ⟨2, 22, [],
 (.seq
 (.reg false [2] [2] [
 ⟨(some 2), .box, [(.t 0)], none, []⟩,
 ⟨(some 4), .mv, [(.c (.int .i64 0))], none, []⟩] 0 [1, 2])
 (.seq
 (.seq
 (.reg false [] [] [
 ⟨(some 8), .mv, [(.t 1)], none, []⟩,
 ⟨(some 9), .len, [(.t 8)], none, []⟩,
 ⟨(some 10), .mv, [(.c (.int .i64 0))], none, []⟩] 0 [2, 8, 9, 10])
 (.block 0
 (.loop b40_0)))
 (.seq
 (.reg false [] [] [
 ⟨(some 20), (.load (some 2)), [(.t 2)], none, []⟩,
 ⟨(some 21), (.call false false false), [(.f 36), (.t 20)], none, []⟩,
 ⟨(some 4), .mv, [(.t 21)], none, []⟩] 0 [4])
 .ret))),
 [(.t 4)]⟩
theorem c40 : funC Try.prog [(0, [1, 2]), (1, [2, 8, 9, 10]), (2, [2, 8, 9, 10, 11]), (3, [2, 6, 8, 9, 10]), (4, [2, 7, 8, 9, 10]), (5, [2, 7, 8, 9, 10, 17]), (6, [4]), (7, [2, 8, 9, 10]), (8, [4])] Try.f40 = some (unF l40) := by kernel_rfl
/-- acme/fit.goes -/
def l41 : LFun := ⟨3, 23, [],
 (.seq
 (.reg false [3, 4, 5] [3, 4, 5] [
 ⟨(some 3), .box, [(.t 0)], none, []⟩,
 ⟨(some 4), .box, [(.t 1)], none, []⟩,
 ⟨(some 5), .box, [(.t 2)], none, []⟩,
 ⟨(some 6), .mv, [(.c (.bool false))], none, []⟩] 0 [3, 4, 5])
 (.seq
 (.reg false [7] [7] [
 ⟨(some 10), (.load (some 2)), [(.t 5)], none, []⟩,
 ⟨(some 11), (.build [(.int .i64 0), (.int .i64 0)] [(0, 2)]), [(.t 10)], none, []⟩,
 ⟨(some 12), (.load (some 3)), [(.t 3)], none, []⟩,
 ⟨(some 13), (.load (some 3)), [(.t 4)], none, []⟩,
 ⟨(some 14), (.build [(.int .i64 0), (.int .i64 0), (.sl none 2 []), (.int .i64 0), (.int .i64 0), (.sl none 2 []), (.int .i64 0), (.int .i64 0)] [(0, 2), (2, 3), (5, 3)]), [(.t 11), (.t 12), (.t 13)], none, []⟩,
 ⟨(some 15), (.fa 0), [(.t 3)], none, []⟩,
 ⟨(some 16), (.load none), [(.t 15)], none, []⟩,
 ⟨(some 17), (.fa 0), [(.t 4)], none, []⟩,
 ⟨(some 18), (.load none), [(.t 17)], none, []⟩,
 ⟨(some 19), (.call false false false), [(.f 47), (.t 14), (.t 16), (.t 18)], none, []⟩,
 ⟨(some 9), .mv, [(.t 19)], none, []⟩,
 ⟨(some 20), (.ext 0), [(.t 9)], none, []⟩,
 ⟨(some 21), (.ext 1), [(.t 9)], none, []⟩,
 ⟨(some 7), (.alloc [(.int .i64 0), (.int .i64 0)]), [], none, []⟩,
 ⟨none, (.store 2 none), [(.t 7), (.t 20)], none, []⟩,
 ⟨(some 8), .mv, [(.t 21)], none, []⟩] 0 [8])
 (.seq
 (.reg false [] [] [
 ⟨(some 22), .mv, [(.t 8)], none, []⟩,
 ⟨(some 6), .mv, [(.t 22)], none, []⟩] 0 [6])
 .ret))),
 [(.t 6)]⟩
theorem c41 : funC Try.prog [(0, [3, 4, 5]), (1, [8]), (2, [6])] Try.f41 = some (unF l41) := by kernel_rfl
/-- acme/acmetop.armPerfect -/
def b42_0 : LCode :=
 (.seq
 (.seq
 (.reg true [] [] [
 ⟨(some 14), .mv, [(.t 8)], none, []⟩,
 ⟨(some 15), .mv, [(.t 1)], none, []⟩,
 ⟨(some 16), (.bin 0 .lss), [(.t 14), (.t 15)], none, []⟩] 0 [1, 2, 3, 6, 7, 8, 16])
 (.cond (.t 16)
 .skip
 (.exit 0)))
 (.seq
 (.block 1
 (.reg true [42, 43] [42] [
 ⟨(some 19), (.fa 0), [(.t 7)], none, []⟩,
 ⟨(some 20), (.load none), [(.t 19)], none, []⟩,
 ⟨(some 21), .mv, [(.t 8)], none, []⟩,
 ⟨(some 22), (.fa 0), [(.t 3)], none, []⟩,
 ⟨(some 23), (.load none), [(.t 22)], none, []⟩,
 ⟨(some 24), (.bin 0 .mul), [(.t 21), (.t 23)], none, []⟩,
 ⟨(some 25), (.fa 0), [(.t 3)], none, []⟩,
 ⟨(some 26), (.load none), [(.t 25)], none, []⟩,
 ⟨(some 27), (.bin 0 .quo), [(.t 26), (.c (.int .i64 4))], none, []⟩,
 ⟨(some 28), (.bin 0 .sub), [(.t 24), (.t 27)], none, []⟩,
 ⟨(some 29), .mv, [(.t 2)], none, []⟩,
 ⟨(some 30), (.bin 0 .sub), [(.t 28), (.t 29)], none, []⟩,
 ⟨(some 31), .mv, [(.t 8)], none, []⟩,
 ⟨(some 32), (.fa 0), [(.t 3)], none, []⟩,
 ⟨(some 33), (.load none), [(.t 32)], none, []⟩,
 ⟨(some 34), (.bin 0 .mul), [(.t 31), (.t 33)], none, []⟩,
 ⟨(some 35), (.fa 0), [(.t 3)], none, []⟩,
 ⟨(some 36), (.load none), [(.t 35)], none, []⟩,
 ⟨(some 37), (.bin 0 .quo), [(.t 36), (.c (.int .i64 4))], none, []⟩,
 ⟨(some 38), (.bin 0 .add), [(.t 34), (.t 37)], none, []⟩,
 ⟨(some 39), .mv, [(.t 2)], none, []⟩,
 ⟨(some 40), (.bin 0 .add), [(.t 38), (.t 39)], none, []⟩,
 ⟨(some 41), (.build [(.int .i64 0), (.int .i64 0)] [(0, 1), (1, 1)]), [(.t 30), (.t 40)], none, []⟩,
 ⟨(some 42), (.bsl 2 [(.int .i64 0), (.int .i64 0)] 1 [0]), [(.t 41)], none, []⟩,
 ⟨(some 43), (.append false 2 16), [(.t 20), (.t 42)], none, []⟩,
 ⟨(some 44), (.fa 0), [(.t 7)], none, []⟩,
 ⟨none, (.store 1 none), [(.t 44), (.t 43)], none, []⟩] 0 [1, 2, 3, 6, 7, 8]))
 (.reg true [] [] [
 ⟨(some 17), .mv, [(.t 8)], none, []⟩,
 ⟨(some 18), (.bin 0 .add), [(.t 17), (.c (.int .i64 1))], none, []⟩,
 ⟨(some 8), .mv, [(.t 18)], none, []⟩] 0 [1, 2, 3, 6, 7, 8])))
def l42 : LFun := ⟨3, 46, [],
 (.seq
 (.reg false [3, 6] [3, 6] [
 ⟨(some 3), .box, [(.t 0)], none, []⟩,
 ⟨(some 6), (.alloc [(.sl none 2 []), (.int .i64 0), (.int .i64 0)]), [], none, []⟩] 0 [1, 2, 3, 6])
 (.seq
 (.reg false [7] [7] [
 ⟨(some 9), (.fa 1), [(.t 3)], none, []⟩,
 ⟨(some 10), (.load none), [(.t 9)], none, []⟩,
 ⟨(some 11), (.fa 2), [(.t 3)], none, []⟩,
 ⟨(some 12), (.load none), [(.t 11)], none, []⟩,
 ⟨(some 13), (.build [(.sl (some 2004300) 2 []), (.int .i64 0), (.int .i64 0)] [(1, 1), (2, 1)]), [(.t 10), (.t 12)], none, []⟩,
 ⟨(some 7), (.alloc [(.sl (some 2004300) 2 []), (.int .i64 0), (.int .i64 0)]), [], none, []⟩,
 ⟨none, (.store 3 none), [(.t 7), (.t 13)], none, []⟩] 0 [1, 2, 3, 6, 7])
 (.seq
 (.seq
 (.reg false [] [] [
 ⟨(some 8), .mv, [(.c (.int .i64 0))], none, []⟩] 0 [1, 2, 3, 6, 7, 8])
 (.block 0
 (.loop b42_0)))
 (.seq
 (.reg false [] [] [
 ⟨(some 45), (.load (some 3)), [(.t 7)], none, []⟩,
 ⟨none, (.store 3 none), [(.t 6), (.t 45)], none, []⟩] 0 [6])
 .ret)))),
 [(.c 6 (some 3))]⟩
theorem c42 : funC Try.prog [(0, [1, 2, 3, 6]), (1, [1, 2, 3, 6, 7]), (2, [1, 2, 3, 6, 7, 8]), (3, [1, 2, 3, 6, 7, 8, 16]), (4, [1, 2, 3, 6, 7, 8]), (5, [1, 2, 3, 6, 7, 8]), (6, [6])] Try.f42 = some (unF l42) := by kernel_rfl
/-- acme/fit.Nut -/
def l43 : LFun := ⟨3, 33, [],
 (.seq
 (.reg false [3, 4, 5] [3, 4, 5] [
 ⟨(some 3), .box, [(.t 0)], none, []⟩,
 ⟨(some 4), .box, [(.t 1)], none, []⟩,
 ⟨(some 5), .box, [(.t 2)], none, []⟩,
 ⟨(some 6), .mv, [(.c (.int .i64 0))], none, []⟩,
 ⟨(some 7), .mv, [(.c (.int .i64 0))], none, []⟩] 0 [3, 4, 5])
 (.seq
 (.reg false [13, 8] [13, 8] [
 ⟨(some 10), (.load (some 8)), [(.t 3)], none, []⟩,
 ⟨(some 11), (.load (some 2)), [(.t 5)], none, []⟩,
 ⟨(some 12), (.load (some 3)), [(.t 4)], none, []⟩,
 ⟨(some 13), (.bsl 3 [.nil, (.int .i64 0), (.int .i64 0)] 1 [0]), [(.t 12)], none, []⟩,
 ⟨(some 14), (.call false false false), [(.f 44), (.t 10), (.t 11), (.t 13)], none, []⟩,
 ⟨(some 9), .mv, [(.t 14)], none, []⟩,
 ⟨(some 15), (.ext 0), [(.t 9)], none, []⟩,
 ⟨(some 16), (.ext 1), [(.t 9)], none, []⟩,
 ⟨(some 8), (.alloc [(.int .i64 0), (.int .i64 0), (.int .i64 0), (.int .i64 0), (.int .i64 0), (.int .i64 0), (.bool false), (.int .i64 0), (.int .i64 0), (.int .i64 0)]), [], none, []⟩,
 ⟨none, (.store 10 none), [(.t 8), (.t 15)], none, []⟩,
 ⟨(some 7), .mv, [(.t 16)], none, []⟩] 0 [4, 7, 8])
 (.seq
 (.block 0
 (.seq
 (.reg false [] [] [
 ⟨(some 18), .mv, [(.t 7)], none, []⟩,
 ⟨(some 19), (.bin 0 .neq), [(.t 18), (.c (.int .i64 0))], none, []⟩,
 ⟨(some 17), .mv, [(.t 19)], none, []⟩] 0 [4, 7, 8, 17])
 (.cond (.t 17)
 (.seq
 (.reg false [] [] [
 ⟨(some 20), .mv, [(.t 7)], none, []⟩,
 ⟨(some 6), .mv, [(.c (.int .i64 0))], none, []⟩,
 ⟨(some 7), .mv, [(.t 20)], none, []⟩] 0 [6, 7])
 .ret)
 (.seq
 (.reg false [] [] [
 ⟨(some 22), (.load (some 10)), [(.t 8)], none, []⟩,
 ⟨(some 23), (.call false false false), [(.f 45), (.t 22)], none, []⟩,
 ⟨(some 24), (.bin 0 .eql), [(.t 23), (.c (.int .i64 0))], none, []⟩,
 ⟨(some 21), .mv, [(.t 24)], none, []⟩] 0 [4, 8, 21])
 (.cond (.t 21)
 (.seq
 (.reg false [] [] [
 ⟨(some 6), .mv, [(.c (.int .i64 0))], none, []⟩,
 ⟨(some 7), .mv, [(.c (.int .i64 7))], none, []⟩] 0 [6, 7])
 .ret)
 .skip)))))
 (.seq
 (.reg false [] [] [
 ⟨(some 25), (.load (some 10)), [(.t 8)], none, [26, 29]⟩,
 ⟨(some 26), (.load (some 3)), [(.t 4)], none, [25, 29]⟩,
 ⟨(some 27), (.call true false false), [(.f 46), (.t 25), (.t 26), (.c (.int .i64 (-1)))], none, [29]⟩,
 ⟨(some 28), (.un .neg), [(.t 27)], none, [29, 30, 31]⟩,
 ⟨(some 29), (.load (some 10)), [(.t 8)], none, [25, 26, 27, 28]⟩,
 ⟨(some 30), (.call true false false), [(.f 45), (.t 29)], none, [28]⟩,
 ⟨(some 31), (.bin 0 .mul), [(.c (.int .i64 4)), (.t 30)], none, [28]⟩,
 ⟨(some 32), (.call false false false), [(.f 39), (.t 28), (.t 31)], none, []⟩,
 ⟨(some 6), .mv, [(.t 32)], none, []⟩,
 ⟨(some 7), .mv, [(.c (.int .i64 0))], none, []⟩] 0 [6, 7])
 .ret)))),
 [(.t 6), (.t 7)]⟩
theorem c43 : funC Try.prog [(0, [3, 4, 5]), (1, [4, 7, 8]), (2, [4, 7, 8, 17]), (3, [6, 7]), (4, [4, 8, 21]), (5, [6, 7]), (6, [6, 7])] Try.f43 = some (unF l43) := by kernel_rfl
/-- acme/fit.open -/
def l44 : LFun := ⟨3, 22, [],
 (.seq
 (.reg false [3, 4, 6] [3, 4, 6] [
 ⟨(some 3), .box, [(.t 0)], none, []⟩,
 ⟨(some 4), .box, [(.t 1)], none, []⟩,
 ⟨(some 6), (.alloc [(.int .i64 0), (.int .i64 0), (.int .i64 0), (.int .i64 0), (.int .i64 0), (.int .i64 0), (.bool false), (.int .i64 0), (.int .i64 0), (.int .i64 0)]), [], none, []⟩,
 ⟨(some 7), .mv, [(.c (.int .i64 0))], none, []⟩] 0 [2, 3, 4, 6])
 (.seq
 (.seq
 (.reg false [] [] [
 ⟨(some 9), (.load (some 8)), [(.t 3)], none, []⟩,
 ⟨(some 10), (.call false false false), [(.f 34), (.t 9)], none, []⟩,
 ⟨(some 8), .mv, [(.t 10)], none, []⟩] 0 [2, 3, 4, 6, 8])
 (.seq
 (.reg false [] [] [
 ⟨(some 11), .mv, [(.t 8)], none, []⟩,
 ⟨(some 12), (.bin 0 .neq), [(.t 11), (.c (.int .i64 0))], none, []⟩] 0 [2, 3, 4, 6, 8, 12])
 (.cond (.t 12)
 (.seq
 (.reg false [] [] [
 ⟨(some 13), (.load (some 10)), [(.t 6)], none, []⟩,
 ⟨(some 14), .mv, [(.t 8)], none, []⟩,
 ⟨none, (.store 10 none), [(.t 6), (.t 13)], none, []⟩,
 ⟨(some 7), .mv, [(.t 14)], none, []⟩] 0 [6, 7])
 .ret)
 .skip)))
 (.seq
 (.reg false [] [] [
 ⟨(some 15), (.load (some 8)), [(.t 3)], none, [16, 17, 19, 20, 21]⟩,
 ⟨(some 16), (.load (some 2)), [(.t 4)], none, [15, 19, 20, 21]⟩,
 ⟨(some 17), (.build [(.int .i64 0), (.int .i64 0)] [(0, 2)]), [(.t 16)], none, [15, 19, 20, 21]⟩,
 ⟨(some 18), (.build [(.int .i64 0), (.int .i64 0), (.int .i64 0), (.int .i64 0), (.int .i64 0), (.int .i64 0), (.bool false), (.int .i64 0), (.int .i64 0), (.int .i64 0)] [(0, 8), (8, 2)]), [(.t 15), (.t 17)], none, [19, 20, 21]⟩,
 ⟨(some 19), (.load (some 2)), [(.t 4)], none, [15, 16, 17, 18, 20]⟩,
 ⟨(some 20), .mv, [(.t 2)], none, [15, 16, 17, 18, 19]⟩,
 ⟨(some 21), (.call true false false), [(.f 40), (.t 19), (.t 20)], none, [15, 16, 17, 18]⟩,
 ⟨none, (.store 10 (some 6)), [(.t 6), (.t 18)], none, []⟩,
 ⟨(some 7), .mv, [(.t 21)], none, []⟩] 0 [6, 7])
 .ret))),
 [(.c 6 (some 10)), (.t 7)]⟩
theorem c44 : funC Try.prog [(0, [2, 3, 4, 6]), (1, [2, 3, 4, 6, 8]), (2, [2, 3, 4, 6, 8, 12]), (3, [6, 7]), (4, [6, 7])] Try.f44 = some (unF l44) := by kernel_rfl
/-- (acme/fit.ideal).leans -/
def l45 : LFun := ⟨1, 10, [],
 (.seq
 (.reg false [1] [1] [
 ⟨(some 1), .box, [(.t 0)], none, []⟩,
 ⟨(some 2), .mv, [(.c (.int .i64 0))], none, []⟩] 0 [1])
 (.seq
 (.reg false [] [] [
 ⟨(some 3), (.fa 0), [(.t 1)], none, []⟩,
 ⟨(some 4), (.fa 1), [(.t 3)], none, []⟩,
 ⟨(some 5), (.load none), [(.t 4)], none, []⟩,
 ⟨(some 6), (.fa 0), [(.t 1)], none, []⟩,
 ⟨(some 7), (.fa 2), [(.t 6)], none, []⟩,
 ⟨(some 8), (.load none), [(.t 7)], none, []⟩,
 ⟨(some 9), (.bin 0 .add), [(.t 5), (.t 8)], none, []⟩,
 ⟨(some 2), .mv, [(.t 9)], none, []⟩] 0 [2])
 .ret)),
 [(.t 2)]⟩
theorem c45 : funC Try.prog [(0, [1]), (1, [2])] Try.f45 = some (unF l45) := by kernel_rfl
/-- (acme/fit.ideal).size -/
def b46_0w : List Nat :=
 [15, 16, 9, 10, 17, 18, 19, 20, 21, 22, 23, 24, 25, 26, 27, 28, 29, 17, 18, 19, 20, 21, 22, 23, 24, 25, 26, 27, 28, 29]
def b46_0a : LCode :=
 (.seq
 (.reg true [] [] [
 ⟨(some 9), .mv, [(.t 15)], none, []⟩] 0 [3, 4, 5, 7, 8, 9, 16])
 (.reg true [] [] [
 ⟨(some 10), .mv, [(.t 16)], none, []⟩] 0 [3, 4, 5, 7, 8, 9, 10]))
def b46_0 : LCode :=
 (.block 1
 (.alt [23, 29] [7, 8]
 (.reg true [22, 23, 28, 29] [22, 23, 28, 29] [
 ⟨(some 17), (.load none), [(.t 7)], none, [18, 19, 20, 21, 22, 24, 25, 26, 27, 28]⟩,
 ⟨(some 18), (.load none), [(.t 5)], none, [17, 20, 24, 25, 26, 27, 28]⟩,
 ⟨(some 19), (.un .neg), [(.t 18)], none, [17, 20, 24, 25, 26, 27, 28]⟩,
 ⟨(some 20), .mv, [(.t 9)], none, [17, 18, 19, 24, 25, 26, 27, 28]⟩,
 ⟨(some 21), (.bin 0 .mul), [(.t 19), (.t 20)], none, [17, 24, 25, 26, 27, 28]⟩,
 ⟨(some 22), (.bsl 1 [(.int .i64 0)] 1 [0]), [(.t 21)], none, [17, 24, 25, 26, 27, 28]⟩,
 ⟨(some 23), (.append true 1 8), [(.t 17), (.t 22)], none, [24, 25, 26, 27, 28]⟩,
 ⟨(some 24), (.load none), [(.t 8)], none, [17, 18, 19, 20, 21, 22, 23, 25, 26, 27, 28]⟩,
 ⟨(some 25), (.load none), [(.t 5)], none, [17, 18, 19, 20, 21, 22, 23, 24, 26]⟩,
 ⟨(some 26), .mv, [(.t 10)], none, [17, 18, 19, 20, 21, 22, 23, 24, 25]⟩,
 ⟨(some 27), (.bin 0 .mul), [(.t 25), (.t 26)], none, [17, 18, 19, 20, 21, 22, 23, 24]⟩,
 ⟨(some 28), (.bsl 1 [(.int .i64 0)] 1 [0]), [(.t 27)], none, [17, 18, 19, 20, 21, 22, 23, 24]⟩,
 ⟨(some 29), (.append true 1 8), [(.t 24), (.t 28)], none, []⟩,
 ⟨none, (.store 1 (some 7)), [(.t 7), (.t 23)], none, []⟩,
 ⟨none, (.store 1 (some 8)), [(.t 8), (.t 29)], none, []⟩] 0 [3, 4, 5, 7, 8])
 (.reg true [22, 23, 28, 29] [22, 28] [
 ⟨(some 17), (.load none), [(.t 7)], none, [18, 19, 20, 21, 22, 24, 25, 26, 27, 28]⟩,
 ⟨(some 18), (.load none), [(.t 5)], none, [17, 20, 24, 25, 26, 27, 28]⟩,
 ⟨(some 19), (.un .neg), [(.t 18)], none, [17, 20, 24, 25, 26, 27, 28]⟩,
 ⟨(some 20), .mv, [(.t 9)], none, [17, 18, 19, 24, 25, 26, 27, 28]⟩,
 ⟨(some 21), (.bin 0 .mul), [(.t 19), (.t 20)], none, [17, 24, 25, 26, 27, 28]⟩,
 ⟨(some 22), (.bsl 1 [(.int .i64 0)] 1 [0]), [(.t 21)], none, [17, 24, 25, 26, 27, 28]⟩,
 ⟨(some 23), (.appo 1 8), [(.t 17), (.t 22)], none, [24, 25, 26, 27, 28]⟩,
 ⟨(some 24), (.load none), [(.t 8)], none, [17, 18, 19, 20, 21, 22, 23, 25, 26, 27, 28]⟩,
 ⟨(some 25), (.load none), [(.t 5)], none, [17, 18, 19, 20, 21, 22, 23, 24, 26]⟩,
 ⟨(some 26), .mv, [(.t 10)], none, [17, 18, 19, 20, 21, 22, 23, 24, 25]⟩,
 ⟨(some 27), (.bin 0 .mul), [(.t 25), (.t 26)], none, [17, 18, 19, 20, 21, 22, 23, 24]⟩,
 ⟨(some 28), (.bsl 1 [(.int .i64 0)] 1 [0]), [(.t 27)], none, [17, 18, 19, 20, 21, 22, 23, 24]⟩,
 ⟨(some 29), (.appo 1 8), [(.t 24), (.t 28)], none, []⟩,
 ⟨none, (.store 1 (some 7)), [(.t 7), (.t 23)], none, []⟩,
 ⟨none, (.store 1 (some 8)), [(.t 8), (.t 29)], none, []⟩] 0 [3, 4, 5, 7, 8])))
def l46 : LFun := ⟨3, 61, [],
 (.seq
 (.reg false [3, 4, 5] [3, 4, 5] [
 ⟨(some 3), .box, [(.t 0)], none, []⟩,
 ⟨(some 4), .box, [(.t 1)], none, []⟩,
 ⟨(some 5), .box, [(.t 2)], none, []⟩,
 ⟨(some 6), .mv, [(.c (.int .i64 0))], none, []⟩] 0 [3, 4, 5])
 (.seq
 (.reg false [7, 8] [7, 8] [
 ⟨(some 7), (.alloc [(.sl (some 2002300) 1 [])]), [], none, []⟩,
 ⟨(some 8), (.alloc [(.sl (some 2002900) 1 [])]), [], none, []⟩] 0 [3, 4, 5, 7, 8])
 (.seq
 (.seq
 (.reg false [14] [14] [
 ⟨(some 12), (.load (some 10)), [(.t 3)], none, []⟩,
 ⟨(some 13), (.load (some 3)), [(.t 4)], none, []⟩,
 ⟨(some 14), (.call false true true), [(.f 68), (.t 12), (.t 13)], none, []⟩] 0 [3, 4, 5, 7, 8, 14])
 (.block 0
 (.rng (.t 14) [15, 16] b46_0w b46_0a b46_0)))
 (.seq
 (.reg false [] [] [
 ⟨(some 30), (.fa 8), [(.t 3)], none, [32, 33, 34, 35, 36, 37, 38, 39, 41, 42, 43, 44, 45, 46, 47, 48, 49, 50]⟩,
 ⟨(some 31), (.load (some 2)), [(.t 30)], none, [32, 33, 34, 35, 36, 37, 38, 39, 41, 42, 43, 44, 45, 46, 47, 48, 49, 50]⟩,
 ⟨(some 32), (.load none), [(.t 5)], none, [30, 31, 33, 34, 35, 36, 37, 38, 41, 42, 43, 44, 45, 46, 47, 48, 49, 50]⟩,
 ⟨(some 33), (.fa 0), [(.t 3)], none, [30, 31, 32, 36, 37, 41, 42, 43, 44, 45, 46, 47, 48, 49, 50]⟩,
 ⟨(some 34), (.fa 1), [(.t 33)], none, [30, 31, 32, 36, 37, 41, 42, 43, 44, 45, 46, 47, 48, 49, 50]⟩,
 ⟨(some 35), (.load none), [(.t 34)], none, [30, 31, 32, 36, 37, 41, 42, 43, 44, 45, 46, 47, 48, 49, 50]⟩,
 ⟨(some 36), (.fa 1), [(.t 4)], none, [30, 31, 32, 33, 34, 35, 41, 42, 43, 44, 45, 46, 47, 48, 49, 50]⟩,
 ⟨(some 37), (.load none), [(.t 36)], none, [30, 31, 32, 33, 34, 35, 41, 42, 43, 44, 45, 46, 47, 48, 49, 50]⟩,
 ⟨(some 38), (.bin 0 .sub), [(.t 35), (.t 37)], none, [30, 31, 32, 41, 42, 43, 44, 45, 46, 47, 48, 49, 50]⟩,
 ⟨(some 39), (.bin 0 .mul), [(.t 32), (.t 38)], none, [30, 31, 41, 42, 43, 44, 45, 46, 47, 48, 49, 50]⟩,
 ⟨(some 40), (.call true false false), [(.f 69), (.t 31), (.t 39)], none, [41, 42, 43, 44, 45, 46, 47, 48, 49, 50]⟩,
 ⟨(some 41), (.fa 8), [(.t 3)], none, [30, 31, 32, 33, 34, 35, 36, 37, 38, 39, 40, 43, 44, 45, 46, 47, 48, 49, 50]⟩,
 ⟨(some 42), (.load (some 2)), [(.t 41)], none, [30, 31, 32, 33, 34, 35, 36, 37, 38, 39, 40, 43, 44, 45, 46, 47, 48, 49, 50]⟩,
 ⟨(some 43), (.load none), [(.t 5)], none, [30, 31, 32, 33, 34, 35, 36, 37, 38, 39, 40, 41, 42, 44, 45, 46, 47, 48, 49]⟩,
 ⟨(some 44), (.fa 0), [(.t 3)], none, [30, 31, 32, 33, 34, 35, 36, 37, 38, 39, 40, 41, 42, 43, 47, 48]⟩,
 ⟨(some 45), (.fa 2), [(.t 44)], none, [30, 31, 32, 33, 34, 35, 36, 37, 38, 39, 40, 41, 42, 43, 47, 48]⟩,
 ⟨(some 46), (.load none), [(.t 45)], none, [30, 31, 32, 33, 34, 35, 36, 37, 38, 39, 40, 41, 42, 43, 47, 48]⟩,
 ⟨(some 47), (.fa 2), [(.t 4)], none, [30, 31, 32, 33, 34, 35, 36, 37, 38, 39, 40, 41, 42, 43, 44, 45, 46]⟩,
 ⟨(some 48), (.load none), [(.t 47)], none, [30, 31, 32, 33, 34, 35, 36, 37, 38, 39, 40, 41, 42, 43, 44, 45, 46]⟩,
 ⟨(some 49), (.bin 0 .sub), [(.t 46), (.t 48)], none, [30, 31, 32, 33, 34, 35, 36, 37, 38, 39, 40, 41, 42, 43]⟩,
 ⟨(some 50), (.bin 0 .mul), [(.t 43), (.t 49)], none, [30, 31, 32, 33, 34, 35, 36, 37, 38, 39, 40, 41, 42]⟩,
 ⟨(some 51), (.call false false false), [(.f 69), (.t 42), (.t 50)], none, []⟩,
 ⟨(some 52), (.bin 0 .add), [(.t 40), (.t 51)], none, []⟩,
 ⟨(some 11), .mv, [(.t 52)], none, []⟩] 0 [7, 8, 11])
 (.seq
 (.reg false [] [] [
 ⟨(some 53), (.load none), [(.t 7)], none, [55, 58, 59]⟩,
 ⟨(some 54), (.call true false false), [(.f 70), (.t 53)], none, [55, 58, 59]⟩,
 ⟨(some 55), (.load none), [(.t 8)], none, [53, 54, 58, 59]⟩,
 ⟨(some 56), (.call true false false), [(.f 70), (.t 55)], none, [58, 59]⟩,
 ⟨(some 57), (.bin 0 .add), [(.t 54), (.t 56)], none, [58, 59]⟩,
 ⟨(some 58), .mv, [(.t 11)], none, [53, 54, 55, 56, 57]⟩,
 ⟨(some 59), (.bin 0 .mul), [(.c (.int .i64 4)), (.t 58)], none, [53, 54, 55, 56, 57]⟩,
 ⟨(some 60), (.bin 0 .add), [(.t 57), (.t 59)], none, []⟩,
 ⟨(some 6), .mv, [(.t 60)], none, []⟩] 0 [6])
 .ret))))),
 [(.t 6)]⟩
theorem c46 : funC Try.prog [(0, [3, 4, 5]), (1, [3, 4, 5, 7, 8]), (2, [3, 4, 5, 7, 8, 14]), (3, [3, 4, 5, 7, 8, 9, 16]), (4, [3, 4, 5, 7, 8, 9, 10]), (5, [3, 4, 5, 7, 8]), (6, [7, 8, 11]), (7, [6])] Try.f46 = some (unF l46) := by kernel_rfl
/-- (acme/fit.mesh).shifts -/
def b47_0 : LCode :=
 (.seq
 (.reg true [] [] [
 ⟨(some 14), (.bin 0 .lss), [(.t 13), (.t 12)], none, []⟩] 0 [2, 3, 6, 11, 12, 13, 14])
 (.seq
 (.cond (.t 14)
 .skip
 (.exit 0))
 (.seq
 (.block 1
 (.seq
 (.reg true [9] [9] [
 ⟨(some 15), .mv, [(.t 13)], none, []⟩,
 ⟨(some 16), (.ixs 2), [(.t 11), (.t 13)], none, []⟩,
 ⟨(some 17), (.load (some 2)), [(.t 16)], none, []⟩,
 ⟨(some 9), (.alloc [(.int .i64 0), (.int .i64 0)]), [], none, []⟩,
 ⟨(some 8), .mv, [(.t 15)], none, []⟩,
 ⟨none, (.store 2 none), [(.t 9), (.t 17)], none, []⟩] 0 [2, 3, 6, 8, 9, 11, 12, 13])
 (.seq
 (.reg true [10] [10] [
 ⟨(some 18), (.fa 0), [(.t 3)], none, [20, 21, 22, 23, 24, 25, 26, 27, 28, 10]⟩,
 ⟨(some 19), (.load (some 2)), [(.t 18)], none, [20, 21, 22, 23, 24, 25, 26, 27, 28, 10]⟩,
 ⟨(some 20), (.load (some 2)), [(.t 9)], none, [18, 19, 21, 22, 23, 24, 25, 26, 27, 28, 10]⟩,
 ⟨(some 21), .mv, [(.t 2)], none, [18, 19, 20, 22, 25, 26, 27, 28, 10]⟩,
 ⟨(some 22), .mv, [(.t 8)], none, [18, 19, 20, 21, 25, 26, 27, 28, 10]⟩,
 ⟨(some 23), (.ixs 2), [(.t 21), (.t 22)], none, [18, 19, 20, 25, 26, 27, 28, 10]⟩,
 ⟨(some 24), (.load (some 2)), [(.t 23)], none, [18, 19, 20, 25, 26, 27, 28, 10]⟩,
 ⟨(some 25), (.fa 2), [(.t 3)], none, [18, 19, 20, 21, 22, 23, 24, 27, 28, 10]⟩,
 ⟨(some 26), (.load (some 3)), [(.t 25)], none, [18, 19, 20, 21, 22, 23, 24, 27, 28, 10]⟩,
 ⟨(some 27), (.fa 5), [(.t 3)], none, [18, 19, 20, 21, 22, 23, 24, 25, 26, 10]⟩,
 ⟨(some 28), (.load (some 3)), [(.t 27)], none, [18, 19, 20, 21, 22, 23, 24, 25, 26, 10]⟩,
 ⟨(some 29), (.call false false false), [(.f 71), (.t 19), (.t 20), (.t 24), (.t 26), (.t 28)], none, [10]⟩,
 ⟨(some 10), (.alloc [(.int .i64 0), (.int .i64 0)]), [], none, [18, 19, 20, 21, 22, 23, 24, 25, 26, 27, 28, 29]⟩,
 ⟨none, (.store 2 (some 10)), [(.t 10), (.t 29)], none, []⟩] 0 [2, 3, 6, 8, 10, 11, 12, 13])
 (.seq
 (.seq
 (.reg true [] [] [
 ⟨(some 30), .mv, [(.t 8)], none, []⟩,
 ⟨(some 31), (.bin 0 .eql), [(.t 30), (.c (.int .i64 0))], none, []⟩] 0 [2, 3, 6, 10, 11, 12, 13, 31])
 (.cond (.t 31)
 (.reg true [] [] [
 ⟨(some 32), (.load (some 2)), [(.t 10)], none, []⟩,
 ⟨none, (.store 2 none), [(.t 6), (.t 32)], none, []⟩] 0 [2, 3, 6, 10, 11, 12, 13])
 .skip))
 (.reg true [] [] [
 ⟨(some 33), (.fa 0), [(.t 6)], none, []⟩,
 ⟨(some 34), (.load none), [(.t 33)], none, []⟩,
 ⟨(some 35), (.fa 0), [(.t 10)], none, []⟩,
 ⟨(some 36), (.load none), [(.t 35)], none, []⟩,
 ⟨(some 37), .max, [(.t 34), (.t 36)], none, []⟩,
 ⟨(some 38), (.fa 1), [(.t 6)], none, []⟩,
 ⟨(some 39), (.load none), [(.t 38)], none, []⟩,
 ⟨(some 40), (.fa 1), [(.t 10)], none, []⟩,
 ⟨(some 41), (.load none), [(.t 40)], none, []⟩,
 ⟨(some 42), .min, [(.t 39), (.t 41)], none, []⟩,
 ⟨(some 43), (.build [(.int .i64 0), (.int .i64 0)] [(0, 1), (1, 1)]), [(.t 37), (.t 42)], none, []⟩,
 ⟨none, (.store 2 none), [(.t 6), (.t 43)], none, []⟩] 0 [2, 3, 6, 11, 12, 13])))))
 (.reg true [] [] [
 ⟨(some 44), (.bin 0 .add), [(.t 13), (.c (.int .i64 1))], none, []⟩,
 ⟨(some 13), .mv, [(.t 44)], none, []⟩] 0 [2, 3, 6, 11, 12, 13]))))
def l47 : LFun := ⟨3, 51, [],
 (.seq
 (.reg false [3, 6] [3, 6] [
 ⟨(some 3), .box, [(.t 0)], none, []⟩,
 ⟨(some 6), (.alloc [(.int .i64 0), (.int .i64 0)]), [], none, []⟩,
 ⟨(some 7), .mv, [(.c (.bool false))], none, []⟩] 0 [1, 2, 3, 6])
 (.seq
 (.seq
 (.reg false [] [] [
 ⟨(some 11), .mv, [(.t 1)], none, []⟩,
 ⟨(some 12), .len, [(.t 11)], none, []⟩,
 ⟨(some 13), .mv, [(.c (.int .i64 0))], none, []⟩] 0 [2, 3, 6, 11, 12, 13])
 (.block 0
 (.loop b47_0)))
 (.seq
 (.reg false [] [] [
 ⟨(some 45), (.load (some 2)), [(.t 6)], none, []⟩,
 ⟨(some 46), (.fa 0), [(.t 6)], none, []⟩,
 ⟨(some 47), (.load none), [(.t 46)], none, []⟩,
 ⟨(some 48), (.fa 1), [(.t 6)], none, []⟩,
 ⟨(some 49), (.load none), [(.t 48)], none, []⟩,
 ⟨(some 50), (.bin 0 .leq), [(.t 47), (.t 49)], none, []⟩,
 ⟨none, (.store 2 none), [(.t 6), (.t 45)], none, []⟩,
 ⟨(some 7), .mv, [(.t 50)], none, []⟩] 0 [6, 7])
 .ret))),
 [(.c 6 (some 2)), (.t 7)]⟩
theorem c47 : funC Try.prog [(0, [1, 2, 3, 6]), (1, [2, 3, 6, 11, 12, 13]), (2, [2, 3, 6, 11, 12, 13, 14]), (3, [2, 3, 6, 8, 9, 11, 12, 13]), (4, [2, 3, 6, 8, 10, 11, 12, 13]), (5, [2, 3, 6, 10, 11, 12, 13, 31]), (6, [2, 3, 6, 10, 11, 12, 13]), (7, [2, 3, 6, 11, 12, 13]), (8, [2, 3, 6, 11, 12, 13]), (9, [6, 7])] Try.f47 = some (unF l47) := by kernel_rfl
/-- acme/die.open -/
def b55_0 : LCode :=
 (.seq
 (.reg true [] [] [
 ⟨(some 36), (.bin 0 .lss), [(.t 35), (.t 34)], none, []⟩] 0 [7, 20, 33, 34, 35, 36])
 (.seq
 (.cond (.t 36)
 .skip
 (.exit 0))
 (.seq
 (.block 1
 (.seq
 (.reg true [9] [9] [
 ⟨(some 37), (.ixs 4), [(.t 33), (.t 35)], none, []⟩,
 ⟨(some 38), (.load (some 4)), [(.t 37)], none, []⟩,
 ⟨(some 9), (.alloc [(.int .i64 0), (.int .i64 0), (.int .i64 0), (.int .i64 0)]), [], none, []⟩,
 ⟨none, (.store 4 none), [(.t 9), (.t 38)], none, []⟩] 0 [7, 9, 20, 33, 34, 35])
 (.alt [50] [7]
 (.reg true [49, 50] [49, 50] [
 ⟨(some 39), .mv, [(.t 7)], none, [40, 41, 42, 43, 44, 45, 46, 47, 48, 49, 50]⟩,
 ⟨(some 40), .mv, [(.t 7)], none, [39, 44, 45, 46, 47, 48, 49]⟩,
 ⟨(some 41), .nilc, [(.t 40)], none, [39, 44, 45, 46, 47, 48, 49]⟩,
 ⟨(some 42), (.fa 7), [(.t 41)], none, [39, 44, 45, 46, 47, 48, 49]⟩,
 ⟨(some 43), (.load none), [(.t 42)], none, [39, 44, 45, 46, 47, 48, 49]⟩,
 ⟨(some 44), .mv, [(.t 7)], none, [39, 40, 41, 42, 43, 46, 47]⟩,
 ⟨(some 45), (.call true false false), [(.f 57), (.t 44)], none, [39, 40, 41, 42, 43, 46, 47]⟩,
 ⟨(some 46), (.fa 0), [(.t 9)], none, [39, 40, 41, 42, 43, 44, 45]⟩,
 ⟨(some 47), (.load none), [(.t 46)], none, [39, 40, 41, 42, 43, 44, 45]⟩,
 ⟨(some 48), (.bin 0 .add), [(.t 45), (.t 47)], none, [39, 40, 41, 42, 43]⟩,
 ⟨(some 49), (.bsl 1 [(.int .i64 0)] 1 [0]), [(.t 48)], none, [39, 40, 41, 42, 43]⟩,
 ⟨(some 50), (.append true 1 8), [(.t 43), (.t 49)], none, [39]⟩,
 ⟨(some 51), .nilc, [(.t 39)], none, []⟩,
 ⟨(some 52), (.fa 7), [(.t 51)], none, []⟩,
 ⟨none, (.store 1 none), [(.t 52), (.t 50)], none, []⟩] 0 [7, 20, 33, 34, 35])
 (.reg true [49, 50] [49] [
 ⟨(some 39), .mv, [(.t 7)], none, [40, 41, 42, 43, 44, 45, 46, 47, 48, 49, 50]⟩,
 ⟨(some 40), .mv, [(.t 7)], none, [39, 44, 45, 46, 47, 48, 49]⟩,
 ⟨(some 41), .nilc, [(.t 40)], none, [39, 44, 45, 46, 47, 48, 49]⟩,
 ⟨(some 42), (.fa 7), [(.t 41)], none, [39, 44, 45, 46, 47, 48, 49]⟩,
 ⟨(some 43), (.load none), [(.t 42)], none, [39, 44, 45, 46, 47, 48, 49]⟩,
 ⟨(some 44), .mv, [(.t 7)], none, [39, 40, 41, 42, 43, 46, 47]⟩,
 ⟨(some 45), (.call true false false), [(.f 57), (.t 44)], none, [39, 40, 41, 42, 43, 46, 47]⟩,
 ⟨(some 46), (.fa 0), [(.t 9)], none, [39, 40, 41, 42, 43, 44, 45]⟩,
 ⟨(some 47), (.load none), [(.t 46)], none, [39, 40, 41, 42, 43, 44, 45]⟩,
 ⟨(some 48), (.bin 0 .add), [(.t 45), (.t 47)], none, [39, 40, 41, 42, 43]⟩,
 ⟨(some 49), (.bsl 1 [(.int .i64 0)] 1 [0]), [(.t 48)], none, [39, 40, 41, 42, 43]⟩,
 ⟨(some 50), (.appo 1 8), [(.t 43), (.t 49)], none, [39]⟩,
 ⟨(some 51), .nilc, [(.t 39)], none, []⟩,
 ⟨(some 52), (.fa 7), [(.t 51)], none, []⟩,
 ⟨none, (.store 1 none), [(.t 52), (.t 50)], none, []⟩] 0 [7, 20, 33, 34, 35]))))
 (.reg true [] [] [
 ⟨(some 53), (.bin 0 .add), [(.t 35), (.c (.int .i64 1))], none, []⟩,
 ⟨(some 35), .mv, [(.t 53)], none, []⟩] 0 [7, 20, 33, 34, 35]))))
def l55 : LFun := ⟨2, 55, [],
 (.seq
 (.reg false [2] [2] [
 ⟨(some 2), .box, [(.t 0)], none, []⟩,
 ⟨(some 4), .mv, [(.c .np)], none, []⟩,
 ⟨(some 5), .mv, [(.c (.int .i64 0))], none, []⟩] 0 [1, 2, 20])
 (.seq
 (.seq
 (.reg false [] [] [
 ⟨(some 10), (.load (some 6)), [(.t 2)], none, []⟩,
 ⟨(some 11), .mv, [(.t 1)], none, []⟩,
 ⟨(some 12), (.call false false false), [(.f 82), (.t 10), (.t 11)], none, []⟩,
 ⟨(some 6), .mv, [(.t 12)], none, []⟩] 0 [1, 2, 6, 20])
 (.seq
 (.reg false [] [] [
 ⟨(some 13), .mv, [(.t 6)], none, []⟩,
 ⟨(some 14), (.bin 0 .neq), [(.t 13), (.c (.int .i64 0))], none, []⟩] 0 [1, 2, 6, 14, 20])
 (.cond (.t 14)
 (.seq
 (.reg false [] [] [
 ⟨(some 15), .mv, [(.t 6)], none, []⟩,
 ⟨(some 4), .mv, [(.c .np)], none, []⟩,
 ⟨(some 5), .mv, [(.t 15)], none, []⟩] 0 [4, 5, 20])
 .ret)
 .skip)))
 (.seq
 (.reg false [16, 20] [16, 20] [
 ⟨(some 16), (.bsl 1 [(.int .i64 0)] 1 [0]), [(.c (.int .i64 0))], none, []⟩,
 ⟨(some 17), (.fa 0), [(.t 2)], none, []⟩,
 ⟨(some 18), (.load none), [(.t 17)], none, []⟩,
 ⟨(some 19), (.build [(.bool false), (.int .i64 0), (.int .i64 0), (.int .i64 0), (.int .i64 0), .nil, .nil, (.sl (some 2005000) 1 []), (.bool false)] [(7, 1), (8, 1)]), [(.t 16), (.t 18)], none, []⟩,
 ⟨(some 20), .box, [(.t 19)], none, []⟩,
 ⟨(some 7), .mv, [(.t 20)], none, []⟩] 0 [1, 2, 7, 20])
 (.seq
 (.reg false [26] [26] [
 ⟨(some 22), .mv, [(.t 7)], none, []⟩,
 ⟨(some 23), .mv, [(.t 7)], none, []⟩,
 ⟨(some 24), (.load (some 6)), [(.t 2)], none, []⟩,
 ⟨(some 25), .mv, [(.t 1)], none, []⟩,
 ⟨(some 26), (.call false false true), [(.f 83), (.t 24), (.t 25)], none, []⟩,
 ⟨(some 21), .mv, [(.t 26)], none, []⟩,
 ⟨(some 27), (.ext 0), [(.t 21)], none, []⟩,
 ⟨(some 28), (.ext 1), [(.t 21)], none, []⟩,
 ⟨(some 29), .nilc, [(.t 22)], none, []⟩,
 ⟨(some 30), (.fa 0), [(.t 29)], none, []⟩,
 ⟨none, (.store 6 none), [(.t 30), (.t 27)], none, []⟩,
 ⟨(some 31), .nilc, [(.t 23)], none, []⟩,
 ⟨(some 32), (.fa 6), [(.t 31)], none, []⟩,
 ⟨none, (.store 1 none), [(.t 32), (.t 28)], none, []⟩] 0 [1, 7, 20])
 (.seq
 (.seq
 (.reg false [] [] [
 ⟨(some 33), .mv, [(.t 1)], none, []⟩,
 ⟨(some 34), .len, [(.t 33)], none, []⟩,
 ⟨(some 35), .mv, [(.c (.int .i64 0))], none, []⟩] 0 [7, 20, 33, 34, 35])
 (.block 0
 (.loop b55_0)))
 (.seq
 (.reg false [] [] [
 ⟨(some 54), .mv, [(.t 7)], none, []⟩,
 ⟨(some 4), .mv, [(.t 54)], none, []⟩,
 ⟨(some 5), .mv, [(.c (.int .i64 0))], none, []⟩] 0 [4, 5, 20])
 .ret)))))),
 [(.t 4), (.t 5)]⟩
theorem c55 : funC Try.prog [(0, [1, 2, 20]), (1, [1, 2, 6, 20]), (2, [1, 2, 6, 14, 20]), (3, [4, 5, 20]), (4, [1, 2, 7, 20]), (5, [1, 7, 20]), (6, [7, 20, 33, 34, 35]), (7, [7, 20, 33, 34, 35, 36]), (8, [7, 9, 20, 33, 34, 35]), (9, [7, 20, 33, 34, 35]), (10, [7, 20, 33, 34, 35]), (11, [4, 5, 20])] Try.f55 = some (unF l55) := by kernel_rfl
/-- acme/die.within -/
def l56 : LFun := ⟨3, 11, [],
 (.seq
 (.reg false [3, 4] [3, 4] [
 ⟨(some 3), .box, [(.t 0)], none, []⟩,
 ⟨(some 4), .box, [(.t 1)], none, []⟩,
 ⟨(some 6), .mv, [(.c (.bool false))], none, []⟩] 0 [2, 3, 4])
 (.seq
 (.reg false [] [] [
 ⟨(some 7), .mv, [(.t 2)], none, []⟩,
 ⟨(some 8), (.mkf 84), [(.t 3), (.t 4)], none, []⟩,
 ⟨(some 9), (.call false false false), [(.f 64), (.t 7), (.t 8)], none, []⟩,
 ⟨(some 10), (.un .not), [(.t 9)], none, []⟩,
 ⟨(some 6), .mv, [(.t 10)], none, []⟩] 0 [3, 4, 6])
 .ret)),
 [(.t 6)]⟩
theorem c56 : funC Try.prog [(0, [2, 3, 4]), (1, [3, 4, 6])] Try.f56 = some (unF l56) := by kernel_rfl
/-- (*acme/die.shop).all -/
def l57 : LFun := ⟨1, 15, [],
 (.seq
 (.reg false [] [] [
 ⟨(some 2), .mv, [(.c (.int .i64 0))], none, []⟩] 0 [0])
 (.seq
 (.reg false [] [] [
 ⟨(some 3), .mv, [(.t 0)], none, [7, 8, 9, 10, 11, 12]⟩,
 ⟨(some 4), .nilc, [(.t 3)], none, [7, 8, 9, 10, 11, 12]⟩,
 ⟨(some 5), (.fa 7), [(.t 4)], none, [7, 8, 9, 10, 11, 12]⟩,
 ⟨(some 6), (.load none), [(.t 5)], none, [7, 8, 9, 10, 11, 12]⟩,
 ⟨(some 7), .mv, [(.t 0)], none, [3, 4, 5, 6]⟩,
 ⟨(some 8), .nilc, [(.t 7)], none, [3, 4, 5, 6]⟩,
 ⟨(some 9), (.fa 7), [(.t 8)], none, [3, 4, 5, 6]⟩,
 ⟨(some 10), (.load none), [(.t 9)], none, [3, 4, 5, 6]⟩,
 ⟨(some 11), .len, [(.t 10)], none, [3, 4, 5, 6]⟩,
 ⟨(some 12), (.bin 0 .sub), [(.t 11), (.c (.int .i64 1))], none, [3, 4, 5, 6]⟩,
 ⟨(some 13), (.ixs 1), [(.t 6), (.t 12)], none, []⟩,
 ⟨(some 14), (.load none), [(.t 13)], none, []⟩,
 ⟨(some 2), .mv, [(.t 14)], none, []⟩] 0 [2])
 .ret)),
 [(.t 2)]⟩
theorem c57 : funC Try.prog [(0, [0]), (1, [2])] Try.f57 = some (unF l57) := by kernel_rfl
/-- (*acme/die.shop).reach -/
def l58 : LFun := ⟨2, 13, [],
 (.seq
 (.reg false [2, 3] [2, 3] [
 ⟨(some 2), .box, [(.t 0)], none, []⟩,
 ⟨(some 3), .box, [(.t 1)], none, []⟩,
 ⟨(some 4), .mv, [(.c (.int .i64 0))], none, []⟩] 0 [2, 3])
 (.seq
 (.reg false [] [] [
 ⟨(some 5), (.load none), [(.t 3)], none, [6, 7, 8, 9, 10, 11]⟩,
 ⟨(some 6), (.load none), [(.t 2)], none, [5, 8, 10]⟩,
 ⟨(some 7), (.call true false false), [(.f 57), (.t 6)], none, [5, 8, 10]⟩,
 ⟨(some 8), (.load none), [(.t 3)], none, [5, 6, 7, 10]⟩,
 ⟨(some 9), (.bin 0 .sub), [(.t 7), (.t 8)], none, [5, 10]⟩,
 ⟨(some 10), (.mkf 86), [(.t 2), (.t 3)], none, [5, 6, 7, 8, 9]⟩,
 ⟨(some 11), (.call true false false), [(.f 85), (.t 9), (.t 10)], none, [5]⟩,
 ⟨(some 12), (.bin 0 .add), [(.t 5), (.t 11)], none, []⟩,
 ⟨(some 4), .mv, [(.t 12)], none, []⟩] 0 [2, 3, 4])
 .ret)),
 [(.t 4)]⟩
theorem c58 : funC Try.prog [(0, [2, 3]), (1, [2, 3, 4])] Try.f58 = some (unF l58) := by kernel_rfl
/-- (*acme/die.shop).steps -/
def b59_0 : LCode :=
 (.seq
 (.seq
 (.reg true [] [] [
 ⟨(some 6), .mv, [(.t 4)], none, []⟩,
 ⟨(some 7), .mv, [(.t 0)], none, []⟩,
 ⟨(some 8), (.call false false false), [(.f 57), (.t 7)], none, []⟩,
 ⟨(some 9), (.bin 0 .lss), [(.t 6), (.t 8)], none, []⟩] 0 [0, 1, 4, 9])
 (.cond (.t 9)
 .skip
 (.exit 0)))
 (.block 1
 (.seq
 (.reg true [] [] [
 ⟨(some 10), .mv, [(.t 0)], none, []⟩,
 ⟨(some 11), .mv, [(.t 4)], none, []⟩,
 ⟨(some 12), (.call false false false), [(.f 58), (.t 10), (.t 11)], none, []⟩,
 ⟨(some 5), .mv, [(.t 12)], none, []⟩] 0 [0, 1, 4, 5])
 (.seq
 (.seq
 (.reg true [] [] [
 ⟨(some 13), .mv, [(.t 1)], none, []⟩,
 ⟨(some 14), .mv, [(.t 4)], none, []⟩,
 ⟨(some 15), .mv, [(.t 5)], none, []⟩,
 ⟨(some 16), (.call false false false), [(.t 13), (.t 14), (.t 15)], none, []⟩,
 ⟨(some 17), (.un .not), [(.t 16)], none, []⟩,
 ⟨(some 18), .mv, [(.t 17)], none, []⟩,
 ⟨(some 19), .mv, [(.t 5)], (some (18, false)), []⟩,
 ⟨(some 20), .mv, [(.t 4)], (some (18, false)), []⟩,
 ⟨(some 21), (.bin 0 .eql), [(.t 19), (.t 20)], (some (18, false)), []⟩,
 ⟨(some 22), .pick, [(.t 18), (.c (.bool true)), (.t 21)], none, []⟩] 0 [0, 1, 5, 22])
 (.cond (.t 22)
 .ret
 .skip))
 (.reg true [] [] [
 ⟨(some 23), .mv, [(.t 5)], none, []⟩,
 ⟨(some 4), .mv, [(.t 23)], none, []⟩] 0 [0, 1, 4])))))
def l59 : LFun := ⟨2, 24, [],
 (.seq
 (.reg false [] [] [
 ⟨(some 4), .mv, [(.c (.int .i64 0))], none, []⟩] 0 [0, 1, 4])
 (.block 0
 (.loop b59_0))),
 []⟩
theorem c59 : funC Try.prog [(0, [0, 1, 4]), (1, [0, 1, 4, 9]), (2, [0, 1, 4, 5]), (3, [0, 1, 5, 22]), (4, [0, 1, 4])] Try.f59 = some (unF l59) := by kernel_rfl
/-- (*acme/die.shop).back -/
def l60 : LFun := ⟨2, 12, [],
 (.seq
 (.reg false [3, 4] [3, 4] [
 ⟨(some 3), .box, [(.t 1)], none, []⟩,
 ⟨(some 4), (.alloc [(.int .i64 0), (.int .i64 0)]), [], none, []⟩] 0 [0, 3, 4])
 (.seq
 (.seq
 (.reg false [] [] [
 ⟨(some 5), .mv, [(.t 0)], none, []⟩,
 ⟨(some 6), .nilc, [(.t 5)], none, []⟩,
 ⟨(some 7), (.fa 8), [(.t 6)], none, []⟩,
 ⟨(some 8), (.load none), [(.t 7)], none, []⟩] 0 [3, 4, 8])
 (.cond (.t 8)
 (.seq
 (.reg false [] [] [
 ⟨(some 9), (.load (some 2)), [(.t 3)], none, []⟩,
 ⟨(some 10), (.call false false false), [(.f 88), (.t 9)], none, []⟩,
 ⟨none, (.store 2 none), [(.t 4), (.t 10)], none, []⟩] 0 [4])
 .ret)
 .skip))
 (.seq
 (.reg false [] [] [
 ⟨(some 11), (.load (some 2)), [(.t 3)], none, []⟩,
 ⟨none, (.store 2 none), [(.t 4), (.t 11)], none, []⟩] 0 [4])
 .ret))),
 [(.c 4 (some 2))]⟩
theorem c60 : funC Try.prog [(0, [0, 3, 4]), (1, [3, 4, 8]), (2, [4]), (3, [4])] Try.f60 = some (unF l60) := by kernel_rfl
/-- (*acme/die.shop).targets -/
def b61_0w : List Nat :=
 [32, 33, 11, 12, 34, 35, 36, 37, 38, 39, 40, 41, 42, 13, 43, 44, 45, 46, 47, 48, 49, 50, 51, 52, 53, 54, 55, 56, 57, 58, 59, 60, 61, 62, 63, 64, 65, 66, 67, 14, 68, 69, 70, 71, 72, 73, 74, 75, 76, 77, 78, 79, 80, 81, 82, 83, 84, 85, 86]
def b61_0a : LCode :=
 (.seq
 (.reg true [11] [11] [
 ⟨(some 11), (.alloc [(.int .i64 0), (.int .i64 0), (.int .i64 0), (.int .i64 0)]), [], none, []⟩,
 ⟨none, (.store 4 none), [(.t 11), (.t 32)], none, []⟩] 0 [3, 6, 7, 8, 9, 10, 11, 33])
 (.reg true [] [] [
 ⟨(some 12), .mv, [(.t 33)], none, []⟩] 0 [3, 6, 7, 8, 9, 10, 11, 12]))
def b61_0 : LCode :=
 (.block 1
 (.seq
 (.reg true [13] [13] [
 ⟨(some 34), (.load none), [(.t 3)], none, [39, 40, 13]⟩,
 ⟨(some 35), .nilc, [(.t 34)], none, [39, 40, 13]⟩,
 ⟨(some 36), (.fa 0), [(.t 35)], none, [39, 40, 13]⟩,
 ⟨(some 37), (.fa 5), [(.t 36)], none, [39, 40, 13]⟩,
 ⟨(some 38), (.load none), [(.t 37)], none, [39, 40, 13]⟩,
 ⟨(some 39), (.fa 1), [(.t 11)], none, [34, 35, 36, 37, 38, 13]⟩,
 ⟨(some 40), (.load none), [(.t 39)], none, [34, 35, 36, 37, 38, 13]⟩,
 ⟨(some 41), (.ixs 2), [(.t 38), (.t 40)], none, [13]⟩,
 ⟨(some 42), (.load (some 2)), [(.t 41)], none, [13]⟩,
 ⟨(some 13), (.alloc [(.int .i64 0), (.int .i64 0)]), [], none, [34, 35, 36, 37, 38, 39, 40, 41, 42]⟩,
 ⟨none, (.store 2 (some 13)), [(.t 13), (.t 42)], none, []⟩] 0 [3, 6, 7, 8, 9, 10, 11, 12, 13])
 (.seq
 (.reg true [14] [14] [
 ⟨(some 43), (.fa 2), [(.t 11)], none, []⟩,
 ⟨(some 44), (.fa 0), [(.t 43)], none, []⟩,
 ⟨(some 45), (.load none), [(.t 44)], none, []⟩,
 ⟨(some 46), (.fa 0), [(.t 7)], none, []⟩,
 ⟨(some 47), (.load none), [(.t 46)], none, []⟩,
 ⟨(some 48), (.bin 0 .sub), [(.t 45), (.t 47)], none, []⟩,
 ⟨(some 49), (.fa 0), [(.t 9)], none, []⟩,
 ⟨(some 50), (.load none), [(.t 49)], none, []⟩,
 ⟨(some 51), (.bin 0 .sub), [(.t 48), (.t 50)], none, []⟩,
 ⟨(some 52), (.fa 2), [(.t 11)], none, []⟩,
 ⟨(some 53), (.fa 1), [(.t 52)], none, []⟩,
 ⟨(some 54), (.load none), [(.t 53)], none, []⟩,
 ⟨(some 55), (.fa 1), [(.t 7)], none, []⟩,
 ⟨(some 56), (.load none), [(.t 55)], none, []⟩,
 ⟨(some 57), (.bin 0 .sub), [(.t 54), (.t 56)], none, []⟩,
 ⟨(some 58), (.fa 1), [(.t 9)], none, []⟩,
 ⟨(some 59), (.load none), [(.t 58)], none, []⟩,
 ⟨(some 60), (.bin 0 .sub), [(.t 57), (.t 59)], none, []⟩,
 ⟨(some 61), (.fa 1), [(.t 13)], none, []⟩,
 ⟨(some 62), (.load none), [(.t 61)], none, []⟩,
 ⟨(some 63), .mv, [(.t 12)], none, []⟩,
 ⟨(some 64), (.bin 0 .sub), [(.t 63), (.c (.int .i64 1))], none, []⟩,
 ⟨(some 65), (.bin 0 .mul), [(.t 62), (.t 64)], none, []⟩,
 ⟨(some 66), (.bin 0 .sub), [(.t 60), (.t 65)], none, []⟩,
 ⟨(some 67), (.build [(.int .i64 0), (.int .i64 0)] [(0, 1), (1, 1)]), [(.t 51), (.t 66)], none, []⟩,
 ⟨(some 14), (.alloc [(.int .i64 0), (.int .i64 0)]), [], none, []⟩,
 ⟨none, (.store 2 none), [(.t 14), (.t 67)], none, []⟩] 0 [3, 6, 7, 8, 9, 10, 12, 13, 14])
 (.seq
 (.seq
 (.reg true [] [] [
 ⟨(some 68), (.load none), [(.t 10)], none, []⟩,
 ⟨(some 69), (.un .not), [(.t 68)], none, []⟩] 0 [3, 6, 7, 8, 9, 10, 12, 13, 14, 69])
 (.cond (.t 69)
 (.reg true [] [] [
 ⟨(some 70), (.load (some 2)), [(.t 14)], none, []⟩,
 ⟨none, (.store 2 none), [(.t 8), (.t 70)], none, []⟩,
 ⟨none, (.store 1 none), [(.t 10), (.c (.bool true))], none, []⟩] 0 [3, 6, 7, 8, 9, 10, 12, 13, 14])
 .skip))
 (.seq
 (.reg true [] [] [
 ⟨(some 71), (.fa 0), [(.t 8)], none, []⟩,
 ⟨(some 72), (.load none), [(.t 71)], none, []⟩,
 ⟨(some 73), (.fa 0), [(.t 14)], none, []⟩,
 ⟨(some 74), (.load none), [(.t 73)], none, []⟩,
 ⟨(some 75), .max, [(.t 72), (.t 74)], none, []⟩,
 ⟨(some 76), (.fa 1), [(.t 8)], none, []⟩,
 ⟨(some 77), (.load none), [(.t 76)], none, []⟩,
 ⟨(some 78), (.fa 1), [(.t 14)], none, []⟩,
 ⟨(some 79), (.load none), [(.t 78)], none, []⟩,
 ⟨(some 80), .min, [(.t 77), (.t 79)], none, []⟩,
 ⟨(some 81), (.build [(.int .i64 0), (.int .i64 0)] [(0, 1), (1, 1)]), [(.t 75), (.t 80)], none, []⟩,
 ⟨none, (.store 2 none), [(.t 8), (.t 81)], none, []⟩] 0 [3, 6, 7, 8, 9, 10, 12, 13])
 (.reg true [] [] [
 ⟨(some 82), (.load (some 2)), [(.t 9)], none, [83, 84, 85]⟩,
 ⟨(some 83), (.load (some 2)), [(.t 13)], none, [82, 84]⟩,
 ⟨(some 84), .mv, [(.t 12)], none, [82, 83]⟩,
 ⟨(some 85), (.call true false false), [(.f 91), (.t 83), (.t 84)], none, [82]⟩,
 ⟨(some 86), (.call false false false), [(.f 89), (.t 82), (.t 85)], none, []⟩,
 ⟨none, (.store 2 (some 9)), [(.t 9), (.t 86)], none, []⟩] 0 [3, 6, 7, 8, 9, 10]))))))
def l61 : LFun := ⟨3, 88, [],
 (.seq
 (.reg false [3, 6] [3, 6] [
 ⟨(some 3), .box, [(.t 0)], none, []⟩,
 ⟨(some 6), (.alloc [(.int .i64 0), (.int .i64 0)]), [], none, []⟩] 0 [1, 2, 3, 6])
 (.seq
 (.reg false [7] [7] [
 ⟨(some 15), (.load none), [(.t 3)], none, [20, 21, 22, 23, 24, 7]⟩,
 ⟨(some 16), .nilc, [(.t 15)], none, [20, 21, 22, 23, 24, 7]⟩,
 ⟨(some 17), (.fa 0), [(.t 16)], none, [20, 21, 22, 23, 24, 7]⟩,
 ⟨(some 18), (.fa 1), [(.t 17)], none, [20, 21, 22, 23, 24, 7]⟩,
 ⟨(some 19), (.load (some 2)), [(.t 18)], none, [20, 21, 22, 23, 24, 7]⟩,
 ⟨(some 20), (.load none), [(.t 3)], none, [15, 16, 17, 18, 19, 7]⟩,
 ⟨(some 21), .nilc, [(.t 20)], none, [15, 16, 17, 18, 19, 7]⟩,
 ⟨(some 22), (.fa 0), [(.t 21)], none, [15, 16, 17, 18, 19, 7]⟩,
 ⟨(some 23), (.fa 3), [(.t 22)], none, [15, 16, 17, 18, 19, 7]⟩,
 ⟨(some 24), (.load (some 2)), [(.t 23)], none, [15, 16, 17, 18, 19, 7]⟩,
 ⟨(some 25), (.call false false false), [(.f 89), (.t 19), (.t 24)], none, [7]⟩,
 ⟨(some 7), (.alloc [(.int .i64 0), (.int .i64 0)]), [], none, [15, 16, 17, 18, 19, 20, 21, 22, 23, 24, 25]⟩,
 ⟨none, (.store 2 (some 7)), [(.t 7), (.t 25)], none, []⟩] 0 [1, 2, 3, 6, 7])
 (.seq
 (.reg false [8, 9, 10] [8, 9, 10] [
 ⟨(some 26), (.build [(.int .i64 0), (.int .i64 0)] []), [], none, []⟩,
 ⟨(some 27), (.build [(.int .i64 0), (.int .i64 0)] []), [], none, []⟩,
 ⟨(some 8), (.alloc [(.int .i64 0), (.int .i64 0)]), [], none, []⟩,
 ⟨(some 9), (.alloc [(.int .i64 0), (.int .i64 0)]), [], none, []⟩,
 ⟨(some 10), (.alloc [(.bool false)]), [], none, []⟩,
 ⟨none, (.store 2 none), [(.t 8), (.t 26)], none, []⟩,
 ⟨none, (.store 2 none), [(.t 9), (.t 27)], none, []⟩,
 ⟨none, (.store 1 none), [(.t 10), (.c (.bool false))], none, []⟩] 0 [1, 2, 3, 6, 7, 8, 9, 10])
 (.seq
 (.seq
 (.reg false [31] [31] [
 ⟨(some 28), (.load none), [(.t 3)], none, []⟩,
 ⟨(some 29), .mv, [(.t 1)], none, []⟩,
 ⟨(some 30), .mv, [(.t 2)], none, []⟩,
 ⟨(some 31), (.call false true true), [(.f 90), (.t 28), (.t 29), (.t 30)], none, []⟩] 0 [3, 6, 7, 8, 9, 10, 31])
 (.block 0
 (.rng (.t 31) [32, 33] b61_0w b61_0a b61_0)))
 (.seq
 (.reg false [] [] [
 ⟨(some 87), (.load (some 2)), [(.t 8)], none, []⟩,
 ⟨none, (.store 2 none), [(.t 6), (.t 87)], none, []⟩] 0 [6])
 .ret))))),
 [(.c 6 (some 2))]⟩
theorem c61 : funC Try.prog [(0, [1, 2, 3, 6]), (1, [1, 2, 3, 6, 7]), (2, [1, 2, 3, 6, 7, 8, 9, 10]), (3, [3, 6, 7, 8, 9, 10, 31]), (4, [3, 6, 7, 8, 9, 10, 11, 33]), (5, [3, 6, 7, 8, 9, 10, 11, 12]), (6, [3, 6, 7, 8, 9, 10, 11, 12, 13]), (7, [3, 6, 7, 8, 9, 10, 12, 13, 14]), (8, [3, 6, 7, 8, 9, 10, 12, 13, 14, 69]), (9, [3, 6, 7, 8, 9, 10, 12, 13, 14]), (10, [3, 6, 7, 8, 9, 10, 12, 13]), (11, [3, 6, 7, 8, 9, 10]), (12, [6])] Try.f61 = some (unF l61) := by kernel_rfl
/-- acme/thread.within -/
def l62 : LFun := ⟨3, 11, [],
 (.seq
 (.reg false [3, 4] [3, 4] [
 ⟨(some 3), .box, [(.t 0)], none, []⟩,
 ⟨(some 4), .box, [(.t 1)], none, []⟩,
 ⟨(some 6), .mv, [(.c (.bool false))], none, []⟩] 0 [2, 3, 4])
 (.seq
 (.reg false [] [] [
 ⟨(some 7), .mv, [(.t 2)], none, []⟩,
 ⟨(some 8), (.mkf 92), [(.t 3), (.t 4)], none, []⟩,
 ⟨(some 9), (.call false false false), [(.f 64), (.t 7), (.t 8)], none, []⟩,
 ⟨(some 10), (.un .not), [(.t 9)], none, []⟩,
 ⟨(some 6), .mv, [(.t 10)], none, []⟩] 0 [3, 4, 6])
 .ret)),
 [(.t 6)]⟩
theorem c62 : funC Try.prog [(0, [2, 3, 4]), (1, [3, 4, 6])] Try.f62 = some (unF l62) := by kernel_rfl
/-- (acme/thread.form).width -/
def l63 : LFun := ⟨2, 15, [],
 (.seq
 (.reg false [2] [2] [
 ⟨(some 2), .box, [(.t 0)], none, []⟩,
 ⟨(some 4), .mv, [(.c (.int .i64 0))], none, []⟩] 0 [1, 2])
 (.seq
 (.reg false [] [] [
 ⟨(some 5), (.fa 0), [(.t 2)], none, [9, 10, 11, 12, 13]⟩,
 ⟨(some 6), (.fa 0), [(.t 5)], none, [9, 10, 11, 12, 13]⟩,
 ⟨(some 7), (.load none), [(.t 6)], none, [9, 10, 11, 12, 13]⟩,
 ⟨(some 8), (.bin 0 .mul), [(.c (.int .i64 1000)), (.t 7)], none, [9, 10, 11, 12, 13]⟩,
 ⟨(some 9), .mv, [(.t 1)], none, [5, 6, 7, 8, 11, 12]⟩,
 ⟨(some 10), (.bin 0 .mul), [(.c (.int .i64 2)), (.t 9)], none, [5, 6, 7, 8, 11, 12]⟩,
 ⟨(some 11), (.load (some 8)), [(.t 2)], none, [5, 6, 7, 8, 9, 10]⟩,
 ⟨(some 12), (.call true false false), [(.f 93), (.t 11)], none, [5, 6, 7, 8, 9, 10]⟩,
 ⟨(some 13), (.bin 0 .mul), [(.t 10), (.t 12)], none, [5, 6, 7, 8]⟩,
 ⟨(some 14), (.bin 0 .sub), [(.t 8), (.t 13)], none, []⟩,
 ⟨(some 4), .mv, [(.t 14)], none, []⟩] 0 [4])
 .ret)),
 [(.t 4)]⟩
theorem c63 : funC Try.prog [(0, [1, 2]), (1, [4])] Try.f63 = some (unF l63) := by kernel_rfl
/-- slices.ContainsFunc[[]int,int] -/
def l64 : LFun := ⟨2, 9, [],
 (.seq
 (.reg false [] [] [
 ⟨(some 4), .mv, [(.c (.bool false))], none, []⟩] 0 [0, 1])
 (.seq
 (.reg false [] [] [
 ⟨(some 5), .mv, [(.t 0)], none, []⟩,
 ⟨(some 6), .mv, [(.t 1)], none, []⟩,
 ⟨(some 7), (.call false false false), [(.f 77), (.t 5), (.t 6)], none, []⟩,
 ⟨(some 8), (.bin 0 .geq), [(.t 7), (.c (.int .i64 0))], none, []⟩,
 ⟨(some 4), .mv, [(.t 8)], none, []⟩] 0 [4])
 .ret)),
 [(.t 4)]⟩
theorem c64 : funC Try.prog [(0, [0, 1]), (1, [4])] Try.f64 = some (unF l64) := by kernel_rfl
/-- acme/fit.within$1 -/
def l65 : LFun := ⟨3, 13, [],
 (.seq
 (.reg false [] [] [
 ⟨(some 4), .mv, [(.c (.bool false))], none, []⟩] 0 [0, 1, 2])
 (.seq
 (.reg false [] [] [
 ⟨(some 5), .mv, [(.t 0)], none, []⟩,
 ⟨(some 6), (.load none), [(.t 1)], none, []⟩,
 ⟨(some 7), (.bin 0 .lss), [(.t 5), (.t 6)], none, []⟩,
 ⟨(some 8), .mv, [(.t 7)], none, []⟩,
 ⟨(some 9), .mv, [(.t 0)], (some (8, false)), []⟩,
 ⟨(some 10), (.load none), [(.t 2)], (some (8, false)), []⟩,
 ⟨(some 11), (.bin 0 .gtr), [(.t 9), (.t 10)], (some (8, false)), []⟩,
 ⟨(some 12), .pick, [(.t 8), (.c (.bool true)), (.t 11)], none, []⟩,
 ⟨(some 4), .mv, [(.t 12)], none, []⟩] 0 [4])
 .ret)),
 [(.t 4)]⟩
theorem c65 : funC Try.prog [(0, [0, 1, 2]), (1, [4])] Try.f65 = some (unF l65) := by kernel_rfl
/-- acme/fit.isSpan -/
def l66 : LFun := ⟨3, 22, [],
 (.seq
 (.reg false [3] [3] [
 ⟨(some 3), .box, [(.t 0)], none, []⟩,
 ⟨(some 6), .mv, [(.c (.bool false))], none, []⟩] 0 [1, 2, 3])
 (.seq
 (.reg false [19] [19] [
 ⟨(some 7), (.fa 0), [(.t 3)], none, []⟩,
 ⟨(some 8), (.load none), [(.t 7)], none, []⟩,
 ⟨(some 9), (.fa 1), [(.t 3)], none, []⟩,
 ⟨(some 10), (.load none), [(.t 9)], none, []⟩,
 ⟨(some 11), (.bin 0 .leq), [(.t 8), (.t 10)], none, []⟩,
 ⟨(some 12), .mv, [(.t 11)], none, []⟩,
 ⟨(some 13), .mv, [(.t 1)], (some (12, true)), []⟩,
 ⟨(some 14), .mv, [(.t 2)], (some (12, true)), []⟩,
 ⟨(some 15), (.fa 0), [(.t 3)], (some (12, true)), []⟩,
 ⟨(some 16), (.load none), [(.t 15)], (some (12, true)), []⟩,
 ⟨(some 17), (.fa 1), [(.t 3)], (some (12, true)), []⟩,
 ⟨(some 18), (.load none), [(.t 17)], (some (12, true)), []⟩,
 ⟨(some 19), (.bsl 1 [(.int .i64 0)] 2 [0, 1]), [(.t 16), (.t 18)], (some (12, true)), []⟩,
 ⟨(some 20), (.call false false false), [(.f 35), (.t 13), (.t 14), (.t 19)], (some (12, true)), []⟩,
 ⟨(some 21), .pick, [(.t 12), (.t 20), (.c (.bool false))], none, []⟩,
 ⟨(some 6), .mv, [(.t 21)], none, []⟩] 0 [6])
 .ret)),
 [(.t 6)]⟩
theorem c66 : funC Try.prog [(0, [1, 2, 3]), (1, [6])] Try.f66 = some (unF l66) := by kernel_rfl
/-- acme/fit.Check -/
def b67_0 : LCode :=
 (.seq
 (.reg true [] [] [
 ⟨(some 27), (.bin 0 .lss), [(.t 26), (.t 25)], none, []⟩] 0 [3, 24, 25, 26, 27])
 (.seq
 (.cond (.t 27)
 .skip
 (.exit 1))
 (.seq
 (.block 2
 (.seq
 (.reg true [5] [5] [
 ⟨(some 28), (.ixs 2), [(.t 24), (.t 26)], none, []⟩,
 ⟨(some 29), (.load (some 2)), [(.t 28)], none, []⟩,
 ⟨(some 5), (.alloc [(.int .i64 0), (.int .i64 0)]), [], none, []⟩,
 ⟨none, (.store 2 none), [(.t 5), (.t 29)], none, []⟩] 0 [3, 5, 24, 25, 26])
 (.seq
 (.seq
 (.reg true [33, 41] [33, 41] [
 ⟨(some 30), .mv, [(.t 3)], none, []⟩,
 ⟨(some 31), (.fa 0), [(.t 5)], none, []⟩,
 ⟨(some 32), (.load none), [(.t 31)], none, []⟩,
 ⟨(some 33), (.bsl 1 [(.int .i64 0)] 1 [0]), [(.t 32)], none, []⟩,
 ⟨(some 34), (.call false false false), [(.f 35), (.t 30), (.c (.int .i64 10000000)), (.t 33)], none, []⟩,
 ⟨(some 35), (.un .not), [(.t 34)], none, []⟩,
 ⟨(some 36), .mv, [(.t 35)], none, []⟩,
 ⟨(some 37), (.fa 0), [(.t 5)], (some (36, false)), []⟩,
 ⟨(some 38), (.load none), [(.t 37)], (some (36, false)), []⟩,
 ⟨(some 39), (.fa 1), [(.t 5)], (some (36, false)), []⟩,
 ⟨(some 40), (.load none), [(.t 39)], (some (36, false)), []⟩,
 ⟨(some 41), (.bsl 1 [(.int .i64 0)] 1 [0]), [(.t 40)], (some (36, false)), []⟩,
 ⟨(some 42), (.call false false false), [(.f 35), (.t 38), (.c (.int .i64 10000000)), (.t 41)], (some (36, false)), []⟩,
 ⟨(some 43), (.un .not), [(.t 42)], (some (36, false)), []⟩,
 ⟨(some 44), .pick, [(.t 36), (.c (.bool true)), (.t 43)], none, []⟩] 0 [5, 24, 25, 26, 44])
 (.cond (.t 44)
 (.seq
 (.reg true [] [] [
 ⟨(some 2), .mv, [(.c (.int .i64 2))], none, []⟩] 0 [2])
 .ret)
 .skip))
 (.reg true [] [] [
 ⟨(some 45), (.fa 1), [(.t 5)], none, []⟩,
 ⟨(some 46), (.load none), [(.t 45)], none, []⟩,
 ⟨(some 3), .mv, [(.t 46)], none, []⟩] 0 [3, 24, 25, 26]))))
 (.reg true [] [] [
 ⟨(some 47), (.bin 0 .add), [(.t 26), (.c (.int .i64 1))], none, []⟩,
 ⟨(some 26), .mv, [(.t 47)], none, []⟩] 0 [3, 24, 25, 26]))))
def l67 : LFun := ⟨1, 48, [],
 (.seq
 (.reg false [1] [1] [
 ⟨(some 1), .box, [(.t 0)], none, []⟩,
 ⟨(some 2), .mv, [(.c (.int .i64 0))], none, []⟩] 0 [1])
 (.seq
 (.block 0
 (.seq
 (.reg false [] [] [
 ⟨(some 7), (.fa 0), [(.t 1)], none, []⟩,
 ⟨(some 8), (.load none), [(.t 7)], none, []⟩,
 ⟨(some 9), .len, [(.t 8)], none, []⟩,
 ⟨(some 10), (.bin 0 .gtr), [(.t 9), (.c (.int .i64 60))], none, []⟩,
 ⟨(some 6), .mv, [(.t 10)], none, []⟩] 0 [1, 6])
 (.cond (.t 6)
 (.seq
 (.reg false [] [] [
 ⟨(some 2), .mv, [(.c (.int .i64 5))], none, []⟩] 0 [2])
 .ret)
 (.seq
 (.seq
 (.reg false [] [] [
 ⟨(some 12), (.fa 0), [(.t 1)], none, []⟩,
 ⟨(some 13), (.load none), [(.t 12)], none, []⟩,
 ⟨(some 14), .len, [(.t 13)], none, []⟩,
 ⟨(some 15), (.bin 0 .eql), [(.t 14), (.c (.int .i64 0))], none, []⟩,
 ⟨(some 11), .mv, [(.t 15)], none, []⟩] 0 [1, 11])
 (.cond (.t 11)
 .skip
 (.reg false [20] [20] [
 ⟨(some 16), (.fa 1), [(.t 1)], none, []⟩,
 ⟨(some 17), (.load none), [(.t 16)], none, []⟩,
 ⟨(some 18), (.fa 2), [(.t 1)], none, []⟩,
 ⟨(some 19), (.load none), [(.t 18)], none, []⟩,
 ⟨(some 20), (.bsl 1 [(.int .i64 0)] 2 [0, 1]), [(.t 17), (.t 19)], none, []⟩,
 ⟨(some 21), (.call false false false), [(.f 35), (.c (.int .i64 0)), (.c (.int .i64 3000)), (.t 20)], none, []⟩,
 ⟨(some 22), (.un .not), [(.t 21)], none, []⟩,
 ⟨(some 11), .mv, [(.t 22)], none, []⟩] 0 [1, 11])))
 (.cond (.t 11)
 (.seq
 (.reg false [] [] [
 ⟨(some 2), .mv, [(.c (.int .i64 2))], none, []⟩] 0 [2])
 .ret)
 .skip)))))
 (.seq
 (.reg false [] [] [
 ⟨(some 3), .mv, [(.c (.int .i64 (-10000000)))], none, []⟩] 0 [1, 3])
 (.seq
 (.seq
 (.reg false [] [] [
 ⟨(some 23), (.fa 0), [(.t 1)], none, []⟩,
 ⟨(some 24), (.load none), [(.t 23)], none, []⟩,
 ⟨(some 25), .len, [(.t 24)], none, []⟩,
 ⟨(some 26), .mv, [(.c (.int .i64 0))], none, []⟩] 0 [3, 24, 25, 26])
 (.block 1
 (.loop b67_0)))
 (.seq
 (.reg false [] [] [
 ⟨(some 2), .mv, [(.c (.int .i64 0))], none, []⟩] 0 [2])
 .ret))))),
 [(.t 2)]⟩
theorem c67 : funC Try.prog [(0, [1]), (1, [1, 6]), (2, [2]), (3, [1, 11]), (4, [1, 11]), (5, [2]), (6, [1, 3]), (7, [3, 24, 25, 26]), (8, [3, 24, 25, 26, 27]), (9, [3, 5, 24, 25, 26]), (10, [5, 24, 25, 26, 44]), (11, [2]), (12, [3, 24, 25, 26]), (13, [3, 24, 25, 26]), (14, [2])] Try.f67 = some (unF l67) := by kernel_rfl
/-- (acme/fit.ideal).flanks -/
def l68 : LFun := ⟨2, 6, [],
 (.seq
 (.reg false [2, 3] [2, 3] [
 ⟨(some 2), .box, [(.t 0)], none, []⟩,
 ⟨(some 3), .box, [(.t 1)], none, []⟩,
 ⟨(some 4), .mv, [(.c .dead)], none, []⟩] 0 [2, 3])
 (.seq
 (.reg false [] [] [
 ⟨(some 5), (.mkf 94), [(.t 3), (.t 2)], none, []⟩,
 ⟨(some 4), .mv, [(.t 5)], none, []⟩] 0 [2, 3, 4])
 .ret)),
 [(.t 4)]⟩
theorem c68 : funC Try.prog [(0, [2, 3]), (1, [2, 3, 4])] Try.f68 = some (unF l68) := by kernel_rfl
/-- (acme/fit.heights).most -/
def l69 : LFun := ⟨2, 16, [],
 (.seq
 (.reg false [2] [2] [
 ⟨(some 2), .box, [(.t 0)], none, []⟩,
 ⟨(some 4), .mv, [(.c (.int .i64 0))], none, []⟩] 0 [1, 2])
 (.seq
 (.reg false [] [] [
 ⟨(some 5), (.fa 0), [(.t 2)], none, []⟩,
 ⟨(some 6), (.fa 0), [(.t 5)], none, []⟩,
 ⟨(some 7), (.load none), [(.t 6)], none, []⟩,
 ⟨(some 8), .mv, [(.t 1)], none, []⟩,
 ⟨(some 9), (.bin 0 .mul), [(.t 7), (.t 8)], none, []⟩,
 ⟨(some 10), (.fa 0), [(.t 2)], none, []⟩,
 ⟨(some 11), (.fa 1), [(.t 10)], none, []⟩,
 ⟨(some 12), (.load none), [(.t 11)], none, []⟩,
 ⟨(some 13), .mv, [(.t 1)], none, []⟩,
 ⟨(some 14), (.bin 0 .mul), [(.t 12), (.t 13)], none, []⟩,
 ⟨(some 15), .max, [(.t 9), (.t 14)], none, []⟩,
 ⟨(some 4), .mv, [(.t 15)], none, []⟩] 0 [4])
 .ret)),
 [(.t 4)]⟩
theorem c69 : funC Try.prog [(0, [1, 2]), (1, [4])] Try.f69 = some (unF l69) := by kernel_rfl
/-- slices.Max[[]int,int] -/
def b70_0 : LCode :=
 (.seq
 (.seq
 (.reg true [] [] [
 ⟨(some 12), .mv, [(.t 4)], none, []⟩,
 ⟨(some 13), .mv, [(.t 0)], none, []⟩,
 ⟨(some 14), .len, [(.t 13)], none, []⟩,
 ⟨(some 15), (.bin 0 .lss), [(.t 12), (.t 14)], none, []⟩] 0 [0, 3, 4, 15])
 (.cond (.t 15)
 .skip
 (.exit 0)))
 (.seq
 (.block 1
 (.reg true [] [] [
 ⟨(some 18), .mv, [(.t 3)], none, []⟩,
 ⟨(some 19), .mv, [(.t 0)], none, []⟩,
 ⟨(some 20), .mv, [(.t 4)], none, []⟩,
 ⟨(some 21), (.ixs 1), [(.t 19), (.t 20)], none, []⟩,
 ⟨(some 22), (.load none), [(.t 21)], none, []⟩,
 ⟨(some 23), .max, [(.t 18), (.t 22)], none, []⟩,
 ⟨(some 3), .mv, [(.t 23)], none, []⟩] 0 [0, 3, 4]))
 (.reg true [] [] [
 ⟨(some 16), .mv, [(.t 4)], none, []⟩,
 ⟨(some 17), (.bin 0 .add), [(.t 16), (.c (.int .i64 1))], none, []⟩,
 ⟨(some 4), .mv, [(.t 17)], none, []⟩] 0 [0, 3, 4])))
def l70 : LFun := ⟨1, 25, [],
 (.seq
 (.reg false [] [] [
 ⟨(some 2), .mv, [(.c (.int .i64 0))], none, []⟩] 0 [0])
 (.seq
 (.seq
 (.reg false [] [] [
 ⟨(some 5), .mv, [(.t 0)], none, []⟩,
 ⟨(some 6), .len, [(.t 5)], none, []⟩,
 ⟨(some 7), (.bin 0 .lss), [(.t 6), (.c (.int .i64 1))], none, []⟩] 0 [0, 7])
 (.cond (.t 7)
 (.reg false [] [] [
 ⟨none, .bad, [], none, []⟩,
 ⟨none, .bad, [], none, []⟩] 0 [0])
 .skip))
 (.seq
 (.reg false [] [] [
 ⟨(some 9), .mv, [(.t 0)], none, []⟩,
 ⟨(some 10), (.ixs 1), [(.t 9), (.c (.int .i64 0))], none, []⟩,
 ⟨(some 11), (.load none), [(.t 10)], none, []⟩,
 ⟨(some 3), .mv, [(.t 11)], none, []⟩] 0 [0, 3])
 (.seq
 (.seq
 (.reg false [] [] [
 ⟨(some 4), .mv, [(.c (.int .i64 1))], none, []⟩] 0 [0, 3, 4])
 (.block 0
 (.loop b70_0)))
 (.seq
 (.reg false [] [] [
 ⟨(some 24), .mv, [(.t 3)], none, []⟩,
 ⟨(some 2), .mv, [(.t 24)], none, []⟩] 0 [2])
 .ret))))),
 [(.t 2)]⟩
theorem c70 : funC Try.prog [(0, [0]), (1, [0, 7]), (2, [0]), (3, [0, 3]), (4, [0, 3, 4]), (5, [0, 3, 4, 15]), (6, [0, 3, 4]), (7, [0, 3, 4]), (8, [2])] Try.f70 = some (unF l70) := by kernel_rfl
/-- (acme/fit.heights).needs -/
def l71 : LFun := ⟨5, 40, [],
 (.seq
 (.reg false [5, 6, 7, 8, 9, 10] [5, 6, 7, 8, 9, 10] [
 ⟨(some 5), .box, [(.t 0)], none, []⟩,
 ⟨(some 6), .box, [(.t 1)], none, []⟩,
 ⟨(some 7), .box, [(.t 2)], none, []⟩,
 ⟨(some 8), .box, [(.t 3)], none, []⟩,
 ⟨(some 9), .box, [(.t 4)], none, []⟩,
 ⟨(some 10), (.alloc [(.int .i64 0), (.int .i64 0)]), [], none, []⟩] 0 [5, 6, 7, 8, 9, 10])
 (.seq
 (.reg false [] [] [
 ⟨(some 11), (.fa 0), [(.t 7)], none, [13, 14, 17, 18, 19, 20, 21, 22, 23, 25, 26, 27, 28, 29, 30, 31, 32, 33, 34, 35, 36, 37, 38]⟩,
 ⟨(some 12), (.load none), [(.t 11)], none, [13, 14, 17, 18, 19, 20, 21, 22, 23, 25, 26, 27, 28, 29, 30, 31, 32, 33, 34, 35, 36, 37, 38]⟩,
 ⟨(some 13), (.fa 0), [(.t 6)], none, [11, 12, 17, 18, 19, 20, 21, 22, 23, 25, 26, 27, 28, 29, 30, 31, 32, 33, 34, 35, 36, 37, 38]⟩,
 ⟨(some 14), (.load none), [(.t 13)], none, [11, 12, 17, 18, 19, 20, 21, 22, 23, 25, 26, 27, 28, 29, 30, 31, 32, 33, 34, 35, 36, 37, 38]⟩,
 ⟨(some 15), (.bin 0 .sub), [(.t 12), (.t 14)], none, [17, 18, 19, 20, 21, 22, 23, 25, 26, 27, 28, 29, 30, 31, 32, 33, 34, 35, 36, 37, 38]⟩,
 ⟨(some 16), (.bin 0 .mul), [(.c (.int .i64 1000)), (.t 15)], none, [17, 18, 19, 20, 21, 22, 23, 25, 26, 27, 28, 29, 30, 31, 32, 33, 34, 35, 36, 37, 38]⟩,
 ⟨(some 17), (.load (some 2)), [(.t 5)], none, [11, 12, 13, 14, 15, 16, 18, 19, 20, 21, 22, 25, 26, 27, 28, 29, 30, 31, 32, 33, 34, 35, 36]⟩,
 ⟨(some 18), (.fa 1), [(.t 9)], none, [11, 12, 13, 14, 15, 16, 17, 20, 21, 25, 26, 27, 28, 29, 30, 31, 32, 33, 34, 35, 36]⟩,
 ⟨(some 19), (.load none), [(.t 18)], none, [11, 12, 13, 14, 15, 16, 17, 20, 21, 25, 26, 27, 28, 29, 30, 31, 32, 33, 34, 35, 36]⟩,
 ⟨(some 20), (.fa 1), [(.t 8)], none, [11, 12, 13, 14, 15, 16, 17, 18, 19, 25, 26, 27, 28, 29, 30, 31, 32, 33, 34, 35, 36]⟩,
 ⟨(some 21), (.load none), [(.t 20)], none, [11, 12, 13, 14, 15, 16, 17, 18, 19, 25, 26, 27, 28, 29, 30, 31, 32, 33, 34, 35, 36]⟩,
 ⟨(some 22), (.bin 0 .sub), [(.t 19), (.t 21)], none, [11, 12, 13, 14, 15, 16, 17, 25, 26, 27, 28, 29, 30, 31, 32, 33, 34, 35, 36]⟩,
 ⟨(some 23), (.call true false false), [(.f 69), (.t 17), (.t 22)], none, [11, 12, 13, 14, 15, 16, 25, 26, 27, 28, 29, 30, 31, 32, 33, 34, 35, 36]⟩,
 ⟨(some 24), (.bin 0 .add), [(.t 16), (.t 23)], none, [25, 26, 27, 28, 29, 30, 31, 32, 33, 34, 35, 36, 37, 38]⟩,
 ⟨(some 25), (.fa 1), [(.t 7)], none, [11, 12, 13, 14, 15, 16, 17, 18, 19, 20, 21, 22, 23, 24, 27, 28, 31, 32, 33, 34, 35, 36, 37]⟩,
 ⟨(some 26), (.load none), [(.t 25)], none, [11, 12, 13, 14, 15, 16, 17, 18, 19, 20, 21, 22, 23, 24, 27, 28, 31, 32, 33, 34, 35, 36, 37]⟩,
 ⟨(some 27), (.fa 1), [(.t 6)], none, [11, 12, 13, 14, 15, 16, 17, 18, 19, 20, 21, 22, 23, 24, 25, 26, 31, 32, 33, 34, 35, 36, 37]⟩,
 ⟨(some 28), (.load none), [(.t 27)], none, [11, 12, 13, 14, 15, 16, 17, 18, 19, 20, 21, 22, 23, 24, 25, 26, 31, 32, 33, 34, 35, 36, 37]⟩,
 ⟨(some 29), (.bin 0 .sub), [(.t 26), (.t 28)], none, [11, 12, 13, 14, 15, 16, 17, 18, 19, 20, 21, 22, 23, 24, 31, 32, 33, 34, 35, 36, 37]⟩,
 ⟨(some 30), (.bin 0 .mul), [(.c (.int .i64 1000)), (.t 29)], none, [11, 12, 13, 14, 15, 16, 17, 18, 19, 20, 21, 22, 23, 24, 31, 32, 33, 34, 35, 36, 37]⟩,
 ⟨(some 31), (.load (some 2)), [(.t 5)], none, [11, 12, 13, 14, 15, 16, 17, 18, 19, 20, 21, 22, 23, 24, 25, 26, 27, 28, 29, 30, 32, 33, 34, 35, 36]⟩,
 ⟨(some 32), (.fa 2), [(.t 9)], none, [11, 12, 13, 14, 15, 16, 17, 18, 19, 20, 21, 22, 23, 24, 25, 26, 27, 28, 29, 30, 31, 34, 35]⟩,
 ⟨(some 33), (.load none), [(.t 32)], none, [11, 12, 13, 14, 15, 16, 17, 18, 19, 20, 21, 22, 23, 24, 25, 26, 27, 28, 29, 30, 31, 34, 35]⟩,
 ⟨(some 34), (.fa 2), [(.t 8)], none, [11, 12, 13, 14, 15, 16, 17, 18, 19, 20, 21, 22, 23, 24, 25, 26, 27, 28, 29, 30, 31, 32, 33]⟩,
 ⟨(some 35), (.load none), [(.t 34)], none, [11, 12, 13, 14, 15, 16, 17, 18, 19, 20, 21, 22, 23, 24, 25, 26, 27, 28, 29, 30, 31, 32, 33]⟩,
 ⟨(some 36), (.bin 0 .sub), [(.t 33), (.t 35)], none, [11, 12, 13, 14, 15, 16, 17, 18, 19, 20, 21, 22, 23, 24, 25, 26, 27, 28, 29, 30, 31]⟩,
 ⟨(some 37), (.call true false false), [(.f 69), (.t 31), (.t 36)], none, [11, 12, 13, 14, 15, 16, 24, 25, 26, 27, 28, 29, 30]⟩,
 ⟨(some 38), (.bin 0 .sub), [(.t 30), (.t 37)], none, [11, 12, 13, 14, 15, 16, 24]⟩,
 ⟨(some 39), (.build [(.int .i64 0), (.int .i64 0)] [(0, 1), (1, 1)]), [(.t 24), (.t 38)], none, []⟩,
 ⟨none, (.store 2 (some 10)), [(.t 10), (.t 39)], none, []⟩] 0 [10])
 .ret)),
 [(.c 10 (some 2))]⟩
theorem c71 : funC Try.prog [(0, [5, 6, 7, 8, 9, 10]), (1, [10])] Try.f71 = some (unF l71) := by kernel_rfl
/-- slices.Concat[[]int,int] -/
def b76_0 : LCode :=
 (.seq
 (.reg true [] [] [
 ⟨(some 12), (.bin 0 .lss), [(.t 11), (.t 10)], none, []⟩] 0 [0, 3, 9, 10, 11, 12])
 (.seq
 (.cond (.t 12)
 .skip
 (.exit 0))
 (.seq
 (.block 1
 (.seq
 (.reg true [] [] [
 ⟨(some 13), (.ixs 1), [(.t 9), (.t 11)], none, []⟩,
 ⟨(some 14), (.load none), [(.t 13)], none, []⟩,
 ⟨(some 5), .mv, [(.t 14)], none, []⟩] 0 [0, 3, 5, 9, 10, 11])
 (.seq
 (.reg true [] [] [
 ⟨(some 15), .mv, [(.t 3)], none, []⟩,
 ⟨(some 16), .mv, [(.t 5)], none, []⟩,
 ⟨(some 17), .len, [(.t 16)], none, []⟩,
 ⟨(some 18), (.bin 0 .add), [(.t 15), (.t 17)], none, []⟩,
 ⟨(some 3), .mv, [(.t 18)], none, []⟩] 0 [0, 3, 9, 10, 11])
 (.seq
 (.reg true [] [] [
 ⟨(some 19), .mv, [(.t 3)], none, []⟩,
 ⟨(some 20), (.bin 0 .lss), [(.t 19), (.c (.int .i64 0))], none, []⟩] 0 [0, 3, 9, 10, 11, 20])
 (.cond (.t 20)
 (.reg true [] [] [
 ⟨none, .bad, [], none, []⟩,
 ⟨none, .bad, [], none, []⟩] 0 [0, 3, 9, 10, 11])
 .skip)))))
 (.reg true [] [] [
 ⟨(some 22), (.bin 0 .add), [(.t 11), (.c (.int .i64 1))], none, []⟩,
 ⟨(some 11), .mv, [(.t 22)], none, []⟩] 0 [0, 3, 9, 10, 11]))))
def b76_1 : LCode :=
 (.seq
 (.reg true [] [] [
 ⟨(some 28), (.bin 0 .lss), [(.t 27), (.t 26)], none, []⟩] 0 [6, 25, 26, 27, 28])
 (.seq
 (.cond (.t 28)
 .skip
 (.exit 2))
 (.seq
 (.block 3
 (.seq
 (.reg true [] [] [
 ⟨(some 29), (.ixs 1), [(.t 25), (.t 27)], none, []⟩,
 ⟨(some 30), (.load none), [(.t 29)], none, []⟩,
 ⟨(some 8), .mv, [(.t 30)], none, []⟩] 0 [6, 8, 25, 26, 27])
 (.reg true [33] [] [
 ⟨(some 31), .mv, [(.t 6)], none, []⟩,
 ⟨(some 32), .mv, [(.t 8)], none, []⟩,
 ⟨(some 33), (.append false 1 8), [(.t 31), (.t 32)], none, []⟩,
 ⟨(some 6), .mv, [(.t 33)], none, []⟩] 0 [6, 25, 26, 27])))
 (.reg true [] [] [
 ⟨(some 34), (.bin 0 .add), [(.t 27), (.c (.int .i64 1))], none, []⟩,
 ⟨(some 27), .mv, [(.t 34)], none, []⟩] 0 [6, 25, 26, 27]))))
def l76 : LFun := ⟨1, 36, [],
 (.seq
 (.reg false [] [] [
 ⟨(some 2), .mv, [(.c .nil)], none, []⟩] 0 [0])
 (.seq
 (.reg false [] [] [
 ⟨(some 3), .mv, [(.c (.int .i64 0))], none, []⟩] 0 [0, 3])
 (.seq
 (.seq
 (.reg false [] [] [
 ⟨(some 9), .mv, [(.t 0)], none, []⟩,
 ⟨(some 10), .len, [(.t 9)], none, []⟩,
 ⟨(some 11), .mv, [(.c (.int .i64 0))], none, []⟩] 0 [0, 3, 9, 10, 11])
 (.block 0
 (.loop b76_0)))
 (.seq
 (.reg false [24] [24] [
 ⟨(some 23), .mv, [(.t 3)], none, []⟩,
 ⟨(some 24), (.call false false true), [(.f 96), (.c .nil), (.t 23)], none, []⟩,
 ⟨(some 6), .mv, [(.t 24)], none, []⟩] 0 [0, 6])
 (.seq
 (.seq
 (.reg false [] [] [
 ⟨(some 25), .mv, [(.t 0)], none, []⟩,
 ⟨(some 26), .len, [(.t 25)], none, []⟩,
 ⟨(some 27), .mv, [(.c (.int .i64 0))], none, []⟩] 0 [6, 25, 26, 27])
 (.block 2
 (.loop b76_1)))
 (.seq
 (.reg false [] [] [
 ⟨(some 35), .mv, [(.t 6)], none, []⟩,
 ⟨(some 2), .mv, [(.t 35)], none, []⟩] 0 [2])
 .ret)))))),
 [(.t 2)]⟩
theorem c76 : funC Try.prog [(0, [0]), (1, [0, 3]), (2, [0, 3, 9, 10, 11]), (3, [0, 3, 9, 10, 11, 12]), (4, [0, 3, 5, 9, 10, 11]), (5, [0, 3, 9, 10, 11]), (6, [0, 3, 9, 10, 11, 20]), (7, [0, 3, 9, 10, 11]), (8, [0, 3, 9, 10, 11]), (9, [0, 6]), (10, [6, 25, 26, 27]), (11, [6, 25, 26, 27, 28]), (12, [6, 8, 25, 26, 27]), (13, [6, 25, 26, 27]), (14, [6, 25, 26, 27]), (15, [2])] Try.f76 = some (unF l76) := by kernel_rfl
/-- slices.IndexFunc[[]int,int] -/
def b77_0 : LCode :=
 (.seq
 (.reg true [] [] [
 ⟨(some 9), (.bin 0 .lss), [(.t 8), (.t 7)], none, []⟩] 0 [0, 1, 7, 8, 9])
 (.seq
 (.cond (.t 9)
 .skip
 (.exit 0))
 (.seq
 (.block 1
 (.seq
 (.reg true [] [] [
 ⟨(some 10), .mv, [(.t 8)], none, []⟩,
 ⟨(some 5), .mv, [(.t 10)], none, []⟩] 0 [0, 1, 5, 7, 8])
 (.seq
 (.reg true [] [] [
 ⟨(some 11), .mv, [(.t 1)], none, []⟩,
 ⟨(some 12), .mv, [(.t 0)], none, []⟩,
 ⟨(some 13), .mv, [(.t 5)], none, []⟩,
 ⟨(some 14), (.ixs 1), [(.t 12), (.t 13)], none, []⟩,
 ⟨(some 15), (.load none), [(.t 14)], none, []⟩,
 ⟨(some 16), (.call false false false), [(.t 11), (.t 15)], none, []⟩] 0 [0, 1, 5, 7, 8, 16])
 (.cond (.t 16)
 (.seq
 (.reg true [] [] [
 ⟨(some 17), .mv, [(.t 5)], none, []⟩,
 ⟨(some 4), .mv, [(.t 17)], none, []⟩] 0 [4])
 .ret)
 .skip))))
 (.reg true [] [] [
 ⟨(some 18), (.bin 0 .add), [(.t 8), (.c (.int .i64 1))], none, []⟩,
 ⟨(some 8), .mv, [(.t 18)], none, []⟩] 0 [0, 1, 7, 8]))))
def l77 : LFun := ⟨2, 19, [],
 (.seq
 (.reg false [] [] [
 ⟨(some 4), .mv, [(.c (.int .i64 0))], none, []⟩] 0 [0, 1])
 (.seq
 (.seq
 (.reg false [] [] [
 ⟨(some 6), .mv, [(.t 0)], none, []⟩,
 ⟨(some 7), .len, [(.t 6)], none, []⟩,
 ⟨(some 8), .mv, [(.c (.int .i64 0))], none, []⟩] 0 [0, 1, 7, 8])
 (.block 0
 (.loop b77_0)))
 (.seq
 (.reg false [] [] [
 ⟨(some 4), .mv, [(.c (.int .i64 (-1)))], none, []⟩] 0 [4])
 .ret))),
 [(.t 4)]⟩
theorem c77 : funC Try.prog [(0, [0, 1]), (1, [0, 1, 7, 8]), (2, [0, 1, 7, 8, 9]), (3, [0, 1, 5, 7, 8]), (4, [0, 1, 5, 7, 8, 16]), (5, [4]), (6, [0, 1, 7, 8]), (7, [4])] Try.f77 = some (unF l77) := by kernel_rfl
/-- acme/die.Check -/
def b82_0 : LCode :=
 (.seq
 (.reg true [] [] [
 ⟨(some 24), (.bin 0 .lss), [(.t 23), (.t 22)], none, []⟩] 0 [1, 2, 21, 22, 23, 24])
 (.seq
 (.cond (.t 24)
 .skip
 (.exit 1))
 (.seq
 (.block 2
 (.seq
 (.reg true [7] [7] [
 ⟨(some 25), (.ixs 4), [(.t 21), (.t 23)], none, []⟩,
 ⟨(some 26), (.load (some 4)), [(.t 25)], none, []⟩,
 ⟨(some 7), (.alloc [(.int .i64 0), (.int .i64 0), (.int .i64 0), (.int .i64 0)]), [], none, []⟩,
 ⟨none, (.store 4 none), [(.t 7), (.t 26)], none, []⟩] 0 [1, 2, 7, 21, 22, 23])
 (.seq
 (.seq
 (.reg true [29] [29] [
 ⟨(some 27), (.fa 0), [(.t 7)], none, []⟩,
 ⟨(some 28), (.load none), [(.t 27)], none, []⟩,
 ⟨(some 29), (.bsl 1 [(.int .i64 0)] 1 [0]), [(.t 28)], none, []⟩,
 ⟨(some 30), (.call false false false), [(.f 56), (.c (.int .i64 1)), (.c (.int .i64 10000)), (.t 29)], none, []⟩,
 ⟨(some 31), (.un .not), [(.t 30)], none, []⟩,
 ⟨(some 32), .mv, [(.t 31)], none, []⟩,
 ⟨(some 33), (.fa 2), [(.t 7)], (some (32, false)), []⟩,
 ⟨(some 34), (.load (some 2)), [(.t 33)], (some (32, false)), []⟩,
 ⟨(some 35), (.call false false false), [(.f 98), (.t 34)], (some (32, false)), []⟩,
 ⟨(some 36), (.un .not), [(.t 35)], (some (32, false)), []⟩,
 ⟨(some 37), .pick, [(.t 32), (.c (.bool true)), (.t 36)], none, []⟩] 0 [1, 2, 7, 21, 22, 23, 37])
 (.cond (.t 37)
 (.seq
 (.reg true [] [] [
 ⟨(some 4), .mv, [(.c (.int .i64 2))], none, []⟩] 0 [4])
 .ret)
 .skip))
 (.seq
 (.reg true [] [] [
 ⟨(some 38), (.load (some 6)), [(.t 2)], none, []⟩,
 ⟨(some 39), (.fa 1), [(.t 7)], none, []⟩,
 ⟨(some 40), (.load none), [(.t 39)], none, []⟩,
 ⟨(some 41), (.call false false false), [(.f 99), (.t 38), (.t 40)], none, []⟩,
 ⟨(some 8), .mv, [(.t 41)], none, []⟩] 0 [1, 2, 8, 21, 22, 23])
 (.seq
 (.reg true [] [] [
 ⟨(some 42), .mv, [(.t 8)], none, []⟩,
 ⟨(some 43), (.bin 0 .neq), [(.t 42), (.c (.int .i64 0))], none, []⟩] 0 [1, 2, 8, 21, 22, 23, 43])
 (.cond (.t 43)
 (.seq
 (.reg true [] [] [
 ⟨(some 44), .mv, [(.t 8)], none, []⟩,
 ⟨(some 4), .mv, [(.t 44)], none, []⟩] 0 [4])
 .ret)
 .skip))))))
 (.reg true [] [] [
 ⟨(some 45), (.bin 0 .add), [(.t 23), (.c (.int .i64 1))], none, []⟩,
 ⟨(some 23), .mv, [(.t 45)], none, []⟩] 0 [1, 2, 21, 22, 23]))))
def l82 : LFun := ⟨2, 49, [],
 (.seq
 (.reg false [2] [2] [
 ⟨(some 2), .box, [(.t 0)], none, []⟩,
 ⟨(some 4), .mv, [(.c (.int .i64 0))], none, []⟩] 0 [1, 2])
 (.seq
 (.reg false [] [] [
 ⟨(some 9), (.load (some 6)), [(.t 2)], none, []⟩,
 ⟨(some 10), (.call false false false), [(.f 97), (.t 9)], none, []⟩,
 ⟨(some 5), .mv, [(.t 10)], none, []⟩] 0 [1, 2, 5])
 (.seq
 (.block 0
 (.seq
 (.seq
 (.reg false [] [] [
 ⟨(some 12), .mv, [(.t 5)], none, []⟩,
 ⟨(some 13), (.bin 0 .eql), [(.t 12), (.c (.int .i64 5))], none, []⟩,
 ⟨(some 11), .mv, [(.t 13)], none, []⟩] 0 [1, 2, 5, 11])
 (.cond (.t 11)
 .skip
 (.reg false [] [] [
 ⟨(some 14), .mv, [(.t 1)], none, []⟩,
 ⟨(some 15), .len, [(.t 14)], none, []⟩,
 ⟨(some 16), (.bin 0 .gtr), [(.t 15), (.c (.int .i64 40))], none, []⟩,
 ⟨(some 11), .mv, [(.t 16)], none, []⟩] 0 [1, 2, 5, 11])))
 (.cond (.t 11)
 (.seq
 (.reg false [] [] [
 ⟨(some 4), .mv, [(.c (.int .i64 5))], none, []⟩] 0 [4])
 .ret)
 (.seq
 (.reg false [] [] [
 ⟨(some 18), .mv, [(.t 5)], none, []⟩,
 ⟨(some 19), (.bin 0 .neq), [(.t 18), (.c (.int .i64 0))], none, []⟩,
 ⟨(some 17), .mv, [(.t 19)], none, []⟩] 0 [1, 2, 5, 17])
 (.cond (.t 17)
 (.seq
 (.reg false [] [] [
 ⟨(some 20), .mv, [(.t 5)], none, []⟩,
 ⟨(some 4), .mv, [(.t 20)], none, []⟩] 0 [4])
 .ret)
 .skip)))))
 (.seq
 (.seq
 (.reg false [] [] [
 ⟨(some 21), .mv, [(.t 1)], none, []⟩,
 ⟨(some 22), .len, [(.t 21)], none, []⟩,
 ⟨(some 23), .mv, [(.c (.int .i64 0))], none, []⟩] 0 [1, 2, 21, 22, 23])
 (.block 1
 (.loop b82_0)))
 (.seq
 (.seq
 (.reg false [] [] [
 ⟨(some 46), .mv, [(.t 1)], none, []⟩,
 ⟨(some 47), .len, [(.t 46)], none, []⟩,
 ⟨(some 48), (.bin 0 .eql), [(.t 47), (.c (.int .i64 0))], none, []⟩] 0 [48])
 (.cond (.t 48)
 (.seq
 (.reg false [] [] [
 ⟨(some 4), .mv, [(.c (.int .i64 2))], none, []⟩] 0 [4])
 .ret)
 .skip))
 (.seq
 (.reg false [] [] [
 ⟨(some 4), .mv, [(.c (.int .i64 0))], none, []⟩] 0 [4])
 .ret)))))),
 [(.t 4)]⟩
theorem c82 : funC Try.prog [(0, [1, 2]), (1, [1, 2, 5]), (2, [1, 2, 5, 11]), (3, [1, 2, 5, 11]), (4, [4]), (5, [1, 2, 5, 17]), (6, [4]), (7, [1, 2, 21, 22, 23]), (8, [1, 2, 21, 22, 23, 24]), (9, [1, 2, 7, 21, 22, 23]), (10, [1, 2, 7, 21, 22, 23, 37]), (11, [4]), (12, [1, 2, 8, 21, 22, 23]), (13, [1, 2, 8, 21, 22, 23, 43]), (14, [4]), (15, [1, 2, 21, 22, 23]), (16, [48]), (17, [4]), (18, [4])] Try.f82 = some (unF l82) := by kernel_rfl
/-- acme/die.up -/
def b83_0 : LCode :=
 (.seq
 (.reg true [] [] [
 ⟨(some 17), (.bin 0 .lss), [(.t 16), (.t 15)], none, []⟩] 0 [2, 4, 6, 14, 15, 16, 17])
 (.seq
 (.cond (.t 17)
 .skip
 (.exit 0))
 (.seq
 (.block 1
 (.seq
 (.reg true [8] [8] [
 ⟨(some 18), (.ixs 4), [(.t 14), (.t 16)], none, []⟩,
 ⟨(some 19), (.load (some 4)), [(.t 18)], none, []⟩,
 ⟨(some 8), (.alloc [(.int .i64 0), (.int .i64 0), (.int .i64 0), (.int .i64 0)]), [], none, []⟩,
 ⟨none, (.store 4 none), [(.t 8), (.t 19)], none, []⟩] 0 [2, 4, 6, 8, 14, 15, 16])
 (.seq
 (.reg true [] [] [
 ⟨(some 20), (.fa 2), [(.t 8)], none, []⟩,
 ⟨(some 21), (.load (some 2)), [(.t 20)], none, []⟩,
 ⟨(some 22), (.call false false false), [(.f 88), (.t 21)], none, []⟩,
 ⟨(some 23), (.fa 2), [(.t 8)], none, []⟩,
 ⟨none, (.store 2 none), [(.t 23), (.t 22)], none, []⟩] 0 [2, 4, 6, 8, 14, 15, 16])
 (.reg true [26, 27] [26] [
 ⟨(some 24), .mv, [(.t 6)], none, []⟩,
 ⟨(some 25), (.load (some 4)), [(.t 8)], none, []⟩,
 ⟨(some 26), (.bsl 4 [(.int .i64 0), (.int .i64 0), (.int .i64 0), (.int .i64 0)] 1 [0]), [(.t 25)], none, []⟩,
 ⟨(some 27), (.append false 4 32), [(.t 24), (.t 26)], none, []⟩,
 ⟨(some 6), .mv, [(.t 27)], none, []⟩] 0 [2, 4, 6, 14, 15, 16]))))
 (.reg true [] [] [
 ⟨(some 28), (.bin 0 .add), [(.t 16), (.c (.int .i64 1))], none, []⟩,
 ⟨(some 16), .mv, [(.t 28)], none, []⟩] 0 [2, 4, 6, 14, 15, 16]))))
def l83 : LFun := ⟨2, 39, [],
 (.seq
 (.reg false [2, 4] [2, 4] [
 ⟨(some 2), .box, [(.t 0)], none, []⟩,
 ⟨(some 4), (.alloc [(.bool false), (.int .i64 0), (.int .i64 0), (.int .i64 0), (.int .i64 0), (.sl none 2 [])]), [], none, []⟩,
 ⟨(some 5), .mv, [(.c (.sl none 4 []))], none, []⟩] 0 [1, 2, 4])
 (.seq
 (.seq
 (.reg false [] [] [
 ⟨(some 9), (.fa 0), [(.t 2)], none, []⟩,
 ⟨(some 10), (.load none), [(.t 9)], none, []⟩,
 ⟨(some 11), (.un .not), [(.t 10)], none, []⟩] 0 [1, 2, 4, 11])
 (.cond (.t 11)
 (.seq
 (.reg false [] [] [
 ⟨(some 12), (.load (some 6)), [(.t 2)], none, []⟩,
 ⟨(some 13), .mv, [(.t 1)], none, []⟩,
 ⟨none, (.store 6 none), [(.t 4), (.t 12)], none, []⟩,
 ⟨(some 5), .mv, [(.t 13)], none, []⟩] 0 [4, 5])
 .ret)
 .skip))
 (.seq
 (.reg false [] [] [
 ⟨(some 6), .mv, [(.c (.sl (some 2002700) 4 []))], none, []⟩] 0 [1, 2, 4, 6])
 (.seq
 (.seq
 (.reg false [] [] [
 ⟨(some 14), .mv, [(.t 1)], none, []⟩,
 ⟨(some 15), .len, [(.t 14)], none, []⟩,
 ⟨(some 16), .mv, [(.c (.int .i64 0))], none, []⟩] 0 [2, 4, 6, 14, 15, 16])
 (.block 0
 (.loop b83_0)))
 (.seq
 (.reg false [] [] [
 ⟨(some 29), (.fa 1), [(.t 2)], none, [32, 33, 35, 36, 38]⟩,
 ⟨(some 30), (.load (some 2)), [(.t 29)], none, [32, 33, 35, 36, 38]⟩,
 ⟨(some 31), (.call true false false), [(.f 88), (.t 30)], none, [32, 33, 35, 36, 38]⟩,
 ⟨(some 32), (.fa 3), [(.t 2)], none, [29, 30, 31, 35, 36, 38]⟩,
 ⟨(some 33), (.load (some 2)), [(.t 32)], none, [29, 30, 31, 35, 36, 38]⟩,
 ⟨(some 34), (.call true false false), [(.f 88), (.t 33)], none, [35, 36, 38]⟩,
 ⟨(some 35), (.fa 5), [(.t 2)], none, [29, 30, 31, 32, 33, 34, 38]⟩,
 ⟨(some 36), (.load none), [(.t 35)], none, [29, 30, 31, 32, 33, 34, 38]⟩,
 ⟨(some 37), (.build [(.bool false), (.int .i64 0), (.int .i64 0), (.int .i64 0), (.int .i64 0), (.sl none 2 [])] [(1, 2), (3, 2), (5, 1)]), [(.t 31), (.t 34), (.t 36)], none, [38]⟩,
 ⟨(some 38), .mv, [(.t 6)], none, [29, 30, 31, 32, 33, 34, 35, 36, 37, 4]⟩,
 ⟨none, (.store 6 (some 4)), [(.t 4), (.t 37)], none, [38]⟩,
 ⟨(some 5), .mv, [(.t 38)], none, []⟩] 0 [4, 5])
 .ret))))),
 [(.c 4 (some 6)), (.t 5)]⟩
theorem c83 : funC Try.prog [(0, [1, 2, 4]), (1, [1, 2, 4, 11]), (2, [4, 5]), (3, [1, 2, 4, 6]), (4, [2, 4, 6, 14, 15, 16]), (5, [2, 4, 6, 14, 15, 16, 17]), (6, [2, 4, 6, 8, 14, 15, 16]), (7, [2, 4, 6, 8, 14, 15, 16]), (8, [2, 4, 6, 14, 15, 16]), (9, [2, 4, 6, 14, 15, 16]), (10, [4, 5])] Try.f83 = some (unF l83) := by kernel_rfl
/-- acme/die.within$1 -/
def l84 : LFun := ⟨3, 13, [],
 (.seq
 (.reg false [] [] [
 ⟨(some 4), .mv, [(.c (.bool false))], none, []⟩] 0 [0, 1, 2])
 (.seq
 (.reg false [] [] [
 ⟨(some 5), .mv, [(.t 0)], none, []⟩,
 ⟨(some 6), (.load none), [(.t 1)], none, []⟩,
 ⟨(some 7), (.bin 0 .lss), [(.t 5), (.t 6)], none, []⟩,
 ⟨(some 8), .mv, [(.t 7)], none, []⟩,
 ⟨(some 9), .mv, [(.t 0)], (some (8, false)), []⟩,
 ⟨(some 10), (.load none), [(.t 2)], (some (8, false)), []⟩,
 ⟨(some 11), (.bin 0 .gtr), [(.t 9), (.t 10)], (some (8, false)), []⟩,
 ⟨(some 12), .pick, [(.t 8), (.c (.bool true)), (.t 11)], none, []⟩,
 ⟨(some 4), .mv, [(.t 12)], none, []⟩] 0 [4])
 .ret)),
 [(.t 4)]⟩
theorem c84 : funC Try.prog [(0, [0, 1, 2]), (1, [4])] Try.f84 = some (unF l84) := by kernel_rfl
/-- sort.Search -/
def b85_0 : LCode :=
 (.seq
 (.seq
 (.reg true [] [] [
 ⟨(some 9), .mv, [(.t 5)], none, []⟩,
 ⟨(some 10), .mv, [(.t 6)], none, []⟩,
 ⟨(some 11), (.bin 0 .lss), [(.t 9), (.t 10)], none, []⟩] 0 [1, 5, 6, 11])
 (.cond (.t 11)
 .skip
 (.exit 0)))
 (.block 1
 (.seq
 (.reg true [] [] [
 ⟨(some 12), .mv, [(.t 5)], none, []⟩,
 ⟨(some 13), .mv, [(.t 6)], none, []⟩,
 ⟨(some 14), (.bin 0 .add), [(.t 12), (.t 13)], none, []⟩,
 ⟨(some 15), (.conv .u64), [(.t 14)], none, []⟩,
 ⟨(some 16), (.bin 0 .shr), [(.t 15), (.c (.int .u64 1))], none, []⟩,
 ⟨(some 17), (.conv .i64), [(.t 16)], none, []⟩,
 ⟨(some 7), .mv, [(.t 17)], none, []⟩] 0 [1, 5, 6, 7])
 (.seq
 (.reg true [] [] [
 ⟨(some 18), .mv, [(.t 1)], none, []⟩,
 ⟨(some 19), .mv, [(.t 7)], none, []⟩,
 ⟨(some 20), (.call false false false), [(.t 18), (.t 19)], none, []⟩,
 ⟨(some 21), (.un .not), [(.t 20)], none, []⟩] 0 [1, 5, 6, 7, 21])
 (.cond (.t 21)
 (.reg true [] [] [
 ⟨(some 22), .mv, [(.t 7)], none, []⟩,
 ⟨(some 23), (.bin 0 .add), [(.t 22), (.c (.int .i64 1))], none, []⟩,
 ⟨(some 5), .mv, [(.t 23)], none, []⟩] 0 [1, 5, 6])
 (.reg true [] [] [
 ⟨(some 24), .mv, [(.t 7)], none, []⟩,
 ⟨(some 6), .mv, [(.t 24)], none, []⟩] 0 [1, 5, 6]))))))
def l85 : LFun := ⟨2, 26, [],
 (.seq
 (.reg false [] [] [
 ⟨(some 4), .mv, [(.c (.int .i64 0))], none, []⟩] 0 [0, 1])
 (.seq
 (.reg false [] [] [
 ⟨(some 8), .mv, [(.t 0)], none, []⟩,
 ⟨(some 5), .mv, [(.c (.int .i64 0))], none, []⟩,
 ⟨(some 6), .mv, [(.t 8)], none, []⟩] 0 [1, 5, 6])
 (.seq
 (.block 0
 (.loop b85_0))
 (.seq
 (.reg false [] [] [
 ⟨(some 25), .mv, [(.t 5)], none, []⟩,
 ⟨(some 4), .mv, [(.t 25)], none, []⟩] 0 [4])
 .ret)))),
 [(.t 4)]⟩
theorem c85 : funC Try.prog [(0, [0, 1]), (1, [1, 5, 6]), (2, [1, 5, 6, 11]), (3, [1, 5, 6, 7]), (4, [1, 5, 6, 7, 21]), (5, [1, 5, 6]), (6, [1, 5, 6]), (7, [4])] Try.f85 = some (unF l85) := by kernel_rfl
/-- (*acme/die.shop).reach$1 -/
def l86 : LFun := ⟨3, 13, [],
 (.seq
 (.reg false [] [] [
 ⟨(some 4), .mv, [(.c (.bool false))], none, []⟩] 0 [0, 1, 2])
 (.seq
 (.reg false [] [] [
 ⟨(some 5), (.load none), [(.t 1)], none, []⟩,
 ⟨(some 6), (.load none), [(.t 2)], none, []⟩,
 ⟨(some 7), (.load none), [(.t 2)], none, []⟩,
 ⟨(some 8), .mv, [(.t 0)], none, []⟩,
 ⟨(some 9), (.bin 0 .add), [(.t 7), (.t 8)], none, []⟩,
 ⟨(some 10), (.bin 0 .add), [(.t 9), (.c (.int .i64 1))], none, []⟩,
 ⟨(some 11), (.call false false false), [(.f 87), (.t 5), (.t 6), (.t 10)], none, []⟩,
 ⟨(some 12), (.un .not), [(.t 11)], none, []⟩,
 ⟨(some 4), .mv, [(.t 12)], none, []⟩] 0 [4])
 .ret)),
 [(.t 4)]⟩
theorem c86 : funC Try.prog [(0, [0, 1, 2]), (1, [4])] Try.f86 = some (unF l86) := by kernel_rfl
/-- (*acme/die.shop).can -/
def l87 : LFun := ⟨3, 17, [],
 (.seq
 (.reg false [] [] [
 ⟨(some 6), .mv, [(.c (.bool false))], none, []⟩] 0 [0, 1, 2])
 (.seq
 (.reg false [7] [7] [
 ⟨(some 8), .mv, [(.t 0)], none, []⟩,
 ⟨(some 9), .mv, [(.t 1)], none, []⟩,
 ⟨(some 10), .mv, [(.t 2)], none, []⟩,
 ⟨(some 11), (.call false false false), [(.f 61), (.t 8), (.t 9), (.t 10)], none, []⟩,
 ⟨(some 7), (.alloc [(.int .i64 0), (.int .i64 0)]), [], none, []⟩,
 ⟨none, (.store 2 none), [(.t 7), (.t 11)], none, []⟩] 0 [7])
 (.seq
 (.reg false [] [] [
 ⟨(some 12), (.fa 0), [(.t 7)], none, []⟩,
 ⟨(some 13), (.load none), [(.t 12)], none, []⟩,
 ⟨(some 14), (.fa 1), [(.t 7)], none, []⟩,
 ⟨(some 15), (.load none), [(.t 14)], none, []⟩,
 ⟨(some 16), (.bin 0 .leq), [(.t 13), (.t 15)], none, []⟩,
 ⟨(some 6), .mv, [(.t 16)], none, []⟩] 0 [6])
 .ret))),
 [(.t 6)]⟩
theorem c87 : funC Try.prog [(0, [0, 1, 2]), (1, [7]), (2, [6])] Try.f87 = some (unF l87) := by kernel_rfl
/-- acme/die.turned -/
def l88 : LFun := ⟨1, 10, [],
 (.seq
 (.reg false [1, 2] [1, 2] [
 ⟨(some 1), .box, [(.t 0)], none, []⟩,
 ⟨(some 2), (.alloc [(.int .i64 0), (.int .i64 0)]), [], none, []⟩] 0 [1, 2])
 (.seq
 (.reg false [] [] [
 ⟨(some 3), (.fa 1), [(.t 1)], none, []⟩,
 ⟨(some 4), (.load none), [(.t 3)], none, []⟩,
 ⟨(some 5), (.un .neg), [(.t 4)], none, []⟩,
 ⟨(some 6), (.fa 0), [(.t 1)], none, []⟩,
 ⟨(some 7), (.load none), [(.t 6)], none, []⟩,
 ⟨(some 8), (.un .neg), [(.t 7)], none, []⟩,
 ⟨(some 9), (.build [(.int .i64 0), (.int .i64 0)] [(0, 1), (1, 1)]), [(.t 5), (.t 8)], none, []⟩,
 ⟨none, (.store 2 none), [(.t 2), (.t 9)], none, []⟩] 0 [2])
 .ret)),
 [(.c 2 (some 2))]⟩
theorem c88 : funC Try.prog [(0, [1, 2]), (1, [2])] Try.f88 = some (unF l88) := by kernel_rfl
/-- acme/die.plus -/
def l89 : LFun := ⟨2, 16, [],
 (.seq
 (.reg false [2, 3, 4] [2, 3, 4] [
 ⟨(some 2), .box, [(.t 0)], none, []⟩,
 ⟨(some 3), .box, [(.t 1)], none, []⟩,
 ⟨(some 4), (.alloc [(.int .i64 0), (.int .i64 0)]), [], none, []⟩] 0 [2, 3, 4])
 (.seq
 (.reg false [] [] [
 ⟨(some 5), (.fa 0), [(.t 2)], none, []⟩,
 ⟨(some 6), (.load none), [(.t 5)], none, []⟩,
 ⟨(some 7), (.fa 0), [(.t 3)], none, []⟩,
 ⟨(some 8), (.load none), [(.t 7)], none, []⟩,
 ⟨(some 9), (.bin 0 .add), [(.t 6), (.t 8)], none, []⟩,
 ⟨(some 10), (.fa 1), [(.t 2)], none, []⟩,
 ⟨(some 11), (.load none), [(.t 10)], none, []⟩,
 ⟨(some 12), (.fa 1), [(.t 3)], none, []⟩,
 ⟨(some 13), (.load none), [(.t 12)], none, []⟩,
 ⟨(some 14), (.bin 0 .add), [(.t 11), (.t 13)], none, []⟩,
 ⟨(some 15), (.build [(.int .i64 0), (.int .i64 0)] [(0, 1), (1, 1)]), [(.t 9), (.t 14)], none, []⟩,
 ⟨none, (.store 2 none), [(.t 4), (.t 15)], none, []⟩] 0 [4])
 .ret)),
 [(.c 4 (some 2))]⟩
theorem c89 : funC Try.prog [(0, [2, 3, 4]), (1, [4])] Try.f89 = some (unF l89) := by kernel_rfl
/-- (*acme/die.shop).parts -/
def l90 : LFun := ⟨3, 8, [],
 (.seq
 (.reg false [3, 4, 5] [3, 4, 5] [
 ⟨(some 3), .box, [(.t 0)], none, []⟩,
 ⟨(some 4), .box, [(.t 1)], none, []⟩,
 ⟨(some 5), .box, [(.t 2)], none, []⟩,
 ⟨(some 6), .mv, [(.c .dead)], none, []⟩] 0 [3, 4, 5])
 (.seq
 (.reg false [] [] [
 ⟨(some 7), (.mkf 100), [(.t 3), (.t 5), (.t 4)], none, []⟩,
 ⟨(some 6), .mv, [(.t 7)], none, []⟩] 0 [3, 4, 5, 6])
 .ret)),
 [(.t 6)]⟩
theorem c90 : funC Try.prog [(0, [3, 4, 5]), (1, [3, 4, 5, 6])] Try.f90 = some (unF l90) := by kernel_rfl
/-- acme/die.times -/
def l91 : LFun := ⟨2, 14, [],
 (.seq
 (.reg false [2, 4] [2, 4] [
 ⟨(some 2), .box, [(.t 0)], none, []⟩,
 ⟨(some 4), (.alloc [(.int .i64 0), (.int .i64 0)]), [], none, []⟩] 0 [1, 2, 4])
 (.seq
 (.reg false [] [] [
 ⟨(some 5), (.fa 0), [(.t 2)], none, []⟩,
 ⟨(some 6), (.load none), [(.t 5)], none, []⟩,
 ⟨(some 7), .mv, [(.t 1)], none, []⟩,
 ⟨(some 8), (.bin 0 .mul), [(.t 6), (.t 7)], none, []⟩,
 ⟨(some 9), (.fa 1), [(.t 2)], none, []⟩,
 ⟨(some 10), (.load none), [(.t 9)], none, []⟩,
 ⟨(some 11), .mv, [(.t 1)], none, []⟩,
 ⟨(some 12), (.bin 0 .mul), [(.t 10), (.t 11)], none, []⟩,
 ⟨(some 13), (.build [(.int .i64 0), (.int .i64 0)] [(0, 1), (1, 1)]), [(.t 8), (.t 12)], none, []⟩,
 ⟨none, (.store 2 none), [(.t 4), (.t 13)], none, []⟩] 0 [4])
 .ret)),
 [(.c 4 (some 2))]⟩
theorem c91 : funC Try.prog [(0, [1, 2, 4]), (1, [4])] Try.f91 = some (unF l91) := by kernel_rfl
/-- acme/thread.within$1 -/
def l92 : LFun := ⟨3, 13, [],
 (.seq
 (.reg false [] [] [
 ⟨(some 4), .mv, [(.c (.bool false))], none, []⟩] 0 [0, 1, 2])
 (.seq
 (.reg false [] [] [
 ⟨(some 5), .mv, [(.t 0)], none, []⟩,
 ⟨(some 6), (.load none), [(.t 1)], none, []⟩,
 ⟨(some 7), (.bin 0 .lss), [(.t 5), (.t 6)], none, []⟩,
 ⟨(some 8), .mv, [(.t 7)], none, []⟩,
 ⟨(some 9), .mv, [(.t 0)], (some (8, false)), []⟩,
 ⟨(some 10), (.load none), [(.t 2)], (some (8, false)), []⟩,
 ⟨(some 11), (.bin 0 .gtr), [(.t 9), (.t 10)], (some (8, false)), []⟩,
 ⟨(some 12), .pick, [(.t 8), (.c (.bool true)), (.t 11)], none, []⟩,
 ⟨(some 4), .mv, [(.t 12)], none, []⟩] 0 [4])
 .ret)),
 [(.t 4)]⟩
theorem c92 : funC Try.prog [(0, [0, 1, 2]), (1, [4])] Try.f92 = some (unF l92) := by kernel_rfl
/-- (acme/thread.form).leans -/
def l93 : LFun := ⟨1, 10, [],
 (.seq
 (.reg false [1] [1] [
 ⟨(some 1), .box, [(.t 0)], none, []⟩,
 ⟨(some 2), .mv, [(.c (.int .i64 0))], none, []⟩] 0 [1])
 (.seq
 (.reg false [] [] [
 ⟨(some 3), (.fa 0), [(.t 1)], none, []⟩,
 ⟨(some 4), (.fa 1), [(.t 3)], none, []⟩,
 ⟨(some 5), (.load none), [(.t 4)], none, []⟩,
 ⟨(some 6), (.fa 0), [(.t 1)], none, []⟩,
 ⟨(some 7), (.fa 2), [(.t 6)], none, []⟩,
 ⟨(some 8), (.load none), [(.t 7)], none, []⟩,
 ⟨(some 9), (.bin 0 .add), [(.t 5), (.t 8)], none, []⟩,
 ⟨(some 2), .mv, [(.t 9)], none, []⟩] 0 [2])
 .ret)),
 [(.t 2)]⟩
theorem c93 : funC Try.prog [(0, [1]), (1, [2])] Try.f93 = some (unF l93) := by kernel_rfl
/-- (acme/fit.ideal).flanks$1 -/
def b94_0 : LCode :=
 (.seq
 (.reg true [] [] [
 ⟨(some 11), (.bin 0 .lss), [(.t 10), (.t 9)], none, []⟩] 0 [0, 2, 8, 9, 10, 11])
 (.seq
 (.cond (.t 11)
 .skip
 (.exit 0))
 (.seq
 (.block 1
 (.seq
 (.reg true [5] [5] [
 ⟨(some 12), .mv, [(.t 10)], none, []⟩,
 ⟨(some 13), (.ixs 2), [(.t 8), (.t 10)], none, []⟩,
 ⟨(some 14), (.load (some 2)), [(.t 13)], none, []⟩,
 ⟨(some 5), (.alloc [(.int .i64 0), (.int .i64 0)]), [], none, []⟩,
 ⟨(some 4), .mv, [(.t 12)], none, []⟩,
 ⟨none, (.store 2 none), [(.t 5), (.t 14)], none, []⟩] 0 [0, 2, 4, 5, 8, 9, 10])
 (.seq
 (.reg true [] [] [
 ⟨(some 15), .mv, [(.t 4)], none, []⟩,
 ⟨(some 16), (.bin 0 .mul), [(.c (.int .i64 4)), (.t 15)], none, []⟩,
 ⟨(some 17), (.fa 0), [(.t 2)], none, []⟩,
 ⟨(some 18), (.fa 0), [(.t 17)], none, []⟩,
 ⟨(some 19), (.load none), [(.t 18)], none, []⟩,
 ⟨(some 20), (.bin 0 .mul), [(.t 16), (.t 19)], none, []⟩,
 ⟨(some 6), .mv, [(.t 20)], none, []⟩] 0 [0, 2, 5, 6, 8, 9, 10])
 (.seq
 (.reg true [] [] [
 ⟨(some 21), .mv, [(.t 0)], none, []⟩,
 ⟨(some 22), (.fa 0), [(.t 5)], none, []⟩,
 ⟨(some 23), (.load none), [(.t 22)], none, []⟩,
 ⟨(some 24), (.bin 0 .mul), [(.c (.int .i64 4)), (.t 23)], none, []⟩,
 ⟨(some 25), .mv, [(.t 6)], none, []⟩,
 ⟨(some 26), (.bin 0 .sub), [(.t 24), (.t 25)], none, []⟩,
 ⟨(some 27), (.fa 0), [(.t 2)], none, []⟩,
 ⟨(some 28), (.fa 0), [(.t 27)], none, []⟩,
 ⟨(some 29), (.load none), [(.t 28)], none, []⟩,
 ⟨(some 30), (.bin 0 .add), [(.t 26), (.t 29)], none, []⟩,
 ⟨(some 31), (.bin 0 .mul), [(.c (.int .i64 1000)), (.t 30)], none, []⟩,
 ⟨(some 32), (.fa 1), [(.t 5)], none, []⟩,
 ⟨(some 33), (.load none), [(.t 32)], none, []⟩,
 ⟨(some 34), (.bin 0 .mul), [(.c (.int .i64 4)), (.t 33)], none, []⟩,
 ⟨(some 35), .mv, [(.t 6)], none, []⟩,
 ⟨(some 36), (.bin 0 .sub), [(.t 34), (.t 35)], none, []⟩,
 ⟨(some 37), (.fa 0), [(.t 2)], none, []⟩,
 ⟨(some 38), (.fa 0), [(.t 37)], none, []⟩,
 ⟨(some 39), (.load none), [(.t 38)], none, []⟩,
 ⟨(some 40), (.bin 0 .sub), [(.t 36), (.t 39)], none, []⟩,
 ⟨(some 41), (.bin 0 .mul), [(.c (.int .i64 1000)), (.t 40)], none, []⟩,
 ⟨(some 42), (.call false false false), [(.t 21), (.t 31), (.t 41)], none, []⟩,
 ⟨(some 43), (.un .not), [(.t 42)], none, []⟩] 0 [0, 2, 8, 9, 10, 43])
 (.cond (.t 43)
 .ret
 .skip)))))
 (.reg true [] [] [
 ⟨(some 44), (.bin 0 .add), [(.t 10), (.c (.int .i64 1))], none, []⟩,
 ⟨(some 10), .mv, [(.t 44)], none, []⟩] 0 [0, 2, 8, 9, 10]))))
def l94 : LFun := ⟨3, 45, [],
 (.seq
 (.reg false [] [] [
 ⟨(some 7), (.fa 0), [(.t 1)], none, []⟩,
 ⟨(some 8), (.load none), [(.t 7)], none, []⟩,
 ⟨(some 9), .len, [(.t 8)], none, []⟩,
 ⟨(some 10), .mv, [(.c (.int .i64 0))], none, []⟩] 0 [0, 2, 8, 9, 10])
 (.block 0
 (.loop b94_0))),
 []⟩
theorem c94 : funC Try.prog [(0, [0, 2, 8, 9, 10]), (1, [0, 2, 8, 9, 10, 11]), (2, [0, 2, 4, 5, 8, 9, 10]), (3, [0, 2, 5, 6, 8, 9, 10]), (4, [0, 2, 8, 9, 10, 43]), (5, [0, 2, 8, 9, 10])] Try.f94 = some (unF l94) := by kernel_rfl
/-- slices.Grow[[]int,int] -/
def l96 : LFun := ⟨2, 27, [],
 (.seq
 (.reg false [] [] [
 ⟨(some 4), .mv, [(.c .nil)], none, []⟩] 0 [0, 1])
 (.seq
 (.seq
 (.reg false [] [] [
 ⟨(some 5), .mv, [(.t 1)], none, []⟩,
 ⟨(some 6), (.bin 0 .lss), [(.t 5), (.c (.int .i64 0))], none, []⟩] 0 [0, 1, 6])
 (.cond (.t 6)
 (.reg false [] [] [
 ⟨none, .bad, [], none, []⟩,
 ⟨none, .bad, [], none, []⟩] 0 [0, 1])
 .skip))
 (.seq
 (.seq
 (.reg false [] [] [
 ⟨(some 8), .mv, [(.t 1)], none, []⟩,
 ⟨(some 9), .mv, [(.t 0)], none, []⟩,
 ⟨(some 10), .cap, [(.t 9)], none, []⟩,
 ⟨(some 11), .mv, [(.t 0)], none, []⟩,
 ⟨(some 12), .len, [(.t 11)], none, []⟩,
 ⟨(some 13), (.bin 0 .sub), [(.t 10), (.t 12)], none, []⟩,
 ⟨(some 14), (.bin 0 .sub), [(.t 8), (.t 13)], none, []⟩,
 ⟨(some 1), .mv, [(.t 14)], none, []⟩] 0 [0, 1])
 (.seq
 (.reg false [] [] [
 ⟨(some 15), .mv, [(.t 1)], none, []⟩,
 ⟨(some 16), (.bin 0 .gtr), [(.t 15), (.c (.int .i64 0))], none, []⟩] 0 [0, 1, 16])
 (.cond (.t 16)
 (.reg false [22] [] [
 ⟨(some 17), .mv, [(.t 0)], none, []⟩,
 ⟨(some 18), .mv, [(.t 0)], none, []⟩,
 ⟨(some 19), .cap, [(.t 18)], none, []⟩,
 ⟨(some 20), (.sls 1 false true false), [(.t 17), (.t 19)], none, []⟩,
 ⟨(some 21), .mv, [(.t 1)], none, []⟩,
 ⟨(some 22), (.appz 1 8 [(.int .i64 0)]), [(.t 20), (.t 21)], none, []⟩,
 ⟨(some 23), .mv, [(.t 0)], none, []⟩,
 ⟨(some 24), .len, [(.t 23)], none, []⟩,
 ⟨(some 25), (.trunc 1), [(.t 22), (.t 24)], none, []⟩,
 ⟨(some 0), .mv, [(.t 25)], none, []⟩] 0 [0])
 .skip)))
 (.seq
 (.reg false [] [] [
 ⟨(some 26), .mv, [(.t 0)], none, []⟩,
 ⟨(some 4), .mv, [(.t 26)], none, []⟩] 0 [4])
 .ret)))),
 [(.t 4)]⟩
theorem c96 : funC Try.prog [(0, [0, 1]), (1, [0, 1, 6]), (2, [0, 1]), (3, [0, 1]), (4, [0, 1, 16]), (5, [0]), (6, [4])] Try.f96 = some (unF l96) := by kernel_rfl
/-- acme/die.checkTool -/
def l97 : LFun := ⟨1, 31, [],
 (.seq
 (.reg false [1] [1] [
 ⟨(some 1), .box, [(.t 0)], none, []⟩,
 ⟨(some 2), .mv, [(.c (.int .i64 0))], none, []⟩] 0 [1])
 (.seq
 (.seq
 (.reg false [] [] [
 ⟨(some 4), (.fa 5), [(.t 1)], none, []⟩,
 ⟨(some 5), (.load none), [(.t 4)], none, []⟩,
 ⟨(some 6), .len, [(.t 5)], none, []⟩,
 ⟨(some 7), (.bin 0 .gtr), [(.t 6), (.c (.int .i64 8))], none, []⟩] 0 [1, 7])
 (.cond (.t 7)
 (.seq
 (.reg false [] [] [
 ⟨(some 2), .mv, [(.c (.int .i64 5))], none, []⟩] 0 [2])
 .ret)
 .skip))
 (.seq
 (.reg false [] [] [
 ⟨(some 3), .mv, [(.f 101)], none, []⟩] 0 [1, 3])
 (.seq
 (.seq
 (.reg false [] [] [
 ⟨(some 8), (.fa 5), [(.t 1)], none, []⟩,
 ⟨(some 9), (.load none), [(.t 8)], none, []⟩,
 ⟨(some 10), .len, [(.t 9)], none, []⟩,
 ⟨(some 11), (.bin 0 .eql), [(.t 10), (.c (.int .i64 0))], none, []⟩,
 ⟨(some 12), .mv, [(.t 11)], none, []⟩,
 ⟨(some 13), .mv, [(.t 3)], (some (12, false)), []⟩,
 ⟨(some 14), (.fa 1), [(.t 1)], (some (12, false)), []⟩,
 ⟨(some 15), (.load (some 2)), [(.t 14)], (some (12, false)), []⟩,
 ⟨(some 16), (.call false false false), [(.t 13), (.t 15)], (some (12, false)), []⟩,
 ⟨(some 17), (.un .not), [(.t 16)], (some (12, false)), []⟩,
 ⟨(some 18), .pick, [(.t 12), (.c (.bool true)), (.t 17)], none, []⟩,
 ⟨(some 19), .mv, [(.t 18)], none, []⟩,
 ⟨(some 20), .mv, [(.t 3)], (some (19, false)), []⟩,
 ⟨(some 21), (.fa 3), [(.t 1)], (some (19, false)), []⟩,
 ⟨(some 22), (.load (some 2)), [(.t 21)], (some (19, false)), []⟩,
 ⟨(some 23), (.call false false false), [(.t 20), (.t 22)], (some (19, false)), []⟩,
 ⟨(some 24), (.un .not), [(.t 23)], (some (19, false)), []⟩,
 ⟨(some 25), .pick, [(.t 19), (.c (.bool true)), (.t 24)], none, []⟩,
 ⟨(some 26), .mv, [(.t 25)], none, []⟩,
 ⟨(some 27), (.fa 5), [(.t 1)], (some (26, false)), []⟩,
 ⟨(some 28), (.load none), [(.t 27)], (some (26, false)), []⟩,
 ⟨(some 29), (.call false false false), [(.f 103), (.t 28), (.f 104)], (some (26, false)), []⟩,
 ⟨(some 30), .pick, [(.t 26), (.c (.bool true)), (.t 29)], none, []⟩] 0 [30])
 (.cond (.t 30)
 (.seq
 (.reg false [] [] [
 ⟨(some 2), .mv, [(.c (.int .i64 2))], none, []⟩] 0 [2])
 .ret)
 .skip))
 (.seq
 (.reg false [] [] [
 ⟨(some 2), .mv, [(.c (.int .i64 0))], none, []⟩] 0 [2])
 .ret))))),
 [(.t 2)]⟩
theorem c97 : funC Try.prog [(0, [1]), (1, [1, 7]), (2, [2]), (3, [1, 3]), (4, [30]), (5, [2]), (6, [2])] Try.f97 = some (unF l97) := by kernel_rfl
/-- acme/die.isZone -/
def l98 : LFun := ⟨1, 5, [],
 (.seq
 (.reg false [1] [1] [
 ⟨(some 1), .box, [(.t 0)], none, []⟩,
 ⟨(some 2), .mv, [(.c (.bool false))], none, []⟩] 0 [1])
 (.seq
 (.reg false [] [] [
 ⟨(some 3), (.load (some 2)), [(.t 1)], none, []⟩,
 ⟨(some 4), (.call false false false), [(.f 102), (.t 3), (.c (.int .i64 0)), (.c (.int .i64 10000000000))], none, []⟩,
 ⟨(some 2), .mv, [(.t 4)], none, []⟩] 0 [2])
 .ret)),
 [(.t 2)]⟩
theorem c98 : funC Try.prog [(0, [1]), (1, [2])] Try.f98 = some (unF l98) := by kernel_rfl
/-- acme/die.hasSteel -/
def l99 : LFun := ⟨2, 13, [],
 (.seq
 (.reg false [2] [2] [
 ⟨(some 2), .box, [(.t 0)], none, []⟩,
 ⟨(some 4), .mv, [(.c (.int .i64 0))], none, []⟩] 0 [1, 2])
 (.seq
 (.seq
 (.reg false [10] [10] [
 ⟨(some 5), (.fa 5), [(.t 2)], none, []⟩,
 ⟨(some 6), (.load none), [(.t 5)], none, []⟩,
 ⟨(some 7), .len, [(.t 6)], none, []⟩,
 ⟨(some 8), (.bin 0 .sub), [(.t 7), (.c (.int .i64 1))], none, []⟩,
 ⟨(some 9), .mv, [(.t 1)], none, []⟩,
 ⟨(some 10), (.bsl 1 [(.int .i64 0)] 1 [0]), [(.t 9)], none, []⟩,
 ⟨(some 11), (.call false false false), [(.f 56), (.c (.int .i64 0)), (.t 8), (.t 10)], none, []⟩,
 ⟨(some 12), (.un .not), [(.t 11)], none, []⟩] 0 [12])
 (.cond (.t 12)
 (.seq
 (.reg false [] [] [
 ⟨(some 4), .mv, [(.c (.int .i64 7))], none, []⟩] 0 [4])
 .ret)
 .skip))
 (.seq
 (.reg false [] [] [
 ⟨(some 4), .mv, [(.c (.int .i64 0))], none, []⟩] 0 [4])
 .ret))),
 [(.t 4)]⟩
theorem c99 : funC Try.prog [(0, [1, 2]), (1, [12]), (2, [4]), (3, [4])] Try.f99 = some (unF l99) := by kernel_rfl
/-- (*acme/die.shop).parts$1 -/
def b100_0 : LCode :=
 (.seq
 (.reg true [] [] [
 ⟨(some 14), (.bin 0 .lss), [(.t 13), (.t 12)], none, []⟩] 0 [0, 1, 2, 3, 11, 12, 13, 14])
 (.seq
 (.cond (.t 14)
 .skip
 (.exit 0))
 (.seq
 (.block 1
 (.seq
 (.reg true [6] [6] [
 ⟨(some 15), .mv, [(.t 13)], none, []⟩,
 ⟨(some 16), (.ixs 4), [(.t 11), (.t 13)], none, []⟩,
 ⟨(some 17), (.load (some 4)), [(.t 16)], none, []⟩,
 ⟨(some 6), (.alloc [(.int .i64 0), (.int .i64 0), (.int .i64 0), (.int .i64 0)]), [], none, []⟩,
 ⟨(some 5), .mv, [(.t 15)], none, []⟩,
 ⟨none, (.store 4 none), [(.t 6), (.t 17)], none, []⟩] 0 [0, 1, 2, 3, 5, 6, 11, 12, 13])
 (.seq
 (.reg true [] [] [
 ⟨(some 18), (.load none), [(.t 2)], none, [19, 20, 21, 22, 23, 24, 25, 26, 28, 29, 30, 31, 32, 33, 34, 35, 36]⟩,
 ⟨(some 19), (.load none), [(.t 1)], none, [18, 23, 24, 28, 29, 30, 31, 32, 33, 34, 35, 36]⟩,
 ⟨(some 20), .nilc, [(.t 19)], none, [18, 23, 24, 28, 29, 30, 31, 32, 33, 34, 35, 36]⟩,
 ⟨(some 21), (.fa 7), [(.t 20)], none, [18, 23, 24, 28, 29, 30, 31, 32, 33, 34, 35, 36]⟩,
 ⟨(some 22), (.load none), [(.t 21)], none, [18, 23, 24, 28, 29, 30, 31, 32, 33, 34, 35, 36]⟩,
 ⟨(some 23), .mv, [(.t 5)], none, [18, 19, 20, 21, 22, 28, 29, 30, 31, 32, 33, 34, 35, 36]⟩,
 ⟨(some 24), (.bin 0 .add), [(.t 23), (.c (.int .i64 1))], none, [18, 19, 20, 21, 22, 28, 29, 30, 31, 32, 33, 34, 35, 36]⟩,
 ⟨(some 25), (.ixs 1), [(.t 22), (.t 24)], none, [18, 28, 29, 30, 31, 32, 33, 34, 35, 36]⟩,
 ⟨(some 26), (.load none), [(.t 25)], none, [18, 28, 29, 30, 31, 32, 33, 34, 35, 36]⟩,
 ⟨(some 27), .min, [(.t 18), (.t 26)], none, [28, 29, 30, 31, 32, 33, 34, 35, 36]⟩,
 ⟨(some 28), (.load none), [(.t 3)], none, [18, 19, 20, 21, 22, 23, 24, 25, 26, 27, 29, 30, 31, 32, 33, 34, 35]⟩,
 ⟨(some 29), (.load none), [(.t 1)], none, [18, 19, 20, 21, 22, 23, 24, 25, 26, 27, 28, 33]⟩,
 ⟨(some 30), .nilc, [(.t 29)], none, [18, 19, 20, 21, 22, 23, 24, 25, 26, 27, 28, 33]⟩,
 ⟨(some 31), (.fa 7), [(.t 30)], none, [18, 19, 20, 21, 22, 23, 24, 25, 26, 27, 28, 33]⟩,
 ⟨(some 32), (.load none), [(.t 31)], none, [18, 19, 20, 21, 22, 23, 24, 25, 26, 27, 28, 33]⟩,
 ⟨(some 33), .mv, [(.t 5)], none, [18, 19, 20, 21, 22, 23, 24, 25, 26, 27, 28, 29, 30, 31, 32]⟩,
 ⟨(some 34), (.ixs 1), [(.t 32), (.t 33)], none, [18, 19, 20, 21, 22, 23, 24, 25, 26, 27, 28]⟩,
 ⟨(some 35), (.load none), [(.t 34)], none, [18, 19, 20, 21, 22, 23, 24, 25, 26, 27, 28]⟩,
 ⟨(some 36), .max, [(.t 28), (.t 35)], none, [18, 19, 20, 21, 22, 23, 24, 25, 26, 27]⟩,
 ⟨(some 37), (.bin 0 .sub), [(.t 27), (.t 36)], none, []⟩,
 ⟨(some 7), .mv, [(.t 37)], none, []⟩] 0 [0, 1, 2, 3, 6, 7, 11, 12, 13])
 (.seq
 (.reg true [] [] [
 ⟨(some 38), .mv, [(.t 7)], none, []⟩,
 ⟨(some 39), (.bin 0 .gtr), [(.t 38), (.c (.int .i64 0))], none, []⟩,
 ⟨(some 40), .mv, [(.t 39)], none, []⟩,
 ⟨(some 41), .mv, [(.t 0)], (some (40, true)), []⟩,
 ⟨(some 42), (.load (some 4)), [(.t 6)], (some (40, true)), []⟩,
 ⟨(some 43), .mv, [(.t 7)], (some (40, true)), []⟩,
 ⟨(some 44), (.call false false false), [(.t 41), (.t 42), (.t 43)], (some (40, true)), []⟩,
 ⟨(some 45), (.un .not), [(.t 44)], (some (40, true)), []⟩,
 ⟨(some 46), .pick, [(.t 40), (.t 45), (.c (.bool false))], none, []⟩] 0 [0, 1, 2, 3, 11, 12, 13, 46])
 (.cond (.t 46)
 .ret
 .skip)))))
 (.reg true [] [] [
 ⟨(some 47), (.bin 0 .add), [(.t 13), (.c (.int .i64 1))], none, []⟩,
 ⟨(some 13), .mv, [(.t 47)], none, []⟩] 0 [0, 1, 2, 3, 11, 12, 13]))))
def l100 : LFun := ⟨4, 48, [],
 (.seq
 (.reg false [] [] [
 ⟨(some 8), (.load none), [(.t 1)], none, []⟩,
 ⟨(some 9), .nilc, [(.t 8)], none, []⟩,
 ⟨(some 10), (.fa 6), [(.t 9)], none, []⟩,
 ⟨(some 11), (.load none), [(.t 10)], none, []⟩,
 ⟨(some 12), .len, [(.t 11)], none, []⟩,
 ⟨(some 13), .mv, [(.c (.int .i64 0))], none, []⟩] 0 [0, 1, 2, 3, 11, 12, 13])
 (.block 0
 (.loop b100_0))),
 []⟩
theorem c100 : funC Try.prog [(0, [0, 1, 2, 3, 11, 12, 13]), (1, [0, 1, 2, 3, 11, 12, 13, 14]), (2, [0, 1, 2, 3, 5, 6, 11, 12, 13]), (3, [0, 1, 2, 3, 6, 7, 11, 12, 13]), (4, [0, 1, 2, 3, 11, 12, 13, 46]), (5, [0, 1, 2, 3, 11, 12, 13])] Try.f100 = some (unF l100) := by kernel_rfl
/-- acme/die.checkTool$1 -/
def l101 : LFun := ⟨1, 5, [],
 (.seq
 (.reg false [1] [1] [
 ⟨(some 1), .box, [(.t 0)], none, []⟩,
 ⟨(some 2), .mv, [(.c (.bool false))], none, []⟩] 0 [1])
 (.seq
 (.reg false [] [] [
 ⟨(some 3), (.load (some 2)), [(.t 1)], none, []⟩,
 ⟨(some 4), (.call false false false), [(.f 102), (.t 3), (.c (.int .i64 (-1000000))), (.c (.int .i64 1000000))], none, []⟩,
 ⟨(some 2), .mv, [(.t 4)], none, []⟩] 0 [2])
 .ret)),
 [(.t 2)]⟩
theorem c101 : funC Try.prog [(0, [1]), (1, [2])] Try.f101 = some (unF l101) := by kernel_rfl
/-- acme/die.isSpan -/
def l102 : LFun := ⟨3, 22, [],
 (.seq
 (.reg false [3] [3] [
 ⟨(some 3), .box, [(.t 0)], none, []⟩,
 ⟨(some 6), .mv, [(.c (.bool false))], none, []⟩] 0 [1, 2, 3])
 (.seq
 (.reg false [19] [19] [
 ⟨(some 7), (.fa 0), [(.t 3)], none, []⟩,
 ⟨(some 8), (.load none), [(.t 7)], none, []⟩,
 ⟨(some 9), (.fa 1), [(.t 3)], none, []⟩,
 ⟨(some 10), (.load none), [(.t 9)], none, []⟩,
 ⟨(some 11), (.bin 0 .leq), [(.t 8), (.t 10)], none, []⟩,
 ⟨(some 12), .mv, [(.t 11)], none, []⟩,
 ⟨(some 13), .mv, [(.t 1)], (some (12, true)), []⟩,
 ⟨(some 14), .mv, [(.t 2)], (some (12, true)), []⟩,
 ⟨(some 15), (.fa 0), [(.t 3)], (some (12, true)), []⟩,
 ⟨(some 16), (.load none), [(.t 15)], (some (12, true)), []⟩,
 ⟨(some 17), (.fa 1), [(.t 3)], (some (12, true)), []⟩,
 ⟨(some 18), (.load none), [(.t 17)], (some (12, true)), []⟩,
 ⟨(some 19), (.bsl 1 [(.int .i64 0)] 2 [0, 1]), [(.t 16), (.t 18)], (some (12, true)), []⟩,
 ⟨(some 20), (.call false false false), [(.f 56), (.t 13), (.t 14), (.t 19)], (some (12, true)), []⟩,
 ⟨(some 21), .pick, [(.t 12), (.t 20), (.c (.bool false))], none, []⟩,
 ⟨(some 6), .mv, [(.t 21)], none, []⟩] 0 [6])
 .ret)),
 [(.t 6)]⟩
theorem c102 : funC Try.prog [(0, [1, 2, 3]), (1, [6])] Try.f102 = some (unF l102) := by kernel_rfl
/-- slices.ContainsFunc[[]acme/api.Span,acme/api.Span] -/
def l103 : LFun := ⟨2, 9, [],
 (.seq
 (.reg false [] [] [
 ⟨(some 4), .mv, [(.c (.bool false))], none, []⟩] 0 [0, 1])
 (.seq
 (.reg false [] [] [
 ⟨(some 5), .mv, [(.t 0)], none, []⟩,
 ⟨(some 6), .mv, [(.t 1)], none, []⟩,
 ⟨(some 7), (.call false false false), [(.f 105), (.t 5), (.t 6)], none, []⟩,
 ⟨(some 8), (.bin 0 .geq), [(.t 7), (.c (.int .i64 0))], none, []⟩,
 ⟨(some 4), .mv, [(.t 8)], none, []⟩] 0 [4])
 .ret)),
 [(.t 4)]⟩
theorem c103 : funC Try.prog [(0, [0, 1]), (1, [4])] Try.f103 = some (unF l103) := by kernel_rfl
/-- acme/die.checkTool$2 -/
def l104 : LFun := ⟨1, 6, [],
 (.seq
 (.reg false [1] [1] [
 ⟨(some 1), .box, [(.t 0)], none, []⟩,
 ⟨(some 2), .mv, [(.c (.bool false))], none, []⟩] 0 [1])
 (.seq
 (.reg false [] [] [
 ⟨(some 3), (.load (some 2)), [(.t 1)], none, []⟩,
 ⟨(some 4), (.call false false false), [(.f 102), (.t 3), (.c (.int .i64 0)), (.c (.int .i64 100000))], none, []⟩,
 ⟨(some 5), (.un .not), [(.t 4)], none, []⟩,
 ⟨(some 2), .mv, [(.t 5)], none, []⟩] 0 [2])
 .ret)),
 [(.t 2)]⟩
theorem c104 : funC Try.prog [(0, [1]), (1, [2])] Try.f104 = some (unF l104) := by kernel_rfl
/-- slices.IndexFunc[[]acme/api.Span,acme/api.Span] -/
def b105_0 : LCode :=
 (.seq
 (.reg true [] [] [
 ⟨(some 9), (.bin 0 .lss), [(.t 8), (.t 7)], none, []⟩] 0 [0, 1, 7, 8, 9])
 (.seq
 (.cond (.t 9)
 .skip
 (.exit 0))
 (.seq
 (.block 1
 (.seq
 (.reg true [] [] [
 ⟨(some 10), .mv, [(.t 8)], none, []⟩,
 ⟨(some 5), .mv, [(.t 10)], none, []⟩] 0 [0, 1, 5, 7, 8])
 (.seq
 (.reg true [] [] [
 ⟨(some 11), .mv, [(.t 1)], none, []⟩,
 ⟨(some 12), .mv, [(.t 0)], none, []⟩,
 ⟨(some 13), .mv, [(.t 5)], none, []⟩,
 ⟨(some 14), (.ixs 2), [(.t 12), (.t 13)], none, []⟩,
 ⟨(some 15), (.load (some 2)), [(.t 14)], none, []⟩,
 ⟨(some 16), (.call false false false), [(.t 11), (.t 15)], none, []⟩] 0 [0, 1, 5, 7, 8, 16])
 (.cond (.t 16)
 (.seq
 (.reg true [] [] [
 ⟨(some 17), .mv, [(.t 5)], none, []⟩,
 ⟨(some 4), .mv, [(.t 17)], none, []⟩] 0 [4])
 .ret)
 .skip))))
 (.reg true [] [] [
 ⟨(some 18), (.bin 0 .add), [(.t 8), (.c (.int .i64 1))], none, []⟩,
 ⟨(some 8), .mv, [(.t 18)], none, []⟩] 0 [0, 1, 7, 8]))))
def l105 : LFun := ⟨2, 19, [],
 (.seq
 (.reg false [] [] [
 ⟨(some 4), .mv, [(.c (.int .i64 0))], none, []⟩] 0 [0, 1])
 (.seq
 (.seq
 (.reg false [] [] [
 ⟨(some 6), .mv, [(.t 0)], none, []⟩,
 ⟨(some 7), .len, [(.t 6)], none, []⟩,
 ⟨(some 8), .mv, [(.c (.int .i64 0))], none, []⟩] 0 [0, 1, 7, 8])
 (.block 0
 (.loop b105_0)))
 (.seq
 (.reg false [] [] [
 ⟨(some 4), .mv, [(.c (.int .i64 (-1)))], none, []⟩] 0 [4])
 .ret))),
 [(.t 4)]⟩
theorem c105 : funC Try.prog [(0, [0, 1]), (1, [0, 1, 7, 8]), (2, [0, 1, 7, 8, 9]), (3, [0, 1, 5, 7, 8]), (4, [0, 1, 5, 7, 8, 16]), (5, [4]), (6, [0, 1, 7, 8]), (7, [4])] Try.f105 = some (unF l105) := by kernel_rfl
end Go.Lo

/- The functions that are reached, compiled for the plain machine. -/
namespace Go.Lo
open Go.Proofs
def C2 : Nat → Option LFun
  | 5 => some l5
  | 8 => some l8
  | 11 => some l11
  | 12 => some l12
  | 13 => some l13
  | 14 => some l14
  | 16 => some l16
  | 18 => some l18
  | 19 => some l19
  | 20 => some l20
  | 21 => some l21
  | 29 => some l29
  | 30 => some l30
  | 31 => some l31
  | 32 => some l32
  | 33 => some l33
  | 34 => some l34
  | 35 => some l35
  | 36 => some l36
  | 37 => some l37
  | 38 => some l38
  | 39 => some l39
  | 40 => some l40
  | 41 => some l41
  | 42 => some l42
  | 43 => some l43
  | 44 => some l44
  | 45 => some l45
  | 46 => some l46
  | 47 => some l47
  | 55 => some l55
  | 56 => some l56
  | 57 => some l57
  | 58 => some l58
  | 59 => some l59
  | 60 => some l60
  | 61 => some l61
  | 62 => some l62
  | 63 => some l63
  | 64 => some l64
  | 65 => some l65
  | 66 => some l66
  | 67 => some l67
  | 68 => some l68
  | 69 => some l69
  | 70 => some l70
  | 71 => some l71
  | 76 => some l76
  | 77 => some l77
  | 82 => some l82
  | 83 => some l83
  | 84 => some l84
  | 85 => some l85
  | 86 => some l86
  | 87 => some l87
  | 88 => some l88
  | 89 => some l89
  | 90 => some l90
  | 91 => some l91
  | 92 => some l92
  | 93 => some l93
  | 94 => some l94
  | 96 => some l96
  | 97 => some l97
  | 98 => some l98
  | 99 => some l99
  | 100 => some l100
  | 101 => some l101
  | 102 => some l102
  | 103 => some l103
  | 104 => some l104
  | 105 => some l105
  | _ => none
def Ct : Nat → Option LFun := fun k => (C2 k).map unF
def Ft : Nat → Option (List V → Option V) := fun _ => none
theorem tabOk : TabOk Try.prog Ft Ct where
  mixed := by kernel_rfl
  told _ _ _ _ h := by cases h
  code f lf h := by
    unfold Ct at h
    obtain ⟨l, hl, rfl⟩ := Option.map_eq_some_iff.1 h
    unfold C2 at hl
    split at hl
    · injection hl with hl; subst hl; exact ⟨_, _, Try.func5, of_decide_eq_true (by kernel_rfl), c5⟩
    · injection hl with hl; subst hl; exact ⟨_, _, Try.func8, of_decide_eq_true (by kernel_rfl), c8⟩
    · injection hl with hl; subst hl; exact ⟨_, _, Try.func11, of_decide_eq_true (by kernel_rfl), c11⟩
    · injection hl with hl; subst hl; exact ⟨_, _, Try.func12, of_decide_eq_true (by kernel_rfl), c12⟩
    · injection hl with hl; subst hl; exact ⟨_, _, Try.func13, of_decide_eq_true (by kernel_rfl), c13⟩
    · injection hl with hl; subst hl; exact ⟨_, _, Try.func14, of_decide_eq_true (by kernel_rfl), c14⟩
    · injection hl with hl; subst hl; exact ⟨_, _, Try.func16, of_decide_eq_true (by kernel_rfl), c16⟩
    · injection hl with hl; subst hl; exact ⟨_, _, Try.func18, of_decide_eq_true (by kernel_rfl), c18⟩
    · injection hl with hl; subst hl; exact ⟨_, _, Try.func19, of_decide_eq_true (by kernel_rfl), c19⟩
    · injection hl with hl; subst hl; exact ⟨_, _, Try.func20, of_decide_eq_true (by kernel_rfl), c20⟩
    · injection hl with hl; subst hl; exact ⟨_, _, Try.func21, of_decide_eq_true (by kernel_rfl), c21⟩
    · injection hl with hl; subst hl; exact ⟨_, _, Try.func29, of_decide_eq_true (by kernel_rfl), c29⟩
    · injection hl with hl; subst hl; exact ⟨_, _, Try.func30, of_decide_eq_true (by kernel_rfl), c30⟩
    · injection hl with hl; subst hl; exact ⟨_, _, Try.func31, of_decide_eq_true (by kernel_rfl), c31⟩
    · injection hl with hl; subst hl; exact ⟨_, _, Try.func32, of_decide_eq_true (by kernel_rfl), c32⟩
    · injection hl with hl; subst hl; exact ⟨_, _, Try.func33, of_decide_eq_true (by kernel_rfl), c33⟩
    · injection hl with hl; subst hl; exact ⟨_, _, Try.func34, of_decide_eq_true (by kernel_rfl), c34⟩
    · injection hl with hl; subst hl; exact ⟨_, _, Try.func35, of_decide_eq_true (by kernel_rfl), c35⟩
    · injection hl with hl; subst hl; exact ⟨_, _, Try.func36, of_decide_eq_true (by kernel_rfl), c36⟩
    · injection hl with hl; subst hl; exact ⟨_, _, Try.func37, of_decide_eq_true (by kernel_rfl), c37⟩
    · injection hl with hl; subst hl; exact ⟨_, _, Try.func38, of_decide_eq_true (by kernel_rfl), c38⟩
    · injection hl with hl; subst hl; exact ⟨_, _, Try.func39, of_decide_eq_true (by kernel_rfl), c39⟩
    · injection hl with hl; subst hl; exact ⟨_, _, Try.func40, of_decide_eq_true (by kernel_rfl), c40⟩
    · injection hl with hl; subst hl; exact ⟨_, _, Try.func41, of_decide_eq_true (by kernel_rfl), c41⟩
    · injection hl with hl; subst hl; exact ⟨_, _, Try.func42, of_decide_eq_true (by kernel_rfl), c42⟩
    · injection hl with hl; subst hl; exact ⟨_, _, Try.func43, of_decide_eq_true (by kernel_rfl), c43⟩
    · injection hl with hl; subst hl; exact ⟨_, _, Try.func44, of_decide_eq_true (by kernel_rfl), c44⟩
    · injection hl with hl; subst hl; exact ⟨_, _, Try.func45, of_decide_eq_true (by kernel_rfl), c45⟩
    · injection hl with hl; subst hl; exact ⟨_, _, Try.func46, of_decide_eq_true (by kernel_rfl), c46⟩
    · injection hl with hl; subst hl; exact ⟨_, _, Try.func47, of_decide_eq_true (by kernel_rfl), c47⟩
    · injection hl with hl; subst hl; exact ⟨_, _, Try.func55, of_decide_eq_true (by kernel_rfl), c55⟩
    · injection hl with hl; subst hl; exact ⟨_, _, Try.func56, of_decide_eq_true (by kernel_rfl), c56⟩
    · injection hl with hl; subst hl; exact ⟨_, _, Try.func57, of_decide_eq_true (by kernel_rfl), c57⟩
    · injection hl with hl; subst hl; exact ⟨_, _, Try.func58, of_decide_eq_true (by kernel_rfl), c58⟩
    · injection hl with hl; subst hl; exact ⟨_, _, Try.func59, of_decide_eq_true (by kernel_rfl), c59⟩
    · injection hl with hl; subst hl; exact ⟨_, _, Try.func60, of_decide_eq_true (by kernel_rfl), c60⟩
    · injection hl with hl; subst hl; exact ⟨_, _, Try.func61, of_decide_eq_true (by kernel_rfl), c61⟩
    · injection hl with hl; subst hl; exact ⟨_, _, Try.func62, of_decide_eq_true (by kernel_rfl), c62⟩
    · injection hl with hl; subst hl; exact ⟨_, _, Try.func63, of_decide_eq_true (by kernel_rfl), c63⟩
    · injection hl with hl; subst hl; exact ⟨_, _, Try.func64, of_decide_eq_true (by kernel_rfl), c64⟩
    · injection hl with hl; subst hl; exact ⟨_, _, Try.func65, of_decide_eq_true (by kernel_rfl), c65⟩
    · injection hl with hl; subst hl; exact ⟨_, _, Try.func66, of_decide_eq_true (by kernel_rfl), c66⟩
    · injection hl with hl; subst hl; exact ⟨_, _, Try.func67, of_decide_eq_true (by kernel_rfl), c67⟩
    · injection hl with hl; subst hl; exact ⟨_, _, Try.func68, of_decide_eq_true (by kernel_rfl), c68⟩
    · injection hl with hl; subst hl; exact ⟨_, _, Try.func69, of_decide_eq_true (by kernel_rfl), c69⟩
    · injection hl with hl; subst hl; exact ⟨_, _, Try.func70, of_decide_eq_true (by kernel_rfl), c70⟩
    · injection hl with hl; subst hl; exact ⟨_, _, Try.func71, of_decide_eq_true (by kernel_rfl), c71⟩
    · injection hl with hl; subst hl; exact ⟨_, _, Try.func76, of_decide_eq_true (by kernel_rfl), c76⟩
    · injection hl with hl; subst hl; exact ⟨_, _, Try.func77, of_decide_eq_true (by kernel_rfl), c77⟩
    · injection hl with hl; subst hl; exact ⟨_, _, Try.func82, of_decide_eq_true (by kernel_rfl), c82⟩
    · injection hl with hl; subst hl; exact ⟨_, _, Try.func83, of_decide_eq_true (by kernel_rfl), c83⟩
    · injection hl with hl; subst hl; exact ⟨_, _, Try.func84, of_decide_eq_true (by kernel_rfl), c84⟩
    · injection hl with hl; subst hl; exact ⟨_, _, Try.func85, of_decide_eq_true (by kernel_rfl), c85⟩
    · injection hl with hl; subst hl; exact ⟨_, _, Try.func86, of_decide_eq_true (by kernel_rfl), c86⟩
    · injection hl with hl; subst hl; exact ⟨_, _, Try.func87, of_decide_eq_true (by kernel_rfl), c87⟩
    · injection hl with hl; subst hl; exact ⟨_, _, Try.func88, of_decide_eq_true (by kernel_rfl), c88⟩
    · injection hl with hl; subst hl; exact ⟨_, _, Try.func89, of_decide_eq_true (by kernel_rfl), c89⟩
    · injection hl with hl; subst hl; exact ⟨_, _, Try.func90, of_decide_eq_true (by kernel_rfl), c90⟩
    · injection hl with hl; subst hl; exact ⟨_, _, Try.func91, of_decide_eq_true (by kernel_rfl), c91⟩
    · injection hl with hl; subst hl; exact ⟨_, _, Try.func92, of_decide_eq_true (by kernel_rfl), c92⟩
    · injection hl with hl; subst hl; exact ⟨_, _, Try.func93, of_decide_eq_true (by kernel_rfl), c93⟩
    · injection hl with hl; subst hl; exact ⟨_, _, Try.func94, of_decide_eq_true (by kernel_rfl), c94⟩
    · injection hl with hl; subst hl; exact ⟨_, _, Try.func96, of_decide_eq_true (by kernel_rfl), c96⟩
    · injection hl with hl; subst hl; exact ⟨_, _, Try.func97, of_decide_eq_true (by kernel_rfl), c97⟩
    · injection hl with hl; subst hl; exact ⟨_, _, Try.func98, of_decide_eq_true (by kernel_rfl), c98⟩
    · injection hl with hl; subst hl; exact ⟨_, _, Try.func99, of_decide_eq_true (by kernel_rfl), c99⟩
    · injection hl with hl; subst hl; exact ⟨_, _, Try.func100, of_decide_eq_true (by kernel_rfl), c100⟩
    · injection hl with hl; subst hl; exact ⟨_, _, Try.func101, of_decide_eq_true (by kernel_rfl), c101⟩
    · injection hl with hl; subst hl; exact ⟨_, _, Try.func102, of_decide_eq_true (by kernel_rfl), c102⟩
    · injection hl with hl; subst hl; exact ⟨_, _, Try.func103, of_decide_eq_true (by kernel_rfl), c103⟩
    · injection hl with hl; subst hl; exact ⟨_, _, Try.func104, of_decide_eq_true (by kernel_rfl), c104⟩
    · injection hl with hl; subst hl; exact ⟨_, _, Try.func105, of_decide_eq_true (by kernel_rfl), c105⟩
    · cases hl
theorem tabC (f : Nat) (lf : LFun) (h : C2 f = some lf) : Ct f = some (unF lf) ∧ okC lf.body = true ∧ lf.sl = [] := by
  refine ⟨by unfold Ct; rw [h]; rfl, ?_⟩
  unfold C2 at h
  split at h
  · injection h with h; subst h; exact ⟨by kernel_rfl, rfl⟩
  · injection h with h; subst h; exact ⟨by kernel_rfl, rfl⟩
  · injection h with h; subst h; exact ⟨by kernel_rfl, rfl⟩
  · injection h with h; subst h; exact ⟨by kernel_rfl, rfl⟩
  · injection h with h; subst h; exact ⟨by kernel_rfl, rfl⟩
  · injection h with h; subst h; exact ⟨by kernel_rfl, rfl⟩
  · injection h with h; subst h; exact ⟨by kernel_rfl, rfl⟩
  · injection h with h; subst h; exact ⟨by kernel_rfl, rfl⟩
  · injection h with h; subst h; exact ⟨by kernel_rfl, rfl⟩
  · injection h with h; subst h; exact ⟨by kernel_rfl, rfl⟩
  · injection h with h; subst h; exact ⟨by kernel_rfl, rfl⟩
  · injection h with h; subst h; exact ⟨by kernel_rfl, rfl⟩
  · injection h with h; subst h; exact ⟨by kernel_rfl, rfl⟩
  · injection h with h; subst h; exact ⟨by kernel_rfl, rfl⟩
  · injection h with h; subst h; exact ⟨by kernel_rfl, rfl⟩
  · injection h with h; subst h; exact ⟨by kernel_rfl, rfl⟩
  · injection h with h; subst h; exact ⟨by kernel_rfl, rfl⟩
  · injection h with h; subst h; exact ⟨by kernel_rfl, rfl⟩
  · injection h with h; subst h; exact ⟨by kernel_rfl, rfl⟩
  · injection h with h; subst h; exact ⟨by kernel_rfl, rfl⟩
  · injection h with h; subst h; exact ⟨by kernel_rfl, rfl⟩
  · injection h with h; subst h; exact ⟨by kernel_rfl, rfl⟩
  · injection h with h; subst h; exact ⟨by kernel_rfl, rfl⟩
  · injection h with h; subst h; exact ⟨by kernel_rfl, rfl⟩
  · injection h with h; subst h; exact ⟨by kernel_rfl, rfl⟩
  · injection h with h; subst h; exact ⟨by kernel_rfl, rfl⟩
  · injection h with h; subst h; exact ⟨by kernel_rfl, rfl⟩
  · injection h with h; subst h; exact ⟨by kernel_rfl, rfl⟩
  · injection h with h; subst h; exact ⟨by kernel_rfl, rfl⟩
  · injection h with h; subst h; exact ⟨by kernel_rfl, rfl⟩
  · injection h with h; subst h; exact ⟨by kernel_rfl, rfl⟩
  · injection h with h; subst h; exact ⟨by kernel_rfl, rfl⟩
  · injection h with h; subst h; exact ⟨by kernel_rfl, rfl⟩
  · injection h with h; subst h; exact ⟨by kernel_rfl, rfl⟩
  · injection h with h; subst h; exact ⟨by kernel_rfl, rfl⟩
  · injection h with h; subst h; exact ⟨by kernel_rfl, rfl⟩
  · injection h with h; subst h; exact ⟨by kernel_rfl, rfl⟩
  · injection h with h; subst h; exact ⟨by kernel_rfl, rfl⟩
  · injection h with h; subst h; exact ⟨by kernel_rfl, rfl⟩
  · injection h with h; subst h; exact ⟨by kernel_rfl, rfl⟩
  · injection h with h; subst h; exact ⟨by kernel_rfl, rfl⟩
  · injection h with h; subst h; exact ⟨by kernel_rfl, rfl⟩
  · injection h with h; subst h; exact ⟨by kernel_rfl, rfl⟩
  · injection h with h; subst h; exact ⟨by kernel_rfl, rfl⟩
  · injection h with h; subst h; exact ⟨by kernel_rfl, rfl⟩
  · injection h with h; subst h; exact ⟨by kernel_rfl, rfl⟩
  · injection h with h; subst h; exact ⟨by kernel_rfl, rfl⟩
  · injection h with h; subst h; exact ⟨by kernel_rfl, rfl⟩
  · injection h with h; subst h; exact ⟨by kernel_rfl, rfl⟩
  · injection h with h; subst h; exact ⟨by kernel_rfl, rfl⟩
  · injection h with h; subst h; exact ⟨by kernel_rfl, rfl⟩
  · injection h with h; subst h; exact ⟨by kernel_rfl, rfl⟩
  · injection h with h; subst h; exact ⟨by kernel_rfl, rfl⟩
  · injection h with h; subst h; exact ⟨by kernel_rfl, rfl⟩
  · injection h with h; subst h; exact ⟨by kernel_rfl, rfl⟩
  · injection h with h; subst h; exact ⟨by kernel_rfl, rfl⟩
  · injection h with h; subst h; exact ⟨by kernel_rfl, rfl⟩
  · injection h with h; subst h; exact ⟨by kernel_rfl, rfl⟩
  · injection h with h; subst h; exact ⟨by kernel_rfl, rfl⟩
  · injection h with h; subst h; exact ⟨by kernel_rfl, rfl⟩
  · injection h with h; subst h; exact ⟨by kernel_rfl, rfl⟩
  · injection h with h; subst h; exact ⟨by kernel_rfl, rfl⟩
  · injection h with h; subst h; exact ⟨by kernel_rfl, rfl⟩
  · injection h with h; subst h; exact ⟨by kernel_rfl, rfl⟩
  · injection h with h; subst h; exact ⟨by kernel_rfl, rfl⟩
  · injection h with h; subst h; exact ⟨by kernel_rfl, rfl⟩
  · injection h with h; subst h; exact ⟨by kernel_rfl, rfl⟩
  · injection h with h; subst h; exact ⟨by kernel_rfl, rfl⟩
  · injection h with h; subst h; exact ⟨by kernel_rfl, rfl⟩
  · injection h with h; subst h; exact ⟨by kernel_rfl, rfl⟩
  · injection h with h; subst h; exact ⟨by kernel_rfl, rfl⟩
  · injection h with h; subst h; exact ⟨by kernel_rfl, rfl⟩
  · cases h
end Go.Lo
