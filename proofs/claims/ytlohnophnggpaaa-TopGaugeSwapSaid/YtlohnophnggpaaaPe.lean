/- Texts put together. -/
import Derived.Test.YtlohnophnggpaaaPd
import Derived.Test.YtlohnophnggpaaaProg
import Derived.KernelRfl
/- Code and functions of the plain machine do what the logical ones do. -/
namespace Go.Lo
section
variable {call2 call : Nat → List V → Option V}

theorem stepI_sim (hc : CallSim call2 call) {i : LIns} (hi : okI i = true) {σ2 σ σ2' : St} (h : RelS σ2 σ) (hs : stepI2 call2 i σ2 = some σ2') : ∃ σ', stepI call (unI i) σ = some σ' ∧ RelS σ2' σ' := by
  unfold okI at hi
  simp only [Bool.and_eq_true] at hi
  unfold stepI2 at hs
  split at hs
  · rename_i hw
    split at hs
    · rename_i ws hws
      split at hs
      · rename_i e2 he
        simp only [Option.some.injEq] at hs; subst hs
        obtain ⟨vs, g1, g2⟩ := opds_rel h.fr hi.2 hws
        obtain ⟨e, g3, g4⟩ := sem_sim hc h hi.1 g2 he
        refine ⟨apply σ i.dst e, ?_, g4⟩
        unfold stepI unI
        simp only [wanted_rel h.fr hw, g1, g3]
      · cases hs
    · cases hs
  · rename_i hw
    simp only [Option.some.injEq] at hs; subst hs
    refine ⟨{ σ with fr := putO σ.fr i.dst .und }, ?_, h.fr.putO (by simp only [Rel]) _, h.tr⟩
    unfold stepI unI
    simp only [wanted_rel h.fr hw]
  · cases hs
theorem stepL_sim (hc : CallSim call2 call) : ∀ {is : List LIns} {σ2 σ σ2' : St}, is.all okI = true → RelS σ2 σ → stepL2 call2 is σ2 = some σ2' → ∃ σ', stepL call (is.map unI) σ = some σ' ∧ RelS σ2' σ'
  | [], σ2, σ, σ2', _, h, hs => by
    simp only [stepL2, Option.some.injEq] at hs; subst hs
    exact ⟨σ, rfl, h⟩
  | i :: is, σ2, σ, σ2', hi, h, hs => by
    simp only [List.all_cons, Bool.and_eq_true] at hi
    simp only [stepL2] at hs
    split at hs
    · rename_i σ1 h1
      obtain ⟨σ1', g1, g2⟩ := stepI_sim hc hi.1 h h1
      obtain ⟨σ', g3, g4⟩ := stepL_sim hc hi.2 g2 hs
      exact ⟨σ', by simp only [List.map_cons, stepL, g1, g3], g4⟩
    · cases hs
/-- One part of code beside another. -/
def CSim (f2 f : St → Option (Ex × St)) : Prop := ∀ σ2 σ ex σ2', RelS σ2 σ → f2 σ2 = some (ex, σ2') → ∃ σ', f σ = some (ex, σ') ∧ RelS σ2' σ'
theorem iter_sim {f2 f : St → Option (Ex × St)} (h : CSim f2 f) : ∀ n, CSim (iter f2 n) (iter f n)
  | 0, _, _, _, _, _, hs => by simp [iter] at hs
  | n + 1, σ2, σ, ex, σ2', hr, hs => by
    simp only [iter] at hs ⊢
    split at hs
    · rename_i σ1 h1
      obtain ⟨σ1', g1, g2⟩ := h _ _ _ _ hr h1
      obtain ⟨σ', g3, g4⟩ := iter_sim h n _ _ _ _ g2 hs
      exact ⟨σ', by rw [g1]; exact g3, g4⟩
    · rename_i hne
      obtain ⟨σ', g1, g2⟩ := h _ _ _ _ hr hs
      refine ⟨σ', ?_, g2⟩
      rw [g1]
      cases ex with
      | normal => exact (hne _ hs).elim
      | exit id => rfl
      | ret => rfl
theorem putA_rel {tk : TkF} : ∀ {ps : List Nat} {ws vs : List V} {fr2 fr : List (Nat × V)}, RelL ws noT vs → RelFr fr2 fr tk → RelFr (putA ps ws fr2) (putA ps vs fr) tk
  | [], ws, vs, fr2, fr, _, h => by simpa only [putA] using h
  | p :: ps, [], vs, fr2, fr, hw, h => by have := hw.inv0; subst this; simpa only [putA] using h
  | p :: ps, w :: ws, vs, fr2, fr, hw, h => by
    obtain ⟨v, r, rfl, h1, h2⟩ := hw.inv
    simp only [putA]
    exact putA_rel h2 (h.put h1.wk p)
def RSim (f2 f : St → List V → Option (Ex × St)) : Prop := ∀ σ2 σ as2 as9 ex σ2', RelS σ2 σ → RelL as2 noT as9 → f2 σ2 as2 = some (ex, σ2') → ∃ σ', f σ as9 = some (ex, σ') ∧ RelS σ2' σ'
theorem round_sim {a2 a b2 b : St → Option (Ex × St)} (ha : CSim a2 a) (hb : CSim b2 b) (ps wr : List Nat) : RSim (roundE a2 b2 ps wr) (roundE a b ps wr) := by
  intro σ2 σ as2 as9 ex σ2' h hw hs
  unfold roundE at hs ⊢
  split at hs
  · rename_i hl
    rw [if_pos (by rw [hw.length]; exact hl)]
    split at hs
    · rename_i σ1 h1
      obtain ⟨σ1', g1, g2⟩ := ha { σ2 with fr := putA ps as2 (dropL wr σ2.fr) } { σ with fr := putA ps as9 (dropL wr σ.fr) } _ _ ⟨putA_rel hw (h.fr.drop wr), h.tr⟩ h1
      rw [g1]
      simp only
      split at hs
      · rename_i ex' σ3 h3
        simp only [Option.some.injEq, Prod.mk.injEq] at hs
        obtain ⟨rfl, rfl⟩ := hs
        obtain ⟨σ3', g3, g4⟩ := hb _ _ _ _ g2 h3
        rw [g3]
        exact ⟨_, rfl, g4.fr.drop wr, g4.tr⟩
      · cases hs
    · cases hs
  · cases hs
theorem fold_sim {f2 f : St → List V → Option (Ex × St)} (hf : RSim f2 f) : ∀ {l2 l : List (List V)} {k : Nat} {σ2 σ : St} {r : Option (Nat × Ex)} {σ2' : St}, RelE l2 l → RelS σ2 σ → foldR f2 k σ2 l2 = some (r, σ2') → ∃ σ', foldR f k σ l = some (r, σ') ∧ RelS σ2' σ'
  | [], l, k, σ2, σ, r, σ2', hl, h, hs => by
    have := hl.nil_left; subst this
    simp only [foldR, Option.some.injEq, Prod.mk.injEq] at hs
    obtain ⟨rfl, rfl⟩ := hs
    exact ⟨σ, rfl, h⟩
  | x :: l2, l, k, σ2, σ, r, σ2', hl, h, hs => by
    simp only [RelE] at hl
    obtain ⟨y, l1, rfl, h1, h2⟩ := hl
    simp only [foldR] at hs ⊢
    split at hs
    · rename_i σ1 e1
      obtain ⟨σ1', g1, g2⟩ := hf _ _ _ _ _ _ h h1 e1
      rw [g1]
      exact fold_sim hf h2 g2 hs
    · rename_i ex σ1 hne e1
      simp only [Option.some.injEq, Prod.mk.injEq] at hs
      obtain ⟨rfl, rfl⟩ := hs
      obtain ⟨σ1', g1, g2⟩ := hf _ _ _ _ _ _ h h1 e1
      rw [g1]
      cases ex with
      | normal => exact (hne rfl).elim
      | exit id => exact ⟨σ1', rfl, g2⟩
      | ret => exact ⟨σ1', rfl, g2⟩
    · cases hs
theorem rng_sim {f2 f : St → List V → Option (Ex × St)} (hf : RSim f2 f) {it2 it : Nat → Option V} (hit : ∀ a l2, itemsOf (it2 a) = some l2 → ∃ l, itemsOf (it a) = some l ∧ RelE l2 l) : CSim (rngE f2 it2) (rngE f it) := by
  intro σ2 σ ex σ2' h hs
  unfold rngE at hs ⊢
  split at hs
  · cases hs
  · rename_i items h1
    obtain ⟨l, g1, g2⟩ := hit _ _ h1
    rw [g1]
    simp only
    split at hs
    · rename_i σ1 h2
      simp only [Option.some.injEq, Prod.mk.injEq] at hs
      obtain ⟨rfl, rfl⟩ := hs
      obtain ⟨σ', g3, g4⟩ := fold_sim hf g2 h h2
      rw [g3]
      exact ⟨σ', rfl, g4⟩
    · rename_i k e σ1 h2
      obtain ⟨σ', g3, g4⟩ := fold_sim hf g2 h h2
      rw [g3]
      simp only
      split at hs
      · cases hs
      · rename_i items' h3
        obtain ⟨l', g5, g6⟩ := hit _ _ h3
        rw [g5]
        simp only
        split at hs
        · rename_i k' ex' σ3 h4
          split at hs
          · rename_i hcond
            simp only [Option.some.injEq, Prod.mk.injEq] at hs
            obtain ⟨rfl, rfl⟩ := hs
            obtain ⟨σ3', g7, g8⟩ := fold_sim hf g6 h h4
            rw [g7]
            refine ⟨σ3', ?_, g8⟩
            simp only
            rw [if_pos ⟨hcond.1, by rw [g6.length]; exact hcond.2⟩]
          · cases hs
        · cases hs
    · cases hs
theorem pm_items {as2 as9 : List V} (h : RelL as2 noT as9) (k : (as2.all fun v => v.cells.all V.pm) = true) : (as9.all fun v => v.cells.all V.pm) = true := by
  induction as2 generalizing as9 with
  | nil => have := h.inv0; subst this; rfl
  | cons x a ih =>
    obtain ⟨y, b', rfl, k1, k2⟩ := h.inv
    simp only [List.all_cons, Bool.and_eq_true] at k ⊢
    exact ⟨((k1.cells (all_pm_cellOk k.1)).pm k.1).1, ih k2 k.2⟩
theorem andO_some {x y : Option Bool} {c : Bool} (h : andO x y = some c) : ∃ a b, x = some a ∧ y = some b ∧ c = (a || b) := by
  cases x <;> cases y <;> simp only [andO, reduceCtorEq, Option.some.injEq] at h
  exact ⟨_, _, rfl, rfl, h.symm⟩
theorem slT_rel {ts : List Nat} {w v : V} {tk : TkF} {c : Bool} (h : Rel w tk v) (ht : slT2 ts w = some c) : slT ts v = c := by
  cases w
  case sl t sz es =>
    cases t with
    | none =>
      simp only [slT2, Option.some.injEq] at ht; subst ht
      simp only [Rel] at h
      rcases h with ⟨_, rfl⟩ | ⟨es', rfl, _⟩ <;> rfl
    | some u =>
      simp only [Rel] at h
      rcases h with ⟨h1, rfl, rfl⟩ | ⟨es', rfl, h1, w0, _, _, _, h2⟩
      · simp only [slT2, h1, Option.some.injEq] at ht; subst ht; rfl
      · simp only [slT]
        cases es with
        | nil =>
          simp only [slT2, Option.some.injEq] at ht
          have : mbT u = false := by
            cases hm : mbT u with
            | false => rfl
            | true => exact absurd rfl (h2 hm)
          rw [this] at ht
          simpa using ht
        | cons e es => simpa only [slT2, Option.some.injEq] using ht
  case dead => simp [slT2] at ht
  all_goals
    simp only [slT2, Option.some.injEq] at ht; subst ht
    simp only [Rel] at h
    first
      | (subst h; rfl)
      | (obtain ⟨ds, rfl, _⟩ := h; rfl)
theorem slTL_rel {ts : List Nat} {tk : TkF} : ∀ {ws vs : List V} {c : Bool}, RelL ws tk vs → slTL2 ts ws = some c → vs.any (slT ts) = c
  | [], vs, c, h, ht => by
    have := h.inv0; subst this
    simpa only [slTL2, Option.some.injEq, List.any_nil] using ht
  | w :: ws, vs, c, h, ht => by
    obtain ⟨v, r, rfl, h1, h2⟩ := h.inv
    simp only [slTL2] at ht
    obtain ⟨a, b, q1, q2, rfl⟩ := andO_some ht
    rw [List.any_cons, slT_rel h1 q1, slTL_rel h2 q2]
theorem hasT_rel {ts : List Nat} {w v : V} {tk : TkF} {c : Bool} (h : Rel w tk v) (ht : hasT2 ts w = some c) : hasT ts v = c := by
  cases w
  case box cs =>
    simp only [Rel] at h
    obtain ⟨ds, rfl, h1⟩ := h
    exact slTL_rel h1 ht
  case dead => simp [hasT2, slT2] at ht
  case sl t sz es =>
    have k := slT_rel (ts := ts) h ht
    cases t with
    | none => simp only [Rel] at h; rcases h with ⟨_, rfl⟩ | ⟨es', rfl, _⟩ <;> exact k
    | some u => simp only [Rel] at h; rcases h with ⟨_, _, rfl⟩ | ⟨es', rfl, _⟩ <;> exact k
  all_goals
    have k := slT_rel (ts := ts) h ht
    simp only [Rel] at h
    first
      | (subst h; exact k)
      | (obtain ⟨ds, rfl, _⟩ := h; exact k)
theorem rel_nr {w v : V} {tk : TkF} (h : Rel w tk v) (hw : ∀ s o, w ≠ .ref s o) : w = .dead ∨ ∀ s o, v ≠ .ref s o := by
  cases w with
  | dead => exact .inl rfl
  | ref s o => exact absurd rfl (hw s o)
  | sl t sz es =>
    cases t with
    | none =>
      simp only [Rel] at h
      rcases h with ⟨_, rfl⟩ | ⟨_, rfl, _⟩ <;> exact .inr fun _ _ e => by cases e
    | some u =>
      simp only [Rel] at h
      rcases h with ⟨_, _, rfl⟩ | ⟨_, rfl, _⟩ <;> exact .inr fun _ _ e => by cases e
  | _ =>
    simp only [Rel] at h
    first
      | (subst h; exact .inr fun _ _ e => by cases e)
      | (obtain ⟨_, rfl, _⟩ := h; exact .inr fun _ _ e => by cases e)
theorem getR_rel {fr2 fr : List (Nat × V)} {tk : TkF} (h : RelFr fr2 fr tk) {k : Nat} {w : V} (hw : getR fr2 k = some w) : w = .dead ∨ ∃ v, getR fr k = some v ∧ Rel w tk v := by
  unfold getR at hw ⊢
  cases hk : get fr2 k with
  | none => rw [hk] at hw; cases hw
  | some u =>
    rw [hk] at hw
    rcases h k u hk with rfl | ⟨v, g1, g2⟩
    · injection hw with hw; exact .inl hw.symm
    · by_cases hr : ∃ s o, u = .ref s o
      · obtain ⟨s, o, rfl⟩ := hr
        simp only [Rel] at g2
        subst g2
        rw [g1]
        exact h s w hw
      · have e : w = u := by
            cases u with
            | ref s o => exact absurd ⟨s, o, rfl⟩ hr
            | _ => simp only [Option.some.injEq] at hw; exact hw.symm
        subst e
        rcases rel_nr g2 (fun s o e => hr ⟨s, o, e⟩) with h1 | h1
        · exact .inl h1
        · refine .inr ⟨v, ?_, g2⟩
          rw [g1]
          cases v with
          | ref s o => exact absurd rfl (h1 s o)
          | _ => rfl
theorem altT_rel {ts : List Nat} {fr2 fr : List (Nat × V)} {tk : TkF} (h : RelFr fr2 fr tk) : ∀ {ks : List Nat} {c : Bool}, altT2 ts fr2 ks = some c → altT ts fr ks = c
  | [], c, ht => by simpa only [altT2, Option.some.injEq, altT] using ht
  | k :: ks, c, ht => by
    simp only [altT2] at ht
    split at ht
    · rename_i w hw
      obtain ⟨a, b, q1, q2, rfl⟩ := andO_some ht
      rcases getR_rel h hw with rfl | ⟨v, g1, g2⟩
      · simp [hasT2, slT2] at q1
      · simp only [altT, g1, hasT_rel g2 q1, altT_rel h q2]
    · cases ht
theorem code_sim (hc : CallSim call2 call) (N : Nat) : ∀ (c : LCode), okC c = true → CSim (evC2 call2 N c) (evC call N (unC c)) := by
  intro c
  induction c with
  | skip =>
    intro _ σ2 σ ex σ2' h hs
    simp only [evC2, Option.some.injEq, Prod.mk.injEq] at hs
    obtain ⟨rfl, rfl⟩ := hs
    exact ⟨σ, rfl, h⟩
  | exit id =>
    intro _ σ2 σ ex σ2' h hs
    simp only [evC2, Option.some.injEq, Prod.mk.injEq] at hs
    obtain ⟨rfl, rfl⟩ := hs
    exact ⟨σ, rfl, h⟩
  | ret =>
    intro _ σ2 σ ex σ2' h hs
    simp only [evC2, Option.some.injEq, Prod.mk.injEq] at hs
    obtain ⟨rfl, rfl⟩ := hs
    exact ⟨σ, rfl, h⟩
  | bad => intro _ σ2 σ ex σ2' h hs; simp [evC2] at hs
  | reg lp ds pp ops kn kp =>
    intro hok σ2 σ ex σ2' h hs
    simp only [evC2] at hs
    split at hs
    · rename_i σ1 h1
      simp only [Option.some.injEq, Prod.mk.injEq] at hs
      obtain ⟨rfl, rfl⟩ := hs
      obtain ⟨σ', g1, g2⟩ := stepL_sim hc (by simpa only [okC] using hok) (prep_rel h lp pp) h1
      exact ⟨{ σ' with fr := keepL kn kp σ'.fr }, by simp only [unC, evC, g1], g2.fr.keep kn kp, g2.tr⟩
    · cases hs
  | seq a b iha ihb =>
    intro hok σ2 σ ex σ2' h hs
    simp only [okC, Bool.and_eq_true] at hok
    simp only [evC2] at hs
    simp only [unC, evC]
    split at hs
    · rename_i σ1 h1
      obtain ⟨σ', g1, g2⟩ := iha hok.1 _ _ _ _ h h1
      rw [g1]
      exact ihb hok.2 _ _ _ _ g2 hs
    · rename_i hne
      obtain ⟨σ', g1, g2⟩ := iha hok.1 _ _ _ _ h hs
      refine ⟨σ', ?_, g2⟩
      rw [g1]
      cases ex with
      | normal => exact (hne _ hs).elim
      | exit id => rfl
      | ret => rfl
  | cond c a b iha ihb =>
    intro hok σ2 σ ex σ2' h hs
    simp only [okC, Bool.and_eq_true] at hok
    simp only [evC2] at hs
    simp only [unC, evC]
    split at hs
    · rename_i t ht
      obtain ⟨v, g1, g2⟩ := opd_rel h.fr hok.1.1 ht
      simp only [Rel] at g2; subst g2
      rw [g1]
      simp only
      split at hs
      · rename_i hb
        rw [if_pos hb]
        exact iha hok.1.2 _ _ _ _ h hs
      · rename_i hb
        rw [if_neg hb]
        exact ihb hok.2 _ _ _ _ h hs
    · cases hs
  | alt ts ks a b iha ihb =>
    intro hok σ2 σ ex σ2' h hs
    simp only [okC, Bool.and_eq_true] at hok
    simp only [evC2] at hs
    simp only [unC, evC]
    split at hs
    · rename_i ht
      rw [if_pos (altT_rel h.fr ht)]
      exact ihb hok.2 _ _ _ _ h hs
    · rename_i ht
      rw [if_neg (by rw [altT_rel h.fr ht]; simp)]
      exact iha hok.1 _ _ _ _ h hs
    · cases hs
  | block id a ih =>
    intro hok σ2 σ ex σ2' h hs
    simp only [okC] at hok
    simp only [evC2] at hs
    simp only [unC, evC]
    split at hs
    · rename_i j σ1 h1
      obtain ⟨σ', g1, g2⟩ := ih hok _ _ _ _ h h1
      rw [g1]
      simp only
      split at hs
      · rename_i hj
        simp only [Option.some.injEq, Prod.mk.injEq] at hs
        obtain ⟨rfl, rfl⟩ := hs
        exact ⟨σ', by rw [if_pos hj], g2⟩
      · rename_i hj
        simp only [Option.some.injEq, Prod.mk.injEq] at hs
        obtain ⟨rfl, rfl⟩ := hs
        exact ⟨σ', by rw [if_neg hj], g2⟩
    · rename_i hne
      obtain ⟨σ', g1, g2⟩ := ih hok _ _ _ _ h hs
      refine ⟨σ', ?_, g2⟩
      rw [g1]
      cases ex with
      | normal => rfl
      | exit id => exact (hne _ _ hs).elim
      | ret => rfl
  | loop a ih =>
    intro hok σ2 σ ex σ2' h hs
    simp only [okC] at hok
    simp only [evC2] at hs
    simp only [unC, evC]
    exact iter_sim (ih hok) N _ _ _ _ h hs
  | rng g ps wr a b iha ihb =>
    intro hok σ2 σ ex σ2' h hs
    simp only [okC, Bool.and_eq_true] at hok
    simp only [evC2] at hs
    simp only [unC, evC]
    have hit : ∀ {f : Nat} {ys2 ys : Nat → List V}, (∀ a, RelL (ys2 a) noT (ys a)) → ∀ a l2, itemsOf (call2 f (ys2 a)) = some l2 → ∃ l, itemsOf (call f (ys a)) = some l ∧ RelE l2 l := by
      intro f ys2 ys hy a l2 hl
      cases hr : call2 f (ys2 a) with
      | none => rw [hr] at hl; cases hl
      | some r2 =>
        rw [hr] at hl
        obtain ⟨r, g1, _, g3⟩ := hc f _ r2 _ hr (hy a)
        obtain ⟨l, g4, g5⟩ := g3 l2 hl
        exact ⟨l, by rw [g1]; exact g4, g5⟩
    have hy1 : ∀ a, Rel (.fn (.y a) []) noT (.fn (.y a) []) := fun a => by simp only [Rel]; exact ⟨[], rfl, RelL.nil⟩
    have htr : ∀ {x : Option (List (List V))}, σ2.tr = none → RelTr σ2.tr x → x = none := fun {x} e k => by
      rw [e] at k
      cases x with
      | none => rfl
      | some l => simp [RelTr] at k
    split at hs
    · rename_i f caps ht ho
      split at hs
      · rename_i cs us hf
        split at hs
        · rename_i hpm
          obtain ⟨v, g1, g2⟩ := opd_rel h.fr hok.1.1 ho
          simp only [Rel] at g2
          obtain ⟨ds, rfl, g2⟩ := g2
          obtain ⟨ds', ts, g3, g4, g5⟩ := frzEL_rel _ _ _ _ g2 hf
          rw [htr ht h.tr, g1]
          simp only [g3]
          rw [if_pos (pm_items g4 hpm)]
          exact rng_sim (round_sim (iha hok.1.2) (ihb hok.2) ps wr) (hit (ys2 := fun a => .fn (.y a) [] :: cs) (ys := fun a => .fn (.y a) [] :: ds') fun a => RelL.cons (hy1 a) g4) _ { fr := dropL wr σ.fr, tk := protT ts σ.tk, tr := none } _ _ ⟨(roF_rel h.fr g5).drop wr, by rw [ht]; trivial⟩ hs
        · cases hs
      · cases hs
    · rename_i f caps ht ho
      split at hs
      · rename_i cs us hf
        split at hs
        · rename_i hpm
          obtain ⟨v, g1, g2⟩ := opd_rel h.fr hok.1.1 ho
          simp only [Rel] at g2
          obtain ⟨ds, rfl, g2⟩ := g2
          obtain ⟨ds', ts, g3, g4, g5⟩ := frzEL_rel _ _ _ _ g2 hf
          rw [htr ht h.tr, g1]
          simp only [g3]
          rw [if_pos (pm_items g4 hpm)]
          exact rng_sim (round_sim (iha hok.1.2) (ihb hok.2) ps wr) (hit (ys2 := fun a => cs ++ [.fn (.y a) []]) (ys := fun a => ds' ++ [.fn (.y a) []]) fun a => g4.append (RelL.one (hy1 a))) _ { fr := dropL wr σ.fr, tk := protT ts σ.tk, tr := none } _ _ ⟨(roF_rel h.fr g5).drop wr, by rw [ht]; trivial⟩ hs
        · cases hs
      · cases hs
    · cases hs
/-! ### What is given back -/
structure FinS (tk : TkF) (c : Nat) (us2 us gs : List Nat) : Prop where
  len : us.length = c
  low : ∀ t ∈ us2, t < 1000000
  of : ∀ t ∈ us, t ∈ us2 ∨ ∃ j, j < c ∧ t = dumT j
  gone : ∀ t ∈ gs, t < 1000000 ∧ ∃ n, tk t = some (n, false)
theorem FinS.dumOk {tk : TkF} {c : Nat} {us2 us gs : List Nat} (h : FinS tk c us2 us gs) : dumOk us gs = true := by
  unfold Lo.dumOk
  simp only [Bool.and_eq_true, Bool.not_eq_true']
  refine ⟨?_, ?_⟩
  · cases hm : memN (dumT us.length) us with
    | false => rfl
    | true =>
      rcases h.of _ ((memN_iff _ _).1 hm) with k | ⟨j, hj, e⟩
      · have := h.low _ k; unfold dumT at this; omega
      · rw [h.len] at e; unfold dumT at e; omega
  · cases hm : memN (dumT us.length) gs with
    | false => rfl
    | true => have := (h.gone _ ((memN_iff _ _).1 hm)).1; unfold dumT at this; omega
theorem FinS.dum {tk : TkF} {c : Nat} {us2 us gs : List Nat} (h : FinS tk c us2 us gs) : FinS tk (c + 1) us2 (us ++ [dumT us.length]) gs := by
  refine ⟨by simp [h.len], h.low, fun t ht => ?_, h.gone⟩
  rcases List.mem_append.1 ht with ht | ht
  · rcases h.of t ht with k | ⟨j, hj, e⟩
    · exact .inl k
    · exact .inr ⟨j, by omega, e⟩
  · rw [List.mem_singleton] at ht
    exact .inr ⟨c, by omega, by rw [ht, h.len]⟩
theorem FinS.add {tk : TkF} {c t : Nat} {us2 us gs : List Nat} (h : FinS tk c us2 us gs) (ht : t < 1000000) : FinS tk c (t :: us2) us gs :=
  ⟨h.len, fun s hs => by rcases List.mem_cons.1 hs with rfl | hs; exact ht; exact h.low s hs, fun s hs => by rcases h.of s hs with k | k; exact .inl (List.mem_cons_of_mem _ k); exact .inr k, h.gone⟩
theorem num_tok {c : Nat} (h : c < 1000000) : tb c = c ∧ tb (2000000 + c) = c ∧ rwT c = true ∧ rwT (2000000 + c) = true ∧ mbT (2000000 + c) = true ∧ roX c = false ∧ roX (2000000 + c) = false := by
  unfold tb rwT mbT roX
  refine ⟨by omega, by omega, by simp only [decide_eq_true_eq]; omega, by simp only [decide_eq_true_eq]; omega, by simp only [decide_eq_true_eq]; omega, by simp only [decide_eq_false_iff_not]; omega, by simp only [decide_eq_false_iff_not]; omega⟩
mutual
theorem fin_sim {l : List (Nat × Nat × Bool)} : ∀ (w v w' : V) (c c' : Nat) (us2 us2' us gs : List Nat), Rel w (get l) v → w.fin2 (c, us2) = some (w', c', us2') → FinS (get l) c us2 us gs →
    ∃ v' us' gs', v.fin l (us, gs) = some (v', us', gs') ∧ FinS (get l) c' us2' us' gs' ∧ us <+: us' ∧ (∀ U, us' <+: U → Rel w' (fun k => (U[k]?).bind (get l)) v') ∧ (∀ ρ : TkF, (∀ k n, (k, n) ∈ v'.tks → ρ k = some (n, true)) → Rel w' ρ v')
  | .bool b, v, w', c, c', us2, us2', us, gs, h, hf, hs => by
    simp only [Rel] at h; subst h
    simp only [V.fin2, Option.some.injEq, Prod.mk.injEq] at hf
    obtain ⟨rfl, rfl, rfl⟩ := hf
    exact ⟨_, _, _, rfl, hs, List.prefix_refl _, fun _ _ => by simp only [Rel], fun _ _ => by simp only [Rel]⟩
  | .int k n, v, w', c, c', us2, us2', us, gs, h, hf, hs => by
    simp only [Rel] at h; subst h
    simp only [V.fin2, Option.some.injEq, Prod.mk.injEq] at hf
    obtain ⟨rfl, rfl, rfl⟩ := hf
    exact ⟨_, _, _, rfl, hs, List.prefix_refl _, fun _ _ => by simp only [Rel], fun _ _ => by simp only [Rel]⟩
  | .nil, v, w', c, c', us2, us2', us, gs, h, hf, hs => by
    simp only [Rel] at h; subst h
    simp only [V.fin2, Option.some.injEq, Prod.mk.injEq] at hf
    obtain ⟨rfl, rfl, rfl⟩ := hf
    exact ⟨.nil, _, _, by simp only [V.fin]; rw [if_pos hs.dumOk], hs.dum, List.prefix_append _ _, fun _ _ => by simp only [Rel], fun _ _ => by simp only [Rel]⟩
  | .sl none sz es, v, w', c, c', us2, us2', us, gs, h, hf, hs => by
    simp only [V.fin2, Option.some.injEq, Prod.mk.injEq] at hf
    obtain ⟨rfl, rfl, rfl⟩ := hf
    simp only [Rel] at h
    rcases h with ⟨h1, rfl⟩ | ⟨es', rfl, h1⟩
    · exact ⟨.nil, _, _, by simp only [V.fin]; rw [if_pos hs.dumOk], hs.dum, List.prefix_append _ _, fun _ _ => by simp only [Rel]; exact .inl ⟨h1, trivial⟩, fun _ _ => by simp only [Rel]; exact .inl ⟨h1, trivial⟩⟩
    · exact ⟨.sl none sz es', _, _, by simp only [V.fin]; rw [if_pos hs.dumOk], hs.dum, List.prefix_append _ _, fun _ _ => by simp only [Rel]; exact .inr ⟨es', rfl, h1⟩, fun _ _ => by simp only [Rel]; exact .inr ⟨es', rfl, h1⟩⟩
  | .sl (some u) sz es, v, w', c, c', us2, us2', us, gs, h, hf, hs => by
    simp only [V.fin2] at hf
    split at hf
    · cases hf
    rename_i hm
    split at hf
    · rename_i hrw
      obtain ⟨hrw, hc⟩ := hrw
      simp only [Option.some.injEq, Prod.mk.injEq] at hf
      obtain ⟨rfl, rfl, rfl⟩ := hf
      obtain ⟨n1, n2, n3, n4, n5, n6, n7⟩ := num_tok hc
      simp only [Rel] at h
      rcases h with ⟨h0, h1, rfl⟩ | ⟨es', rfl, h1, w0, g1, g2, _, g4⟩
      · rw [if_pos h0]
        exact ⟨.nil, _, _, by simp only [V.fin]; rw [if_pos hs.dumOk], (hs.dum).add (tb_lt u), List.prefix_append _ _, fun _ _ => by simp only [Rel]; exact .inl ⟨n5, h1, trivial⟩, fun _ _ => by simp only [Rel]; exact .inl ⟨n5, h1, trivial⟩⟩
      · rw [g2 hrw] at g1
        have hnu : ¬ memN (tb u) us = true := fun x => by
          rcases hs.of _ ((memN_iff _ _).1 x) with k | ⟨j, hj, e⟩
          · exact hm ((memN_iff _ _).2 k)
          · have := tb_lt u; unfold dumT at e; omega
        have hng : memN (tb u) gs = false := by
          cases hx : memN (tb u) gs with
          | false => rfl
          | true =>
            obtain ⟨_, n, hn⟩ := hs.gone _ ((memN_iff _ _).1 hx)
            rw [g1] at hn
            simp at hn
        have hnum : ∀ (f : Nat), f = (if mbT u = true then 2000000 + c else c) → tb f = c ∧ rwT f = true ∧ roX f = false ∧ (mbT f = true → es.length ≠ 0) := by
          intro f e
          subst e
          split
          · rename_i hmb; exact ⟨n2, n4, n7, fun _ => g4 hmb⟩
          · exact ⟨n1, n3, n6, fun x => by unfold mbT at x; simp only [decide_eq_true_eq] at x; omega⟩
        obtain ⟨q1, q2, q3, q4⟩ := hnum _ rfl
        refine ⟨.sl (some us.length) sz es', us ++ [tb u], gs, ?_, ?_, List.prefix_append _ _, fun U hU => ?_, fun ρ hρ => ?_⟩
        · simp only [V.fin]
          rw [if_neg hnu, if_pos ⟨by rw [h1.length]; exact g1, hng⟩]
        · refine ⟨by simp [hs.len], (hs.add (tb_lt u)).low, fun t ht => ?_, hs.gone⟩
          rcases List.mem_append.1 ht with ht | ht
          · rcases hs.of t ht with k | ⟨j, hj, e⟩
            · exact .inl (List.mem_cons_of_mem _ k)
            · exact .inr ⟨j, by omega, e⟩
          · rw [List.mem_singleton] at ht; subst ht
            exact .inl (List.mem_cons_self ..)
        · simp only [Rel]
          refine .inr ⟨es', by rw [q1, hs.len], h1, true, ?_, fun _ => rfl, fun x => (by rw [q3] at x; cases x), q4⟩
          rw [q1]
          obtain ⟨r, rfl⟩ := hU
          have : (us ++ [tb u] ++ r)[c]? = some (tb u) := by rw [← hs.len]; simp
          show ((us ++ [tb u] ++ r)[c]?).bind (get l) = _
          rw [this]
          exact g1
        · simp only [Rel]
          refine .inr ⟨es', by rw [q1, hs.len], h1, true, ?_, fun _ => rfl, fun x => (by rw [q3] at x; cases x), q4⟩
          rw [q1, ← hs.len, ← h1.length]
          exact hρ _ _ (by simp [V.tks])
    · split at hf
      · rename_i hro
        simp only [Option.some.injEq, Prod.mk.injEq] at hf
        obtain ⟨rfl, rfl, rfl⟩ := hf
        simp only [Rel] at h
        rcases h with ⟨h0, h1, rfl⟩ | ⟨es', rfl, h1, w0, g1, _, g3, _⟩
        · exact ⟨.nil, _, _, by simp only [V.fin]; rw [if_pos hs.dumOk], hs.dum, List.prefix_append _ _, fun _ _ => by simp only [Rel]; exact .inl ⟨h1, trivial⟩, fun _ _ => by simp only [Rel]; exact .inl ⟨h1, trivial⟩⟩
        · rw [g3 hro] at g1
          have hnu : ¬ memN (tb u) us = true := fun x => by
            rcases hs.of _ ((memN_iff _ _).1 x) with k | ⟨j, hj, e⟩
            · exact hm ((memN_iff _ _).2 k)
            · have := tb_lt u; unfold dumT at e; omega
          have hs' : FinS (get l) c us2 us (tb u :: gs) := ⟨hs.len, hs.low, hs.of, fun t ht => by
            rcases List.mem_cons.1 ht with rfl | ht
            · exact ⟨tb_lt u, _, g1⟩
            · exact hs.gone t ht⟩
          refine ⟨.sl none sz es', _, _, ?_, hs'.dum, List.prefix_append _ _, fun _ _ => by simp only [Rel]; exact .inr ⟨es', rfl, h1⟩, fun _ _ => by simp only [Rel]; exact .inr ⟨es', rfl, h1⟩⟩
          simp only [V.fin]
          rw [if_neg hnu, if_neg (fun x => by rw [g1] at x; simp at x), if_pos hs'.dumOk]
      · cases hf
  | .agg cs, v, w', c, c', us2, us2', us, gs, h, hf, hs => by
    simp only [Rel] at h
    obtain ⟨ds, rfl, h⟩ := h
    simp only [V.fin2] at hf
    split at hf
    · rename_i cs' us' h1
      simp only [Option.some.injEq, Prod.mk.injEq] at hf
      obtain ⟨rfl, rfl⟩ := hf
      obtain ⟨ds', us1, gs1, g1, g2, g3, g4, g5⟩ := finL_sim cs ds cs' c c' us2 us2' us gs h h1 hs
      refine ⟨.agg ds', us1, gs1, by simp only [V.fin, g1], g2, g3, fun U hU => by simp only [Rel]; exact ⟨_, rfl, g4 U hU⟩, fun ρ hρ => by simp only [Rel]; exact ⟨_, rfl, g5 ρ (by simpa only [V.tks] using hρ)⟩⟩
    · cases hf
  | .und, _, _, _, _, _, _, _, _, _, hf, _ => by simp [V.fin2] at hf
  | .dead, _, _, _, _, _, _, _, _, _, hf, _ => by simp [V.fin2] at hf
  | .tup _, _, _, _, _, _, _, _, _, _, hf, _ => by simp [V.fin2] at hf
  | .gref cs, v, w', c, c', us2, us2', us, gs, h, hf, hs => by
    simp only [Rel] at h; obtain ⟨ds, rfl, h⟩ := h
    simp only [V.fin2, Option.some.injEq, Prod.mk.injEq] at hf
    obtain ⟨rfl, rfl, rfl⟩ := hf
    exact ⟨_, _, _, rfl, hs, List.prefix_refl _, fun _ _ => by simp only [Rel]; exact ⟨ds, rfl, h⟩, fun _ _ => by simp only [Rel]; exact ⟨ds, rfl, h⟩⟩
  | .np, v, w', c, c', us2, us2', us, gs, h, hf, hs => by
    simp only [Rel] at h; subst h
    simp only [V.fin2, Option.some.injEq, Prod.mk.injEq] at hf
    obtain ⟨rfl, rfl, rfl⟩ := hf
    exact ⟨_, _, _, rfl, hs, List.prefix_refl _, fun _ _ => by simp only [Rel], fun _ _ => by simp only [Rel]⟩
  | .fn (.f f) cs, v, w', c, c', us2, us2', us, gs, h, hf, hs => by
    simp only [Rel] at h; obtain ⟨ds, rfl, h⟩ := h
    simp only [V.fin2] at hf
    split at hf
    · rename_i hp
      simp only [Option.some.injEq, Prod.mk.injEq] at hf
      obtain ⟨rfl, rfl, rfl⟩ := hf
      obtain ⟨h1, h2⟩ := h.pm hp
      have h3 : ∀ ρ : TkF, RelL cs ρ ds := fun ρ => h2.mono fun t x ht => by cases ht
      exact ⟨_, _, _, by simp only [V.fin]; rw [if_pos h1], hs, List.prefix_refl _, fun _ _ => by simp only [Rel]; exact ⟨ds, rfl, h3 _⟩, fun _ _ => by simp only [Rel]; exact ⟨ds, rfl, h3 _⟩⟩
    · cases hf
  | .fn (.m _) _, _, _, _, _, _, _, _, _, _, hf, _ => by simp [V.fin2] at hf
  | .fn (.y _) _, _, _, _, _, _, _, _, _, _, hf, _ => by simp [V.fin2] at hf
  | .ref _ _, _, _, _, _, _, _, _, _, _, hf, _ => by simp [V.fin2] at hf
  | .cref _, _, _, _, _, _, _, _, _, _, hf, _ => by simp [V.fin2] at hf
  | .eref _ _ _ _ _, _, _, _, _, _, _, _, _, _, hf, _ => by simp [V.fin2] at hf
  | .box _, _, _, _, _, _, _, _, _, _, hf, _ => by simp [V.fin2] at hf
  | .mbox _, _, _, _, _, _, _, _, _, _, hf, _ => by simp [V.fin2] at hf
  | .mref _, _, _, _, _, _, _, _, _, _, hf, _ => by simp [V.fin2] at hf
theorem finL_sim {l : List (Nat × Nat × Bool)} : ∀ (ws vs ws' : List V) (c c' : Nat) (us2 us2' us gs : List Nat), RelL ws (get l) vs → finL2 ws (c, us2) = some (ws', c', us2') → FinS (get l) c us2 us gs →
    ∃ vs' us' gs', finL l vs (us, gs) = some (vs', us', gs') ∧ FinS (get l) c' us2' us' gs' ∧ us <+: us' ∧ (∀ U, us' <+: U → RelL ws' (fun k => (U[k]?).bind (get l)) vs') ∧ (∀ ρ : TkF, (∀ k n, (k, n) ∈ tksL vs' → ρ k = some (n, true)) → RelL ws' ρ vs')
  | [], vs, ws', c, c', us2, us2', us, gs, h, hf, hs => by
    have := h.inv0; subst this
    simp only [finL2, Option.some.injEq, Prod.mk.injEq] at hf
    obtain ⟨rfl, rfl, rfl⟩ := hf
    exact ⟨[], us, gs, rfl, hs, List.prefix_refl _, fun _ _ => RelL.nil, fun _ _ => RelL.nil⟩
  | w :: ws, vs, ws', c, c', us2, us2', us, gs, h, hf, hs => by
    obtain ⟨v, r, rfl, h1, h2⟩ := h.inv
    simp only [finL2] at hf
    split at hf
    · rename_i w1 st1 e1
      obtain ⟨c1, us21⟩ := st1
      split at hf
      · rename_i ws1 st2 e2
        obtain ⟨c2, us22⟩ := st2
        simp only [Option.some.injEq, Prod.mk.injEq] at hf
        obtain ⟨rfl, rfl, rfl⟩ := hf
        obtain ⟨v1, us1, gs1, g1, g2, g3, g4, g5⟩ := fin_sim w v w1 c c1 us2 us21 us gs h1 e1 hs
        obtain ⟨vs1, us3, gs3, k1, k2, k3, k4, k5⟩ := finL_sim ws r ws1 c1 c2 us21 us22 us1 gs1 h2 e2 g2
        refine ⟨v1 :: vs1, us3, gs3, by simp only [finL, g1, k1], k2, g3.trans k3, fun U hU => RelL.cons (g4 U (k3.trans hU)) (k4 U hU), fun ρ hρ => RelL.cons (g5 ρ fun k n hk => hρ k n (by simp [tksL, hk])) (k5 ρ fun k n hk => hρ k n (by simp [tksL, hk]))⟩
      · cases hf
    · cases hf
end
theorem one_rel {tk : TkF} {ws vs : List V} (h : RelL ws tk vs) : Rel (one ws) tk (one vs) := by
  cases ws with
  | nil => have := h.inv0; subst this; simp only [one, Rel]; exact ⟨[], rfl, RelL.nil⟩
  | cons w ws =>
    obtain ⟨v, r, rfl, h1, h2⟩ := h.inv
    cases ws with
    | nil => have := h2.inv0; subst this; exact h1
    | cons w' ws =>
      obtain ⟨v', r', rfl, h3, h4⟩ := h2.inv
      simp only [one, Rel]
      exact ⟨_, rfl, h⟩
theorem one_tksL (vs : List V) : (one vs).tks = tksL vs := by
  unfold one
  split
  · simp [tksL]
  · simp [V.tks]
theorem rvs_rel {fr2 fr : List (Nat × V)} {tk : TkF} (h : RelFr fr2 fr tk) : ∀ {rs : List RV} {ws : List V}, rvs fr2 rs = some ws → ∃ vs, rvs fr rs = some vs ∧ RelL ws tk vs
  | [], ws, hs => by
    simp only [rvs, Option.some.injEq] at hs; subst hs
    exact ⟨[], rfl, RelL.nil⟩
  | .t n :: rs, ws, hs => by
    simp only [rvs] at hs ⊢
    split at hs
    · rename_i w ws' h1 h2
      simp only [Option.some.injEq] at hs; subst hs
      obtain ⟨v, g1, g2⟩ := opd_rel h (x := .t n) rfl h1
      obtain ⟨vs, g3, g4⟩ := rvs_rel h h2
      rw [show opd fr (.t n) = some v from g1, g3]
      exact ⟨_, rfl, RelL.cons g2 g4⟩
    · cases hs
  | .c s n :: rs, ws, hs => by
    simp only [rvs] at hs ⊢
    split at hs
    · rename_i cs ws' h1 h2
      split at hs
      · rename_i w h3
        simp only [Option.some.injEq] at hs; subst hs
        rcases h s _ h1 with e | ⟨v, g1, g2⟩
        · cases e
        · simp only [Rel] at g2
          obtain ⟨ds, rfl, g2⟩ := g2
          obtain ⟨vs, g3, g4⟩ := rvs_rel h h2
          obtain ⟨x, g5, g6⟩ := partV_rel g2 h3
          rw [g1, g3]
          simp only [g5]
          exact ⟨_, rfl, RelL.cons g6 g4⟩
      · cases hs
    · cases hs
theorem fin2_not_tup {w w' : V} {st st' : Nat × List Nat} (h : w.fin2 st = some (w', st')) : ∀ cs, w' ≠ .tup cs := by
  intro cs e
  subst e
  cases w with
  | sl t sz es =>
    cases t with
    | none => simp [V.fin2] at h
    | some u =>
      simp only [V.fin2] at h
      split at h
      · cases h
      · split at h
        · simp at h
        · split at h <;> simp at h
  | agg cs =>
    simp only [V.fin2] at h
    split at h <;> simp at h
  | fn f cs =>
    cases f with
    | f n =>
      simp only [V.fin2] at h
      split at h <;> simp at h
    | _ => simp [V.fin2] at h
  | _ => simp [V.fin2] at h
/-! ### Boxes that are given away -/
mutual
theorem plainR_rel : ∀ (w v : V) {tk : TkF}, Rel w tk v → w.plainR = true → v.plainR = true
  | .bool b, v, _, h, _ => by simp only [Rel] at h; subst h; rfl
  | .int k n, v, _, h, _ => by simp only [Rel] at h; subst h; rfl
  | .nil, v, _, h, _ => by simp only [Rel] at h; subst h; rfl
  | .np, v, _, h, _ => by simp only [Rel] at h; subst h; rfl
  | .gref _, v, _, h, _ => by simp only [Rel] at h; obtain ⟨_, rfl, _⟩ := h; rfl
  | .sl none sz es, v, _, h, _ => by simp only [Rel] at h; rcases h with ⟨_, rfl⟩ | ⟨_, rfl, _⟩ <;> rfl
  | .sl (some u) sz es, v, _, h, _ => by simp only [Rel] at h; rcases h with ⟨_, _, rfl⟩ | ⟨_, rfl, _⟩ <;> rfl
  | .agg cs, v, _, h, k => by
    simp only [Rel] at h; obtain ⟨ds, rfl, h⟩ := h
    simp only [V.plainR] at k ⊢
    exact plainRL_rel cs ds h k
  | .und, _, _, _, k => by simp [V.plainR] at k
  | .dead, _, _, _, k => by simp [V.plainR] at k
  | .tup _, _, _, _, k => by simp [V.plainR] at k
  | .fn _ _, _, _, _, k => by simp [V.plainR] at k
  | .ref _ _, _, _, _, k => by simp [V.plainR] at k
  | .cref _, _, _, _, k => by simp [V.plainR] at k
  | .eref _ _ _ _ _, _, _, _, k => by simp [V.plainR] at k
  | .box _, _, _, _, k => by simp [V.plainR] at k
  | .mbox _, _, _, _, k => by simp [V.plainR] at k
  | .mref _, _, _, _, k => by simp [V.plainR] at k
theorem plainRL_rel : ∀ (ws vs : List V) {tk : TkF}, RelL ws tk vs → plainRL ws = true → plainRL vs = true
  | [], vs, _, h, _ => by have := h.inv0; subst this; rfl
  | w :: ws, vs, _, h, k => by
    obtain ⟨v, r, rfl, h1, h2⟩ := h.inv
    simp only [plainRL, Bool.and_eq_true] at k ⊢
    exact ⟨plainR_rel w v h1 k.1, plainRL_rel ws r h2 k.2⟩
end
mutual
theorem Rel.toks {tk tk' : TkF} : ∀ (w v : V), w.plainR = true → (∀ x ∈ w.tks, tk' (tb x.1) = tk (tb x.1)) → Rel w tk v → Rel w tk' v
  | .bool b, v, _, _, h => by simp only [Rel] at h ⊢; exact h
  | .int k n, v, _, _, h => by simp only [Rel] at h ⊢; exact h
  | .nil, v, _, _, h => by simp only [Rel] at h ⊢; exact h
  | .np, v, _, _, h => by simp only [Rel] at h ⊢; exact h
  | .gref _, v, _, _, h => by simp only [Rel] at h ⊢; exact h
  | .sl none sz es, v, _, _, h => by simp only [Rel] at h ⊢; exact h
  | .sl (some u) sz es, v, _, hk, h => by
    have := hk (u, es.length) (by simp [V.tks])
    simp only [Rel] at h ⊢
    rcases h with h | ⟨es', h1, h2, w, h3, h4⟩
    · exact .inl h
    · exact .inr ⟨es', h1, h2, w, by rw [this]; exact h3, h4⟩
  | .agg cs, v, k, hk, h => by
    simp only [Rel] at h ⊢; obtain ⟨ds, e, h⟩ := h
    exact ⟨ds, e, RelL.toks cs ds (by simpa [V.plainR] using k) (by simpa [V.tks] using hk) h⟩
  | .und, _, k, _, _ => by simp [V.plainR] at k
  | .dead, _, k, _, _ => by simp [V.plainR] at k
  | .tup _, _, k, _, _ => by simp [V.plainR] at k
  | .fn _ _, _, k, _, _ => by simp [V.plainR] at k
  | .ref _ _, _, k, _, _ => by simp [V.plainR] at k
  | .cref _, _, k, _, _ => by simp [V.plainR] at k
  | .eref _ _ _ _ _, _, k, _, _ => by simp [V.plainR] at k
  | .box _, _, k, _, _ => by simp [V.plainR] at k
  | .mbox _, _, k, _, _ => by simp [V.plainR] at k
  | .mref _, _, k, _, _ => by simp [V.plainR] at k
theorem RelL.toks {tk tk' : TkF} : ∀ (ws vs : List V), plainRL ws = true → (∀ x ∈ tksL ws, tk' (tb x.1) = tk (tb x.1)) → RelL ws tk vs → RelL ws tk' vs
  | [], vs, _, _, h => by have := h.inv0; subst this; exact RelL.nil
  | w :: ws, vs, k, hk, h => by
    obtain ⟨v, r, rfl, h1, h2⟩ := h.inv
    simp only [plainRL, Bool.and_eq_true] at k
    exact RelL.cons (Rel.toks w v k.1 (fun x hx => hk x (by simp [tksL, hx])) h1) (RelL.toks ws r k.2 (fun x hx => hk x (by simp [tksL, hx])) h2)
end
section gifts
variable {tk : TkF} {b2 b1 : Nat → Option (List V)} (hbx : ∀ s cs, b2 s = some cs → ∃ ds, b1 s = some ds ∧ RelL cs tk ds)
include hbx
theorem givB_rel {s off : Nat} {w' : V} {a us : List Nat} (hg : givB b2 s off = some (w', a, us)) : ∃ v' ts, givB b1 s off = some (v', a, ts) ∧ (∀ tk' : TkF, Rel w' tk' v') ∧ Toks tk us ts := by
  unfold givB at hg
  split at hg
  case isFalse => cases hg
  rename_i hlt
  split at hg
  · rename_i cs hcs
    obtain ⟨ds, g1, g2⟩ := hbx s cs hcs
    split at hg
    · rename_i cs' us' h1
      obtain ⟨ds', ts, k1, k2, k3⟩ := frzEL_rel cs ds cs' us' g2 h1
      split at hg
      · rename_i hp
        simp only [Option.some.injEq, Prod.mk.injEq] at hg
        obtain ⟨rfl, rfl, rfl⟩ := hg
        refine ⟨.gref (ds'.drop off), ts, by unfold givB; rw [if_pos hlt]; simp only [g1, k1]; rw [if_pos (k2.pm hp).1], fun tk' => ?_, k3⟩
        simp only [Rel]
        exact ⟨_, rfl, k2.drop off⟩
      · cases hg
    · cases hg
  · cases hg
theorem givC_rel : ∀ (ws vs ws' : List V) (a us : List Nat), RelL ws tk vs → givC b2 ws = some (ws', a, us) → ∃ vs' ts, givC b1 vs = some (vs', a, ts) ∧ (∀ tk' : TkF, RelL ws' tk' vs') ∧ Toks tk us ts := by
  intro ws
  induction ws with
  | nil =>
    intro vs ws' a us h hg
    have := h.inv0; subst this
    simp only [givC, Option.some.injEq, Prod.mk.injEq] at hg
    obtain ⟨rfl, rfl, rfl⟩ := hg
    exact ⟨[], [], rfl, fun _ => RelL.nil, Toks.nil⟩
  | cons w ws ih =>
    intro vs ws' a us h hg
    obtain ⟨v, r, rfl, h1, h2⟩ := h.inv
    have other : (match givC b2 ws with
        | some (vs', c, d) => if w.pm = true then some (w :: vs', c, d) else none
        | none => none) = some (ws', a, us) → ∃ vs' ts, givC b1 (v :: r) = some (vs', a, ts) ∧ (∀ tk' : TkF, RelL ws' tk' vs') ∧ Toks tk us ts := fun hg => by
      split at hg
      · rename_i ws2 c d hr
        split at hg
        · rename_i hp
          simp only [Option.some.injEq, Prod.mk.injEq] at hg
          obtain ⟨rfl, rfl, rfl⟩ := hg
          obtain ⟨vs2, ts, k1, k2, k3⟩ := ih r ws2 c d h2 hr
          obtain ⟨p1, p2⟩ := h1.pm hp
          refine ⟨v :: vs2, ts, ?_, fun tk' => RelL.cons (p2.mono fun t x ht => by cases ht) (k2 tk'), k3⟩
          have e : givC b1 (v :: r) = (match givC b1 r with
            | some (vs', c, d) => if v.pm = true then some (v :: vs', c, d) else none
            | none => none) := by
            cases v <;> first | rfl | (simp [V.pm] at p1)
          rw [e, k1]
          simp only
          rw [if_pos p1]
        · cases hg
      · cases hg
    cases w with
    | ref s off =>
      simp only [givC] at hg
      split at hg
      · rename_i w' a1 u1 ws2 c d e1 e2
        simp only [Option.some.injEq, Prod.mk.injEq] at hg
        obtain ⟨rfl, rfl, rfl⟩ := hg
        obtain ⟨v', t1, k1, k2, k3⟩ := givB_rel hbx e1
        obtain ⟨vs2, t2, k4, k5, k6⟩ := ih r ws2 c d h2 e2
        simp only [Rel] at h1
        subst h1
        exact ⟨v' :: vs2, t1 ++ t2, by simp only [givC, k1, k4], fun tk' => RelL.cons (k2 tk') (k5 tk'), k3.append k6⟩
      · cases hg
    | _ => exact other hg
theorem giv_rel {w v w' : V} {a us : List Nat} (h : Rel w tk v) (hg : w.giv b2 = some (w', a, us)) : ∃ v' ts, v.giv b1 = some (v', a, ts) ∧ (∀ tk' : TkF, (∀ x ∈ w'.tks, tk' (tb x.1) = tk (tb x.1)) → Rel w' tk' v') ∧ Toks tk us ts := by
  have other : (if w.plainR = true then some (w, ([] : List Nat), ([] : List Nat)) else none) = some (w', a, us) → ∃ v' ts, v.giv b1 = some (v', a, ts) ∧ (∀ tk' : TkF, (∀ x ∈ w'.tks, tk' (tb x.1) = tk (tb x.1)) → Rel w' tk' v') ∧ Toks tk us ts := fun hg => by
    split at hg
    · rename_i hp
      simp only [Option.some.injEq, Prod.mk.injEq] at hg
      obtain ⟨rfl, rfl, rfl⟩ := hg
      have hv := plainR_rel w v h hp
      refine ⟨v, [], ?_, fun tk' ht => Rel.toks w v hp ht h, Toks.nil⟩
      cases v <;> first | (simp only [V.giv]; rw [if_pos hv]) | (simp [V.plainR] at hv)
    · cases hg
  cases w with
  | ref s off =>
    simp only [V.giv] at hg
    obtain ⟨v', ts, k1, k2, k3⟩ := givB_rel hbx hg
    simp only [Rel] at h
    subst h
    exact ⟨v', ts, k1, fun tk' _ => k2 tk', k3⟩
  | fn f cs =>
    cases f with
    | f n =>
      simp only [V.giv] at hg
      split at hg
      · rename_i cs' c d e1
        simp only [Option.some.injEq, Prod.mk.injEq] at hg
        obtain ⟨rfl, rfl, rfl⟩ := hg
        simp only [Rel] at h
        obtain ⟨ds, rfl, h⟩ := h
        obtain ⟨ds', ts, k1, k2, k3⟩ := givC_rel hbx cs ds cs' _ _ h e1
        exact ⟨.fn (.f n) ds', ts, by simp only [V.giv, k1], fun tk' _ => by simp only [Rel]; exact ⟨ds', rfl, k2 tk'⟩, k3⟩
      · cases hg
    | m n => exact other hg
    | y n => exact other hg
  | _ => exact other hg
theorem givL_rel : ∀ (ws vs ws' : List V) (a us : List Nat), RelL ws tk vs → givL b2 ws = some (ws', a, us) → ∃ vs' ts, givL b1 vs = some (vs', a, ts) ∧ (∀ tk' : TkF, (∀ x ∈ tksL ws', tk' (tb x.1) = tk (tb x.1)) → RelL ws' tk' vs') ∧ Toks tk us ts
  | [], vs, ws', a, us, h, hg => by
    have := h.inv0; subst this
    simp only [givL, Option.some.injEq, Prod.mk.injEq] at hg
    obtain ⟨rfl, rfl, rfl⟩ := hg
    exact ⟨[], [], rfl, fun _ _ => RelL.nil, Toks.nil⟩
  | w :: ws, vs, ws', a, us, h, hg => by
    obtain ⟨v, r, rfl, h1, h2⟩ := h.inv
    simp only [givL] at hg
    split at hg
    · rename_i w' a1 u1 ws2 c d e1 e2
      simp only [Option.some.injEq, Prod.mk.injEq] at hg
      obtain ⟨rfl, rfl, rfl⟩ := hg
      obtain ⟨v', t1, k1, k2, k3⟩ := giv_rel hbx h1 e1
      obtain ⟨vs2, t2, k4, k5, k6⟩ := givL_rel ws r ws2 c d h2 e2
      exact ⟨v' :: vs2, t1 ++ t2, by simp only [givL, k1, k4], fun tk' ht => RelL.cons (k2 tk' fun x hx => ht x (by simp [tksL, hx])) (k5 tk' fun x hx => ht x (by simp [tksL, hx])), k3.append k6⟩
    · cases hg
end gifts
theorem result_sim {σ2 σ : St} (h : RelS σ2 σ) {rs : List RV} {r2 : V} (hr : result2 rs σ2 = some r2) : ∃ r, result rs σ = some r ∧ RelR r2 r ∧ ∀ l2, itemsOf (some r2) = some l2 → ∃ l, itemsOf (some r) = some l ∧ RelE l2 l := by
  unfold result2 at hr
  split at hr
  · rename_i ws0' h1
    split at hr
    case h_2 => cases hr
    rename_i ws ss us0 h0
    split at hr
    case isFalse => cases hr
    rename_i hap
    split at hr
    · rename_i ws' st h2
      obtain ⟨c, us2⟩ := st
      simp only [Option.some.injEq] at hr; subst hr
      obtain ⟨vs0, g1, g20⟩ := rvs_rel h.fr h1
      obtain ⟨vs, ts, g3, g4, g5⟩ := givL_rel (tk := get σ.tk) (b2 := bxOf σ2.fr []) (b1 := bxOf σ.fr []) (fun s cs => bxOf_rel h.fr) ws0' vs0 ws ss us0 g20 h0
      have g2 : RelL ws (get (protT ts σ.tk)) vs := g4 _ fun x hx => by
        rw [get_protT]
        have hn : memN (tb x.1) ts = false := by
          cases hm : memN (tb x.1) ts with
          | false => rfl
          | true =>
            exfalso
            have h3 := g5.sub _ ((memN_iff _ _).1 hm)
            obtain ⟨u, hu, hue⟩ := List.mem_map.1 h3
            have h4 := List.all_eq_true.1 hap u hu
            simp only [Bool.not_eq_true'] at h4
            have h5 : tb x.1 ∈ (tksL ws).map fun x => tb x.1 := List.mem_map.2 ⟨x, hx, rfl⟩
            rw [hue, (memN_iff _ _).2 h5] at h4
            cases h4
        cases hg : get σ.tk (tb x.1) with
        | none => rfl
        | some y => obtain ⟨n, wr⟩ := y; simp [hn]
      obtain ⟨vs', us, gs, k1, k2, k3, k4, k5⟩ := finL_sim ws vs ws' 0 c [] us2 [] [] g2 h2 ⟨rfl, fun _ h => (by cases h), fun _ h => (by cases h), fun _ h => (by cases h)⟩
      refine ⟨one vs', by unfold result; simp only [g1, g3, k1], ⟨⟨_, one_rel (k4 us (List.prefix_refl _))⟩, fun ρ hρ => one_rel (k5 ρ (by rw [one_tksL] at hρ; exact hρ))⟩, fun l2 hl => ?_⟩
      have key : ws' = [] := by
        cases ws' with
        | nil => rfl
        | cons w ws1 =>
          exfalso
          cases ws with
          | nil => simp [finL2] at h2
          | cons w0 ws0 =>
            simp only [finL2] at h2
            split at h2
            · rename_i w1 st1 e1
              split at h2
              · rename_i ws2 st2 e2
                simp only [Option.some.injEq, Prod.mk.injEq, List.cons.injEq] at h2
                obtain ⟨⟨rfl, rfl⟩, _⟩ := h2
                have hnt := fin2_not_tup e1
                cases ws2 with
                | nil =>
                  simp only [one] at hl
                  cases w1 <;> first | (cases hl; done) | exact hnt _ rfl
                | cons w2 ws2 =>
                  simp only [one, itemsOf] at hl
                  cases w1 <;> first | (simp [itemsL] at hl; done) | exact hnt _ rfl
              · cases h2
            · cases h2
      subst key
      have := (k4 us (List.prefix_refl _)).inv0; subst this
      simp only [one, itemsOf, itemsL, Option.some.injEq] at hl ⊢
      subst hl
      exact ⟨[], rfl, RelE.nil⟩
    · cases hr
  · cases hr
theorem items_tups (l : List (List V)) : itemsL (tupsL l) = some l := itemsL_tups l
theorem tups_rel : ∀ {l2 l : List (List V)}, RelE l2 l → ∀ ρ : TkF, RelL (tupsL l2) ρ (tupsL l)
  | [], l, h, ρ => by have := h.nil_left; subst this; exact RelL.nil
  | x :: l2, l, h, ρ => by
    simp only [RelE] at h
    obtain ⟨y, r, rfl, h1, h2⟩ := h
    simp only [tupsL]
    exact RelL.cons (by simp only [Rel]; exact ⟨_, rfl, h1.wk⟩) (tups_rel h2 ρ)
theorem finish_sim {σ2 σ : St} (h : RelS σ2 σ) {it : Bool} {rs : List RV} {r2 : V} (hr : finish2 it rs σ2 = some r2) : ∃ r, finish it rs σ = some r ∧ RelR r2 r ∧ ∀ l2, itemsOf (some r2) = some l2 → ∃ l, itemsOf (some r) = some l ∧ RelE l2 l := by
  unfold finish2 at hr
  unfold finish
  split at hr
  · rename_i hi
    rw [if_pos hi]
    split at hr
    · rename_i he
      rw [if_pos he]
      split at hr
      · rename_i l2 ht
        simp only [Option.some.injEq] at hr; subst hr
        have := h.tr
        rw [ht] at this
        cases hl : σ.tr with
        | none => rw [hl] at this; exact this.elim
        | some l =>
          rw [hl] at this
          simp only [RelTr] at this
          refine ⟨_, rfl, ⟨⟨noT, by simp only [Rel]; exact ⟨_, rfl, tups_rel this _⟩⟩, fun ρ _ => by simp only [Rel]; exact ⟨_, rfl, tups_rel this _⟩⟩, fun l' hl' => ?_⟩
          simp only [itemsOf, itemsL_tups, Option.some.injEq] at hl' ⊢
          subst hl'
          exact ⟨l, rfl, this⟩
      · cases hr
    · cases hr
  · rename_i hi
    rw [if_neg hi]
    exact result_sim h hr
/-! ### Functions -/
theorem ranged_rel : ∀ {ws vs : List V} {tk : TkF}, RelL ws tk vs → (∀ w ∈ ws, w ≠ .dead) → ranged vs = ranged ws
  | [], vs, tk, h, _ => by have := h.inv0; subst this; rfl
  | w :: ws, vs, tk, h, k => by
    obtain ⟨v, r, rfl, h1, h2⟩ := h.inv
    have ih := ranged_rel h2 fun x hx => k x (by simp [hx])
    cases w with
    | dead => exact (k .dead (by simp) rfl).elim
    | fn f cs =>
      simp only [Rel] at h1; obtain ⟨ds, rfl, _⟩ := h1
      cases f <;> first | exact ih | rfl
    | sl t sz es =>
      cases t with
      | none => simp only [Rel] at h1; rcases h1 with ⟨_, rfl⟩ | ⟨_, rfl, _⟩ <;> exact ih
      | some u => simp only [Rel] at h1; rcases h1 with ⟨_, _, rfl⟩ | ⟨_, rfl, _⟩ <;> exact ih
    | und => simp only [Rel] at h1; subst h1; exact ih
    | bool _ => simp only [Rel] at h1; subst h1; exact ih
    | int _ _ => simp only [Rel] at h1; subst h1; exact ih
    | nil => simp only [Rel] at h1; subst h1; exact ih
    | ref _ _ => simp only [Rel] at h1; subst h1; exact ih
    | agg _ => simp only [Rel] at h1; obtain ⟨ds, rfl, _⟩ := h1; exact ih
    | tup _ => simp only [Rel] at h1; obtain ⟨ds, rfl, _⟩ := h1; exact ih
    | cref _ => simp only [Rel] at h1; obtain ⟨ds, rfl, _⟩ := h1; exact ih
    | gref _ => simp only [Rel] at h1; obtain ⟨ds, rfl, _⟩ := h1; exact ih
    | np => simp only [Rel] at h1; subst h1; exact ih
    | eref _ _ _ _ _ => simp only [Rel] at h1; obtain ⟨ds, rfl, _⟩ := h1; exact ih
    | box _ => simp only [Rel] at h1; obtain ⟨ds, rfl, _⟩ := h1; exact ih
    | mbox _ => simp only [Rel] at h1; obtain ⟨ds, rfl, _⟩ := h1; exact ih
    | mref _ => simp only [Rel] at h1; subst h1; exact ih
theorem params_rel : ∀ {ws vs : List V} {tk : TkF} (n : Nat), RelL ws tk vs → RelFr (params n ws) (params n vs) tk
  | [], vs, tk, n, h => by have := h.inv0; subst this; intro s w hs; simp [params, get] at hs
  | w :: ws, vs, tk, n, h => by
    obtain ⟨v, r, rfl, h1, h2⟩ := h.inv
    intro s x hs
    simp only [params, get] at hs ⊢
    split at hs
    · rename_i e
      injection hs with hs; subst hs
      rw [if_pos e]
      exact .inr ⟨v, rfl, h1⟩
    · rename_i e
      rw [if_neg e]
      exact params_rel (n + 1) h2 s x hs
theorem liveL_ne : ∀ {ws : List V}, liveL ws = true → ∀ w ∈ ws, w ≠ .dead
  | [], _, _, h => by cases h
  | w :: ws, hl, x, hx => by
    have : w ≠ .dead ∧ liveL ws = true := by cases w <;> simp_all [liveL]
    rcases List.mem_cons.1 hx with rfl | hx
    · exact this.1
    · exact liveL_ne this.2 x hx
theorem io_rel {ws vs : List V} (h : RelL ws noT vs) (hl : liveL ws = true) : ioArg vs = false ∧ ioTk vs = [] := by
  cases ws with
  | nil => have := h.inv0; subst this; exact ⟨rfl, rfl⟩
  | cons w ws =>
    obtain ⟨v, r, rfl, h1, h2⟩ := h.inv
    cases v <;> first | exact ⟨rfl, rfl⟩ | skip
    exfalso
    cases w <;> simp only [liveL, Bool.false_eq_true] at hl <;> first
      | (simp only [Rel] at h1; done)
      | (simp only [Rel] at h1; cases h1; done)
      | (simp only [Rel] at h1; obtain ⟨_, h1, _⟩ := h1; cases h1; done)
      | (rename_i t _ _; cases t <;> simp [Rel] at h1)
theorem body_sim (hc : CallSim call2 call) (N : Nat) {lf : LFun} (hok : okC lf.body = true) (hsl : lf.sl = []) {as2 as9 : List V} (ha : RelL as2 noT as9) {r2 : V} (hr : evBody2 call2 N lf as2 = some r2) :
    ∃ r, evBody call N (unF lf) as9 = some r ∧ RelR r2 r ∧ ∀ l2, itemsOf (some r2) = some l2 → ∃ l, itemsOf (some r) = some l ∧ RelE l2 l := by
  unfold evBody2 at hr
  unfold evBody
  split at hr
  case isFalse => cases hr
  rename_i hlen
  obtain ⟨hio1, hio2⟩ := io_rel ha hlen.2
  rw [if_pos (by rw [ha.length]; exact ⟨hlen.1, fun h => by rw [hio1] at h; cases h⟩), ranged_rel ha (liveL_ne hlen.2), hio2]
  have hend : ∀ (lf : LFun) (σ : St), evEnd lf as9 σ = finish (ranged as2) lf.res σ := fun lf σ => by
    unfold evEnd
    rw [hio1, ranged_rel ha (liveL_ne hlen.2)]; rfl
  simp only [unF, hend]
  rw [hsl] at hr ⊢
  simp only [deadL, List.append_nil] at hr ⊢
  have h0 : RelS { fr := params 0 as2, tk := [], tr := if ranged as2 = true then some [] else none } { fr := params 0 as9, tk := [], tr := if ranged as2 = true then some [] else none } := by
    refine ⟨params_rel 0 (ha.mono fun _ _ h => by cases h), ?_⟩
    simp only
    split
    · simp only [RelTr]; exact RelE.nil
    · trivial
  split at hr
  · rename_i σ1 h1
    obtain ⟨σ', g1, g2⟩ := code_sim hc N _ hok _ _ _ _ h0 h1
    rw [g1]
    exact finish_sim g2 hr
  · rename_i σ1 h1
    obtain ⟨σ', g1, g2⟩ := code_sim hc N _ hok _ _ _ _ h0 h1
    rw [g1]
    exact finish_sim g2 hr
  · cases hr
end
end Go.Lo

/- The limit of the plain machine; what it says is said of the logical one. -/
namespace Go.Lo
section
variable {c c' : Nat → List V → Option V}
theorem sem2_le (h : Le c c') {bx : Nat → Option (List V)} {ex : List Nat} {d : Nat} {k : K} {vs : List V} {e : Eff2} (he : sem2 c bx ex d k vs = some e) : sem2 c' bx ex d k vs = some e := by
  cases k with
  | call dr al mk =>
    have key : ∀ {f : Nat} {us : List V}, callE2 c bx d dr al mk f us = some e → callE2 c' bx d dr al mk f us = some e := fun he => by
      unfold callE2 at he ⊢
      split at he
      · rename_i as9 has
        split at he
        · rename_i r hr
          simp only [h _ as9 r hr]
          exact he
        · cases he
      · cases he
    simp only [sem2] at he ⊢
    split at he
    · exact key he
    · exact key he
    · exact he
    · exact he
  | _ => exact he
theorem stepI2_le (h : Le c c') {i : LIns} {σ σ' : St} (hs : stepI2 c i σ = some σ') : stepI2 c' i σ = some σ' := by
  unfold stepI2 at hs ⊢
  cases hw : wanted σ.fr i.guard with
  | none => rw [hw] at hs; cases hs
  | some b =>
    rw [hw] at hs
    cases b with
    | false => exact hs
    | true =>
      simp only at hs ⊢
      cases hvs : opds σ.fr i.xs with
      | none => rw [hvs] at hs; cases hs
      | some vs =>
        rw [hvs] at hs
        simp only at hs ⊢
        cases he : sem2 c (bxOf σ.fr i.ex) i.ex (i.dst.getD 0) i.k vs with
        | none => rw [he] at hs; cases hs
        | some e =>
          rw [he] at hs
          rw [sem2_le h he]
          exact hs
theorem stepL2_le (h : Le c c') : ∀ {is : List LIns} {σ σ' : St}, stepL2 c is σ = some σ' → stepL2 c' is σ = some σ'
  | [], _, _, hs => hs
  | i :: is, σ, σ', hs => by
    simp only [stepL2] at hs ⊢
    split at hs
    · rename_i σ1 h1
      rw [stepI2_le h h1]
      exact stepL2_le h hs
    · cases hs
theorem evC2_le (h : Le c c') {N N' : Nat} (hN : N ≤ N') : ∀ (lc : LCode) {σ : St} {x : Ex × St}, evC2 c N lc σ = some x → evC2 c' N' lc σ = some x := by
  intro lc
  induction lc with
  | skip => intro σ x hs; exact hs
  | exit id => intro σ x hs; exact hs
  | ret => intro σ x hs; exact hs
  | bad => intro σ x hs; exact hs
  | reg lp ds pp ops kn kp =>
    intro σ x hs
    simp only [evC2] at hs ⊢
    split at hs
    · rename_i σ1 h1
      rw [stepL2_le h h1]
      exact hs
    · cases hs
  | seq a b iha ihb =>
    intro σ x hs
    simp only [evC2] at hs ⊢
    split at hs
    · rename_i σ1 h1
      rw [iha h1]
      exact ihb hs
    · rename_i hne
      rw [iha hs]
      split
      · rename_i σ1 h1
        injection h1 with h1
        subst h1
        exact (hne _ hs).elim
      · rfl
  | alt ts ks a b iha ihb =>
    intro σ x hs
    simp only [evC2] at hs ⊢
    split at hs
    · exact ihb hs
    · exact iha hs
    · cases hs
  | cond cc a b iha ihb =>
    intro σ x hs
    simp only [evC2] at hs ⊢
    split at hs
    · rename_i t ht
      cases t with
      | true => simp only [if_true] at hs ⊢; exact iha hs
      | false => simp only [Bool.false_eq_true, if_false] at hs ⊢; exact ihb hs
    · cases hs
  | block id a ih =>
    intro σ x hs
    simp only [evC2] at hs ⊢
    split at hs
    · rename_i j σ1 h1
      rw [ih h1]
      exact hs
    · rename_i hne
      rw [ih hs]
      split
      · rename_i j σ1 h1
        injection h1 with h1
        subst h1
        exact (hne _ _ hs).elim
      · rfl
  | loop a ih =>
    intro σ x hs
    simp only [evC2] at hs ⊢
    exact iter_le (fun _ _ h => ih h) hN hs
  | rng g ps wr a b iha ihb =>
    intro σ x hs
    simp only [evC2] at hs ⊢
    split at hs
    · split at hs
      · split at hs
        · rename_i hc
          rw [if_pos hc]
          exact rngE_le (fun _ _ _ h => roundE_le (fun _ _ h => iha h) (fun _ _ h => ihb h) h) (fun _ R hR => h _ _ R hR) hs
        · cases hs
      · cases hs
    · split at hs
      · split at hs
        · rename_i hc
          rw [if_pos hc]
          exact rngE_le (fun _ _ _ h => roundE_le (fun _ _ h => iha h) (fun _ _ h => ihb h) h) (fun _ R hR => h _ _ R hR) hs
        · cases hs
      · cases hs
    · cases hs
theorem evBody2_le (h : Le c c') {N N' : Nat} (hN : N ≤ N') {lf : LFun} {args : List V} {r : V} (hs : evBody2 c N lf args = some r) : evBody2 c' N' lf args = some r := by
  unfold evBody2 at hs ⊢
  split at hs
  · rename_i hl
    rw [if_pos hl]
    split at hs
    · rename_i σ h1; rw [evC2_le h hN _ h1]; exact hs
    · rename_i σ h1; rw [evC2_le h hN _ h1]; exact hs
    · cases hs
  · cases hs
end
section
variable {F : Nat → Option (List V → Option V)} {C : Nat → Option LFun}
theorem evF2_succ : ∀ (n : Nat), Le (evF2 F C n) (evF2 F C (n + 1))
  | 0, f, as9, r, h => by simp [evF2] at h
  | n + 1, f, as9, r, h => by
    rw [evF2] at h ⊢
    split at h
    · exact h
    · split at h
      · exact evBody2_le (evF2_succ n) (Nat.le_succ n) h
      · cases h
theorem evF2_le {n m : Nat} (h : n ≤ m) : Le (evF2 F C n) (evF2 F C m) := by
  induction h with
  | refl => exact fun _ _ _ h => h
  | step _ ih => exact fun f as9 r hr => evF2_succ _ f as9 r (ih f as9 r hr)
/-- What a function gives back, if it ends: whatever the fuel. -/
noncomputable def run2 (F : Nat → Option (List V → Option V)) (C : Nat → Option LFun) (f : Nat) (as9 : List V) : Option V :=
  open Classical in if h : ∃ r n, evF2 F C n f as9 = some r then some (Classical.choose h) else none
theorem run2_of {n f : Nat} {as9 : List V} {r : V} (h : evF2 F C n f as9 = some r) : run2 F C f as9 = some r := by
  unfold run2
  have hex : ∃ r n, evF2 F C n f as9 = some r := ⟨r, n, h⟩
  rw [dif_pos hex]
  obtain ⟨m, hm⟩ := Classical.choose_spec hex
  have h1 := evF2_le (Nat.le_max_left n m) f as9 r h
  have h2 := evF2_le (Nat.le_max_right n m) f as9 _ hm
  rw [h1] at h2
  exact h2.symm
theorem of_run2 {f : Nat} {as9 : List V} {r : V} (h : run2 F C f as9 = some r) : ∃ n, evF2 F C n f as9 = some r := by
  unfold run2 at h
  split at h
  · rename_i hex
    injection h with h; subst h
    exact Classical.choose_spec hex
  · cases h
/-! Few calls need little fuel. -/
theorem sem2_fin {bx : Nat → Option (List V)} {ex : List Nat} {d : Nat} {k : K} {vs : List V} {e : Eff2} (he : sem2 (run2 F C) bx ex d k vs = some e) : ∃ n, sem2 (evF2 F C n) bx ex d k vs = some e := by
  cases k with
  | call dr al mk =>
    have key : ∀ {f : Nat} {us : List V}, callE2 (run2 F C) bx d dr al mk f us = some e → ∃ n, callE2 (evF2 F C n) bx d dr al mk f us = some e := fun he => by
      unfold callE2 at he ⊢
      split at he
      · rename_i as9 has
        split at he
        · rename_i r hr
          obtain ⟨n, hn⟩ := of_run2 hr
          refine ⟨n, ?_⟩
          simp only [hn]
          exact he
        · cases he
      · cases he
    simp only [sem2] at he ⊢
    split at he
    · exact key he
    · exact key he
    · exact ⟨0, he⟩
    · exact ⟨0, he⟩
  | _ => exact ⟨0, he⟩
theorem stepI2_fin {i : LIns} {σ σ' : St} (hs : stepI2 (run2 F C) i σ = some σ') : ∃ n, stepI2 (evF2 F C n) i σ = some σ' := by
  unfold stepI2 at hs ⊢
  cases hw : wanted σ.fr i.guard with
  | none => rw [hw] at hs; cases hs
  | some b =>
    rw [hw] at hs
    cases b with
    | false => exact ⟨0, hs⟩
    | true =>
      simp only at hs ⊢
      cases hvs : opds σ.fr i.xs with
      | none => rw [hvs] at hs; cases hs
      | some vs =>
        rw [hvs] at hs
        simp only at hs ⊢
        cases he : sem2 (run2 F C) (bxOf σ.fr i.ex) i.ex (i.dst.getD 0) i.k vs with
        | none => rw [he] at hs; cases hs
        | some e =>
          rw [he] at hs
          obtain ⟨n, hn⟩ := sem2_fin he
          exact ⟨n, by rw [hn]; exact hs⟩
theorem stepL2_fin : ∀ {is : List LIns} {σ σ' : St}, stepL2 (run2 F C) is σ = some σ' → ∃ n, stepL2 (evF2 F C n) is σ = some σ'
  | [], _, _, hs => ⟨0, hs⟩
  | i :: is, σ, σ', hs => by
    simp only [stepL2] at hs ⊢
    split at hs
    · rename_i σ1 h1
      obtain ⟨n, hn⟩ := stepI2_fin h1
      obtain ⟨m, hm⟩ := stepL2_fin hs
      refine ⟨max n m, ?_⟩
      rw [stepI2_le (evF2_le (Nat.le_max_left n m)) hn]
      exact stepL2_le (evF2_le (Nat.le_max_right n m)) hm
    · cases hs
theorem evC2_fin {N : Nat} : ∀ (lc : LCode) {σ : St} {x : Ex × St}, evC2 (run2 F C) N lc σ = some x → ∃ n, evC2 (evF2 F C n) N lc σ = some x := by
  intro lc
  induction lc with
  | skip => intro σ x hs; exact ⟨0, hs⟩
  | exit id => intro σ x hs; exact ⟨0, hs⟩
  | ret => intro σ x hs; exact ⟨0, hs⟩
  | bad => intro σ x hs; exact ⟨0, hs⟩
  | reg lp ds pp ops kn kp =>
    intro σ x hs
    simp only [evC2] at hs ⊢
    split at hs
    · rename_i σ1 h1
      obtain ⟨n, hn⟩ := stepL2_fin h1
      exact ⟨n, by rw [hn]; exact hs⟩
    · cases hs
  | seq a b iha ihb =>
    intro σ x hs
    simp only [evC2] at hs ⊢
    split at hs
    · rename_i σ1 h1
      obtain ⟨n, hn⟩ := iha h1
      obtain ⟨m, hm⟩ := ihb hs
      refine ⟨max n m, ?_⟩
      rw [evC2_le (evF2_le (Nat.le_max_left n m)) (Nat.le_refl N) _ hn]
      exact evC2_le (evF2_le (Nat.le_max_right n m)) (Nat.le_refl N) _ hm
    · rename_i hne
      obtain ⟨n, hn⟩ := iha hs
      refine ⟨n, ?_⟩
      rw [hn]
      split
      · rename_i σ1 h1
        injection h1 with h1
        subst h1
        exact (hne _ hs).elim
      · rfl
  | alt ts ks a b iha ihb =>
    intro σ x hs
    simp only [evC2] at hs ⊢
    split at hs
    · exact ihb hs
    · exact iha hs
    · cases hs
  | cond cc a b iha ihb =>
    intro σ x hs
    simp only [evC2] at hs ⊢
    split at hs
    · rename_i t ht
      cases t with
      | true => simp only [if_true] at hs ⊢; exact iha hs
      | false => simp only [Bool.false_eq_true, if_false] at hs ⊢; exact ihb hs
    · cases hs
  | block id a ih =>
    intro σ x hs
    simp only [evC2] at hs ⊢
    split at hs
    · rename_i j σ1 h1
      obtain ⟨n, hn⟩ := ih h1
      exact ⟨n, by rw [hn]; exact hs⟩
    · rename_i hne
      obtain ⟨n, hn⟩ := ih hs
      refine ⟨n, ?_⟩
      rw [hn]
      split
      · rename_i j σ1 h1
        injection h1 with h1
        subst h1
        exact (hne _ _ hs).elim
      · rfl
  | loop a ih =>
    intro σ x hs
    simp only [evC2] at hs ⊢
    exact iter_fin (f := fun n => evC2 (evF2 F C n) N a) (fun n m hnm σ x h => evC2_le (evF2_le hnm) (Nat.le_refl N) a h) (fun σ x h => ih h) hs
  | rng g ps wr a b iha ihb =>
    intro σ x hs
    have key : ∀ {f : Nat} {mkA : Nat → List V} {τ : St}, rngE (roundE (evC2 (run2 F C) N a) (evC2 (run2 F C) N b) ps wr) (fun a => run2 F C f (mkA a)) τ = some x → ∃ n, rngE (roundE (evC2 (evF2 F C n) N a) (evC2 (evF2 F C n) N b) ps wr) (fun a => evF2 F C n f (mkA a)) τ = some x := by
      intro f mkA τ hs
      refine rngE_fin (it := fun a => run2 F C f (mkA a)) (jt := fun n a => evF2 F C n f (mkA a)) (f := fun n => roundE (evC2 (evF2 F C n) N a) (evC2 (evF2 F C n) N b) ps wr) (fun n m hnm σ as9 x h => ?_) (fun σ as9 x h => ?_) (fun n m hnm a R h => evF2_le hnm _ _ R h) (fun a R h => of_run2 h) hs
      · exact roundE_le (fun _ _ h => evC2_le (evF2_le hnm) (Nat.le_refl N) a h) (fun _ _ h => evC2_le (evF2_le hnm) (Nat.le_refl N) b h) h
      · exact roundE_fin (fA := fun n => evC2 (evF2 F C n) N a) (fB := fun n => evC2 (evF2 F C n) N b) (fun n m hnm σ x h => evC2_le (evF2_le hnm) (Nat.le_refl N) a h) (fun n m hnm σ x h => evC2_le (evF2_le hnm) (Nat.le_refl N) b h) (fun _ _ h => iha h) (fun _ _ h => ihb h) h
    simp only [evC2] at hs ⊢
    split at hs
    · split at hs
      · split at hs
        · rename_i hc
          simp only [if_pos hc]
          exact key (mkA := fun a => .fn (.y a) [] :: _) hs
        · cases hs
      · cases hs
    · split at hs
      · split at hs
        · rename_i hc
          simp only [if_pos hc]
          exact key (mkA := fun a => _ ++ [.fn (.y a) []]) hs
        · cases hs
      · cases hs
    · cases hs
/-- A body's equation: the calls in it may be told by theirs. -/
theorem run2_of_body {f N : Nat} {lf : LFun} {as9 : List V} {r : V} (hF : F f = none) (hC : C f = some lf) (h : evBody2 (run2 F C) N lf as9 = some r) : run2 F C f as9 = some r := by
  have key : ∃ n, evBody2 (evF2 F C n) N lf as9 = some r := by
    unfold evBody2 at h ⊢
    split at h
    · rename_i hl
      split at h
      · rename_i σ h1
        obtain ⟨n, hn⟩ := evC2_fin _ h1
        exact ⟨n, by rw [if_pos hl, hn]; exact h⟩
      · rename_i σ h1
        obtain ⟨n, hn⟩ := evC2_fin _ h1
        exact ⟨n, by rw [if_pos hl, hn]; exact h⟩
      · cases h
    · cases h
  obtain ⟨n, hn⟩ := key
  refine run2_of (n := max n N + 1) ?_
  rw [evF2, hF]
  simp only [hC]
  exact evBody2_le (evF2_le (Nat.le_max_left n N)) (Nat.le_max_right n N) hn
theorem run2_told {f : Nat} {g : List V → Option V} {as9 : List V} (hF : F f = some g) : run2 F C f as9 = g as9 := by
  cases hg : g as9 with
  | some r => exact run2_of (n := 1) (by rw [evF2, hF]; exact hg)
  | none =>
    cases hr : run2 F C f as9 with
    | none => rfl
    | some r =>
      obtain ⟨n, hn⟩ := of_run2 hr
      cases n with
      | zero => simp [evF2] at hn
      | succ n =>
        rw [evF2, hF] at hn
        simp only at hn
        rw [hg] at hn
        cases hn
/-- What the tables of the two machines have to do with each other. -/
structure TabR (F2 F : Nat → Option (List V → Option V)) (C2 C : Nat → Option LFun) : Prop where
  told : ∀ f g2 as2 r2 as9, F2 f = some g2 → g2 as2 = some r2 → RelL as2 noT as9 → ∃ r, run F C f as9 = some r ∧ RelR r2 r ∧ ∀ l2, itemsOf (some r2) = some l2 → ∃ l, itemsOf (some r) = some l ∧ RelE l2 l
  code : ∀ f lf, F2 f = none → C2 f = some lf → F f = none ∧ C f = some (unF lf) ∧ okC lf.body = true ∧ lf.sl = []
theorem evF2_sim {F2 F : Nat → Option (List V → Option V)} {C2 C : Nat → Option LFun} (h : TabR F2 F C2 C) : ∀ n, CallSim (evF2 F2 C2 n) (run F C)
  | 0, f, as2, r2, as9, hr, _ => by simp [evF2] at hr
  | n + 1, f, as2, r2, as9, hr, ha => by
    rw [evF2] at hr
    split at hr
    · rename_i g2 hg
      exact h.told f g2 as2 r2 as9 hg hr ha
    · rename_i hg
      split at hr
      · rename_i lf hlf
        obtain ⟨k0, k1, k2, k3⟩ := h.code f lf hg hlf
        obtain ⟨r, g1, g2⟩ := body_sim (evF2_sim h n) n k2 k3 ha hr
        exact ⟨r, run_of_body k0 k1 g1, g2⟩
      · cases hr
theorem run2_sim {F2 F : Nat → Option (List V → Option V)} {C2 C : Nat → Option LFun} (h : TabR F2 F C2 C) {f : Nat} {as2 as9 : List V} {r2 : V} (hr : run2 F2 C2 f as2 = some r2) (ha : RelL as2 noT as9) : ∃ r, run F C f as9 = some r ∧ RelR r2 r := by
  obtain ⟨n, hn⟩ := of_run2 hr
  obtain ⟨r, g1, g2, _⟩ := evF2_sim h n f as2 r2 as9 hn ha
  exact ⟨r, g1, g2⟩
/-- A law that is true for the plain machine. -/
theorem run2_true {F2 F : Nat → Option (List V → Option V)} {C2 C : Nat → Option LFun} (h : TabR F2 F C2 C) {f : Nat} {as2 as9 : List V} (hr : run2 F2 C2 f as2 = some (.bool true)) (ha : RelL as2 noT as9) : run F C f as9 = some (.bool true) := by
  obtain ⟨r, g1, g2⟩ := run2_sim h hr ha
  obtain ⟨ρ, hρ⟩ := g2.ex
  simp only [Rel] at hρ
  rw [g1, hρ]
end
end Go.Lo

/- The functions that are reached, compiled for the plain machine. -/
namespace Go.Lo
open Go.Proofs
/-- acme/acmetop.TopGaugeSwap -/
def b4_0 : LCode :=
 (.seq
 (.seq
 (.reg true [] [] [
 ⟨(some 80), .mv, [(.t 13)], none, []⟩,
 ⟨(some 81), (.bin 0 .lss), [(.t 80), (.c (.int .i64 2))], none, []⟩] 0 [3, 4, 7, 8, 9, 10, 11, 13, 81])
 (.cond (.t 81)
 .skip
 (.exit 0)))
 (.seq
 (.block 1
 (.seq
 (.reg true [90, 14] [90, 14] [
 ⟨(some 85), (.load (some 6)), [(.t 10)], none, [86, 87, 88, 89, 90, 14]⟩,
 ⟨(some 86), .mv, [(.t 11)], none, [85, 87, 14]⟩,
 ⟨(some 87), .mv, [(.t 13)], none, [85, 86, 14]⟩,
 ⟨(some 88), (.bin 0 .add), [(.t 86), (.t 87)], none, [85, 14]⟩,
 ⟨(some 89), (.call true false false), [(.f 12), (.t 88)], none, [85, 14]⟩,
 ⟨(some 90), (.bsl 3 [(.int .i64 0), (.int .i64 0), (.bool false)] 1 [0]), [(.t 89)], none, [85, 14]⟩,
 ⟨(some 91), (.call false false false), [(.f 13), (.t 85), (.t 90)], none, [14]⟩,
 ⟨(some 84), .mv, [(.t 91)], none, [14]⟩,
 ⟨(some 92), (.ext 0), [(.t 84)], none, [93, 14]⟩,
 ⟨(some 93), (.ext 1), [(.t 84)], none, [92, 14]⟩,
 ⟨(some 14), (.alloc [(.int .i64 0), (.int .i64 0)]), [], none, [85, 86, 87, 88, 89, 90, 91, 84, 92, 93]⟩,
 ⟨none, (.store 2 (some 14)), [(.t 14), (.t 92)], none, [93]⟩,
 ⟨(some 15), .mv, [(.t 93)], none, []⟩] 0 [3, 4, 7, 8, 9, 10, 11, 13, 14, 15])
 (.seq
 (.seq
 (.reg true [] [] [
 ⟨(some 94), .mv, [(.t 15)], none, []⟩,
 ⟨(some 95), (.bin 0 .neq), [(.t 94), (.c (.int .i64 0))], none, []⟩] 0 [3, 4, 7, 8, 9, 10, 11, 13, 14, 95])
 (.cond (.t 95)
 (.seq
 (.reg true [] [] [
 ⟨(some 6), .mv, [(.c (.bool false))], none, []⟩] 0 [6])
 .ret)
 .skip))
 (.seq
 (.reg true [] [] [
 ⟨(some 97), (.load (some 8)), [(.t 7)], none, []⟩,
 ⟨(some 98), (.load (some 8)), [(.t 7)], none, []⟩,
 ⟨(some 99), (.fa 1), [(.t 14)], none, []⟩,
 ⟨(some 100), (.load none), [(.t 99)], none, []⟩,
 ⟨(some 101), (.bin 0 .sub), [(.t 100), (.c (.int .i64 5000))], none, []⟩,
 ⟨(some 102), (.fa 0), [(.t 8)], none, []⟩,
 ⟨(some 103), (.load none), [(.t 102)], none, []⟩,
 ⟨(some 104), (.load (some 2)), [(.t 9)], none, []⟩,
 ⟨(some 105), (.call false false false), [(.f 17), (.t 97), (.t 98), (.t 101), (.t 103), (.t 104)], none, []⟩,
 ⟨(some 96), .mv, [(.t 105)], none, []⟩,
 ⟨(some 106), (.ext 0), [(.t 96)], none, []⟩,
 ⟨(some 107), (.ext 1), [(.t 96)], none, []⟩,
 ⟨(some 16), .mv, [(.t 106)], none, []⟩,
 ⟨(some 17), .mv, [(.t 107)], none, []⟩] 0 [3, 4, 7, 8, 9, 10, 11, 13, 14, 16, 17])
 (.seq
 (.reg true [] [] [
 ⟨(some 109), (.load (some 8)), [(.t 7)], none, [110, 111, 112, 113, 114, 115, 116, 117, 118, 119, 120, 121, 122, 123]⟩,
 ⟨(some 110), (.load (some 8)), [(.t 7)], none, [109, 111, 112, 113, 114, 115, 116, 117, 118, 119, 120, 121, 122, 123]⟩,
 ⟨(some 111), (.fa 1), [(.t 14)], none, [109, 110, 114, 115, 116, 118, 119, 120, 121, 122, 123]⟩,
 ⟨(some 112), (.load none), [(.t 111)], none, [109, 110, 114, 115, 116, 118, 119, 120, 121, 122, 123]⟩,
 ⟨(some 113), (.bin 0 .sub), [(.t 112), (.c (.int .i64 5000))], none, [109, 110, 114, 115, 116, 118, 119, 120, 121, 122, 123]⟩,
 ⟨(some 114), (.ixa 3 1), [(.t 4), (.c (.int .i64 2))], none, [109, 110, 111, 112, 113, 118, 119, 120, 121, 122, 123]⟩,
 ⟨(some 115), (.load none), [(.t 114)], none, [109, 110, 111, 112, 113, 118, 119, 120, 121, 122, 123]⟩,
 ⟨(some 116), (.conv .i64), [(.t 115)], none, [109, 110, 111, 112, 113, 118, 119, 120, 121, 122, 123]⟩,
 ⟨(some 117), (.bin 0 .sub), [(.t 113), (.t 116)], none, [109, 110, 118, 119, 120, 121, 122, 123]⟩,
 ⟨(some 118), (.load (some 2)), [(.t 8)], none, [109, 110, 111, 112, 113, 114, 115, 116, 117, 119, 120, 121, 123]⟩,
 ⟨(some 119), (.ixa 4 1), [(.t 3), (.c (.int .i64 2))], none, [109, 110, 111, 112, 113, 114, 115, 116, 117, 118, 123]⟩,
 ⟨(some 120), (.load none), [(.t 119)], none, [109, 110, 111, 112, 113, 114, 115, 116, 117, 118, 123]⟩,
 ⟨(some 121), (.conv .i64), [(.t 120)], none, [109, 110, 111, 112, 113, 114, 115, 116, 117, 118, 123]⟩,
 ⟨(some 122), (.call true false false), [(.f 18), (.t 118), (.t 121)], none, [109, 110, 111, 112, 113, 114, 115, 116, 117, 123]⟩,
 ⟨(some 123), (.load (some 2)), [(.t 9)], none, [109, 110, 111, 112, 113, 114, 115, 116, 117, 118, 119, 120, 121, 122]⟩,
 ⟨(some 124), (.call false false false), [(.f 17), (.t 109), (.t 110), (.t 117), (.t 122), (.t 123)], none, []⟩,
 ⟨(some 108), .mv, [(.t 124)], none, []⟩,
 ⟨(some 125), (.ext 0), [(.t 108)], none, [126]⟩,
 ⟨(some 126), (.ext 1), [(.t 108)], none, [125, 18]⟩,
 ⟨(some 18), .mv, [(.t 125)], none, [126]⟩,
 ⟨(some 19), .mv, [(.t 126)], none, []⟩] 0 [3, 4, 7, 8, 9, 10, 11, 13, 16, 17, 18, 19])
 (.seq
 (.reg true [] [] [
 ⟨(some 127), .mv, [(.t 17)], none, []⟩,
 ⟨(some 128), (.bin 0 .neq), [(.t 127), (.c (.int .i64 0))], none, []⟩,
 ⟨(some 129), .mv, [(.t 128)], none, []⟩,
 ⟨(some 130), .mv, [(.t 19)], (some (129, false)), []⟩,
 ⟨(some 131), (.bin 0 .neq), [(.t 130), (.c (.int .i64 0))], (some (129, false)), []⟩,
 ⟨(some 132), .pick, [(.t 129), (.c (.bool true)), (.t 131)], none, []⟩,
 ⟨(some 133), .mv, [(.t 132)], none, []⟩,
 ⟨(some 134), .mv, [(.t 16)], (some (133, false)), []⟩,
 ⟨(some 135), (.bin 0 .eql), [(.t 134), (.c (.int .i64 100))], (some (133, false)), []⟩,
 ⟨(some 136), .mv, [(.t 13)], (some (133, false)), []⟩,
 ⟨(some 137), (.bin 0 .eql), [(.t 136), (.c (.int .i64 0))], (some (133, false)), []⟩,
 ⟨(some 138), (.bin 1 .neq), [(.t 135), (.t 137)], (some (133, false)), []⟩,
 ⟨(some 139), .pick, [(.t 133), (.c (.bool true)), (.t 138)], none, []⟩,
 ⟨(some 140), .mv, [(.t 139)], none, []⟩,
 ⟨(some 141), .mv, [(.t 13)], (some (140, false)), []⟩,
 ⟨(some 142), (.bin 0 .eql), [(.t 141), (.c (.int .i64 0))], (some (140, false)), []⟩,
 ⟨(some 143), .mv, [(.t 142)], (some (140, false)), []⟩,
 ⟨(some 144), .mv, [(.t 18)], (some (143, true)), []⟩,
 ⟨(some 145), .mv, [(.t 16)], (some (143, true)), []⟩,
 ⟨(some 146), (.bin 0 .neq), [(.t 144), (.t 145)], (some (143, true)), []⟩,
 ⟨(some 147), .pick, [(.t 143), (.t 146), (.c (.bool false))], (some (140, false)), []⟩,
 ⟨(some 148), .pick, [(.t 140), (.c (.bool true)), (.t 147)], none, []⟩] 0 [3, 4, 7, 8, 9, 10, 11, 13, 148])
 (.cond (.t 148)
 (.seq
 (.reg true [] [] [
 ⟨(some 6), .mv, [(.c (.bool false))], none, []⟩] 0 [6])
 .ret)
 .skip)))))))
 (.reg true [] [] [
 ⟨(some 82), .mv, [(.t 13)], none, []⟩,
 ⟨(some 83), (.bin 0 .add), [(.t 82), (.c (.int .i64 1))], none, []⟩,
 ⟨(some 13), .mv, [(.t 83)], none, []⟩] 0 [3, 4, 7, 8, 9, 10, 11, 13])))
def l4 : LFun := ⟨3, 153, [],
 (.seq
 (.reg false [3, 4, 5] [3, 4, 5] [
 ⟨(some 3), .box, [(.t 0)], none, []⟩,
 ⟨(some 4), .box, [(.t 1)], none, []⟩,
 ⟨(some 5), .box, [(.t 2)], none, []⟩,
 ⟨(some 6), .mv, [(.c (.bool false))], none, []⟩] 0 [3, 4, 5])
 (.seq
 (.reg false [7, 8, 9] [7, 8, 9] [
 ⟨(some 20), (.load (some 4)), [(.t 3)], none, [22, 23, 24, 25, 26, 27, 28, 29, 30, 31, 32, 34, 7, 8, 9]⟩,
 ⟨(some 21), (.call true false false), [(.f 14), (.t 20)], none, [22, 23, 24, 25, 26, 27, 28, 29, 30, 31, 32, 34, 7, 8, 9]⟩,
 ⟨(some 22), (.ixa 3 1), [(.t 4), (.c (.int .i64 0))], none, [20, 21, 25, 26, 27, 28, 29, 30, 31, 32, 34, 7, 8, 9]⟩,
 ⟨(some 23), (.load none), [(.t 22)], none, [20, 21, 25, 26, 27, 28, 29, 30, 31, 32, 34, 7, 8, 9]⟩,
 ⟨(some 24), (.conv .i64), [(.t 23)], none, [20, 21, 25, 26, 27, 28, 29, 30, 31, 32, 34, 7, 8, 9]⟩,
 ⟨(some 25), (.ixa 3 1), [(.t 4), (.c (.int .i64 0))], none, [20, 21, 22, 23, 24, 28, 29, 30, 31, 34, 7, 8, 9]⟩,
 ⟨(some 26), (.load none), [(.t 25)], none, [20, 21, 22, 23, 24, 28, 29, 30, 31, 34, 7, 8, 9]⟩,
 ⟨(some 27), (.conv .i64), [(.t 26)], none, [20, 21, 22, 23, 24, 28, 29, 30, 31, 34, 7, 8, 9]⟩,
 ⟨(some 28), (.ixa 3 1), [(.t 4), (.c (.int .i64 1))], none, [20, 21, 22, 23, 24, 25, 26, 27, 34, 7, 8, 9]⟩,
 ⟨(some 29), (.load none), [(.t 28)], none, [20, 21, 22, 23, 24, 25, 26, 27, 34, 7, 8, 9]⟩,
 ⟨(some 30), (.conv .i64), [(.t 29)], none, [20, 21, 22, 23, 24, 25, 26, 27, 34, 7, 8, 9]⟩,
 ⟨(some 31), (.bin 0 .rem), [(.t 30), (.c (.int .i64 30))], none, [20, 21, 22, 23, 24, 25, 26, 27, 34, 7, 8, 9]⟩,
 ⟨(some 32), (.bin 0 .add), [(.t 27), (.t 31)], none, [20, 21, 22, 23, 24, 34, 7, 8, 9]⟩,
 ⟨(some 33), (.call true false false), [(.f 7), (.t 24), (.t 32)], none, [34, 7, 8, 9]⟩,
 ⟨(some 34), (.load (some 2)), [(.t 5)], none, [20, 21, 22, 23, 24, 25, 26, 27, 28, 29, 30, 31, 32, 33, 7, 8, 9]⟩,
 ⟨(some 35), (.call false false false), [(.f 15), (.t 34)], none, [7, 8, 9]⟩,
 ⟨(some 7), (.alloc [(.int .i64 0), (.int .i64 0), (.int .i64 0), (.int .i64 0), (.int .i64 0), (.int .i64 0), (.bool false), (.int .i64 0)]), [], none, [20, 21, 22, 23, 24, 25, 26, 27, 28, 29, 30, 31, 32, 33, 34, 35, 8, 9]⟩,
 ⟨(some 8), (.alloc [(.int .i64 0), (.int .i64 0)]), [], none, [20, 21, 22, 23, 24, 25, 26, 27, 28, 29, 30, 31, 32, 33, 34, 35, 7, 9]⟩,
 ⟨(some 9), (.alloc [(.int .i64 0), (.int .i64 0)]), [], none, [20, 21, 22, 23, 24, 25, 26, 27, 28, 29, 30, 31, 32, 33, 34, 35, 7, 8]⟩,
 ⟨none, (.store 8 (some 7)), [(.t 7), (.t 21)], none, []⟩,
 ⟨none, (.store 2 (some 8)), [(.t 8), (.t 33)], none, []⟩,
 ⟨none, (.store 2 (some 9)), [(.t 9), (.t 35)], none, []⟩] 0 [3, 4, 7, 8, 9])
 (.seq
 (.reg false [10] [10] [
 ⟨(some 36), (.fa 0), [(.t 8)], none, [40, 41, 42, 43, 44, 45, 46, 47, 48, 50, 51, 52, 53, 54, 55, 56, 57, 58, 59, 10]⟩,
 ⟨(some 37), (.load none), [(.t 36)], none, [40, 41, 42, 43, 44, 45, 46, 47, 48, 50, 51, 52, 53, 54, 55, 56, 57, 58, 59, 10]⟩,
 ⟨(some 38), (.bin 0 .add), [(.c (.int .i64 5000)), (.t 37)], none, [40, 41, 42, 43, 44, 45, 46, 47, 48, 50, 51, 52, 53, 54, 55, 56, 57, 58, 59, 10]⟩,
 ⟨(some 39), (.bin 0 .sub), [(.t 38), (.c (.int .i64 40))], none, [40, 41, 42, 43, 44, 45, 46, 47, 48, 50, 51, 52, 53, 54, 55, 56, 57, 58, 59, 10]⟩,
 ⟨(some 40), (.fa 0), [(.t 8)], none, [36, 37, 38, 39, 44, 45, 46, 47, 50, 51, 52, 53, 54, 55, 56, 57, 58, 59, 10]⟩,
 ⟨(some 41), (.load none), [(.t 40)], none, [36, 37, 38, 39, 44, 45, 46, 47, 50, 51, 52, 53, 54, 55, 56, 57, 58, 59, 10]⟩,
 ⟨(some 42), (.bin 0 .add), [(.c (.int .i64 5000)), (.t 41)], none, [36, 37, 38, 39, 44, 45, 46, 47, 50, 51, 52, 53, 54, 55, 56, 57, 58, 59, 10]⟩,
 ⟨(some 43), (.bin 0 .sub), [(.t 42), (.c (.int .i64 40))], none, [36, 37, 38, 39, 44, 45, 46, 47, 50, 51, 52, 53, 54, 55, 56, 57, 58, 59, 10]⟩,
 ⟨(some 44), (.ixa 4 1), [(.t 3), (.c (.int .i64 0))], none, [36, 37, 38, 39, 40, 41, 42, 43, 50, 51, 52, 53, 54, 55, 56, 57, 58, 59, 10]⟩,
 ⟨(some 45), (.load none), [(.t 44)], none, [36, 37, 38, 39, 40, 41, 42, 43, 50, 51, 52, 53, 54, 55, 56, 57, 58, 59, 10]⟩,
 ⟨(some 46), (.conv .i64), [(.t 45)], none, [36, 37, 38, 39, 40, 41, 42, 43, 50, 51, 52, 53, 54, 55, 56, 57, 58, 59, 10]⟩,
 ⟨(some 47), (.bin 0 .rem), [(.t 46), (.c (.int .i64 20))], none, [36, 37, 38, 39, 40, 41, 42, 43, 50, 51, 52, 53, 54, 55, 56, 57, 58, 59, 10]⟩,
 ⟨(some 48), (.bin 0 .add), [(.t 43), (.t 47)], none, [36, 37, 38, 39, 50, 51, 52, 53, 54, 55, 56, 57, 58, 59, 10]⟩,
 ⟨(some 49), (.call true false false), [(.f 7), (.t 39), (.t 48)], none, [50, 51, 52, 53, 54, 55, 56, 57, 58, 59, 10]⟩,
 ⟨(some 50), (.ixa 4 1), [(.t 3), (.c (.int .i64 1))], none, [36, 37, 38, 39, 40, 41, 42, 43, 44, 45, 46, 47, 48, 49, 55, 56, 57, 58, 59, 10]⟩,
 ⟨(some 51), (.load none), [(.t 50)], none, [36, 37, 38, 39, 40, 41, 42, 43, 44, 45, 46, 47, 48, 49, 55, 56, 57, 58, 59, 10]⟩,
 ⟨(some 52), (.conv .i64), [(.t 51)], none, [36, 37, 38, 39, 40, 41, 42, 43, 44, 45, 46, 47, 48, 49, 55, 56, 57, 58, 59, 10]⟩,
 ⟨(some 53), (.bin 0 .rem), [(.t 52), (.c (.int .i64 9))], none, [36, 37, 38, 39, 40, 41, 42, 43, 44, 45, 46, 47, 48, 49, 55, 56, 57, 58, 59, 10]⟩,
 ⟨(some 54), (.bin 0 .add), [(.c (.int .i64 1)), (.t 53)], none, [36, 37, 38, 39, 40, 41, 42, 43, 44, 45, 46, 47, 48, 49, 55, 56, 57, 58, 59, 10]⟩,
 ⟨(some 55), (.ixa 4 1), [(.t 3), (.c (.int .i64 1))], none, [36, 37, 38, 39, 40, 41, 42, 43, 44, 45, 46, 47, 48, 49, 50, 51, 52, 53, 54, 10]⟩,
 ⟨(some 56), (.load none), [(.t 55)], none, [36, 37, 38, 39, 40, 41, 42, 43, 44, 45, 46, 47, 48, 49, 50, 51, 52, 53, 54, 10]⟩,
 ⟨(some 57), (.conv .i64), [(.t 56)], none, [36, 37, 38, 39, 40, 41, 42, 43, 44, 45, 46, 47, 48, 49, 50, 51, 52, 53, 54, 10]⟩,
 ⟨(some 58), (.bin 0 .rem), [(.t 57), (.c (.int .i64 50))], none, [36, 37, 38, 39, 40, 41, 42, 43, 44, 45, 46, 47, 48, 49, 50, 51, 52, 53, 54, 10]⟩,
 ⟨(some 59), (.bin 0 .add), [(.c (.int .i64 10)), (.t 58)], none, [36, 37, 38, 39, 40, 41, 42, 43, 44, 45, 46, 47, 48, 49, 50, 51, 52, 53, 54, 10]⟩,
 ⟨(some 60), (.call false false false), [(.f 7), (.t 54), (.t 59)], none, [10]⟩,
 ⟨(some 61), (.build [(.bool false), (.int .i64 0), (.int .i64 0), (.int .i64 0), (.int .i64 0), (.sl none 2 [])] [(0, 1), (1, 2), (3, 2)]), [(.c (.bool true)), (.t 49), (.t 60)], none, [10]⟩,
 ⟨(some 10), (.alloc [(.bool false), (.int .i64 0), (.int .i64 0), (.int .i64 0), (.int .i64 0), (.sl none 2 [])]), [], none, [36, 37, 38, 39, 40, 41, 42, 43, 44, 45, 46, 47, 48, 49, 50, 51, 52, 53, 54, 55, 56, 57, 58, 59, 60, 61]⟩,
 ⟨none, (.store 6 (some 10)), [(.t 10), (.t 61)], none, []⟩] 0 [3, 4, 7, 8, 9, 10])
 (.seq
 (.reg false [] [] [
 ⟨(some 63), (.load (some 6)), [(.t 10)], none, []⟩,
 ⟨(some 64), (.fa 0), [(.t 8)], none, []⟩,
 ⟨(some 65), (.load none), [(.t 64)], none, []⟩,
 ⟨(some 66), (.bin 0 .add), [(.c (.int .i64 5000)), (.t 65)], none, []⟩,
 ⟨(some 67), (.call false false false), [(.f 16), (.t 63), (.c (.sl none 3 [])), (.t 66)], none, []⟩,
 ⟨(some 62), .mv, [(.t 67)], none, []⟩,
 ⟨(some 68), (.ext 0), [(.t 62)], none, []⟩,
 ⟨(some 69), (.ext 1), [(.t 62)], none, []⟩,
 ⟨(some 11), .mv, [(.t 68)], none, []⟩,
 ⟨(some 12), .mv, [(.t 69)], none, []⟩] 0 [3, 4, 7, 8, 9, 10, 11, 12])
 (.seq
 (.seq
 (.reg false [] [] [
 ⟨(some 70), .mv, [(.t 12)], none, []⟩,
 ⟨(some 71), (.bin 0 .neq), [(.t 70), (.c (.int .i64 0))], none, []⟩,
 ⟨(some 72), .mv, [(.t 71)], none, []⟩,
 ⟨(some 73), .mv, [(.t 11)], (some (72, false)), []⟩,
 ⟨(some 74), (.bin 0 .lss), [(.t 73), (.c (.int .i64 1))], (some (72, false)), []⟩,
 ⟨(some 75), .pick, [(.t 72), (.c (.bool true)), (.t 74)], none, []⟩,
 ⟨(some 76), .mv, [(.t 75)], none, []⟩,
 ⟨(some 77), .mv, [(.t 11)], (some (76, false)), []⟩,
 ⟨(some 78), (.bin 0 .geq), [(.t 77), (.c (.int .i64 100000))], (some (76, false)), []⟩,
 ⟨(some 79), .pick, [(.t 76), (.c (.bool true)), (.t 78)], none, []⟩] 0 [3, 4, 7, 8, 9, 10, 11, 79])
 (.cond (.t 79)
 (.seq
 (.reg false [] [] [
 ⟨(some 6), .mv, [(.c (.bool false))], none, []⟩] 0 [6])
 .ret)
 .skip))
 (.seq
 (.seq
 (.reg false [] [] [
 ⟨(some 13), .mv, [(.c (.int .i64 0))], none, []⟩] 0 [3, 4, 7, 8, 9, 10, 11, 13])
 (.block 0
 (.loop b4_0)))
 (.seq
 (.reg false [] [] [
 ⟨(some 149), (.call false false false), [(.f 10)], none, []⟩,
 ⟨(some 150), .mv, [(.t 149)], none, []⟩,
 ⟨(some 151), (.call false false false), [(.f 19)], (some (150, true)), []⟩,
 ⟨(some 152), .pick, [(.t 150), (.t 151), (.c (.bool false))], none, []⟩,
 ⟨(some 6), .mv, [(.t 152)], none, []⟩] 0 [6])
 .ret))))))),
 [(.t 6)]⟩
theorem c4 : funC Try.prog [(0, [3, 4, 5]), (1, [3, 4, 7, 8, 9]), (2, [3, 4, 7, 8, 9, 10]), (3, [3, 4, 7, 8, 9, 10, 11, 12]), (4, [3, 4, 7, 8, 9, 10, 11, 79]), (5, [6]), (6, [3, 4, 7, 8, 9, 10, 11, 13]), (7, [3, 4, 7, 8, 9, 10, 11, 13, 81]), (8, [3, 4, 7, 8, 9, 10, 11, 13]), (9, [3, 4, 7, 8, 9, 10, 11, 13, 14, 15]), (10, [3, 4, 7, 8, 9, 10, 11, 13, 14, 95]), (11, [6]), (12, [3, 4, 7, 8, 9, 10, 11, 13, 14, 16, 17]), (13, [3, 4, 7, 8, 9, 10, 11, 13, 16, 17, 18, 19]), (14, [3, 4, 7, 8, 9, 10, 11, 13, 148]), (15, [6]), (16, [6])] Try.f4 = some (unF l4) := by kernel_rfl
/-- acme/acmetop.pubSpan -/
def l7 : LFun := ⟨2, 8, [],
 (.seq
 (.reg false [4] [4] [
 ⟨(some 4), (.alloc [(.int .i64 0), (.int .i64 0)]), [], none, []⟩] 0 [0, 1, 4])
 (.seq
 (.reg false [] [] [
 ⟨(some 5), .mv, [(.t 0)], none, []⟩,
 ⟨(some 6), .mv, [(.t 1)], none, []⟩,
 ⟨(some 7), (.build [(.int .i64 0), (.int .i64 0)] [(0, 1), (1, 1)]), [(.t 5), (.t 6)], none, []⟩,
 ⟨none, (.store 2 none), [(.t 4), (.t 7)], none, []⟩] 0 [4])
 .ret)),
 [(.c 4 (some 2))]⟩
theorem c7 : funC Try.prog [(0, [0, 1, 4]), (1, [4])] Try.f7 = some (unF l7) := by kernel_rfl
/-- acme/acmetop.pubGauge -/
def l10 : LFun := ⟨0, 41, [],
 (.seq
 (.reg false [] [] [
 ⟨(some 0), .mv, [(.c (.bool false))], none, []⟩] 0 [])
 (.seq
 (.reg false [9, 1] [9, 1] [
 ⟨(some 6), (.call false false false), [(.f 7), (.c (.int .i64 5000)), (.c (.int .i64 5010))], none, []⟩,
 ⟨(some 7), (.call false false false), [(.f 7), (.c (.int .i64 20)), (.c (.int .i64 50))], none, []⟩,
 ⟨(some 8), (.call false false false), [(.f 7), (.c (.int .i64 4995)), (.c (.int .i64 4997))], none, []⟩,
 ⟨(some 9), (.bsl 2 [(.int .i64 0), (.int .i64 0)] 1 [0]), [(.t 8)], none, []⟩,
 ⟨(some 10), (.build [(.bool false), (.int .i64 0), (.int .i64 0), (.int .i64 0), (.int .i64 0), (.sl none 2 [])] [(1, 2), (3, 2), (5, 1)]), [(.t 6), (.t 7), (.t 9)], none, []⟩,
 ⟨(some 1), (.alloc [(.bool false), (.int .i64 0), (.int .i64 0), (.int .i64 0), (.int .i64 0), (.sl none 2 [])]), [], none, []⟩,
 ⟨none, (.store 6 none), [(.t 1), (.t 10)], none, []⟩] 0 [1])
 (.seq
 (.reg false [15, 2] [15, 2] [
 ⟨(some 12), (.load (some 6)), [(.t 1)], none, [13, 14, 15, 2]⟩,
 ⟨(some 13), (.call true false false), [(.f 12), (.c (.int .i64 200))], none, [12, 14, 2]⟩,
 ⟨(some 14), (.build [(.int .i64 0), (.int .i64 0), (.bool false)] [(1, 1)]), [(.c (.int .i64 0))], none, [12, 13, 2]⟩,
 ⟨(some 15), (.bsl 3 [(.int .i64 0), (.int .i64 0), (.bool false)] 2 [0, 1]), [(.t 13), (.t 14)], none, [12, 2]⟩,
 ⟨(some 16), (.call false false false), [(.f 13), (.t 12), (.t 15)], none, [2]⟩,
 ⟨(some 11), .mv, [(.t 16)], none, [2]⟩,
 ⟨(some 17), (.ext 0), [(.t 11)], none, [18, 2]⟩,
 ⟨(some 18), (.ext 1), [(.t 11)], none, [17, 2]⟩,
 ⟨(some 2), (.alloc [(.int .i64 0), (.int .i64 0)]), [], none, [12, 13, 14, 15, 16, 11, 17, 18]⟩,
 ⟨none, (.store 2 (some 2)), [(.t 2), (.t 17)], none, [18]⟩,
 ⟨(some 3), .mv, [(.t 18)], none, []⟩] 0 [1, 2, 3])
 (.seq
 (.reg false [22] [22] [
 ⟨(some 20), (.load (some 6)), [(.t 1)], none, [21, 22]⟩,
 ⟨(some 21), (.call true false false), [(.f 12), (.c (.int .i64 200))], none, [20]⟩,
 ⟨(some 22), (.bsl 3 [(.int .i64 0), (.int .i64 0), (.bool false)] 1 [0]), [(.t 21)], none, [20]⟩,
 ⟨(some 23), (.call false false false), [(.f 16), (.t 20), (.t 22), (.c (.int .i64 4980))], none, []⟩,
 ⟨(some 19), .mv, [(.t 23)], none, []⟩,
 ⟨(some 24), (.ext 0), [(.t 19)], none, [25]⟩,
 ⟨(some 25), (.ext 1), [(.t 19)], none, [24, 4]⟩,
 ⟨(some 4), .mv, [(.t 24)], none, [25]⟩,
 ⟨(some 5), .mv, [(.t 25)], none, []⟩] 0 [2, 3, 4, 5])
 (.seq
 (.reg false [] [] [
 ⟨(some 26), .mv, [(.t 3)], none, []⟩,
 ⟨(some 27), (.bin 0 .eql), [(.t 26), (.c (.int .i64 0))], none, []⟩,
 ⟨(some 28), .mv, [(.t 27)], none, []⟩,
 ⟨(some 29), .mv, [(.t 5)], (some (28, true)), []⟩,
 ⟨(some 30), (.bin 0 .eql), [(.t 29), (.c (.int .i64 0))], (some (28, true)), []⟩,
 ⟨(some 31), .pick, [(.t 28), (.t 30), (.c (.bool false))], none, []⟩,
 ⟨(some 32), .mv, [(.t 31)], none, []⟩,
 ⟨(some 33), (.load (some 2)), [(.t 2)], (some (32, true)), [34]⟩,
 ⟨(some 34), (.call true false false), [(.f 7), (.c (.int .i64 4996)), (.c (.int .i64 5006))], (some (32, true)), [33]⟩,
 ⟨(some 35), (.eqs false [(some .i64), (some .i64)]), [(.t 33), (.t 34)], (some (32, true)), []⟩,
 ⟨(some 36), .pick, [(.t 32), (.t 35), (.c (.bool false))], none, []⟩,
 ⟨(some 37), .mv, [(.t 36)], none, []⟩,
 ⟨(some 38), .mv, [(.t 4)], (some (37, true)), []⟩,
 ⟨(some 39), (.bin 0 .eql), [(.t 38), (.c (.int .i64 200))], (some (37, true)), []⟩,
 ⟨(some 40), .pick, [(.t 37), (.t 39), (.c (.bool false))], none, []⟩,
 ⟨(some 0), .mv, [(.t 40)], none, []⟩] 0 [0])
 .ret))))),
 [(.t 0)]⟩
theorem c10 : funC Try.prog [(0, []), (1, [1]), (2, [1, 2, 3]), (3, [2, 3, 4, 5]), (4, [0])] Try.f10 = some (unF l10) := by kernel_rfl
/-- acme/gauge.Beyond -/
def l11 : LFun := ⟨3, 31, [],
 (.seq
 (.reg false [3] [3] [
 ⟨(some 3), .box, [(.t 0)], none, []⟩,
 ⟨(some 6), .mv, [(.c (.bool false))], none, []⟩,
 ⟨(some 7), .mv, [(.c (.bool false))], none, []⟩,
 ⟨(some 8), .mv, [(.c (.int .i64 0))], none, []⟩] 0 [1, 2, 3])
 (.seq
 (.reg false [9] [9] [
 ⟨(some 13), (.load (some 6)), [(.t 3)], none, []⟩,
 ⟨(some 14), .mv, [(.t 1)], none, []⟩,
 ⟨(some 15), .mv, [(.t 2)], none, []⟩,
 ⟨(some 16), (.call false false false), [(.f 29), (.t 13), (.t 14), (.t 15)], none, []⟩,
 ⟨(some 12), .mv, [(.t 16)], none, []⟩,
 ⟨(some 17), (.ext 0), [(.t 12)], none, []⟩,
 ⟨(some 18), (.ext 1), [(.t 12)], none, []⟩,
 ⟨(some 9), (.alloc [(.int .i64 0), (.int .i64 0), (.int .i64 0), (.int .i64 0), (.int .i64 0), (.bool false)]), [], none, []⟩,
 ⟨none, (.store 6 none), [(.t 9), (.t 17)], none, []⟩,
 ⟨(some 8), .mv, [(.t 18)], none, []⟩] 0 [8, 9])
 (.seq
 (.seq
 (.reg false [] [] [
 ⟨(some 19), .mv, [(.t 8)], none, []⟩,
 ⟨(some 20), (.bin 0 .neq), [(.t 19), (.c (.int .i64 0))], none, []⟩] 0 [8, 9, 20])
 (.cond (.t 20)
 (.seq
 (.reg false [] [] [
 ⟨(some 21), .mv, [(.t 8)], none, []⟩,
 ⟨(some 6), .mv, [(.c (.bool false))], none, []⟩,
 ⟨(some 7), .mv, [(.c (.bool false))], none, []⟩,
 ⟨(some 8), .mv, [(.t 21)], none, []⟩] 0 [6, 7, 8])
 .ret)
 .skip))
 (.seq
 (.reg false [] [] [
 ⟨(some 23), (.load (some 6)), [(.t 9)], none, []⟩,
 ⟨(some 24), (.call false false false), [(.f 30), (.t 23)], none, []⟩,
 ⟨(some 22), .mv, [(.t 24)], none, []⟩,
 ⟨(some 25), (.ext 0), [(.t 22)], none, []⟩,
 ⟨(some 26), (.ext 1), [(.t 22)], none, []⟩,
 ⟨(some 10), .mv, [(.t 25)], none, []⟩,
 ⟨(some 11), .mv, [(.t 26)], none, []⟩] 0 [10, 11])
 (.seq
 (.reg false [] [] [
 ⟨(some 27), .mv, [(.t 11)], none, []⟩,
 ⟨(some 28), (.bin 0 .lss), [(.t 27), (.c (.int .i64 0))], none, []⟩,
 ⟨(some 29), .mv, [(.t 10)], none, []⟩,
 ⟨(some 30), (.bin 0 .lss), [(.t 29), (.c (.int .i64 0))], none, []⟩,
 ⟨(some 6), .mv, [(.t 28)], none, []⟩,
 ⟨(some 7), .mv, [(.t 30)], none, []⟩,
 ⟨(some 8), .mv, [(.c (.int .i64 0))], none, []⟩] 0 [6, 7, 8])
 .ret))))),
 [(.t 6), (.t 7), (.t 8)]⟩
theorem c11 : funC Try.prog [(0, [1, 2, 3]), (1, [8, 9]), (2, [8, 9, 20]), (3, [6, 7, 8]), (4, [10, 11]), (5, [6, 7, 8])] Try.f11 = some (unF l11) := by kernel_rfl
/-- acme/acmetop.pubTried -/
def l12 : LFun := ⟨1, 5, [],
 (.seq
 (.reg false [2] [2] [
 ⟨(some 2), (.alloc [(.int .i64 0), (.int .i64 0), (.bool false)]), [], none, []⟩] 0 [0, 2])
 (.seq
 (.reg false [] [] [
 ⟨(some 3), .mv, [(.t 0)], none, []⟩,
 ⟨(some 4), (.build [(.int .i64 0), (.int .i64 0), (.bool false)] [(0, 1), (1, 1)]), [(.t 3), (.c (.int .i64 (-1)))], none, []⟩,
 ⟨none, (.store 3 none), [(.t 2), (.t 4)], none, []⟩] 0 [2])
 .ret)),
 [(.c 2 (some 3))]⟩
theorem c12 : funC Try.prog [(0, [0, 2]), (1, [2])] Try.f12 = some (unF l12) := by kernel_rfl
/-- acme/gauge.Size -/
def l13 : LFun := ⟨2, 26, [],
 (.seq
 (.reg false [2, 4] [2, 4] [
 ⟨(some 2), .box, [(.t 0)], none, []⟩,
 ⟨(some 4), (.alloc [(.int .i64 0), (.int .i64 0)]), [], none, []⟩,
 ⟨(some 5), .mv, [(.c (.int .i64 0))], none, []⟩] 0 [1, 2, 4])
 (.seq
 (.seq
 (.reg false [] [] [
 ⟨(some 8), (.load (some 6)), [(.t 2)], none, []⟩,
 ⟨(some 9), .mv, [(.t 1)], none, []⟩,
 ⟨(some 10), (.call false false false), [(.f 31), (.t 8), (.t 9)], none, []⟩,
 ⟨(some 6), .mv, [(.t 10)], none, []⟩] 0 [1, 2, 4, 6])
 (.seq
 (.reg false [] [] [
 ⟨(some 11), .mv, [(.t 6)], none, []⟩,
 ⟨(some 12), (.bin 0 .neq), [(.t 11), (.c (.int .i64 0))], none, []⟩] 0 [1, 2, 4, 6, 12])
 (.cond (.t 12)
 (.seq
 (.reg false [] [] [
 ⟨(some 13), (.build [(.int .i64 0), (.int .i64 0)] []), [], none, []⟩,
 ⟨(some 14), .mv, [(.t 6)], none, []⟩,
 ⟨none, (.store 2 none), [(.t 4), (.t 13)], none, []⟩,
 ⟨(some 5), .mv, [(.t 14)], none, []⟩] 0 [4, 5])
 .ret)
 .skip)))
 (.seq
 (.reg false [17] [17] [
 ⟨(some 15), (.load (some 6)), [(.t 2)], none, []⟩,
 ⟨(some 16), .mv, [(.t 1)], none, []⟩,
 ⟨(some 17), (.call false true true), [(.f 32), (.t 15), (.t 16)], none, []⟩,
 ⟨(some 7), .mv, [(.t 17)], none, []⟩] 0 [4, 7])
 (.seq
 (.reg false [] [] [
 ⟨(some 18), .mv, [(.t 7)], none, []⟩,
 ⟨(some 19), .mv, [(.t 7)], none, []⟩,
 ⟨(some 20), .nilc, [(.t 19)], none, []⟩,
 ⟨(some 21), (.fa 7), [(.t 20)], none, []⟩,
 ⟨(some 22), (.load none), [(.t 21)], none, []⟩,
 ⟨(some 23), (.call false false false), [(.f 33), (.t 18), (.t 22)], none, []⟩,
 ⟨(some 24), (.ext 0), [(.t 23)], none, []⟩,
 ⟨(some 25), (.ext 1), [(.t 23)], none, []⟩,
 ⟨none, (.store 2 none), [(.t 4), (.t 24)], none, []⟩,
 ⟨(some 5), .mv, [(.t 25)], none, []⟩] 0 [4, 5])
 .ret)))),
 [(.c 4 (some 2)), (.t 5)]⟩
theorem c13 : funC Try.prog [(0, [1, 2, 4]), (1, [1, 2, 4, 6]), (2, [1, 2, 4, 6, 12]), (3, [4, 5]), (4, [4, 7]), (5, [4, 5])] Try.f13 = some (unF l13) := by kernel_rfl
/-- acme/acmetop.pubForm -/
def l14 : LFun := ⟨1, 26, [],
 (.seq
 (.reg false [1, 2] [1, 2] [
 ⟨(some 1), .box, [(.t 0)], none, []⟩,
 ⟨(some 2), (.alloc [(.int .i64 0), (.int .i64 0), (.int .i64 0), (.int .i64 0), (.int .i64 0), (.int .i64 0), (.bool false), (.int .i64 0)]), [], none, []⟩] 0 [1, 2])
 (.seq
 (.reg false [] [] [
 ⟨(some 3), (.ixa 4 1), [(.t 1), (.c (.int .i64 0))], none, []⟩,
 ⟨(some 4), (.load none), [(.t 3)], none, []⟩,
 ⟨(some 5), (.conv .i64), [(.t 4)], none, []⟩,
 ⟨(some 6), (.bin 0 .mul), [(.c (.int .i64 4)), (.t 5)], none, []⟩,
 ⟨(some 7), (.bin 0 .add), [(.c (.int .i64 9000)), (.t 6)], none, []⟩,
 ⟨(some 8), (.ixa 4 1), [(.t 1), (.c (.int .i64 1))], none, []⟩,
 ⟨(some 9), (.load none), [(.t 8)], none, []⟩,
 ⟨(some 10), (.conv .i64), [(.t 9)], none, []⟩,
 ⟨(some 11), (.bin 0 .add), [(.c (.int .i64 400)), (.t 10)], none, []⟩,
 ⟨(some 12), (.ixa 4 1), [(.t 1), (.c (.int .i64 2))], none, []⟩,
 ⟨(some 13), (.load none), [(.t 12)], none, []⟩,
 ⟨(some 14), (.conv .i64), [(.t 13)], none, []⟩,
 ⟨(some 15), (.bin 0 .add), [(.c (.int .i64 400)), (.t 14)], none, []⟩,
 ⟨(some 16), (.ixa 4 1), [(.t 1), (.c (.int .i64 3))], none, []⟩,
 ⟨(some 17), (.load none), [(.t 16)], none, []⟩,
 ⟨(some 18), (.conv .i64), [(.t 17)], none, []⟩,
 ⟨(some 19), (.bin 0 .mul), [(.c (.int .i64 5)), (.t 18)], none, []⟩,
 ⟨(some 20), (.bin 0 .add), [(.c (.int .i64 1)), (.t 19)], none, []⟩,
 ⟨(some 21), (.ixa 4 1), [(.t 1), (.c (.int .i64 3))], none, []⟩,
 ⟨(some 22), (.load none), [(.t 21)], none, []⟩,
 ⟨(some 23), (.conv .i64), [(.t 22)], none, []⟩,
 ⟨(some 24), (.bin 0 .mul), [(.c (.int .i64 5)), (.t 23)], none, []⟩,
 ⟨(some 25), (.build [(.int .i64 0), (.int .i64 0), (.int .i64 0), (.int .i64 0), (.int .i64 0), (.int .i64 0), (.bool false), (.int .i64 0)] [(0, 1), (1, 1), (2, 1), (3, 1), (4, 1), (5, 1)]), [(.t 7), (.t 11), (.t 15), (.t 20), (.t 24), (.c (.int .i64 1))], none, []⟩,
 ⟨none, (.store 8 none), [(.t 2), (.t 25)], none, []⟩] 0 [2])
 .ret)),
 [(.c 2 (some 8))]⟩
theorem c14 : funC Try.prog [(0, [1, 2]), (1, [2])] Try.f14 = some (unF l14) := by kernel_rfl
/-- acme/acmetop.pubDepth -/
def l15 : LFun := ⟨1, 17, [],
 (.seq
 (.reg false [1, 2] [1, 2] [
 ⟨(some 1), .box, [(.t 0)], none, []⟩,
 ⟨(some 2), (.alloc [(.int .i64 0), (.int .i64 0)]), [], none, []⟩] 0 [1, 2])
 (.seq
 (.reg false [] [] [
 ⟨(some 4), (.ixa 2 1), [(.t 1), (.c (.int .i64 0))], none, []⟩,
 ⟨(some 5), (.load none), [(.t 4)], none, []⟩,
 ⟨(some 6), (.conv .i64), [(.t 5)], none, []⟩,
 ⟨(some 7), (.bin 0 .mul), [(.c (.int .i64 8)), (.t 6)], none, []⟩,
 ⟨(some 8), (.bin 0 .sub), [(.t 7), (.c (.int .i64 1200))], none, []⟩,
 ⟨(some 3), .mv, [(.t 8)], none, []⟩] 0 [1, 2, 3])
 (.seq
 (.reg false [] [] [
 ⟨(some 9), .mv, [(.t 3)], none, []⟩,
 ⟨(some 10), .mv, [(.t 3)], none, []⟩,
 ⟨(some 11), (.ixa 2 1), [(.t 1), (.c (.int .i64 1))], none, []⟩,
 ⟨(some 12), (.load none), [(.t 11)], none, []⟩,
 ⟨(some 13), (.conv .i64), [(.t 12)], none, []⟩,
 ⟨(some 14), (.bin 0 .mul), [(.c (.int .i64 8)), (.t 13)], none, []⟩,
 ⟨(some 15), (.bin 0 .add), [(.t 10), (.t 14)], none, []⟩,
 ⟨(some 16), (.call false false false), [(.f 7), (.t 9), (.t 15)], none, []⟩,
 ⟨none, (.store 2 none), [(.t 2), (.t 16)], none, []⟩] 0 [2])
 .ret))),
 [(.c 2 (some 2))]⟩
theorem c15 : funC Try.prog [(0, [1, 2]), (1, [1, 2, 3]), (2, [2])] Try.f15 = some (unF l15) := by kernel_rfl
/-- acme/gauge.Lasts -/
def l16 : LFun := ⟨3, 29, [],
 (.seq
 (.reg false [3] [3] [
 ⟨(some 3), .box, [(.t 0)], none, []⟩,
 ⟨(some 6), .mv, [(.c (.int .i64 0))], none, []⟩,
 ⟨(some 7), .mv, [(.c (.int .i64 0))], none, []⟩] 0 [1, 2, 3])
 (.seq
 (.reg false [8] [8] [
 ⟨(some 12), (.load (some 6)), [(.t 3)], none, []⟩,
 ⟨(some 13), .mv, [(.t 1)], none, []⟩,
 ⟨(some 14), .mv, [(.t 2)], none, []⟩,
 ⟨(some 15), (.call false false false), [(.f 29), (.t 12), (.t 13), (.t 14)], none, []⟩,
 ⟨(some 11), .mv, [(.t 15)], none, []⟩,
 ⟨(some 16), (.ext 0), [(.t 11)], none, []⟩,
 ⟨(some 17), (.ext 1), [(.t 11)], none, []⟩,
 ⟨(some 8), (.alloc [(.int .i64 0), (.int .i64 0), (.int .i64 0), (.int .i64 0), (.int .i64 0), (.bool false)]), [], none, []⟩,
 ⟨none, (.store 6 none), [(.t 8), (.t 16)], none, []⟩,
 ⟨(some 7), .mv, [(.t 17)], none, []⟩] 0 [7, 8])
 (.seq
 (.seq
 (.reg false [] [] [
 ⟨(some 18), .mv, [(.t 7)], none, []⟩,
 ⟨(some 19), (.bin 0 .neq), [(.t 18), (.c (.int .i64 0))], none, []⟩] 0 [7, 8, 19])
 (.cond (.t 19)
 (.seq
 (.reg false [] [] [
 ⟨(some 20), .mv, [(.t 7)], none, []⟩,
 ⟨(some 6), .mv, [(.c (.int .i64 0))], none, []⟩,
 ⟨(some 7), .mv, [(.t 20)], none, []⟩] 0 [6, 7])
 .ret)
 .skip))
 (.seq
 (.reg false [] [] [
 ⟨(some 22), (.load (some 6)), [(.t 8)], none, []⟩,
 ⟨(some 23), (.call false false false), [(.f 34), (.t 22)], none, []⟩,
 ⟨(some 21), .mv, [(.t 23)], none, []⟩,
 ⟨(some 24), (.ext 0), [(.t 21)], none, []⟩,
 ⟨(some 25), (.ext 1), [(.t 21)], none, []⟩,
 ⟨(some 9), .mv, [(.t 24)], none, []⟩,
 ⟨(some 10), .mv, [(.t 25)], none, []⟩] 0 [9, 10])
 (.seq
 (.seq
 (.reg false [] [] [
 ⟨(some 26), .mv, [(.t 10)], none, []⟩,
 ⟨(some 27), (.un .not), [(.t 26)], none, []⟩] 0 [9, 27])
 (.cond (.t 27)
 (.seq
 (.reg false [] [] [
 ⟨(some 6), .mv, [(.c (.int .i64 0))], none, []⟩,
 ⟨(some 7), .mv, [(.c (.int .i64 7))], none, []⟩] 0 [6, 7])
 .ret)
 .skip))
 (.seq
 (.reg false [] [] [
 ⟨(some 28), .mv, [(.t 9)], none, []⟩,
 ⟨(some 6), .mv, [(.t 28)], none, []⟩,
 ⟨(some 7), .mv, [(.c (.int .i64 0))], none, []⟩] 0 [6, 7])
 .ret)))))),
 [(.t 6), (.t 7)]⟩
theorem c16 : funC Try.prog [(0, [1, 2, 3]), (1, [7, 8]), (2, [7, 8, 19]), (3, [6, 7]), (4, [9, 10]), (5, [9, 27]), (6, [6, 7]), (7, [6, 7])] Try.f16 = some (unF l16) := by kernel_rfl
/-- acme/swap.Turns -/
def l17 : LFun := ⟨5, 37, [],
 (.seq
 (.reg false [5, 6, 9] [5, 6, 9] [
 ⟨(some 5), .box, [(.t 0)], none, []⟩,
 ⟨(some 6), .box, [(.t 1)], none, []⟩,
 ⟨(some 9), .box, [(.t 4)], none, []⟩,
 ⟨(some 10), .mv, [(.c (.int .i64 0))], none, []⟩,
 ⟨(some 11), .mv, [(.c (.int .i64 0))], none, []⟩] 0 [2, 3, 5, 6, 9])
 (.seq
 (.block 0
 (.seq
 (.seq
 (.reg false [] [] [
 ⟨(some 13), (.load (some 8)), [(.t 5)], none, []⟩,
 ⟨(some 14), (.call false false false), [(.f 35), (.t 13)], none, []⟩,
 ⟨(some 15), (.bin 0 .neq), [(.t 14), (.c (.int .i64 0))], none, []⟩,
 ⟨(some 12), .mv, [(.t 15)], none, []⟩] 0 [2, 3, 5, 6, 9, 12])
 (.cond (.t 12)
 .skip
 (.reg false [] [] [
 ⟨(some 16), (.load (some 8)), [(.t 6)], none, []⟩,
 ⟨(some 17), (.call false false false), [(.f 35), (.t 16)], none, []⟩,
 ⟨(some 18), (.bin 0 .neq), [(.t 17), (.c (.int .i64 0))], none, []⟩,
 ⟨(some 12), .mv, [(.t 18)], none, []⟩] 0 [2, 3, 5, 6, 9, 12])))
 (.cond (.t 12)
 (.seq
 (.reg false [] [] [
 ⟨(some 10), .mv, [(.c (.int .i64 0))], none, []⟩,
 ⟨(some 11), .mv, [(.c (.int .i64 2))], none, []⟩] 0 [10, 11])
 .ret)
 (.seq
 (.seq
 (.reg false [22] [22] [
 ⟨(some 20), .mv, [(.t 2)], none, []⟩,
 ⟨(some 21), .mv, [(.t 3)], none, []⟩,
 ⟨(some 22), (.bsl 1 [(.int .i64 0)] 2 [0, 1]), [(.t 20), (.t 21)], none, []⟩,
 ⟨(some 23), (.call false false false), [(.f 36), (.c (.int .i64 (-10000))), (.c (.int .i64 10000)), (.t 22)], none, []⟩,
 ⟨(some 24), (.un .not), [(.t 23)], none, []⟩,
 ⟨(some 19), .mv, [(.t 24)], none, []⟩] 0 [2, 3, 5, 6, 9, 19])
 (.cond (.t 19)
 .skip
 (.reg false [] [] [
 ⟨(some 25), (.load (some 2)), [(.t 9)], none, []⟩,
 ⟨(some 26), (.build [(.int .i64 0), (.int .i64 0)] [(0, 2)]), [(.t 25)], none, []⟩,
 ⟨(some 27), (.call false false false), [(.f 37), (.t 26)], none, []⟩,
 ⟨(some 28), (.un .not), [(.t 27)], none, []⟩,
 ⟨(some 19), .mv, [(.t 28)], none, []⟩] 0 [2, 3, 5, 6, 9, 19])))
 (.cond (.t 19)
 (.seq
 (.reg false [] [] [
 ⟨(some 10), .mv, [(.c (.int .i64 0))], none, []⟩,
 ⟨(some 11), .mv, [(.c (.int .i64 3))], none, []⟩] 0 [10, 11])
 .ret)
 .skip)))))
 (.seq
 (.reg false [] [] [
 ⟨(some 29), (.load (some 8)), [(.t 5)], none, []⟩,
 ⟨(some 30), .mv, [(.t 2)], none, []⟩,
 ⟨(some 31), (.build [(.int .i64 0), (.int .i64 0), (.int .i64 0), (.int .i64 0), (.int .i64 0), (.int .i64 0), (.bool false), (.int .i64 0), (.int .i64 0)] [(0, 8), (8, 1)]), [(.t 29), (.t 30)], none, []⟩,
 ⟨(some 32), (.load (some 8)), [(.t 6)], none, []⟩,
 ⟨(some 33), .mv, [(.t 3)], none, []⟩,
 ⟨(some 34), (.build [(.int .i64 0), (.int .i64 0), (.int .i64 0), (.int .i64 0), (.int .i64 0), (.int .i64 0), (.bool false), (.int .i64 0), (.int .i64 0)] [(0, 8), (8, 1)]), [(.t 32), (.t 33)], none, []⟩,
 ⟨(some 35), (.load (some 2)), [(.t 9)], none, []⟩,
 ⟨(some 36), (.call false false false), [(.f 38), (.t 31), (.t 34), (.t 35)], none, []⟩,
 ⟨(some 10), .mv, [(.t 36)], none, []⟩,
 ⟨(some 11), .mv, [(.c (.int .i64 0))], none, []⟩] 0 [10, 11])
 .ret))),
 [(.t 10), (.t 11)]⟩
theorem c17 : funC Try.prog [(0, [2, 3, 5, 6, 9]), (1, [2, 3, 5, 6, 9, 12]), (2, [2, 3, 5, 6, 9, 12]), (3, [10, 11]), (4, [2, 3, 5, 6, 9, 19]), (5, [2, 3, 5, 6, 9, 19]), (6, [10, 11]), (7, [10, 11])] Try.f17 = some (unF l17) := by kernel_rfl
/-- acme/acmetop.pubInside -/
def l18 : LFun := ⟨2, 16, [],
 (.seq
 (.reg false [2] [2] [
 ⟨(some 2), .box, [(.t 0)], none, []⟩,
 ⟨(some 4), .mv, [(.c (.int .i64 0))], none, []⟩] 0 [1, 2])
 (.seq
 (.reg false [] [] [
 ⟨(some 5), (.fa 0), [(.t 2)], none, [7, 8, 9, 10, 11, 12, 13, 14]⟩,
 ⟨(some 6), (.load none), [(.t 5)], none, [7, 8, 9, 10, 11, 12, 13, 14]⟩,
 ⟨(some 7), .mv, [(.t 1)], none, [5, 6, 8, 9, 10, 11, 12, 13]⟩,
 ⟨(some 8), (.fa 1), [(.t 2)], none, [5, 6, 7, 10, 11]⟩,
 ⟨(some 9), (.load none), [(.t 8)], none, [5, 6, 7, 10, 11]⟩,
 ⟨(some 10), (.fa 0), [(.t 2)], none, [5, 6, 7, 8, 9]⟩,
 ⟨(some 11), (.load none), [(.t 10)], none, [5, 6, 7, 8, 9]⟩,
 ⟨(some 12), (.bin 0 .sub), [(.t 9), (.t 11)], none, [5, 6, 7]⟩,
 ⟨(some 13), (.bin 0 .add), [(.t 12), (.c (.int .i64 1))], none, [5, 6, 7]⟩,
 ⟨(some 14), (.bin 0 .rem), [(.t 7), (.t 13)], none, [5, 6]⟩,
 ⟨(some 15), (.bin 0 .add), [(.t 6), (.t 14)], none, []⟩,
 ⟨(some 4), .mv, [(.t 15)], none, []⟩] 0 [4])
 .ret)),
 [(.t 4)]⟩
theorem c18 : funC Try.prog [(0, [1, 2]), (1, [4])] Try.f18 = some (unF l18) := by kernel_rfl
/-- acme/acmetop.pubSwap -/
def l19 : LFun := ⟨0, 48, [],
 (.seq
 (.reg false [] [] [
 ⟨(some 0), .mv, [(.c (.bool false))], none, []⟩] 0 [])
 (.seq
 (.reg false [] [] [
 ⟨(some 9), (.call false false false), [(.f 39), (.c (.int .i64 10000))], none, []⟩,
 ⟨(some 10), (.call false false false), [(.f 39), (.c (.int .i64 10020))], none, []⟩,
 ⟨(some 11), (.call false false false), [(.f 7), (.c (.int .i64 (-3000))), (.c (.int .i64 3000))], none, []⟩,
 ⟨(some 12), (.call false false false), [(.f 17), (.t 9), (.t 10), (.c (.int .i64 (-60))), (.c (.int .i64 0)), (.t 11)], none, []⟩,
 ⟨(some 8), .mv, [(.t 12)], none, []⟩,
 ⟨(some 13), (.ext 0), [(.t 8)], none, []⟩,
 ⟨(some 14), (.ext 1), [(.t 8)], none, []⟩,
 ⟨(some 1), .mv, [(.t 13)], none, []⟩,
 ⟨(some 2), .mv, [(.t 14)], none, []⟩] 0 [1, 2])
 (.seq
 (.reg false [3] [3] [
 ⟨(some 15), (.call false false false), [(.f 39), (.c (.int .i64 10000))], none, []⟩,
 ⟨(some 16), (.call false false false), [(.f 7), (.c (.int .i64 (-60))), (.c (.int .i64 (-20)))], none, []⟩,
 ⟨(some 17), (.call false false false), [(.f 7), (.c (.int .i64 0)), (.c (.int .i64 30))], none, []⟩,
 ⟨(some 18), (.build [(.int .i64 0), (.int .i64 0), (.int .i64 0), (.int .i64 0), (.int .i64 0), (.int .i64 0), (.int .i64 0), (.int .i64 0), (.int .i64 0), (.bool false), (.int .i64 0), (.int .i64 0), (.int .i64 0), (.int .i64 0), (.int .i64 0)] [(3, 8), (11, 2), (13, 2)]), [(.t 15), (.t 16), (.t 17)], none, []⟩,
 ⟨(some 3), (.alloc [(.int .i64 0), (.int .i64 0), (.int .i64 0), (.int .i64 0), (.int .i64 0), (.int .i64 0), (.int .i64 0), (.int .i64 0), (.int .i64 0), (.bool false), (.int .i64 0), (.int .i64 0), (.int .i64 0), (.int .i64 0), (.int .i64 0)]), [], none, []⟩,
 ⟨none, (.store 15 none), [(.t 3), (.t 18)], none, []⟩] 0 [1, 2, 3])
 (.seq
 (.reg false [4] [4] [
 ⟨(some 19), (.load (some 15)), [(.t 3)], none, []⟩,
 ⟨(some 4), (.alloc [(.int .i64 0), (.int .i64 0), (.int .i64 0), (.int .i64 0), (.int .i64 0), (.int .i64 0), (.int .i64 0), (.int .i64 0), (.int .i64 0), (.bool false), (.int .i64 0), (.int .i64 0), (.int .i64 0), (.int .i64 0), (.int .i64 0)]), [], none, []⟩,
 ⟨none, (.store 15 none), [(.t 4), (.t 19)], none, []⟩] 0 [1, 2, 3, 4])
 (.seq
 (.reg false [] [] [
 ⟨(some 20), (.call false false false), [(.f 39), (.c (.int .i64 10020))], none, []⟩,
 ⟨(some 21), (.fa 3), [(.t 4)], none, []⟩,
 ⟨none, (.store 8 none), [(.t 21), (.t 20)], none, []⟩] 0 [1, 2, 3, 4])
 (.seq
 (.reg false [] [] [
 ⟨(some 23), (.load (some 15)), [(.t 3)], none, [24, 25]⟩,
 ⟨(some 24), (.load (some 15)), [(.t 4)], none, [23, 25]⟩,
 ⟨(some 25), (.call true false false), [(.f 7), (.c (.int .i64 (-3000))), (.c (.int .i64 3000))], none, [23, 24]⟩,
 ⟨(some 26), (.call false false false), [(.f 40), (.t 23), (.t 24), (.t 25)], none, []⟩,
 ⟨(some 22), .mv, [(.t 26)], none, []⟩,
 ⟨(some 27), (.ext 0), [(.t 22)], none, [28, 29]⟩,
 ⟨(some 28), (.ext 1), [(.t 22)], none, [27, 29, 5]⟩,
 ⟨(some 29), (.ext 2), [(.t 22)], none, [27, 28, 5, 6]⟩,
 ⟨(some 5), .mv, [(.t 27)], none, [28, 29]⟩,
 ⟨(some 6), .mv, [(.t 28)], none, [29]⟩,
 ⟨(some 7), .mv, [(.t 29)], none, []⟩] 0 [1, 2, 5, 6, 7])
 (.seq
 (.reg false [] [] [
 ⟨(some 30), .mv, [(.t 2)], none, []⟩,
 ⟨(some 31), (.bin 0 .eql), [(.t 30), (.c (.int .i64 0))], none, []⟩,
 ⟨(some 32), .mv, [(.t 31)], none, []⟩,
 ⟨(some 33), .mv, [(.t 7)], (some (32, true)), []⟩,
 ⟨(some 34), (.bin 0 .eql), [(.t 33), (.c (.int .i64 0))], (some (32, true)), []⟩,
 ⟨(some 35), .pick, [(.t 32), (.t 34), (.c (.bool false))], none, []⟩,
 ⟨(some 36), .mv, [(.t 35)], none, []⟩,
 ⟨(some 37), .mv, [(.t 1)], (some (36, true)), []⟩,
 ⟨(some 38), (.bin 0 .eql), [(.t 37), (.c (.int .i64 4))], (some (36, true)), []⟩,
 ⟨(some 39), .pick, [(.t 36), (.t 38), (.c (.bool false))], none, []⟩,
 ⟨(some 40), .mv, [(.t 39)], none, []⟩,
 ⟨(some 41), .mv, [(.t 5)], (some (40, true)), []⟩,
 ⟨(some 42), (.bin 0 .eql), [(.t 41), (.c (.int .i64 2))], (some (40, true)), []⟩,
 ⟨(some 43), .pick, [(.t 40), (.t 42), (.c (.bool false))], none, []⟩,
 ⟨(some 44), .mv, [(.t 43)], none, []⟩,
 ⟨(some 45), .mv, [(.t 6)], (some (44, true)), []⟩,
 ⟨(some 46), (.bin 0 .eql), [(.t 45), (.c (.int .i64 6))], (some (44, true)), []⟩,
 ⟨(some 47), .pick, [(.t 44), (.t 46), (.c (.bool false))], none, []⟩,
 ⟨(some 0), .mv, [(.t 47)], none, []⟩] 0 [0])
 .ret))))))),
 [(.t 0)]⟩
theorem c19 : funC Try.prog [(0, []), (1, [1, 2]), (2, [1, 2, 3]), (3, [1, 2, 3, 4]), (4, [1, 2, 3, 4]), (5, [1, 2, 5, 6, 7]), (6, [0])] Try.f19 = some (unF l19) := by kernel_rfl
/-- acme/gauge.newGauge -/
def l29 : LFun := ⟨3, 38, [],
 (.seq
 (.reg false [3, 6] [3, 6] [
 ⟨(some 3), .box, [(.t 0)], none, []⟩,
 ⟨(some 6), (.alloc [(.int .i64 0), (.int .i64 0), (.int .i64 0), (.int .i64 0), (.int .i64 0), (.bool false)]), [], none, []⟩,
 ⟨(some 7), .mv, [(.c (.int .i64 0))], none, []⟩] 0 [1, 2, 3, 6])
 (.seq
 (.seq
 (.reg false [] [] [
 ⟨(some 10), (.load (some 6)), [(.t 3)], none, []⟩,
 ⟨(some 11), .mv, [(.t 1)], none, []⟩,
 ⟨(some 12), (.call false false false), [(.f 31), (.t 10), (.t 11)], none, []⟩,
 ⟨(some 8), .mv, [(.t 12)], none, []⟩] 0 [1, 2, 3, 6, 8])
 (.block 0
 (.seq
 (.reg false [] [] [
 ⟨(some 14), .mv, [(.t 8)], none, []⟩,
 ⟨(some 15), (.bin 0 .neq), [(.t 14), (.c (.int .i64 0))], none, []⟩,
 ⟨(some 13), .mv, [(.t 15)], none, []⟩] 0 [1, 2, 3, 6, 8, 13])
 (.cond (.t 13)
 (.seq
 (.reg false [] [] [
 ⟨(some 16), (.load (some 6)), [(.t 6)], none, []⟩,
 ⟨(some 17), .mv, [(.t 8)], none, []⟩,
 ⟨none, (.store 6 none), [(.t 6), (.t 16)], none, []⟩,
 ⟨(some 7), .mv, [(.t 17)], none, []⟩] 0 [6, 7])
 .ret)
 (.seq
 (.reg false [20] [20] [
 ⟨(some 19), .mv, [(.t 2)], none, []⟩,
 ⟨(some 20), (.bsl 1 [(.int .i64 0)] 1 [0]), [(.t 19)], none, []⟩,
 ⟨(some 21), (.call false false false), [(.f 50), (.c (.int .i64 0)), (.c (.int .i64 10000000)), (.t 20)], none, []⟩,
 ⟨(some 22), (.un .not), [(.t 21)], none, []⟩,
 ⟨(some 18), .mv, [(.t 22)], none, []⟩] 0 [1, 2, 3, 6, 18])
 (.cond (.t 18)
 (.seq
 (.reg false [] [] [
 ⟨(some 23), (.load (some 6)), [(.t 6)], none, []⟩,
 ⟨none, (.store 6 none), [(.t 6), (.t 23)], none, []⟩,
 ⟨(some 7), .mv, [(.c (.int .i64 3))], none, []⟩] 0 [6, 7])
 .ret)
 .skip))))))
 (.seq
 (.reg false [9] [9] [
 ⟨(some 25), (.load (some 6)), [(.t 3)], none, []⟩,
 ⟨(some 26), .mv, [(.t 1)], none, []⟩,
 ⟨(some 27), (.call false false false), [(.f 13), (.t 25), (.t 26)], none, []⟩,
 ⟨(some 24), .mv, [(.t 27)], none, []⟩,
 ⟨(some 28), (.ext 0), [(.t 24)], none, []⟩,
 ⟨(some 29), (.ext 1), [(.t 24)], none, []⟩,
 ⟨(some 9), (.alloc [(.int .i64 0), (.int .i64 0)]), [], none, []⟩,
 ⟨none, (.store 2 none), [(.t 9), (.t 28)], none, []⟩,
 ⟨(some 7), .mv, [(.t 29)], none, []⟩] 0 [2, 3, 6, 7, 9])
 (.seq
 (.reg false [] [] [
 ⟨(some 30), (.load (some 2)), [(.t 9)], none, []⟩,
 ⟨(some 31), (.fa 3), [(.t 3)], none, []⟩,
 ⟨(some 32), (.load (some 2)), [(.t 31)], none, []⟩,
 ⟨(some 33), .mv, [(.t 2)], none, []⟩,
 ⟨(some 34), (.fa 0), [(.t 3)], none, []⟩,
 ⟨(some 35), (.load none), [(.t 34)], none, []⟩,
 ⟨(some 36), (.build [(.int .i64 0), (.int .i64 0), (.int .i64 0), (.int .i64 0), (.int .i64 0), (.bool false)] [(0, 2), (2, 2), (4, 1), (5, 1)]), [(.t 30), (.t 32), (.t 33), (.t 35)], none, []⟩,
 ⟨(some 37), .mv, [(.t 7)], none, []⟩,
 ⟨none, (.store 6 none), [(.t 6), (.t 36)], none, []⟩,
 ⟨(some 7), .mv, [(.t 37)], none, []⟩] 0 [6, 7])
 .ret)))),
 [(.c 6 (some 6)), (.t 7)]⟩
theorem c29 : funC Try.prog [(0, [1, 2, 3, 6]), (1, [1, 2, 3, 6, 8]), (2, [1, 2, 3, 6, 8, 13]), (3, [6, 7]), (4, [1, 2, 3, 6, 18]), (5, [6, 7]), (6, [2, 3, 6, 7, 9]), (7, [6, 7])] Try.f29 = some (unF l29) := by kernel_rfl
/-- (acme/gauge.gauge).room -/
def l30 : LFun := ⟨1, 30, [],
 (.seq
 (.reg false [1] [1] [
 ⟨(some 1), .box, [(.t 0)], none, []⟩,
 ⟨(some 2), .mv, [(.c (.int .i64 0))], none, []⟩,
 ⟨(some 3), .mv, [(.c (.int .i64 0))], none, []⟩] 0 [1])
 (.seq
 (.seq
 (.reg false [] [] [
 ⟨(some 4), (.fa 5), [(.t 1)], none, []⟩,
 ⟨(some 5), (.load none), [(.t 4)], none, []⟩] 0 [1, 5])
 (.cond (.t 5)
 (.seq
 (.reg false [] [] [
 ⟨(some 6), (.fa 4), [(.t 1)], none, [8, 9, 10, 12, 13, 14, 15, 16, 17]⟩,
 ⟨(some 7), (.load none), [(.t 6)], none, [8, 9, 10, 12, 13, 14, 15, 16, 17]⟩,
 ⟨(some 8), (.fa 0), [(.t 1)], none, [6, 7, 12, 13, 14, 15, 16, 17]⟩,
 ⟨(some 9), (.fa 1), [(.t 8)], none, [6, 7, 12, 13, 14, 15, 16, 17]⟩,
 ⟨(some 10), (.load none), [(.t 9)], none, [6, 7, 12, 13, 14, 15, 16, 17]⟩,
 ⟨(some 11), (.bin 0 .sub), [(.t 7), (.t 10)], none, [12, 13, 14, 15, 16, 17]⟩,
 ⟨(some 12), (.fa 4), [(.t 1)], none, [6, 7, 8, 9, 10, 11, 14, 15, 16, 2]⟩,
 ⟨(some 13), (.load none), [(.t 12)], none, [6, 7, 8, 9, 10, 11, 14, 15, 16, 2]⟩,
 ⟨(some 14), (.fa 0), [(.t 1)], none, [6, 7, 8, 9, 10, 11, 12, 13, 2]⟩,
 ⟨(some 15), (.fa 0), [(.t 14)], none, [6, 7, 8, 9, 10, 11, 12, 13, 2]⟩,
 ⟨(some 16), (.load none), [(.t 15)], none, [6, 7, 8, 9, 10, 11, 12, 13, 2]⟩,
 ⟨(some 17), (.bin 0 .sub), [(.t 13), (.t 16)], none, [6, 7, 8, 9, 10, 11, 2]⟩,
 ⟨(some 2), .mv, [(.t 11)], none, [12, 13, 14, 15, 16, 17]⟩,
 ⟨(some 3), .mv, [(.t 17)], none, []⟩] 0 [2, 3])
 .ret)
 .skip))
 (.seq
 (.reg false [] [] [
 ⟨(some 18), (.fa 0), [(.t 1)], none, [21, 22, 24, 25, 26, 27, 28, 29]⟩,
 ⟨(some 19), (.fa 0), [(.t 18)], none, [21, 22, 24, 25, 26, 27, 28, 29]⟩,
 ⟨(some 20), (.load none), [(.t 19)], none, [21, 22, 24, 25, 26, 27, 28, 29]⟩,
 ⟨(some 21), (.fa 4), [(.t 1)], none, [18, 19, 20, 24, 25, 26, 27, 28, 29]⟩,
 ⟨(some 22), (.load none), [(.t 21)], none, [18, 19, 20, 24, 25, 26, 27, 28, 29]⟩,
 ⟨(some 23), (.bin 0 .sub), [(.t 20), (.t 22)], none, [24, 25, 26, 27, 28, 29]⟩,
 ⟨(some 24), (.fa 0), [(.t 1)], none, [18, 19, 20, 21, 22, 23, 27, 28, 2]⟩,
 ⟨(some 25), (.fa 1), [(.t 24)], none, [18, 19, 20, 21, 22, 23, 27, 28, 2]⟩,
 ⟨(some 26), (.load none), [(.t 25)], none, [18, 19, 20, 21, 22, 23, 27, 28, 2]⟩,
 ⟨(some 27), (.fa 4), [(.t 1)], none, [18, 19, 20, 21, 22, 23, 24, 25, 26, 2]⟩,
 ⟨(some 28), (.load none), [(.t 27)], none, [18, 19, 20, 21, 22, 23, 24, 25, 26, 2]⟩,
 ⟨(some 29), (.bin 0 .sub), [(.t 26), (.t 28)], none, [18, 19, 20, 21, 22, 23, 2]⟩,
 ⟨(some 2), .mv, [(.t 23)], none, [24, 25, 26, 27, 28, 29]⟩,
 ⟨(some 3), .mv, [(.t 29)], none, []⟩] 0 [2, 3])
 .ret))),
 [(.t 2), (.t 3)]⟩
theorem c30 : funC Try.prog [(0, [1]), (1, [1, 5]), (2, [2, 3]), (3, [2, 3])] Try.f30 = some (unF l30) := by kernel_rfl
/-- acme/gauge.check -/
def b31_0 : LCode :=
 (.seq
 (.reg true [] [] [
 ⟨(some 19), (.bin 0 .lss), [(.t 18), (.t 17)], none, []⟩] 0 [2, 16, 17, 18, 19])
 (.seq
 (.cond (.t 19)
 .skip
 (.exit 0))
 (.seq
 (.block 1
 (.seq
 (.reg true [7] [7] [
 ⟨(some 20), (.ixs 3), [(.t 16), (.t 18)], none, []⟩,
 ⟨(some 21), (.load (some 3)), [(.t 20)], none, []⟩,
 ⟨(some 7), (.alloc [(.int .i64 0), (.int .i64 0), (.bool false)]), [], none, []⟩,
 ⟨none, (.store 3 none), [(.t 7), (.t 21)], none, []⟩] 0 [2, 7, 16, 17, 18])
 (.block 2
 (.seq
 (.reg true [29] [29] [
 ⟨(some 23), (.fa 5), [(.t 2)], none, []⟩,
 ⟨(some 24), (.load none), [(.t 23)], none, []⟩,
 ⟨(some 25), .len, [(.t 24)], none, []⟩,
 ⟨(some 26), (.bin 0 .sub), [(.t 25), (.c (.int .i64 1))], none, []⟩,
 ⟨(some 27), (.fa 1), [(.t 7)], none, []⟩,
 ⟨(some 28), (.load none), [(.t 27)], none, []⟩,
 ⟨(some 29), (.bsl 1 [(.int .i64 0)] 1 [0]), [(.t 28)], none, []⟩,
 ⟨(some 30), (.call false false false), [(.f 50), (.c (.int .i64 (-1))), (.t 26), (.t 29)], none, []⟩,
 ⟨(some 31), (.un .not), [(.t 30)], none, []⟩,
 ⟨(some 22), .mv, [(.t 31)], none, []⟩] 0 [2, 7, 16, 17, 18, 22])
 (.cond (.t 22)
 (.seq
 (.reg true [] [] [
 ⟨(some 4), .mv, [(.c (.int .i64 7))], none, []⟩] 0 [4])
 .ret)
 (.seq
 (.reg true [] [] [
 ⟨(some 33), (.load (some 3)), [(.t 7)], none, []⟩,
 ⟨(some 34), (.call false false false), [(.f 57), (.t 33)], none, []⟩,
 ⟨(some 35), (.bin 0 .eql), [(.t 34), (.c (.int .i64 0))], none, []⟩,
 ⟨(some 32), .mv, [(.t 35)], none, []⟩] 0 [2, 16, 17, 18, 32])
 (.cond (.t 32)
 (.seq
 (.reg true [] [] [
 ⟨(some 4), .mv, [(.c (.int .i64 2))], none, []⟩] 0 [4])
 .ret)
 .skip)))))))
 (.reg true [] [] [
 ⟨(some 36), (.bin 0 .add), [(.t 18), (.c (.int .i64 1))], none, []⟩,
 ⟨(some 18), .mv, [(.t 36)], none, []⟩] 0 [2, 16, 17, 18]))))
def l31 : LFun := ⟨2, 37, [],
 (.seq
 (.reg false [2] [2] [
 ⟨(some 2), .box, [(.t 0)], none, []⟩,
 ⟨(some 4), .mv, [(.c (.int .i64 0))], none, []⟩] 0 [1, 2])
 (.seq
 (.seq
 (.reg false [] [] [
 ⟨(some 8), (.load (some 6)), [(.t 2)], none, []⟩,
 ⟨(some 9), (.call false false false), [(.f 56), (.t 8)], none, []⟩,
 ⟨(some 5), .mv, [(.t 9)], none, []⟩] 0 [1, 2, 5])
 (.seq
 (.reg false [] [] [
 ⟨(some 10), .mv, [(.t 5)], none, []⟩,
 ⟨(some 11), (.bin 0 .neq), [(.t 10), (.c (.int .i64 0))], none, []⟩] 0 [1, 2, 5, 11])
 (.cond (.t 11)
 (.seq
 (.reg false [] [] [
 ⟨(some 12), .mv, [(.t 5)], none, []⟩,
 ⟨(some 4), .mv, [(.t 12)], none, []⟩] 0 [4])
 .ret)
 .skip)))
 (.seq
 (.seq
 (.reg false [] [] [
 ⟨(some 13), .mv, [(.t 1)], none, []⟩,
 ⟨(some 14), .len, [(.t 13)], none, []⟩,
 ⟨(some 15), (.bin 0 .gtr), [(.t 14), (.c (.int .i64 100))], none, []⟩] 0 [1, 2, 15])
 (.cond (.t 15)
 (.seq
 (.reg false [] [] [
 ⟨(some 4), .mv, [(.c (.int .i64 5))], none, []⟩] 0 [4])
 .ret)
 .skip))
 (.seq
 (.seq
 (.reg false [] [] [
 ⟨(some 16), .mv, [(.t 1)], none, []⟩,
 ⟨(some 17), .len, [(.t 16)], none, []⟩,
 ⟨(some 18), .mv, [(.c (.int .i64 0))], none, []⟩] 0 [2, 16, 17, 18])
 (.block 0
 (.loop b31_0)))
 (.seq
 (.reg false [] [] [
 ⟨(some 4), .mv, [(.c (.int .i64 0))], none, []⟩] 0 [4])
 .ret))))),
 [(.t 4)]⟩
theorem c31 : funC Try.prog [(0, [1, 2]), (1, [1, 2, 5]), (2, [1, 2, 5, 11]), (3, [4]), (4, [1, 2, 15]), (5, [4]), (6, [2, 16, 17, 18]), (7, [2, 16, 17, 18, 19]), (8, [2, 7, 16, 17, 18]), (9, [2, 7, 16, 17, 18, 22]), (10, [4]), (11, [2, 16, 17, 18, 32]), (12, [4]), (13, [2, 16, 17, 18]), (14, [4])] Try.f31 = some (unF l31) := by kernel_rfl
/-- acme/gauge.newRules -/
def g32_0 : LCode :=
 (.reg false [2] [2] [
 ⟨(some 2), .box, [(.t 0)], none, []⟩,
 ⟨(some 4), .mv, [(.c .np)], none, []⟩] 0 [1, 2, 16])
def g32_1 : LCode :=
 (.reg false [16] [16] [
 ⟨(some 10), (.load (some 6)), [(.t 2)], none, [11, 12, 13, 14]⟩,
 ⟨(some 11), (.fa 5), [(.t 2)], none, [10]⟩,
 ⟨(some 12), (.load none), [(.t 11)], none, [10]⟩,
 ⟨(some 13), .len, [(.t 12)], none, [10]⟩,
 ⟨(some 14), (.call true false false), [(.f 58), (.t 13)], none, [10]⟩,
 ⟨(some 15), (.build [(.bool false), (.int .i64 0), (.int .i64 0), (.int .i64 0), (.int .i64 0), (.sl none 2 []), (.sl none 3 []), (.int .i64 0)] [(0, 6), (7, 1)]), [(.t 10), (.t 14)], none, []⟩,
 ⟨(some 16), .box, [(.t 15)], none, []⟩,
 ⟨(some 5), .mv, [(.t 16)], none, []⟩] 0 [1, 2, 5, 16])
def g32_2 : LCode :=
 (.reg false [] [] [
 ⟨(some 17), (.fa 5), [(.t 2)], none, []⟩,
 ⟨(some 18), (.load none), [(.t 17)], none, []⟩,
 ⟨(some 19), .len, [(.t 18)], none, []⟩,
 ⟨(some 20), .mv, [(.c (.int .i64 0))], none, []⟩] 0 [1, 2, 5, 16, 18, 19, 20])
def g32_3 : LCode :=
 (.reg true [] [] [
 ⟨(some 21), (.bin 0 .lss), [(.t 20), (.t 19)], none, []⟩] 0 [1, 2, 5, 16, 18, 19, 20, 21])
def g32_4 : LCode :=
 (.reg true [7] [7] [
 ⟨(some 22), .mv, [(.t 20)], none, []⟩,
 ⟨(some 23), (.ixs 2), [(.t 18), (.t 20)], none, []⟩,
 ⟨(some 24), (.load (some 2)), [(.t 23)], none, []⟩,
 ⟨(some 7), (.alloc [(.int .i64 0), (.int .i64 0)]), [], none, []⟩,
 ⟨(some 6), .mv, [(.t 22)], none, []⟩,
 ⟨none, (.store 2 none), [(.t 7), (.t 24)], none, []⟩] 0 [1, 2, 5, 6, 7, 16, 18, 19, 20])
def g32_5 : LCode :=
 (.reg true [] [] [
 ⟨(some 25), .mv, [(.t 5)], none, [26, 27, 28, 29, 30]⟩,
 ⟨(some 26), .mv, [(.t 6)], none, [25, 28, 29]⟩,
 ⟨(some 27), (.call true false false), [(.f 58), (.t 26)], none, [25, 28, 29]⟩,
 ⟨(some 28), .mv, [(.t 5)], none, [25, 26, 27, 29]⟩,
 ⟨(some 29), (.load (some 2)), [(.t 7)], none, [25, 26, 27, 28]⟩,
 ⟨(some 30), (.call true false false), [(.f 60), (.t 28), (.t 29)], none, [25]⟩,
 ⟨(some 31), .callp, [(.f 59), (.t 25), (.t 27), (.c (.int .i64 0)), (.t 30)], none, []⟩] 0 [1, 2, 5, 16, 18, 19, 20])
def g32_6 : LCode :=
 (.reg true [] [] [
 ⟨(some 32), (.bin 0 .add), [(.t 20), (.c (.int .i64 1))], none, []⟩,
 ⟨(some 20), .mv, [(.t 32)], none, []⟩] 0 [1, 2, 5, 16, 18, 19, 20])
def b32_0 : LCode :=
 (.seq
 g32_3
 (.seq
 (.cond (.t 21)
 .skip
 (.exit 0))
 (.seq
 (.block 1
 (.seq
 g32_4
 g32_5))
 g32_6)))
def g32_7 : LCode :=
 (.reg false [] [] [
 ⟨(some 33), .mv, [(.t 5)], none, [34, 35, 36, 37, 38, 39, 40, 41]⟩,
 ⟨(some 34), .mv, [(.t 5)], none, [33, 38, 39, 40, 41]⟩,
 ⟨(some 35), .nilc, [(.t 34)], none, [33, 38, 39, 40, 41]⟩,
 ⟨(some 36), (.fa 7), [(.t 35)], none, [33, 38, 39, 40, 41]⟩,
 ⟨(some 37), (.load none), [(.t 36)], none, [33, 38, 39, 40, 41]⟩,
 ⟨(some 38), .mv, [(.t 5)], none, [33, 34, 35, 36, 37, 39, 40]⟩,
 ⟨(some 39), (.fa 1), [(.t 2)], none, [33, 34, 35, 36, 37, 38]⟩,
 ⟨(some 40), (.load (some 2)), [(.t 39)], none, [33, 34, 35, 36, 37, 38]⟩,
 ⟨(some 41), (.call true false false), [(.f 60), (.t 38), (.t 40)], none, [33, 34, 35, 36, 37]⟩,
 ⟨(some 42), .callp, [(.f 59), (.t 33), (.t 37), (.c (.int .i64 0)), (.t 41)], none, []⟩] 0 [1, 5, 16])
def g32_8 : LCode :=
 (.reg false [] [] [
 ⟨(some 43), .mv, [(.t 1)], none, []⟩,
 ⟨(some 44), .len, [(.t 43)], none, []⟩,
 ⟨(some 45), .mv, [(.c (.int .i64 0))], none, []⟩] 0 [5, 16, 43, 44, 45])
def g32_9 : LCode :=
 (.reg true [] [] [
 ⟨(some 46), (.bin 0 .lss), [(.t 45), (.t 44)], none, []⟩] 0 [5, 16, 43, 44, 45, 46])
def g32_10 : LCode :=
 (.reg true [9] [9] [
 ⟨(some 47), (.ixs 3), [(.t 43), (.t 45)], none, []⟩,
 ⟨(some 48), (.load (some 3)), [(.t 47)], none, []⟩,
 ⟨(some 9), (.alloc [(.int .i64 0), (.int .i64 0), (.bool false)]), [], none, []⟩,
 ⟨none, (.store 3 none), [(.t 9), (.t 48)], none, []⟩] 0 [5, 9, 16, 43, 44, 45])
def g32_11 : LCode :=
 (.reg true [] [] [
 ⟨(some 49), .mv, [(.t 5)], none, []⟩,
 ⟨(some 50), (.load (some 3)), [(.t 9)], none, []⟩,
 ⟨(some 51), .callp, [(.f 61), (.t 49), (.t 50)], none, []⟩] 0 [5, 16, 43, 44, 45])
def g32_12 : LCode :=
 (.reg true [] [] [
 ⟨(some 52), (.bin 0 .add), [(.t 45), (.c (.int .i64 1))], none, []⟩,
 ⟨(some 45), .mv, [(.t 52)], none, []⟩] 0 [5, 16, 43, 44, 45])
def b32_1 : LCode :=
 (.seq
 g32_9
 (.seq
 (.cond (.t 46)
 .skip
 (.exit 2))
 (.seq
 (.block 3
 (.seq
 g32_10
 g32_11))
 g32_12)))
def g32_13 : LCode :=
 (.reg false [] [] [
 ⟨(some 53), .mv, [(.t 5)], none, []⟩,
 ⟨(some 4), .mv, [(.t 53)], none, []⟩] 0 [4, 16])
def l32 : LFun := ⟨2, 54, [],
 (.seq
 g32_0
 (.seq
 g32_1
 (.seq
 (.seq
 g32_2
 (.block 0
 (.loop b32_0)))
 (.seq
 g32_7
 (.seq
 (.seq
 g32_8
 (.block 2
 (.loop b32_1)))
 (.seq
 g32_13
 .ret)))))),
 [(.t 4)]⟩
theorem c32 : funC Try.prog [(0, [1, 2, 16]), (1, [1, 2, 5, 16]), (2, [1, 2, 5, 16, 18, 19, 20]), (3, [1, 2, 5, 16, 18, 19, 20, 21]), (4, [1, 2, 5, 6, 7, 16, 18, 19, 20]), (5, [1, 2, 5, 16, 18, 19, 20]), (6, [1, 2, 5, 16, 18, 19, 20]), (7, [1, 5, 16]), (8, [5, 16, 43, 44, 45]), (9, [5, 16, 43, 44, 45, 46]), (10, [5, 9, 16, 43, 44, 45]), (11, [5, 16, 43, 44, 45]), (12, [5, 16, 43, 44, 45]), (13, [4, 16])] Try.f32 = some (unF l32) := by kernel_rfl
/-- (*acme/gauge.rules).span -/
def l33 : LFun := ⟨2, 40, [],
 (.seq
 (.reg false [4] [4] [
 ⟨(some 4), (.alloc [(.int .i64 0), (.int .i64 0)]), [], none, []⟩,
 ⟨(some 5), .mv, [(.c (.int .i64 0))], none, []⟩] 0 [0, 1, 4])
 (.seq
 (.reg false [12] [12] [
 ⟨(some 11), .mv, [(.t 0)], none, []⟩,
 ⟨(some 12), (.call false false true), [(.f 62), (.t 11), (.c (.int .i64 0))], none, []⟩,
 ⟨(some 10), .mv, [(.t 12)], none, []⟩,
 ⟨(some 13), (.ext 0), [(.t 10)], none, []⟩,
 ⟨(some 14), (.ext 1), [(.t 10)], none, []⟩,
 ⟨(some 6), .mv, [(.t 13)], none, []⟩,
 ⟨(some 7), .mv, [(.t 14)], none, []⟩] 0 [0, 1, 4, 6, 7])
 (.seq
 (.reg false [17, 18] [17, 18] [
 ⟨(some 16), .mv, [(.t 0)], none, []⟩,
 ⟨(some 17), (.call false true true), [(.f 63), (.t 16)], none, []⟩,
 ⟨(some 18), (.call false false true), [(.f 62), (.t 17), (.c (.int .i64 0))], none, []⟩,
 ⟨(some 15), .mv, [(.t 18)], none, []⟩,
 ⟨(some 19), (.ext 0), [(.t 15)], none, []⟩,
 ⟨(some 20), (.ext 1), [(.t 15)], none, []⟩,
 ⟨(some 8), .mv, [(.t 19)], none, []⟩,
 ⟨(some 9), .mv, [(.t 20)], none, []⟩] 0 [0, 1, 4, 6, 7, 8, 9])
 (.seq
 (.seq
 (.reg false [] [] [
 ⟨(some 21), .mv, [(.t 7)], none, []⟩,
 ⟨(some 22), (.un .not), [(.t 21)], none, []⟩,
 ⟨(some 23), .mv, [(.t 22)], none, []⟩,
 ⟨(some 24), .mv, [(.t 9)], (some (23, false)), []⟩,
 ⟨(some 25), (.un .not), [(.t 24)], (some (23, false)), []⟩,
 ⟨(some 26), .pick, [(.t 23), (.c (.bool true)), (.t 25)], none, []⟩] 0 [0, 1, 4, 6, 8, 26])
 (.cond (.t 26)
 (.seq
 (.reg false [] [] [
 ⟨(some 27), (.build [(.int .i64 0), (.int .i64 0)] []), [], none, []⟩,
 ⟨none, (.store 2 none), [(.t 4), (.t 27)], none, []⟩,
 ⟨(some 5), .mv, [(.c (.int .i64 9))], none, []⟩] 0 [4, 5])
 .ret)
 .skip))
 (.seq
 (.reg false [] [] [
 ⟨(some 28), .mv, [(.t 0)], none, [29, 30, 31, 32, 33, 34, 35, 36, 37, 38]⟩,
 ⟨(some 29), .mv, [(.t 8)], none, [28, 30, 34, 35, 36, 37]⟩,
 ⟨(some 30), .mv, [(.t 1)], none, [28, 29, 34, 35, 36, 37]⟩,
 ⟨(some 31), (.ixs 1), [(.t 29), (.t 30)], none, [28, 34, 35, 36, 37]⟩,
 ⟨(some 32), (.load none), [(.t 31)], none, [28, 34, 35, 36, 37]⟩,
 ⟨(some 33), (.un .neg), [(.t 32)], none, [28, 34, 35, 36, 37]⟩,
 ⟨(some 34), .mv, [(.t 6)], none, [28, 29, 30, 31, 32, 33, 35]⟩,
 ⟨(some 35), .mv, [(.t 1)], none, [28, 29, 30, 31, 32, 33, 34]⟩,
 ⟨(some 36), (.ixs 1), [(.t 34), (.t 35)], none, [28, 29, 30, 31, 32, 33]⟩,
 ⟨(some 37), (.load none), [(.t 36)], none, [28, 29, 30, 31, 32, 33]⟩,
 ⟨(some 38), (.build [(.int .i64 0), (.int .i64 0)] [(0, 1), (1, 1)]), [(.t 33), (.t 37)], none, [28]⟩,
 ⟨(some 39), (.call false false false), [(.f 60), (.t 28), (.t 38)], none, []⟩,
 ⟨none, (.store 2 (some 4)), [(.t 4), (.t 39)], none, []⟩,
 ⟨(some 5), .mv, [(.c (.int .i64 0))], none, []⟩] 0 [4, 5])
 .ret))))),
 [(.c 4 (some 2)), (.t 5)]⟩
theorem c33 : funC Try.prog [(0, [0, 1, 4]), (1, [0, 1, 4, 6, 7]), (2, [0, 1, 4, 6, 7, 8, 9]), (3, [0, 1, 4, 6, 8, 26]), (4, [4, 5]), (5, [4, 5])] Try.f33 = some (unF l33) := by kernel_rfl
/-- (acme/gauge.gauge).lasts -/
def l34 : LFun := ⟨1, 19, [],
 (.seq
 (.reg false [1] [1] [
 ⟨(some 1), .box, [(.t 0)], none, []⟩,
 ⟨(some 2), .mv, [(.c (.int .i64 0))], none, []⟩,
 ⟨(some 3), .mv, [(.c (.bool false))], none, []⟩] 0 [1, 4])
 (.seq
 (.reg false [4] [4] [
 ⟨(some 8), (.load (some 6)), [(.t 1)], none, []⟩,
 ⟨(some 9), (.call false false false), [(.f 30), (.t 8)], none, []⟩,
 ⟨(some 7), .mv, [(.t 9)], none, []⟩,
 ⟨(some 10), (.ext 0), [(.t 7)], none, []⟩,
 ⟨(some 11), (.ext 1), [(.t 7)], none, []⟩,
 ⟨(some 4), (.alloc [(.int .i64 0)]), [], none, []⟩,
 ⟨none, (.store 1 none), [(.t 4), (.t 10)], none, []⟩,
 ⟨(some 5), .mv, [(.t 11)], none, []⟩] 0 [1, 4])
 (.seq
 (.reg false [] [] [
 ⟨(some 12), (.mkf 65), [(.t 1), (.t 4)], none, []⟩,
 ⟨(some 13), (.call false false false), [(.f 64), (.c (.int .i64 100001)), (.t 12)], none, []⟩,
 ⟨(some 6), .mv, [(.t 13)], none, []⟩] 0 [1, 4, 6])
 (.seq
 (.reg false [] [] [
 ⟨(some 14), .mv, [(.t 6)], none, [17, 18]⟩,
 ⟨(some 15), (.bin 0 .sub), [(.t 14), (.c (.int .i64 1))], none, [17, 18]⟩,
 ⟨(some 16), .max, [(.c (.int .i64 0)), (.t 15)], none, [17, 18]⟩,
 ⟨(some 17), (.load none), [(.t 4)], none, [14, 15, 16, 2]⟩,
 ⟨(some 18), (.bin 0 .geq), [(.t 17), (.c (.int .i64 0))], none, [14, 15, 16, 2]⟩,
 ⟨(some 2), .mv, [(.t 16)], none, [17, 18]⟩,
 ⟨(some 3), .mv, [(.t 18)], none, []⟩] 0 [1, 2, 3, 4])
 .ret)))),
 [(.t 2), (.t 3)]⟩
theorem c34 : funC Try.prog [(0, [1, 4]), (1, [1, 4]), (2, [1, 4, 6]), (3, [1, 2, 3, 4])] Try.f34 = some (unF l34) := by kernel_rfl
/-- acme/thread.Check -/
def l35 : LFun := ⟨1, 63, [],
 (.seq
 (.reg false [1] [1] [
 ⟨(some 1), .box, [(.t 0)], none, []⟩,
 ⟨(some 2), .mv, [(.c (.int .i64 0))], none, []⟩] 0 [1])
 (.seq
 (.reg false [3] [3] [
 ⟨(some 5), (.load (some 8)), [(.t 1)], none, []⟩,
 ⟨(some 6), (.build [(.int .i64 0), (.int .i64 0), (.int .i64 0), (.int .i64 0), (.int .i64 0), (.int .i64 0), (.bool false), (.int .i64 0)] [(0, 8)]), [(.t 5)], none, []⟩,
 ⟨(some 3), (.alloc [(.int .i64 0), (.int .i64 0), (.int .i64 0), (.int .i64 0), (.int .i64 0), (.int .i64 0), (.bool false), (.int .i64 0)]), [], none, []⟩,
 ⟨none, (.store 8 none), [(.t 3), (.t 6)], none, []⟩] 0 [1, 3])
 (.seq
 (.reg false [9, 16, 24] [9, 16, 24] [
 ⟨(some 7), (.fa 0), [(.t 1)], none, []⟩,
 ⟨(some 8), (.load none), [(.t 7)], none, []⟩,
 ⟨(some 9), (.bsl 1 [(.int .i64 0)] 1 [0]), [(.t 8)], none, []⟩,
 ⟨(some 10), (.call false false false), [(.f 42), (.c (.int .i64 100)), (.c (.int .i64 200000)), (.t 9)], none, []⟩,
 ⟨(some 11), .mv, [(.t 10)], none, []⟩,
 ⟨(some 12), (.fa 1), [(.t 1)], (some (11, true)), []⟩,
 ⟨(some 13), (.load none), [(.t 12)], (some (11, true)), []⟩,
 ⟨(some 14), (.fa 2), [(.t 1)], (some (11, true)), []⟩,
 ⟨(some 15), (.load none), [(.t 14)], (some (11, true)), []⟩,
 ⟨(some 16), (.bsl 1 [(.int .i64 0)] 2 [0, 1]), [(.t 13), (.t 15)], (some (11, true)), []⟩,
 ⟨(some 17), (.call false false false), [(.f 42), (.c (.int .i64 0)), (.c (.int .i64 3000)), (.t 16)], (some (11, true)), []⟩,
 ⟨(some 18), .pick, [(.t 11), (.t 17), (.c (.bool false))], none, []⟩,
 ⟨(some 19), .mv, [(.t 18)], none, []⟩,
 ⟨(some 20), (.fa 3), [(.t 1)], (some (19, true)), []⟩,
 ⟨(some 21), (.load none), [(.t 20)], (some (19, true)), []⟩,
 ⟨(some 22), (.fa 4), [(.t 1)], (some (19, true)), []⟩,
 ⟨(some 23), (.load none), [(.t 22)], (some (19, true)), []⟩,
 ⟨(some 24), (.bsl 1 [(.int .i64 0)] 2 [0, 1]), [(.t 21), (.t 23)], (some (19, true)), []⟩,
 ⟨(some 25), (.call false false false), [(.f 42), (.c (.int .i64 0)), (.c (.int .i64 200000)), (.t 24)], (some (19, true)), []⟩,
 ⟨(some 26), .pick, [(.t 19), (.t 25), (.c (.bool false))], none, []⟩,
 ⟨(some 27), .mv, [(.t 26)], none, []⟩,
 ⟨(some 28), (.fa 3), [(.t 1)], (some (27, true)), []⟩,
 ⟨(some 29), (.load none), [(.t 28)], (some (27, true)), []⟩,
 ⟨(some 30), (.fa 4), [(.t 1)], (some (27, true)), []⟩,
 ⟨(some 31), (.load none), [(.t 30)], (some (27, true)), []⟩,
 ⟨(some 32), (.bin 0 .add), [(.t 29), (.t 31)], (some (27, true)), []⟩,
 ⟨(some 33), (.bin 0 .geq), [(.t 32), (.c (.int .i64 1))], (some (27, true)), []⟩,
 ⟨(some 34), .pick, [(.t 27), (.t 33), (.c (.bool false))], none, []⟩,
 ⟨(some 4), .mv, [(.t 34)], none, []⟩] 0 [1, 3, 4])
 (.seq
 (.seq
 (.reg false [40, 47] [40, 47] [
 ⟨(some 35), .mv, [(.t 4)], none, []⟩,
 ⟨(some 36), (.un .not), [(.t 35)], none, []⟩,
 ⟨(some 37), .mv, [(.t 36)], none, []⟩,
 ⟨(some 38), (.fa 5), [(.t 1)], (some (37, false)), []⟩,
 ⟨(some 39), (.load none), [(.t 38)], (some (37, false)), []⟩,
 ⟨(some 40), (.bsl 1 [(.int .i64 0)] 1 [0]), [(.t 39)], (some (37, false)), []⟩,
 ⟨(some 41), (.call false false false), [(.f 42), (.c (.int .i64 1)), (.c (.int .i64 8)), (.t 40)], (some (37, false)), []⟩,
 ⟨(some 42), (.un .not), [(.t 41)], (some (37, false)), []⟩,
 ⟨(some 43), .pick, [(.t 37), (.c (.bool true)), (.t 42)], none, []⟩,
 ⟨(some 44), .mv, [(.t 43)], none, []⟩,
 ⟨(some 45), (.fa 7), [(.t 1)], (some (44, false)), []⟩,
 ⟨(some 46), (.load none), [(.t 45)], (some (44, false)), []⟩,
 ⟨(some 47), (.bsl 1 [(.int .i64 0)] 1 [0]), [(.t 46)], (some (44, false)), []⟩,
 ⟨(some 48), (.call false false false), [(.f 42), (.c (.int .i64 0)), (.c (.int .i64 100)), (.t 47)], (some (44, false)), []⟩,
 ⟨(some 49), (.un .not), [(.t 48)], (some (44, false)), []⟩,
 ⟨(some 50), .pick, [(.t 44), (.c (.bool true)), (.t 49)], none, []⟩] 0 [1, 3, 50])
 (.cond (.t 50)
 (.seq
 (.reg false [] [] [
 ⟨(some 2), .mv, [(.c (.int .i64 2))], none, []⟩] 0 [2])
 .ret)
 .skip))
 (.seq
 (.seq
 (.reg false [] [] [
 ⟨(some 51), (.load (some 8)), [(.t 3)], none, []⟩,
 ⟨(some 52), (.fa 3), [(.t 1)], none, []⟩,
 ⟨(some 53), (.load none), [(.t 52)], none, []⟩,
 ⟨(some 54), (.call false false false), [(.f 66), (.t 51), (.t 53)], none, []⟩,
 ⟨(some 55), (.bin 0 .lss), [(.t 54), (.c (.int .i64 0))], none, []⟩,
 ⟨(some 56), .mv, [(.t 55)], none, []⟩,
 ⟨(some 57), (.load (some 8)), [(.t 3)], (some (56, false)), []⟩,
 ⟨(some 58), (.fa 4), [(.t 1)], (some (56, false)), []⟩,
 ⟨(some 59), (.load none), [(.t 58)], (some (56, false)), []⟩,
 ⟨(some 60), (.call false false false), [(.f 66), (.t 57), (.t 59)], (some (56, false)), []⟩,
 ⟨(some 61), (.bin 0 .lss), [(.t 60), (.c (.int .i64 0))], (some (56, false)), []⟩,
 ⟨(some 62), .pick, [(.t 56), (.c (.bool true)), (.t 61)], none, []⟩] 0 [62])
 (.cond (.t 62)
 (.seq
 (.reg false [] [] [
 ⟨(some 2), .mv, [(.c (.int .i64 2))], none, []⟩] 0 [2])
 .ret)
 .skip))
 (.seq
 (.reg false [] [] [
 ⟨(some 2), .mv, [(.c (.int .i64 0))], none, []⟩] 0 [2])
 .ret)))))),
 [(.t 2)]⟩
theorem c35 : funC Try.prog [(0, [1]), (1, [1, 3]), (2, [1, 3, 4]), (3, [1, 3, 50]), (4, [2]), (5, [62]), (6, [2]), (7, [2])] Try.f35 = some (unF l35) := by kernel_rfl
/-- acme/swap.within -/
def l36 : LFun := ⟨3, 11, [],
 (.seq
 (.reg false [3, 4] [3, 4] [
 ⟨(some 3), .box, [(.t 0)], none, []⟩,
 ⟨(some 4), .box, [(.t 1)], none, []⟩,
 ⟨(some 6), .mv, [(.c (.bool false))], none, []⟩] 0 [2, 3, 4])
 (.seq
 (.reg false [] [] [
 ⟨(some 7), .mv, [(.t 2)], none, []⟩,
 ⟨(some 8), (.mkf 68), [(.t 3), (.t 4)], none, []⟩,
 ⟨(some 9), (.call false false false), [(.f 67), (.t 7), (.t 8)], none, []⟩,
 ⟨(some 10), (.un .not), [(.t 9)], none, []⟩,
 ⟨(some 6), .mv, [(.t 10)], none, []⟩] 0 [3, 4, 6])
 .ret)),
 [(.t 6)]⟩
theorem c36 : funC Try.prog [(0, [2, 3, 4]), (1, [3, 4, 6])] Try.f36 = some (unF l36) := by kernel_rfl
/-- (acme/swap.span).isDepth -/
def l37 : LFun := ⟨1, 5, [],
 (.seq
 (.reg false [1] [1] [
 ⟨(some 1), .box, [(.t 0)], none, []⟩,
 ⟨(some 2), .mv, [(.c (.bool false))], none, []⟩] 0 [1])
 (.seq
 (.reg false [] [] [
 ⟨(some 3), (.load (some 2)), [(.t 1)], none, []⟩,
 ⟨(some 4), (.call false false false), [(.f 69), (.t 3), (.c (.int .i64 (-200000))), (.c (.int .i64 200000))], none, []⟩,
 ⟨(some 2), .mv, [(.t 4)], none, []⟩] 0 [2])
 .ret)),
 [(.t 2)]⟩
theorem c37 : funC Try.prog [(0, [1]), (1, [2])] Try.f37 = some (unF l37) := by kernel_rfl
/-- (acme/swap.piece).turns -/
def l38 : LFun := ⟨3, 40, [],
 (.seq
 (.reg false [3, 4, 5] [3, 4, 5] [
 ⟨(some 3), .box, [(.t 0)], none, []⟩,
 ⟨(some 4), .box, [(.t 1)], none, []⟩,
 ⟨(some 5), .box, [(.t 2)], none, []⟩,
 ⟨(some 6), .mv, [(.c (.int .i64 0))], none, []⟩] 0 [3, 4, 5])
 (.seq
 (.reg false [] [] [
 ⟨(some 9), (.load (some 9)), [(.t 3)], none, [10, 11, 13, 14, 15, 16, 17, 18, 19, 20]⟩,
 ⟨(some 10), (.load (some 9)), [(.t 4)], none, [9, 11, 13, 14, 15, 16, 17, 18, 19, 20]⟩,
 ⟨(some 11), (.load (some 2)), [(.t 5)], none, [9, 10, 13, 14, 15, 16, 17, 18, 19, 20]⟩,
 ⟨(some 12), (.call true false false), [(.f 70), (.t 9), (.t 10), (.t 11)], none, [13, 14, 15, 16, 17, 18, 19, 20]⟩,
 ⟨(some 13), (.fa 0), [(.t 4)], none, [9, 10, 11, 12, 16, 17, 18, 7]⟩,
 ⟨(some 14), (.fa 0), [(.t 13)], none, [9, 10, 11, 12, 16, 17, 18, 7]⟩,
 ⟨(some 15), (.load none), [(.t 14)], none, [9, 10, 11, 12, 16, 17, 18, 7]⟩,
 ⟨(some 16), (.fa 0), [(.t 3)], none, [9, 10, 11, 12, 13, 14, 15, 7]⟩,
 ⟨(some 17), (.fa 0), [(.t 16)], none, [9, 10, 11, 12, 13, 14, 15, 7]⟩,
 ⟨(some 18), (.load none), [(.t 17)], none, [9, 10, 11, 12, 13, 14, 15, 7]⟩,
 ⟨(some 19), (.bin 0 .sub), [(.t 15), (.t 18)], none, [9, 10, 11, 12, 7]⟩,
 ⟨(some 20), (.bin 0 .mul), [(.c (.int .i64 4000)), (.t 19)], none, [9, 10, 11, 12, 7]⟩,
 ⟨(some 7), .mv, [(.t 12)], none, [13, 14, 15, 16, 17, 18, 19, 20]⟩,
 ⟨(some 8), .mv, [(.t 20)], none, []⟩] 0 [3, 4, 7, 8])
 (.seq
 (.reg false [] [] [
 ⟨(some 21), .mv, [(.t 8)], none, []⟩,
 ⟨(some 22), .mv, [(.t 8)], none, []⟩,
 ⟨(some 23), (.un .neg), [(.t 22)], none, []⟩,
 ⟨(some 24), .max, [(.t 21), (.t 23)], none, []⟩,
 ⟨(some 8), .mv, [(.t 24)], none, []⟩] 0 [3, 4, 7, 8])
 (.seq
 (.block 0
 (.seq
 (.seq
 (.reg false [] [] [
 ⟨(some 26), (.load (some 9)), [(.t 3)], none, []⟩,
 ⟨(some 27), (.load (some 9)), [(.t 4)], none, []⟩,
 ⟨(some 28), (.call false false false), [(.f 71), (.t 26), (.t 27)], none, []⟩,
 ⟨(some 29), (.un .not), [(.t 28)], none, []⟩,
 ⟨(some 25), .mv, [(.t 29)], none, []⟩] 0 [7, 8, 25])
 (.cond (.t 25)
 .skip
 (.reg false [] [] [
 ⟨(some 30), .mv, [(.t 7)], none, []⟩,
 ⟨(some 31), (.bin 0 .lss), [(.t 30), (.c (.int .i64 0))], none, []⟩,
 ⟨(some 25), .mv, [(.t 31)], none, []⟩] 0 [7, 8, 25])))
 (.cond (.t 25)
 (.seq
 (.reg false [] [] [
 ⟨(some 6), .mv, [(.c (.int .i64 0))], none, []⟩] 0 [6])
 .ret)
 (.seq
 (.reg false [] [] [
 ⟨(some 33), .mv, [(.t 8)], none, []⟩,
 ⟨(some 34), (.bin 0 .eql), [(.t 33), (.c (.int .i64 0))], none, []⟩,
 ⟨(some 32), .mv, [(.t 34)], none, []⟩] 0 [7, 8, 32])
 (.cond (.t 32)
 (.seq
 (.reg false [] [] [
 ⟨(some 6), .mv, [(.c (.int .i64 100))], none, []⟩] 0 [6])
 .ret)
 .skip)))))
 (.seq
 (.reg false [] [] [
 ⟨(some 35), .mv, [(.t 7)], none, []⟩,
 ⟨(some 36), .mv, [(.t 8)], none, []⟩,
 ⟨(some 37), (.bin 0 .quo), [(.t 35), (.t 36)], none, []⟩,
 ⟨(some 38), (.bin 0 .add), [(.c (.int .i64 1)), (.t 37)], none, []⟩,
 ⟨(some 39), .min, [(.c (.int .i64 100)), (.t 38)], none, []⟩,
 ⟨(some 6), .mv, [(.t 39)], none, []⟩] 0 [6])
 .ret))))),
 [(.t 6)]⟩
theorem c38 : funC Try.prog [(0, [3, 4, 5]), (1, [3, 4, 7, 8]), (2, [3, 4, 7, 8]), (3, [7, 8, 25]), (4, [7, 8, 25]), (5, [6]), (6, [7, 8, 32]), (7, [6]), (8, [6])] Try.f38 = some (unF l38) := by kernel_rfl
/-- acme/acmetop.pubMetric -/
def l39 : LFun := ⟨1, 5, [],
 (.seq
 (.reg false [2] [2] [
 ⟨(some 2), (.alloc [(.int .i64 0), (.int .i64 0), (.int .i64 0), (.int .i64 0), (.int .i64 0), (.int .i64 0), (.bool false), (.int .i64 0)]), [], none, []⟩] 0 [0, 2])
 (.seq
 (.reg false [] [] [
 ⟨(some 3), .mv, [(.t 0)], none, []⟩,
 ⟨(some 4), (.build [(.int .i64 0), (.int .i64 0), (.int .i64 0), (.int .i64 0), (.int .i64 0), (.int .i64 0), (.bool false), (.int .i64 0)] [(0, 1), (1, 1), (2, 1), (3, 1), (4, 1), (5, 1)]), [(.t 3), (.c (.int .i64 577)), (.c (.int .i64 577)), (.c (.int .i64 3000)), (.c (.int .i64 3000)), (.c (.int .i64 1))], none, []⟩,
 ⟨none, (.store 8 none), [(.t 2), (.t 4)], none, []⟩] 0 [2])
 .ret)),
 [(.c 2 (some 8))]⟩
theorem c39 : funC Try.prog [(0, [0, 2]), (1, [2])] Try.f39 = some (unF l39) := by kernel_rfl
/-- acme/swap.Range -/
def l40 : LFun := ⟨3, 31, [],
 (.seq
 (.reg false [3, 4, 5] [3, 4, 5] [
 ⟨(some 3), .box, [(.t 0)], none, []⟩,
 ⟨(some 4), .box, [(.t 1)], none, []⟩,
 ⟨(some 5), .box, [(.t 2)], none, []⟩,
 ⟨(some 6), .mv, [(.c (.int .i64 0))], none, []⟩,
 ⟨(some 7), .mv, [(.c (.int .i64 0))], none, []⟩,
 ⟨(some 8), .mv, [(.c (.int .i64 0))], none, []⟩] 0 [3, 4, 5])
 (.seq
 (.block 0
 (.seq
 (.reg false [12] [12] [
 ⟨(some 10), (.load (some 15)), [(.t 3)], none, []⟩,
 ⟨(some 11), (.load (some 15)), [(.t 4)], none, []⟩,
 ⟨(some 12), (.bsl 15 [(.int .i64 0), (.int .i64 0), (.int .i64 0), (.int .i64 0), (.int .i64 0), (.int .i64 0), (.int .i64 0), (.int .i64 0), (.int .i64 0), (.bool false), (.int .i64 0), (.int .i64 0), (.int .i64 0), (.int .i64 0), (.int .i64 0)] 2 [0, 1]), [(.t 10), (.t 11)], none, []⟩,
 ⟨(some 13), (.call false false false), [(.f 72), (.t 12)], none, []⟩,
 ⟨(some 9), .mv, [(.t 13)], none, []⟩] 0 [3, 4, 5, 9])
 (.cond (.t 9)
 (.seq
 (.reg false [] [] [
 ⟨(some 6), .mv, [(.c (.int .i64 0))], none, []⟩,
 ⟨(some 7), .mv, [(.c (.int .i64 0))], none, []⟩,
 ⟨(some 8), .mv, [(.c (.int .i64 2))], none, []⟩] 0 [6, 7, 8])
 .ret)
 (.seq
 (.reg false [] [] [
 ⟨(some 15), (.load (some 2)), [(.t 5)], none, []⟩,
 ⟨(some 16), (.build [(.int .i64 0), (.int .i64 0)] [(0, 2)]), [(.t 15)], none, []⟩,
 ⟨(some 17), (.call false false false), [(.f 37), (.t 16)], none, []⟩,
 ⟨(some 18), (.un .not), [(.t 17)], none, []⟩,
 ⟨(some 14), .mv, [(.t 18)], none, []⟩] 0 [3, 4, 5, 14])
 (.cond (.t 14)
 (.seq
 (.reg false [] [] [
 ⟨(some 6), .mv, [(.c (.int .i64 0))], none, []⟩,
 ⟨(some 7), .mv, [(.c (.int .i64 0))], none, []⟩,
 ⟨(some 8), .mv, [(.c (.int .i64 3))], none, []⟩] 0 [6, 7, 8])
 .ret)
 .skip)))))
 (.seq
 (.reg false [] [] [
 ⟨(some 19), (.load (some 15)), [(.t 3)], none, [21, 22, 23, 25, 26, 27, 28, 29]⟩,
 ⟨(some 20), (.build [(.int .i64 0), (.int .i64 0), (.int .i64 0), (.int .i64 0), (.int .i64 0), (.int .i64 0), (.int .i64 0), (.int .i64 0), (.int .i64 0), (.bool false), (.int .i64 0), (.int .i64 0), (.int .i64 0), (.int .i64 0), (.int .i64 0)] [(0, 15)]), [(.t 19)], none, [21, 22, 23, 25, 26, 27, 28, 29]⟩,
 ⟨(some 21), (.load (some 15)), [(.t 4)], none, [19, 20, 23, 25, 26, 27, 28, 29]⟩,
 ⟨(some 22), (.build [(.int .i64 0), (.int .i64 0), (.int .i64 0), (.int .i64 0), (.int .i64 0), (.int .i64 0), (.int .i64 0), (.int .i64 0), (.int .i64 0), (.bool false), (.int .i64 0), (.int .i64 0), (.int .i64 0), (.int .i64 0), (.int .i64 0)] [(0, 15)]), [(.t 21)], none, [19, 20, 23, 25, 26, 27, 28, 29]⟩,
 ⟨(some 23), (.load (some 2)), [(.t 5)], none, [19, 20, 21, 22, 25, 26, 27, 28, 29]⟩,
 ⟨(some 24), (.call true false false), [(.f 73), (.t 20), (.t 22), (.t 23)], none, [25, 26, 27, 28, 29]⟩,
 ⟨(some 25), (.load (some 15)), [(.t 3)], none, [19, 20, 21, 22, 23, 24, 27, 28, 29]⟩,
 ⟨(some 26), (.build [(.int .i64 0), (.int .i64 0), (.int .i64 0), (.int .i64 0), (.int .i64 0), (.int .i64 0), (.int .i64 0), (.int .i64 0), (.int .i64 0), (.bool false), (.int .i64 0), (.int .i64 0), (.int .i64 0), (.int .i64 0), (.int .i64 0)] [(0, 15)]), [(.t 25)], none, [19, 20, 21, 22, 23, 24, 27, 28, 29]⟩,
 ⟨(some 27), (.load (some 15)), [(.t 4)], none, [19, 20, 21, 22, 23, 24, 25, 26, 29]⟩,
 ⟨(some 28), (.build [(.int .i64 0), (.int .i64 0), (.int .i64 0), (.int .i64 0), (.int .i64 0), (.int .i64 0), (.int .i64 0), (.int .i64 0), (.int .i64 0), (.bool false), (.int .i64 0), (.int .i64 0), (.int .i64 0), (.int .i64 0), (.int .i64 0)] [(0, 15)]), [(.t 27)], none, [19, 20, 21, 22, 23, 24, 25, 26, 29]⟩,
 ⟨(some 29), (.load (some 2)), [(.t 5)], none, [19, 20, 21, 22, 23, 24, 25, 26, 27, 28]⟩,
 ⟨(some 30), (.call false false false), [(.f 74), (.t 26), (.t 28), (.t 29)], none, []⟩,
 ⟨(some 6), .mv, [(.t 24)], none, []⟩,
 ⟨(some 7), .mv, [(.t 30)], none, []⟩,
 ⟨(some 8), .mv, [(.c (.int .i64 0))], none, []⟩] 0 [6, 7, 8])
 .ret))),
 [(.t 6), (.t 7), (.t 8)]⟩
theorem c40 : funC Try.prog [(0, [3, 4, 5]), (1, [3, 4, 5, 9]), (2, [6, 7, 8]), (3, [3, 4, 5, 14]), (4, [6, 7, 8]), (5, [6, 7, 8])] Try.f40 = some (unF l40) := by kernel_rfl
/-- acme/thread.within -/
def l42 : LFun := ⟨3, 11, [],
 (.seq
 (.reg false [3, 4] [3, 4] [
 ⟨(some 3), .box, [(.t 0)], none, []⟩,
 ⟨(some 4), .box, [(.t 1)], none, []⟩,
 ⟨(some 6), .mv, [(.c (.bool false))], none, []⟩] 0 [2, 3, 4])
 (.seq
 (.reg false [] [] [
 ⟨(some 7), .mv, [(.t 2)], none, []⟩,
 ⟨(some 8), (.mkf 75), [(.t 3), (.t 4)], none, []⟩,
 ⟨(some 9), (.call false false false), [(.f 67), (.t 7), (.t 8)], none, []⟩,
 ⟨(some 10), (.un .not), [(.t 9)], none, []⟩,
 ⟨(some 6), .mv, [(.t 10)], none, []⟩] 0 [3, 4, 6])
 .ret)),
 [(.t 6)]⟩
theorem c42 : funC Try.prog [(0, [2, 3, 4]), (1, [3, 4, 6])] Try.f42 = some (unF l42) := by kernel_rfl
/-- acme/gauge.isSpan -/
def l49 : LFun := ⟨2, 19, [],
 (.seq
 (.reg false [2] [2] [
 ⟨(some 2), .box, [(.t 0)], none, []⟩,
 ⟨(some 4), .mv, [(.c (.bool false))], none, []⟩] 0 [1, 2])
 (.seq
 (.reg false [10] [10] [
 ⟨(some 5), .mv, [(.t 1)], none, []⟩,
 ⟨(some 6), (.fa 0), [(.t 2)], none, []⟩,
 ⟨(some 7), (.load none), [(.t 6)], none, []⟩,
 ⟨(some 8), (.fa 1), [(.t 2)], none, []⟩,
 ⟨(some 9), (.load none), [(.t 8)], none, []⟩,
 ⟨(some 10), (.bsl 1 [(.int .i64 0)] 2 [0, 1]), [(.t 7), (.t 9)], none, []⟩,
 ⟨(some 11), (.call false false false), [(.f 50), (.c (.int .i64 0)), (.t 5), (.t 10)], none, []⟩,
 ⟨(some 12), .mv, [(.t 11)], none, []⟩,
 ⟨(some 13), (.fa 0), [(.t 2)], (some (12, true)), []⟩,
 ⟨(some 14), (.load none), [(.t 13)], (some (12, true)), []⟩,
 ⟨(some 15), (.fa 1), [(.t 2)], (some (12, true)), []⟩,
 ⟨(some 16), (.load none), [(.t 15)], (some (12, true)), []⟩,
 ⟨(some 17), (.bin 0 .leq), [(.t 14), (.t 16)], (some (12, true)), []⟩,
 ⟨(some 18), .pick, [(.t 12), (.t 17), (.c (.bool false))], none, []⟩,
 ⟨(some 4), .mv, [(.t 18)], none, []⟩] 0 [4])
 .ret)),
 [(.t 4)]⟩
theorem c49 : funC Try.prog [(0, [1, 2]), (1, [4])] Try.f49 = some (unF l49) := by kernel_rfl
/-- acme/gauge.within -/
def l50 : LFun := ⟨3, 11, [],
 (.seq
 (.reg false [3, 4] [3, 4] [
 ⟨(some 3), .box, [(.t 0)], none, []⟩,
 ⟨(some 4), .box, [(.t 1)], none, []⟩,
 ⟨(some 6), .mv, [(.c (.bool false))], none, []⟩] 0 [2, 3, 4])
 (.seq
 (.reg false [] [] [
 ⟨(some 7), .mv, [(.t 2)], none, []⟩,
 ⟨(some 8), (.mkf 85), [(.t 3), (.t 4)], none, []⟩,
 ⟨(some 9), (.call false false false), [(.f 67), (.t 7), (.t 8)], none, []⟩,
 ⟨(some 10), (.un .not), [(.t 9)], none, []⟩,
 ⟨(some 6), .mv, [(.t 10)], none, []⟩] 0 [3, 4, 6])
 .ret)),
 [(.t 6)]⟩
theorem c50 : funC Try.prog [(0, [2, 3, 4]), (1, [3, 4, 6])] Try.f50 = some (unF l50) := by kernel_rfl
/-- acme/gauge.worn -/
def l51 : LFun := ⟨2, 18, [],
 (.seq
 (.reg false [2, 4] [2, 4] [
 ⟨(some 2), .box, [(.t 0)], none, []⟩,
 ⟨(some 4), (.alloc [(.int .i64 0), (.int .i64 0)]), [], none, []⟩] 0 [1, 2, 4])
 (.seq
 (.reg false [] [] [
 ⟨(some 5), (.fa 0), [(.t 2)], none, []⟩,
 ⟨(some 6), (.load none), [(.t 5)], none, []⟩,
 ⟨(some 7), .mv, [(.t 1)], none, []⟩,
 ⟨(some 8), (.bin 0 .mul), [(.t 6), (.t 7)], none, []⟩,
 ⟨(some 9), (.bin 0 .quo), [(.t 8), (.c (.int .i64 1000))], none, []⟩,
 ⟨(some 10), (.fa 1), [(.t 2)], none, []⟩,
 ⟨(some 11), (.load none), [(.t 10)], none, []⟩,
 ⟨(some 12), .mv, [(.t 1)], none, []⟩,
 ⟨(some 13), (.bin 0 .mul), [(.t 11), (.t 12)], none, []⟩,
 ⟨(some 14), (.bin 0 .add), [(.t 13), (.c (.int .i64 1000))], none, []⟩,
 ⟨(some 15), (.bin 0 .sub), [(.t 14), (.c (.int .i64 1))], none, []⟩,
 ⟨(some 16), (.bin 0 .quo), [(.t 15), (.c (.int .i64 1000))], none, []⟩,
 ⟨(some 17), (.build [(.int .i64 0), (.int .i64 0)] [(0, 1), (1, 1)]), [(.t 9), (.t 16)], none, []⟩,
 ⟨none, (.store 2 none), [(.t 4), (.t 17)], none, []⟩] 0 [4])
 .ret)),
 [(.c 4 (some 2))]⟩
theorem c51 : funC Try.prog [(0, [1, 2, 4]), (1, [4])] Try.f51 = some (unF l51) := by kernel_rfl
/-- acme/gauge.isNoLength -/
def l52 : LFun := ⟨1, 6, [],
 (.seq
 (.reg false [1] [1] [
 ⟨(some 1), .box, [(.t 0)], none, []⟩,
 ⟨(some 2), .mv, [(.c (.bool false))], none, []⟩] 0 [1])
 (.seq
 (.reg false [] [] [
 ⟨(some 3), (.load (some 2)), [(.t 1)], none, []⟩,
 ⟨(some 4), (.call false false false), [(.f 49), (.t 3), (.c (.int .i64 10000000))], none, []⟩,
 ⟨(some 5), (.un .not), [(.t 4)], none, []⟩,
 ⟨(some 2), .mv, [(.t 5)], none, []⟩] 0 [2])
 .ret)),
 [(.t 2)]⟩
theorem c52 : funC Try.prog [(0, [1]), (1, [2])] Try.f52 = some (unF l52) := by kernel_rfl
/-- acme/gauge.Check -/
def l56 : LFun := ⟨1, 19, [],
 (.seq
 (.reg false [1] [1] [
 ⟨(some 1), .box, [(.t 0)], none, []⟩,
 ⟨(some 2), .mv, [(.c (.int .i64 0))], none, []⟩] 0 [1])
 (.seq
 (.block 0
 (.seq
 (.reg false [] [] [
 ⟨(some 4), (.fa 5), [(.t 1)], none, []⟩,
 ⟨(some 5), (.load none), [(.t 4)], none, []⟩,
 ⟨(some 6), .len, [(.t 5)], none, []⟩,
 ⟨(some 7), (.bin 0 .gtr), [(.t 6), (.c (.int .i64 10))], none, []⟩,
 ⟨(some 3), .mv, [(.t 7)], none, []⟩] 0 [1, 3])
 (.cond (.t 3)
 (.seq
 (.reg false [] [] [
 ⟨(some 2), .mv, [(.c (.int .i64 5))], none, []⟩] 0 [2])
 .ret)
 (.seq
 (.seq
 (.reg false [] [] [
 ⟨(some 9), (.fa 1), [(.t 1)], none, []⟩,
 ⟨(some 10), (.load (some 2)), [(.t 9)], none, []⟩,
 ⟨(some 11), (.call false false false), [(.f 52), (.t 10)], none, []⟩,
 ⟨(some 8), .mv, [(.t 11)], none, []⟩] 0 [1, 8])
 (.cond (.t 8)
 .skip
 (.seq
 (.reg false [] [] [
 ⟨(some 12), (.fa 3), [(.t 1)], none, []⟩,
 ⟨(some 13), (.load (some 2)), [(.t 12)], none, []⟩,
 ⟨(some 14), (.call false false false), [(.f 49), (.t 13), (.c (.int .i64 10000))], none, []⟩,
 ⟨(some 15), (.un .not), [(.t 14)], none, []⟩,
 ⟨(some 8), .mv, [(.t 15)], none, []⟩] 0 [1, 8])
 (.cond (.t 8)
 .skip
 (.reg false [] [] [
 ⟨(some 16), (.fa 5), [(.t 1)], none, []⟩,
 ⟨(some 17), (.load none), [(.t 16)], none, []⟩,
 ⟨(some 18), (.call false false false), [(.f 90), (.t 17), (.f 52)], none, []⟩,
 ⟨(some 8), .mv, [(.t 18)], none, []⟩] 0 [8])))))
 (.cond (.t 8)
 (.seq
 (.reg false [] [] [
 ⟨(some 2), .mv, [(.c (.int .i64 2))], none, []⟩] 0 [2])
 .ret)
 .skip)))))
 (.seq
 (.reg false [] [] [
 ⟨(some 2), .mv, [(.c (.int .i64 0))], none, []⟩] 0 [2])
 .ret))),
 [(.t 2)]⟩
theorem c56 : funC Try.prog [(0, [1]), (1, [1, 3]), (2, [2]), (3, [1, 8]), (4, [1, 8]), (5, [8]), (6, [2]), (7, [2])] Try.f56 = some (unF l56) := by kernel_rfl
/-- acme/gauge.kindOf -/
def l57 : LFun := ⟨1, 28, [],
 (.seq
 (.reg false [1] [1] [
 ⟨(some 1), .box, [(.t 0)], none, []⟩,
 ⟨(some 2), .mv, [(.c (.int .i64 0))], none, []⟩] 0 [1])
 (.seq
 (.block 0
 (.seq
 (.reg false [10] [10] [
 ⟨(some 4), (.fa 1), [(.t 1)], none, []⟩,
 ⟨(some 5), (.load none), [(.t 4)], none, []⟩,
 ⟨(some 6), (.bin 0 .eql), [(.t 5), (.c (.int .i64 (-1)))], none, []⟩,
 ⟨(some 7), .mv, [(.t 6)], none, []⟩,
 ⟨(some 8), (.fa 0), [(.t 1)], (some (7, true)), []⟩,
 ⟨(some 9), (.load none), [(.t 8)], (some (7, true)), []⟩,
 ⟨(some 10), (.bsl 1 [(.int .i64 0)] 1 [0]), [(.t 9)], (some (7, true)), []⟩,
 ⟨(some 11), (.call false false false), [(.f 50), (.c (.int .i64 1)), (.c (.int .i64 100000)), (.t 10)], (some (7, true)), []⟩,
 ⟨(some 12), .pick, [(.t 7), (.t 11), (.c (.bool false))], none, []⟩,
 ⟨(some 13), .mv, [(.t 12)], none, []⟩,
 ⟨(some 14), (.fa 2), [(.t 1)], (some (13, true)), []⟩,
 ⟨(some 15), (.load none), [(.t 14)], (some (13, true)), []⟩,
 ⟨(some 16), (.un .not), [(.t 15)], (some (13, true)), []⟩,
 ⟨(some 17), .pick, [(.t 13), (.t 16), (.c (.bool false))], none, []⟩,
 ⟨(some 3), .mv, [(.t 17)], none, []⟩] 0 [1, 3])
 (.cond (.t 3)
 (.seq
 (.reg false [] [] [
 ⟨(some 2), .mv, [(.c (.int .i64 1))], none, []⟩] 0 [2])
 .ret)
 (.seq
 (.seq
 (.reg false [] [] [
 ⟨(some 19), (.fa 1), [(.t 1)], none, []⟩,
 ⟨(some 20), (.load none), [(.t 19)], none, []⟩,
 ⟨(some 21), (.bin 0 .eql), [(.t 20), (.c (.int .i64 (-1)))], none, []⟩,
 ⟨(some 18), .mv, [(.t 21)], none, []⟩] 0 [1, 18])
 (.cond (.t 18)
 .skip
 (.reg false [] [] [
 ⟨(some 22), (.fa 0), [(.t 1)], none, []⟩,
 ⟨(some 23), (.load none), [(.t 22)], none, []⟩,
 ⟨(some 24), (.bin 0 .neq), [(.t 23), (.c (.int .i64 0))], none, []⟩,
 ⟨(some 18), .mv, [(.t 24)], none, []⟩] 0 [1, 18])))
 (.cond (.t 18)
 (.seq
 (.reg false [] [] [
 ⟨(some 2), .mv, [(.c (.int .i64 0))], none, []⟩] 0 [2])
 .ret)
 (.seq
 (.reg false [] [] [
 ⟨(some 26), (.fa 2), [(.t 1)], none, []⟩,
 ⟨(some 27), (.load none), [(.t 26)], none, []⟩,
 ⟨(some 25), .mv, [(.t 27)], none, []⟩] 0 [25])
 (.cond (.t 25)
 (.seq
 (.reg false [] [] [
 ⟨(some 2), .mv, [(.c (.int .i64 2))], none, []⟩] 0 [2])
 .ret)
 .skip)))))))
 (.seq
 (.reg false [] [] [
 ⟨(some 2), .mv, [(.c (.int .i64 3))], none, []⟩] 0 [2])
 .ret))),
 [(.t 2)]⟩
theorem c57 : funC Try.prog [(0, [1]), (1, [1, 3]), (2, [2]), (3, [1, 18]), (4, [1, 18]), (5, [2]), (6, [25]), (7, [2]), (8, [2])] Try.f57 = some (unF l57) := by kernel_rfl
/-- acme/gauge.master -/
def l58 : LFun := ⟨1, 5, [],
 (.seq
 (.reg false [] [] [
 ⟨(some 2), .mv, [(.c (.int .i64 0))], none, []⟩] 0 [0])
 (.seq
 (.reg false [] [] [
 ⟨(some 3), .mv, [(.t 0)], none, []⟩,
 ⟨(some 4), (.bin 0 .add), [(.t 3), (.c (.int .i64 1))], none, []⟩,
 ⟨(some 2), .mv, [(.t 4)], none, []⟩] 0 [2])
 .ret)),
 [(.t 2)]⟩
theorem c58 : funC Try.prog [(0, [0]), (1, [2])] Try.f58 = some (unF l58) := by kernel_rfl
/-- (*acme/gauge.rules).between -/
def l59 : LFun := ⟨4, 28, [],
 (.seq
 (.reg false [7] [7] [
 ⟨(some 7), .box, [(.t 3)], none, []⟩] 0 [0, 1, 2, 7])
 (.reg false [24, 25] [24, 25] [
 ⟨(some 8), .mv, [(.t 0)], none, [9, 10, 11, 12, 13, 14, 15, 16, 17, 18, 19, 20, 21, 22, 23, 24, 25]⟩,
 ⟨(some 9), .mv, [(.t 0)], none, [8, 13, 14, 15, 16, 17, 18, 19, 20, 21, 22, 23, 24]⟩,
 ⟨(some 10), .nilc, [(.t 9)], none, [8, 13, 14, 15, 16, 17, 18, 19, 20, 21, 22, 23, 24]⟩,
 ⟨(some 11), (.fa 6), [(.t 10)], none, [8, 13, 14, 15, 16, 17, 18, 19, 20, 21, 22, 23, 24]⟩,
 ⟨(some 12), (.load none), [(.t 11)], none, [8, 13, 14, 15, 16, 17, 18, 19, 20, 21, 22, 23, 24]⟩,
 ⟨(some 13), .mv, [(.t 1)], none, [8, 9, 10, 11, 12, 14, 15, 16, 18, 19, 20, 21, 22, 23]⟩,
 ⟨(some 14), .mv, [(.t 2)], none, [8, 9, 10, 11, 12, 13, 15, 16, 18, 19, 20, 21, 22, 23]⟩,
 ⟨(some 15), (.fa 1), [(.t 7)], none, [8, 9, 10, 11, 12, 13, 14, 18, 19, 20, 21, 22, 23]⟩,
 ⟨(some 16), (.load none), [(.t 15)], none, [8, 9, 10, 11, 12, 13, 14, 18, 19, 20, 21, 22, 23]⟩,
 ⟨(some 17), (.build [(.int .i64 0), (.int .i64 0), (.int .i64 0)] [(0, 1), (1, 1), (2, 1)]), [(.t 13), (.t 14), (.t 16)], none, [8, 9, 10, 11, 12, 18, 19, 20, 21, 22, 23]⟩,
 ⟨(some 18), .mv, [(.t 2)], none, [8, 9, 10, 11, 12, 13, 14, 15, 16, 17, 19, 20, 21, 22]⟩,
 ⟨(some 19), .mv, [(.t 1)], none, [8, 9, 10, 11, 12, 13, 14, 15, 16, 17, 18, 20, 21, 22]⟩,
 ⟨(some 20), (.fa 0), [(.t 7)], none, [8, 9, 10, 11, 12, 13, 14, 15, 16, 17, 18, 19]⟩,
 ⟨(some 21), (.load none), [(.t 20)], none, [8, 9, 10, 11, 12, 13, 14, 15, 16, 17, 18, 19]⟩,
 ⟨(some 22), (.un .neg), [(.t 21)], none, [8, 9, 10, 11, 12, 13, 14, 15, 16, 17, 18, 19]⟩,
 ⟨(some 23), (.build [(.int .i64 0), (.int .i64 0), (.int .i64 0)] [(0, 1), (1, 1), (2, 1)]), [(.t 18), (.t 19), (.t 22)], none, [8, 9, 10, 11, 12, 13, 14, 15, 16, 17]⟩,
 ⟨(some 24), (.bsl 3 [(.int .i64 0), (.int .i64 0), (.int .i64 0)] 2 [0, 1]), [(.t 17), (.t 23)], none, [8, 9, 10, 11, 12]⟩,
 ⟨(some 25), (.append true 3 24), [(.t 12), (.t 24)], none, [8]⟩,
 ⟨(some 26), .nilc, [(.t 8)], none, []⟩,
 ⟨(some 27), (.fa 6), [(.t 26)], none, []⟩,
 ⟨none, (.store 1 none), [(.t 27), (.t 25)], none, []⟩] 0 [0])),
 []⟩
theorem c59 : funC Try.prog [(0, [0, 1, 2, 7]), (1, [0])] Try.f59 = some (unF l59) := by kernel_rfl
/-- (*acme/gauge.rules).turned -/
def l60 : LFun := ⟨2, 18, [],
 (.seq
 (.reg false [3, 4] [3, 4] [
 ⟨(some 3), .box, [(.t 1)], none, []⟩,
 ⟨(some 4), (.alloc [(.int .i64 0), (.int .i64 0)]), [], none, []⟩] 0 [0, 3, 4])
 (.seq
 (.seq
 (.reg false [] [] [
 ⟨(some 5), .mv, [(.t 0)], none, []⟩,
 ⟨(some 6), .nilc, [(.t 5)], none, []⟩,
 ⟨(some 7), (.fa 0), [(.t 6)], none, []⟩,
 ⟨(some 8), (.fa 0), [(.t 7)], none, []⟩,
 ⟨(some 9), (.load none), [(.t 8)], none, []⟩] 0 [3, 4, 9])
 (.cond (.t 9)
 (.seq
 (.reg false [] [] [
 ⟨(some 10), (.fa 1), [(.t 3)], none, []⟩,
 ⟨(some 11), (.load none), [(.t 10)], none, []⟩,
 ⟨(some 12), (.un .neg), [(.t 11)], none, []⟩,
 ⟨(some 13), (.fa 0), [(.t 3)], none, []⟩,
 ⟨(some 14), (.load none), [(.t 13)], none, []⟩,
 ⟨(some 15), (.un .neg), [(.t 14)], none, []⟩,
 ⟨(some 16), (.build [(.int .i64 0), (.int .i64 0)] [(0, 1), (1, 1)]), [(.t 12), (.t 15)], none, []⟩,
 ⟨none, (.store 2 none), [(.t 4), (.t 16)], none, []⟩] 0 [4])
 .ret)
 .skip))
 (.seq
 (.reg false [] [] [
 ⟨(some 17), (.load (some 2)), [(.t 3)], none, []⟩,
 ⟨none, (.store 2 none), [(.t 4), (.t 17)], none, []⟩] 0 [4])
 .ret))),
 [(.c 4 (some 2))]⟩
theorem c60 : funC Try.prog [(0, [0, 3, 4]), (1, [3, 4, 9]), (2, [4]), (3, [4])] Try.f60 = some (unF l60) := by kernel_rfl
/-- (*acme/gauge.rules).add -/
def g61_0 : LCode :=
 (.reg false [3] [3] [
 ⟨(some 3), .box, [(.t 1)], none, []⟩] 0 [0, 3])
def g61_1 : LCode :=
 (.reg false [] [] [
 ⟨(some 4), (.load (some 3)), [(.t 3)], none, []⟩,
 ⟨(some 5), (.call false false false), [(.f 57), (.t 4)], none, []⟩] 0 [0, 3, 5])
def g61_2 : LCode :=
 (.reg false [] [] [
 ⟨(some 7), (.bin 0 .eql), [(.t 5), (.c (.int .i64 1))], none, []⟩,
 ⟨(some 6), .mv, [(.t 7)], none, []⟩] 0 [0, 3, 5, 6])
def g61_3 : LCode :=
 (.reg false [] [] [
 ⟨(some 8), .mv, [(.t 0)], none, []⟩,
 ⟨(some 9), .nilc, [(.t 8)], none, []⟩,
 ⟨(some 10), (.fa 7), [(.t 9)], none, []⟩,
 ⟨(some 11), (.load none), [(.t 10)], none, []⟩,
 ⟨(some 12), (.bin 0 .add), [(.t 11), (.c (.int .i64 1))], none, []⟩,
 ⟨(some 13), .nilc, [(.t 8)], none, []⟩,
 ⟨(some 14), (.fa 7), [(.t 13)], none, []⟩,
 ⟨none, (.store 1 none), [(.t 14), (.t 12)], none, []⟩] 0 [0, 3])
def g61_4 : LCode :=
 (.reg false [] [] [
 ⟨(some 15), .mv, [(.t 0)], none, [16, 17, 18, 19, 20, 21, 22, 23, 24, 25, 26, 27, 28, 29, 30, 31, 32]⟩,
 ⟨(some 16), .mv, [(.t 0)], none, [15, 21, 22, 23, 24, 25, 26, 27, 28, 29, 30, 31, 32]⟩,
 ⟨(some 17), .nilc, [(.t 16)], none, [15, 21, 22, 23, 24, 25, 26, 27, 28, 29, 30, 31, 32]⟩,
 ⟨(some 18), (.fa 7), [(.t 17)], none, [15, 21, 22, 23, 24, 25, 26, 27, 28, 29, 30, 31, 32]⟩,
 ⟨(some 19), (.load none), [(.t 18)], none, [15, 21, 22, 23, 24, 25, 26, 27, 28, 29, 30, 31, 32]⟩,
 ⟨(some 20), (.bin 0 .sub), [(.t 19), (.c (.int .i64 1))], none, [15, 21, 22, 23, 24, 25, 26, 27, 28, 29, 30, 31, 32]⟩,
 ⟨(some 21), .mv, [(.t 0)], none, [15, 16, 17, 18, 19, 20, 25, 26, 27, 28, 29, 30, 31, 32]⟩,
 ⟨(some 22), .nilc, [(.t 21)], none, [15, 16, 17, 18, 19, 20, 25, 26, 27, 28, 29, 30, 31, 32]⟩,
 ⟨(some 23), (.fa 7), [(.t 22)], none, [15, 16, 17, 18, 19, 20, 25, 26, 27, 28, 29, 30, 31, 32]⟩,
 ⟨(some 24), (.load none), [(.t 23)], none, [15, 16, 17, 18, 19, 20, 25, 26, 27, 28, 29, 30, 31, 32]⟩,
 ⟨(some 25), .mv, [(.t 0)], none, [15, 16, 17, 18, 19, 20, 21, 22, 23, 24, 30, 31]⟩,
 ⟨(some 26), .nilc, [(.t 25)], none, [15, 16, 17, 18, 19, 20, 21, 22, 23, 24, 30, 31]⟩,
 ⟨(some 27), (.fa 0), [(.t 26)], none, [15, 16, 17, 18, 19, 20, 21, 22, 23, 24, 30, 31]⟩,
 ⟨(some 28), (.fa 3), [(.t 27)], none, [15, 16, 17, 18, 19, 20, 21, 22, 23, 24, 30, 31]⟩,
 ⟨(some 29), (.load (some 2)), [(.t 28)], none, [15, 16, 17, 18, 19, 20, 21, 22, 23, 24, 30, 31]⟩,
 ⟨(some 30), (.fa 0), [(.t 3)], none, [15, 16, 17, 18, 19, 20, 21, 22, 23, 24, 25, 26, 27, 28, 29]⟩,
 ⟨(some 31), (.load none), [(.t 30)], none, [15, 16, 17, 18, 19, 20, 21, 22, 23, 24, 25, 26, 27, 28, 29]⟩,
 ⟨(some 32), (.call true false false), [(.f 51), (.t 29), (.t 31)], none, [15, 16, 17, 18, 19, 20, 21, 22, 23, 24]⟩,
 ⟨(some 33), .callp, [(.f 59), (.t 15), (.t 20), (.t 24), (.t 32)], none, []⟩] 0 [0])
def g61_5 : LCode :=
 (.reg false [] [] [
 ⟨(some 35), (.bin 0 .eql), [(.t 5), (.c (.int .i64 2))], none, []⟩,
 ⟨(some 34), .mv, [(.t 35)], none, []⟩] 0 [0, 3, 5, 34])
def g61_6 : LCode :=
 (.reg false [49, 50] [49, 50] [
 ⟨(some 36), .mv, [(.t 0)], none, [37, 38, 39, 40, 41, 42, 43, 44, 45, 46, 47, 48, 49, 50]⟩,
 ⟨(some 37), .mv, [(.t 0)], none, [36, 41, 42, 43, 44, 45, 46, 47, 48, 49]⟩,
 ⟨(some 38), .nilc, [(.t 37)], none, [36, 41, 42, 43, 44, 45, 46, 47, 48, 49]⟩,
 ⟨(some 39), (.fa 6), [(.t 38)], none, [36, 41, 42, 43, 44, 45, 46, 47, 48, 49]⟩,
 ⟨(some 40), (.load none), [(.t 39)], none, [36, 41, 42, 43, 44, 45, 46, 47, 48, 49]⟩,
 ⟨(some 41), .mv, [(.t 0)], none, [36, 37, 38, 39, 40, 45, 46, 47]⟩,
 ⟨(some 42), .nilc, [(.t 41)], none, [36, 37, 38, 39, 40, 45, 46, 47]⟩,
 ⟨(some 43), (.fa 7), [(.t 42)], none, [36, 37, 38, 39, 40, 45, 46, 47]⟩,
 ⟨(some 44), (.load none), [(.t 43)], none, [36, 37, 38, 39, 40, 45, 46, 47]⟩,
 ⟨(some 45), (.fa 1), [(.t 3)], none, [36, 37, 38, 39, 40, 41, 42, 43, 44]⟩,
 ⟨(some 46), (.load none), [(.t 45)], none, [36, 37, 38, 39, 40, 41, 42, 43, 44]⟩,
 ⟨(some 47), (.call true false false), [(.f 58), (.t 46)], none, [36, 37, 38, 39, 40, 41, 42, 43, 44]⟩,
 ⟨(some 48), (.build [(.int .i64 0), (.int .i64 0), (.int .i64 0)] [(0, 1), (1, 1), (2, 1)]), [(.t 44), (.t 47), (.c (.int .i64 0))], none, [36, 37, 38, 39, 40]⟩,
 ⟨(some 49), (.bsl 3 [(.int .i64 0), (.int .i64 0), (.int .i64 0)] 1 [0]), [(.t 48)], none, [36, 37, 38, 39, 40]⟩,
 ⟨(some 50), (.append true 3 24), [(.t 40), (.t 49)], none, [36]⟩,
 ⟨(some 51), .nilc, [(.t 36)], none, []⟩,
 ⟨(some 52), (.fa 6), [(.t 51)], none, []⟩,
 ⟨none, (.store 1 none), [(.t 52), (.t 50)], none, []⟩] 0 [0])
def g61_7 : LCode :=
 (.reg false [] [] [
 ⟨(some 54), (.bin 0 .eql), [(.t 5), (.c (.int .i64 3))], none, []⟩,
 ⟨(some 53), .mv, [(.t 54)], none, []⟩] 0 [0, 3, 53])
def g61_8 : LCode :=
 (.reg false [68, 69] [68, 69] [
 ⟨(some 55), .mv, [(.t 0)], none, [56, 57, 58, 59, 60, 61, 62, 63, 64, 65, 66, 67, 68, 69]⟩,
 ⟨(some 56), .mv, [(.t 0)], none, [55, 60, 61, 62, 63, 64, 65, 66, 67, 68]⟩,
 ⟨(some 57), .nilc, [(.t 56)], none, [55, 60, 61, 62, 63, 64, 65, 66, 67, 68]⟩,
 ⟨(some 58), (.fa 6), [(.t 57)], none, [55, 60, 61, 62, 63, 64, 65, 66, 67, 68]⟩,
 ⟨(some 59), (.load none), [(.t 58)], none, [55, 60, 61, 62, 63, 64, 65, 66, 67, 68]⟩,
 ⟨(some 60), (.fa 1), [(.t 3)], none, [55, 56, 57, 58, 59, 63, 64, 65, 66]⟩,
 ⟨(some 61), (.load none), [(.t 60)], none, [55, 56, 57, 58, 59, 63, 64, 65, 66]⟩,
 ⟨(some 62), (.call true false false), [(.f 58), (.t 61)], none, [55, 56, 57, 58, 59, 63, 64, 65, 66]⟩,
 ⟨(some 63), .mv, [(.t 0)], none, [55, 56, 57, 58, 59, 60, 61, 62]⟩,
 ⟨(some 64), .nilc, [(.t 63)], none, [55, 56, 57, 58, 59, 60, 61, 62]⟩,
 ⟨(some 65), (.fa 7), [(.t 64)], none, [55, 56, 57, 58, 59, 60, 61, 62]⟩,
 ⟨(some 66), (.load none), [(.t 65)], none, [55, 56, 57, 58, 59, 60, 61, 62]⟩,
 ⟨(some 67), (.build [(.int .i64 0), (.int .i64 0), (.int .i64 0)] [(0, 1), (1, 1), (2, 1)]), [(.t 62), (.t 66), (.c (.int .i64 (-1)))], none, [55, 56, 57, 58, 59]⟩,
 ⟨(some 68), (.bsl 3 [(.int .i64 0), (.int .i64 0), (.int .i64 0)] 1 [0]), [(.t 67)], none, [55, 56, 57, 58, 59]⟩,
 ⟨(some 69), (.append true 3 24), [(.t 59), (.t 68)], none, [55]⟩,
 ⟨(some 70), .nilc, [(.t 55)], none, []⟩,
 ⟨(some 71), (.fa 6), [(.t 70)], none, []⟩,
 ⟨none, (.store 1 none), [(.t 71), (.t 69)], none, []⟩] 0 [0])
def l61 : LFun := ⟨2, 72, [],
 (.seq
 g61_0
 (.seq
 g61_1
 (.block 0
 (.seq
 g61_2
 (.cond (.t 6)
 (.seq
 g61_3
 g61_4)
 (.seq
 g61_5
 (.cond (.t 34)
 g61_6
 (.seq
 g61_7
 (.cond (.t 53)
 g61_8
 .skip))))))))),
 []⟩
theorem c61 : funC Try.prog [(0, [0, 3]), (1, [0, 3, 5]), (2, [0, 3, 5, 6]), (3, [0, 3]), (4, [0]), (5, [0, 3, 5, 34]), (6, [0]), (7, [0, 3, 53]), (8, [0])] Try.f61 = some (unF l61) := by kernel_rfl
/-- (*acme/gauge.rules).most -/
def b62_1 : LCode :=
 (.seq
 (.reg true [] [] [
 ⟨(some 31), (.bin 0 .lss), [(.t 30), (.t 29)], none, []⟩] 0 [0, 4, 6, 22, 23, 28, 29, 30, 31])
 (.seq
 (.cond (.t 31)
 .skip
 (.exit 2))
 (.seq
 (.block 3
 (.seq
 (.reg true [8] [8] [
 ⟨(some 32), (.ixs 3), [(.t 28), (.t 30)], none, []⟩,
 ⟨(some 33), (.load (some 3)), [(.t 32)], none, []⟩,
 ⟨(some 8), (.alloc [(.int .i64 0), (.int .i64 0), (.int .i64 0)]), [], none, []⟩,
 ⟨none, (.store 3 none), [(.t 8), (.t 33)], none, []⟩] 0 [0, 4, 6, 8, 22, 23, 28, 29, 30])
 (.seq
 (.reg true [] [] [
 ⟨(some 34), .mv, [(.t 4)], none, [35, 36, 39, 40]⟩,
 ⟨(some 35), (.fa 1), [(.t 8)], none, [34, 39, 40]⟩,
 ⟨(some 36), (.load none), [(.t 35)], none, [34, 39, 40]⟩,
 ⟨(some 37), (.ixs 1), [(.t 34), (.t 36)], none, [39, 40]⟩,
 ⟨(some 38), (.load none), [(.t 37)], none, [39, 40]⟩,
 ⟨(some 39), (.fa 2), [(.t 8)], none, [34, 35, 36, 37, 38]⟩,
 ⟨(some 40), (.load none), [(.t 39)], none, [34, 35, 36, 37, 38]⟩,
 ⟨(some 41), (.bin 0 .add), [(.t 38), (.t 40)], none, []⟩,
 ⟨(some 9), .mv, [(.t 41)], none, []⟩] 0 [0, 4, 6, 8, 9, 22, 23, 28, 29, 30])
 (.seq
 (.reg true [] [] [
 ⟨(some 42), .mv, [(.t 4)], none, []⟩,
 ⟨(some 43), (.fa 1), [(.t 8)], none, []⟩,
 ⟨(some 44), (.load none), [(.t 43)], none, []⟩,
 ⟨(some 45), (.ixs 1), [(.t 42), (.t 44)], none, []⟩,
 ⟨(some 46), (.load none), [(.t 45)], none, []⟩,
 ⟨(some 47), (.bin 0 .lss), [(.t 46), (.c (.int .i64 1099511627776))], none, []⟩,
 ⟨(some 48), .mv, [(.t 47)], none, []⟩,
 ⟨(some 49), .mv, [(.t 9)], (some (48, true)), []⟩,
 ⟨(some 50), .mv, [(.t 4)], (some (48, true)), []⟩,
 ⟨(some 51), (.fa 0), [(.t 8)], (some (48, true)), []⟩,
 ⟨(some 52), (.load none), [(.t 51)], (some (48, true)), []⟩,
 ⟨(some 53), (.ixs 1), [(.t 50), (.t 52)], (some (48, true)), []⟩,
 ⟨(some 54), (.load none), [(.t 53)], (some (48, true)), []⟩,
 ⟨(some 55), (.bin 0 .lss), [(.t 49), (.t 54)], (some (48, true)), []⟩,
 ⟨(some 56), .pick, [(.t 48), (.t 55), (.c (.bool false))], none, []⟩] 0 [0, 4, 6, 8, 9, 22, 23, 28, 29, 30, 56])
 (.cond (.t 56)
 (.reg true [] [] [
 ⟨(some 57), .mv, [(.t 4)], none, []⟩,
 ⟨(some 58), (.fa 0), [(.t 8)], none, []⟩,
 ⟨(some 59), (.load none), [(.t 58)], none, []⟩,
 ⟨(some 60), .mv, [(.t 9)], none, []⟩,
 ⟨(some 61), (.ixs 1), [(.t 57), (.t 59)], none, []⟩,
 ⟨none, (.store 1 none), [(.t 61), (.t 60)], none, []⟩,
 ⟨(some 6), .mv, [(.c (.bool true))], none, []⟩] 0 [0, 4, 6, 22, 23, 28, 29, 30])
 .skip)))))
 (.reg true [] [] [
 ⟨(some 62), (.bin 0 .add), [(.t 30), (.c (.int .i64 1))], none, []⟩,
 ⟨(some 30), .mv, [(.t 62)], none, []⟩] 0 [0, 4, 6, 22, 23, 28, 29, 30]))))
def b62_0 : LCode :=
 (.seq
 (.reg true [] [] [
 ⟨(some 24), (.bin 0 .lss), [(.t 23), (.t 22)], none, []⟩] 0 [0, 4, 22, 23, 24])
 (.seq
 (.cond (.t 24)
 .skip
 (.exit 0))
 (.seq
 (.block 1
 (.seq
 (.reg true [] [] [
 ⟨(some 6), .mv, [(.c (.bool false))], none, []⟩] 0 [0, 4, 6, 22, 23])
 (.seq
 (.seq
 (.reg true [] [] [
 ⟨(some 25), .mv, [(.t 0)], none, []⟩,
 ⟨(some 26), .nilc, [(.t 25)], none, []⟩,
 ⟨(some 27), (.fa 6), [(.t 26)], none, []⟩,
 ⟨(some 28), (.load none), [(.t 27)], none, []⟩,
 ⟨(some 29), .len, [(.t 28)], none, []⟩,
 ⟨(some 30), .mv, [(.c (.int .i64 0))], none, []⟩] 0 [0, 4, 6, 22, 23, 28, 29, 30])
 (.block 2
 (.loop b62_1)))
 (.seq
 (.reg true [] [] [
 ⟨(some 63), .mv, [(.t 6)], none, []⟩,
 ⟨(some 64), (.un .not), [(.t 63)], none, []⟩] 0 [0, 4, 22, 23, 64])
 (.cond (.t 64)
 (.seq
 (.reg true [] [] [
 ⟨(some 65), .mv, [(.t 4)], none, []⟩,
 ⟨(some 4), .mv, [(.t 65)], none, []⟩,
 ⟨(some 5), .mv, [(.c (.bool true))], none, []⟩] 0 [4, 5])
 .ret)
 .skip)))))
 (.reg true [] [] [
 ⟨(some 66), (.bin 0 .add), [(.t 23), (.c (.int .i64 1))], none, []⟩,
 ⟨(some 23), .mv, [(.t 66)], none, []⟩] 0 [0, 4, 22, 23]))))
def l62 : LFun := ⟨2, 67, [],
 (.seq
 (.reg false [] [] [
 ⟨(some 4), .mv, [(.c (.sl none 1 []))], none, []⟩,
 ⟨(some 5), .mv, [(.c (.bool false))], none, []⟩] 0 [0, 1])
 (.seq
 (.reg false [10, 16] [10, 16] [
 ⟨(some 10), (.bsl 1 [(.int .i64 0)] 1 [0]), [(.c (.int .i64 1099511627776))], none, []⟩,
 ⟨(some 11), .mv, [(.t 0)], none, []⟩,
 ⟨(some 12), .nilc, [(.t 11)], none, []⟩,
 ⟨(some 13), (.fa 7), [(.t 12)], none, []⟩,
 ⟨(some 14), (.load none), [(.t 13)], none, []⟩,
 ⟨(some 15), (.bin 0 .add), [(.t 14), (.c (.int .i64 1))], none, []⟩,
 ⟨(some 16), (.call false false true), [(.f 91), (.t 10), (.t 15)], none, []⟩,
 ⟨(some 4), .mv, [(.t 16)], none, []⟩] 0 [0, 1, 4])
 (.seq
 (.reg false [] [] [
 ⟨(some 17), .mv, [(.t 4)], none, []⟩,
 ⟨(some 18), .mv, [(.t 1)], none, []⟩,
 ⟨(some 19), (.ixs 1), [(.t 17), (.t 18)], none, []⟩,
 ⟨none, (.store 1 none), [(.t 19), (.c (.int .i64 0))], none, []⟩] 0 [0, 4])
 (.seq
 (.seq
 (.reg false [] [] [
 ⟨(some 20), .mv, [(.t 4)], none, []⟩,
 ⟨(some 21), .len, [(.t 20)], none, []⟩,
 ⟨(some 22), (.bin 0 .add), [(.t 21), (.c (.int .i64 1))], none, []⟩,
 ⟨(some 23), .mv, [(.c (.int .i64 0))], none, []⟩] 0 [0, 4, 22, 23])
 (.block 0
 (.loop b62_0)))
 (.seq
 (.reg false [] [] [
 ⟨(some 4), .mv, [(.c (.sl none 1 []))], none, []⟩,
 ⟨(some 5), .mv, [(.c (.bool false))], none, []⟩] 0 [4, 5])
 .ret))))),
 [(.t 4), (.t 5)]⟩
theorem c62 : funC Try.prog [(0, [0, 1]), (1, [0, 1, 4]), (2, [0, 4]), (3, [0, 4, 22, 23]), (4, [0, 4, 22, 23, 24]), (5, [0, 4, 6, 22, 23]), (6, [0, 4, 6, 22, 23, 28, 29, 30]), (7, [0, 4, 6, 22, 23, 28, 29, 30, 31]), (8, [0, 4, 6, 8, 22, 23, 28, 29, 30]), (9, [0, 4, 6, 8, 9, 22, 23, 28, 29, 30]), (10, [0, 4, 6, 8, 9, 22, 23, 28, 29, 30, 56]), (11, [0, 4, 6, 22, 23, 28, 29, 30]), (12, [0, 4, 6, 22, 23, 28, 29, 30]), (13, [0, 4, 22, 23, 64]), (14, [4, 5]), (15, [0, 4, 22, 23]), (16, [4, 5])] Try.f62 = some (unF l62) := by kernel_rfl
/-- (*acme/gauge.rules).opposite -/
def b63_0 : LCode :=
 (.seq
 (.reg true [] [] [
 ⟨(some 18), (.bin 0 .lss), [(.t 17), (.t 16)], none, []⟩] 0 [3, 11, 15, 16, 17, 18])
 (.seq
 (.cond (.t 18)
 .skip
 (.exit 0))
 (.seq
 (.block 1
 (.seq
 (.reg true [5] [5] [
 ⟨(some 19), (.ixs 3), [(.t 15), (.t 17)], none, []⟩,
 ⟨(some 20), (.load (some 3)), [(.t 19)], none, []⟩,
 ⟨(some 5), (.alloc [(.int .i64 0), (.int .i64 0), (.int .i64 0)]), [], none, []⟩,
 ⟨none, (.store 3 none), [(.t 5), (.t 20)], none, []⟩] 0 [3, 5, 11, 15, 16, 17])
 (.alt [34] [3]
 (.reg true [33, 34] [33, 34] [
 ⟨(some 21), .mv, [(.t 3)], none, [22, 23, 24, 25, 26, 27, 28, 29, 30, 31, 32, 33, 34]⟩,
 ⟨(some 22), .mv, [(.t 3)], none, [21, 26, 27, 28, 29, 30, 31, 32, 33]⟩,
 ⟨(some 23), .nilc, [(.t 22)], none, [21, 26, 27, 28, 29, 30, 31, 32, 33]⟩,
 ⟨(some 24), (.fa 6), [(.t 23)], none, [21, 26, 27, 28, 29, 30, 31, 32, 33]⟩,
 ⟨(some 25), (.load none), [(.t 24)], none, [21, 26, 27, 28, 29, 30, 31, 32, 33]⟩,
 ⟨(some 26), (.fa 1), [(.t 5)], none, [21, 22, 23, 24, 25, 28, 29, 30, 31]⟩,
 ⟨(some 27), (.load none), [(.t 26)], none, [21, 22, 23, 24, 25, 28, 29, 30, 31]⟩,
 ⟨(some 28), (.fa 0), [(.t 5)], none, [21, 22, 23, 24, 25, 26, 27, 30, 31]⟩,
 ⟨(some 29), (.load none), [(.t 28)], none, [21, 22, 23, 24, 25, 26, 27, 30, 31]⟩,
 ⟨(some 30), (.fa 2), [(.t 5)], none, [21, 22, 23, 24, 25, 26, 27, 28, 29]⟩,
 ⟨(some 31), (.load none), [(.t 30)], none, [21, 22, 23, 24, 25, 26, 27, 28, 29]⟩,
 ⟨(some 32), (.build [(.int .i64 0), (.int .i64 0), (.int .i64 0)] [(0, 1), (1, 1), (2, 1)]), [(.t 27), (.t 29), (.t 31)], none, [21, 22, 23, 24, 25]⟩,
 ⟨(some 33), (.bsl 3 [(.int .i64 0), (.int .i64 0), (.int .i64 0)] 1 [0]), [(.t 32)], none, [21, 22, 23, 24, 25]⟩,
 ⟨(some 34), (.append true 3 24), [(.t 25), (.t 33)], none, [21]⟩,
 ⟨(some 35), .nilc, [(.t 21)], none, []⟩,
 ⟨(some 36), (.fa 6), [(.t 35)], none, []⟩,
 ⟨none, (.store 1 none), [(.t 36), (.t 34)], none, []⟩] 0 [3, 11, 15, 16, 17])
 (.reg true [33, 34] [33] [
 ⟨(some 21), .mv, [(.t 3)], none, [22, 23, 24, 25, 26, 27, 28, 29, 30, 31, 32, 33, 34]⟩,
 ⟨(some 22), .mv, [(.t 3)], none, [21, 26, 27, 28, 29, 30, 31, 32, 33]⟩,
 ⟨(some 23), .nilc, [(.t 22)], none, [21, 26, 27, 28, 29, 30, 31, 32, 33]⟩,
 ⟨(some 24), (.fa 6), [(.t 23)], none, [21, 26, 27, 28, 29, 30, 31, 32, 33]⟩,
 ⟨(some 25), (.load none), [(.t 24)], none, [21, 26, 27, 28, 29, 30, 31, 32, 33]⟩,
 ⟨(some 26), (.fa 1), [(.t 5)], none, [21, 22, 23, 24, 25, 28, 29, 30, 31]⟩,
 ⟨(some 27), (.load none), [(.t 26)], none, [21, 22, 23, 24, 25, 28, 29, 30, 31]⟩,
 ⟨(some 28), (.fa 0), [(.t 5)], none, [21, 22, 23, 24, 25, 26, 27, 30, 31]⟩,
 ⟨(some 29), (.load none), [(.t 28)], none, [21, 22, 23, 24, 25, 26, 27, 30, 31]⟩,
 ⟨(some 30), (.fa 2), [(.t 5)], none, [21, 22, 23, 24, 25, 26, 27, 28, 29]⟩,
 ⟨(some 31), (.load none), [(.t 30)], none, [21, 22, 23, 24, 25, 26, 27, 28, 29]⟩,
 ⟨(some 32), (.build [(.int .i64 0), (.int .i64 0), (.int .i64 0)] [(0, 1), (1, 1), (2, 1)]), [(.t 27), (.t 29), (.t 31)], none, [21, 22, 23, 24, 25]⟩,
 ⟨(some 33), (.bsl 3 [(.int .i64 0), (.int .i64 0), (.int .i64 0)] 1 [0]), [(.t 32)], none, [21, 22, 23, 24, 25]⟩,
 ⟨(some 34), (.appo 3 24), [(.t 25), (.t 33)], none, [21]⟩,
 ⟨(some 35), .nilc, [(.t 21)], none, []⟩,
 ⟨(some 36), (.fa 6), [(.t 35)], none, []⟩,
 ⟨none, (.store 1 none), [(.t 36), (.t 34)], none, []⟩] 0 [3, 11, 15, 16, 17]))))
 (.reg true [] [] [
 ⟨(some 37), (.bin 0 .add), [(.t 17), (.c (.int .i64 1))], none, []⟩,
 ⟨(some 17), .mv, [(.t 37)], none, []⟩] 0 [3, 11, 15, 16, 17]))))
def l63 : LFun := ⟨1, 39, [],
 (.seq
 (.reg false [] [] [
 ⟨(some 2), .mv, [(.c .np)], none, []⟩] 0 [0, 11])
 (.seq
 (.reg false [11] [11] [
 ⟨(some 6), .mv, [(.t 0)], none, []⟩,
 ⟨(some 7), .nilc, [(.t 6)], none, []⟩,
 ⟨(some 8), (.fa 7), [(.t 7)], none, []⟩,
 ⟨(some 9), (.load none), [(.t 8)], none, []⟩,
 ⟨(some 10), (.build [(.bool false), (.int .i64 0), (.int .i64 0), (.int .i64 0), (.int .i64 0), (.sl none 2 []), (.sl (some 2003400) 3 []), (.int .i64 0)] [(7, 1)]), [(.t 9)], none, []⟩,
 ⟨(some 11), .box, [(.t 10)], none, []⟩,
 ⟨(some 3), .mv, [(.t 11)], none, []⟩] 0 [0, 3, 11])
 (.seq
 (.seq
 (.reg false [] [] [
 ⟨(some 12), .mv, [(.t 0)], none, []⟩,
 ⟨(some 13), .nilc, [(.t 12)], none, []⟩,
 ⟨(some 14), (.fa 6), [(.t 13)], none, []⟩,
 ⟨(some 15), (.load none), [(.t 14)], none, []⟩,
 ⟨(some 16), .len, [(.t 15)], none, []⟩,
 ⟨(some 17), .mv, [(.c (.int .i64 0))], none, []⟩] 0 [3, 11, 15, 16, 17])
 (.block 0
 (.loop b63_0)))
 (.seq
 (.reg false [] [] [
 ⟨(some 38), .mv, [(.t 3)], none, []⟩,
 ⟨(some 2), .mv, [(.t 38)], none, []⟩] 0 [2, 11])
 .ret)))),
 [(.t 2)]⟩
theorem c63 : funC Try.prog [(0, [0, 11]), (1, [0, 3, 11]), (2, [3, 11, 15, 16, 17]), (3, [3, 11, 15, 16, 17, 18]), (4, [3, 5, 11, 15, 16, 17]), (5, [3, 11, 15, 16, 17]), (6, [3, 11, 15, 16, 17]), (7, [2, 11])] Try.f63 = some (unF l63) := by kernel_rfl
/-- sort.Search -/
def b64_0 : LCode :=
 (.seq
 (.seq
 (.reg true [] [] [
 ⟨(some 9), .mv, [(.t 5)], none, []⟩,
 ⟨(some 10), .mv, [(.t 6)], none, []⟩,
 ⟨(some 11), (.bin 0 .lss), [(.t 9), (.t 10)], none, []⟩] 0 [1, 5, 6, 11])
 (.cond (.t 11)
 .skip
 (.exit 0)))
 (.block 1
 (.seq
 (.reg true [] [] [
 ⟨(some 12), .mv, [(.t 5)], none, []⟩,
 ⟨(some 13), .mv, [(.t 6)], none, []⟩,
 ⟨(some 14), (.bin 0 .add), [(.t 12), (.t 13)], none, []⟩,
 ⟨(some 15), (.conv .u64), [(.t 14)], none, []⟩,
 ⟨(some 16), (.bin 0 .shr), [(.t 15), (.c (.int .u64 1))], none, []⟩,
 ⟨(some 17), (.conv .i64), [(.t 16)], none, []⟩,
 ⟨(some 7), .mv, [(.t 17)], none, []⟩] 0 [1, 5, 6, 7])
 (.seq
 (.reg true [] [] [
 ⟨(some 18), .mv, [(.t 1)], none, []⟩,
 ⟨(some 19), .mv, [(.t 7)], none, []⟩,
 ⟨(some 20), (.call false false false), [(.t 18), (.t 19)], none, []⟩,
 ⟨(some 21), (.un .not), [(.t 20)], none, []⟩] 0 [1, 5, 6, 7, 21])
 (.cond (.t 21)
 (.reg true [] [] [
 ⟨(some 22), .mv, [(.t 7)], none, []⟩,
 ⟨(some 23), (.bin 0 .add), [(.t 22), (.c (.int .i64 1))], none, []⟩,
 ⟨(some 5), .mv, [(.t 23)], none, []⟩] 0 [1, 5, 6])
 (.reg true [] [] [
 ⟨(some 24), .mv, [(.t 7)], none, []⟩,
 ⟨(some 6), .mv, [(.t 24)], none, []⟩] 0 [1, 5, 6]))))))
def l64 : LFun := ⟨2, 26, [],
 (.seq
 (.reg false [] [] [
 ⟨(some 4), .mv, [(.c (.int .i64 0))], none, []⟩] 0 [0, 1])
 (.seq
 (.reg false [] [] [
 ⟨(some 8), .mv, [(.t 0)], none, []⟩,
 ⟨(some 5), .mv, [(.c (.int .i64 0))], none, []⟩,
 ⟨(some 6), .mv, [(.t 8)], none, []⟩] 0 [1, 5, 6])
 (.seq
 (.block 0
 (.loop b64_0))
 (.seq
 (.reg false [] [] [
 ⟨(some 25), .mv, [(.t 5)], none, []⟩,
 ⟨(some 4), .mv, [(.t 25)], none, []⟩] 0 [4])
 .ret)))),
 [(.t 4)]⟩
theorem c64 : funC Try.prog [(0, [0, 1]), (1, [1, 5, 6]), (2, [1, 5, 6, 11]), (3, [1, 5, 6, 7]), (4, [1, 5, 6, 7, 21]), (5, [1, 5, 6]), (6, [1, 5, 6]), (7, [4])] Try.f64 = some (unF l64) := by kernel_rfl
/-- (acme/gauge.gauge).lasts$1 -/
def l65 : LFun := ⟨3, 12, [],
 (.seq
 (.reg false [] [] [
 ⟨(some 4), .mv, [(.c (.bool false))], none, []⟩] 0 [0, 1, 2])
 (.seq
 (.reg false [] [] [
 ⟨(some 5), (.fa 2), [(.t 1)], none, [7, 10]⟩,
 ⟨(some 6), (.load (some 2)), [(.t 5)], none, [7, 10]⟩,
 ⟨(some 7), .mv, [(.t 0)], none, [5, 6, 10]⟩,
 ⟨(some 8), (.call true false false), [(.f 51), (.t 6), (.t 7)], none, [10]⟩,
 ⟨(some 9), (.fld 1 none), [(.t 8)], none, [10]⟩,
 ⟨(some 10), (.load none), [(.t 2)], none, [5, 6, 7, 8, 9]⟩,
 ⟨(some 11), (.bin 0 .gtr), [(.t 9), (.t 10)], none, []⟩,
 ⟨(some 4), .mv, [(.t 11)], none, []⟩] 0 [4])
 .ret)),
 [(.t 4)]⟩
theorem c65 : funC Try.prog [(0, [0, 1, 2]), (1, [4])] Try.f65 = some (unF l65) := by kernel_rfl
/-- (acme/thread.form).width -/
def l66 : LFun := ⟨2, 15, [],
 (.seq
 (.reg false [2] [2] [
 ⟨(some 2), .box, [(.t 0)], none, []⟩,
 ⟨(some 4), .mv, [(.c (.int .i64 0))], none, []⟩] 0 [1, 2])
 (.seq
 (.reg false [] [] [
 ⟨(some 5), (.fa 0), [(.t 2)], none, [9, 10, 11, 12, 13]⟩,
 ⟨(some 6), (.fa 0), [(.t 5)], none, [9, 10, 11, 12, 13]⟩,
 ⟨(some 7), (.load none), [(.t 6)], none, [9, 10, 11, 12, 13]⟩,
 ⟨(some 8), (.bin 0 .mul), [(.c (.int .i64 1000)), (.t 7)], none, [9, 10, 11, 12, 13]⟩,
 ⟨(some 9), .mv, [(.t 1)], none, [5, 6, 7, 8, 11, 12]⟩,
 ⟨(some 10), (.bin 0 .mul), [(.c (.int .i64 2)), (.t 9)], none, [5, 6, 7, 8, 11, 12]⟩,
 ⟨(some 11), (.load (some 8)), [(.t 2)], none, [5, 6, 7, 8, 9, 10]⟩,
 ⟨(some 12), (.call true false false), [(.f 81), (.t 11)], none, [5, 6, 7, 8, 9, 10]⟩,
 ⟨(some 13), (.bin 0 .mul), [(.t 10), (.t 12)], none, [5, 6, 7, 8]⟩,
 ⟨(some 14), (.bin 0 .sub), [(.t 8), (.t 13)], none, []⟩,
 ⟨(some 4), .mv, [(.t 14)], none, []⟩] 0 [4])
 .ret)),
 [(.t 4)]⟩
theorem c66 : funC Try.prog [(0, [1, 2]), (1, [4])] Try.f66 = some (unF l66) := by kernel_rfl
/-- slices.ContainsFunc[[]int,int] -/
def l67 : LFun := ⟨2, 9, [],
 (.seq
 (.reg false [] [] [
 ⟨(some 4), .mv, [(.c (.bool false))], none, []⟩] 0 [0, 1])
 (.seq
 (.reg false [] [] [
 ⟨(some 5), .mv, [(.t 0)], none, []⟩,
 ⟨(some 6), .mv, [(.t 1)], none, []⟩,
 ⟨(some 7), (.call false false false), [(.f 92), (.t 5), (.t 6)], none, []⟩,
 ⟨(some 8), (.bin 0 .geq), [(.t 7), (.c (.int .i64 0))], none, []⟩,
 ⟨(some 4), .mv, [(.t 8)], none, []⟩] 0 [4])
 .ret)),
 [(.t 4)]⟩
theorem c67 : funC Try.prog [(0, [0, 1]), (1, [4])] Try.f67 = some (unF l67) := by kernel_rfl
/-- acme/swap.within$1 -/
def l68 : LFun := ⟨3, 13, [],
 (.seq
 (.reg false [] [] [
 ⟨(some 4), .mv, [(.c (.bool false))], none, []⟩] 0 [0, 1, 2])
 (.seq
 (.reg false [] [] [
 ⟨(some 5), .mv, [(.t 0)], none, []⟩,
 ⟨(some 6), (.load none), [(.t 1)], none, []⟩,
 ⟨(some 7), (.bin 0 .lss), [(.t 5), (.t 6)], none, []⟩,
 ⟨(some 8), .mv, [(.t 7)], none, []⟩,
 ⟨(some 9), .mv, [(.t 0)], (some (8, false)), []⟩,
 ⟨(some 10), (.load none), [(.t 2)], (some (8, false)), []⟩,
 ⟨(some 11), (.bin 0 .gtr), [(.t 9), (.t 10)], (some (8, false)), []⟩,
 ⟨(some 12), .pick, [(.t 8), (.c (.bool true)), (.t 11)], none, []⟩,
 ⟨(some 4), .mv, [(.t 12)], none, []⟩] 0 [4])
 .ret)),
 [(.t 4)]⟩
theorem c68 : funC Try.prog [(0, [0, 1, 2]), (1, [4])] Try.f68 = some (unF l68) := by kernel_rfl
/-- (acme/swap.span).isValid -/
def l69 : LFun := ⟨3, 26, [],
 (.seq
 (.reg false [3] [3] [
 ⟨(some 3), .box, [(.t 0)], none, []⟩,
 ⟨(some 6), .mv, [(.c (.bool false))], none, []⟩] 0 [1, 2, 3])
 (.seq
 (.reg false [15] [15] [
 ⟨(some 7), .mv, [(.t 1)], none, []⟩,
 ⟨(some 8), .mv, [(.t 2)], none, []⟩,
 ⟨(some 9), (.fa 0), [(.t 3)], none, []⟩,
 ⟨(some 10), (.fa 0), [(.t 9)], none, []⟩,
 ⟨(some 11), (.load none), [(.t 10)], none, []⟩,
 ⟨(some 12), (.fa 0), [(.t 3)], none, []⟩,
 ⟨(some 13), (.fa 1), [(.t 12)], none, []⟩,
 ⟨(some 14), (.load none), [(.t 13)], none, []⟩,
 ⟨(some 15), (.bsl 1 [(.int .i64 0)] 2 [0, 1]), [(.t 11), (.t 14)], none, []⟩,
 ⟨(some 16), (.call false false false), [(.f 36), (.t 7), (.t 8), (.t 15)], none, []⟩,
 ⟨(some 17), .mv, [(.t 16)], none, []⟩,
 ⟨(some 18), (.fa 0), [(.t 3)], (some (17, true)), []⟩,
 ⟨(some 19), (.fa 0), [(.t 18)], (some (17, true)), []⟩,
 ⟨(some 20), (.load none), [(.t 19)], (some (17, true)), []⟩,
 ⟨(some 21), (.fa 0), [(.t 3)], (some (17, true)), []⟩,
 ⟨(some 22), (.fa 1), [(.t 21)], (some (17, true)), []⟩,
 ⟨(some 23), (.load none), [(.t 22)], (some (17, true)), []⟩,
 ⟨(some 24), (.bin 0 .leq), [(.t 20), (.t 23)], (some (17, true)), []⟩,
 ⟨(some 25), .pick, [(.t 17), (.t 24), (.c (.bool false))], none, []⟩,
 ⟨(some 6), .mv, [(.t 25)], none, []⟩] 0 [6])
 .ret)),
 [(.t 6)]⟩
theorem c69 : funC Try.prog [(0, [1, 2, 3]), (1, [6])] Try.f69 = some (unF l69) := by kernel_rfl
/-- (acme/swap.piece).play -/
def l70 : LFun := ⟨3, 48, [],
 (.seq
 (.reg false [3, 4, 5] [3, 4, 5] [
 ⟨(some 3), .box, [(.t 0)], none, []⟩,
 ⟨(some 4), .box, [(.t 1)], none, []⟩,
 ⟨(some 5), .box, [(.t 2)], none, []⟩,
 ⟨(some 6), .mv, [(.c (.int .i64 0))], none, []⟩] 0 [3, 4, 5])
 (.seq
 (.reg false [] [] [
 ⟨(some 8), (.load (some 9)), [(.t 4)], none, [9, 10, 12, 13, 14, 17, 18, 19, 21, 22, 23]⟩,
 ⟨(some 9), (.fa 0), [(.t 5)], none, [8, 12, 13, 14, 17, 18, 19, 21, 22, 23]⟩,
 ⟨(some 10), (.load none), [(.t 9)], none, [8, 12, 13, 14, 17, 18, 19, 21, 22, 23]⟩,
 ⟨(some 11), (.call true false false), [(.f 93), (.t 8), (.t 10)], none, [12, 13, 14, 17, 18, 19, 21, 22, 23]⟩,
 ⟨(some 12), (.load (some 9)), [(.t 3)], none, [8, 9, 10, 11, 13, 14, 17, 18, 19, 21, 22, 23]⟩,
 ⟨(some 13), (.fa 0), [(.t 5)], none, [8, 9, 10, 11, 12, 17, 18, 19, 21, 22, 23]⟩,
 ⟨(some 14), (.load none), [(.t 13)], none, [8, 9, 10, 11, 12, 17, 18, 19, 21, 22, 23]⟩,
 ⟨(some 15), (.call true false false), [(.f 93), (.t 12), (.t 14)], none, [17, 18, 19, 21, 22, 23]⟩,
 ⟨(some 16), (.bin 0 .sub), [(.t 11), (.t 15)], none, [17, 18, 19, 20, 21, 22, 23, 24, 25]⟩,
 ⟨(some 17), (.load (some 9)), [(.t 4)], none, [8, 9, 10, 11, 12, 13, 14, 15, 16, 18, 19, 21, 22, 23]⟩,
 ⟨(some 18), (.fa 1), [(.t 5)], none, [8, 9, 10, 11, 12, 13, 14, 15, 16, 17, 21, 22, 23]⟩,
 ⟨(some 19), (.load none), [(.t 18)], none, [8, 9, 10, 11, 12, 13, 14, 15, 16, 17, 21, 22, 23]⟩,
 ⟨(some 20), (.call true false false), [(.f 93), (.t 17), (.t 19)], none, [16, 21, 22, 23]⟩,
 ⟨(some 21), (.load (some 9)), [(.t 3)], none, [8, 9, 10, 11, 12, 13, 14, 15, 16, 17, 18, 19, 20, 22, 23]⟩,
 ⟨(some 22), (.fa 1), [(.t 5)], none, [8, 9, 10, 11, 12, 13, 14, 15, 16, 17, 18, 19, 20, 21]⟩,
 ⟨(some 23), (.load none), [(.t 22)], none, [8, 9, 10, 11, 12, 13, 14, 15, 16, 17, 18, 19, 20, 21]⟩,
 ⟨(some 24), (.call true false false), [(.f 93), (.t 21), (.t 23)], none, [16]⟩,
 ⟨(some 25), (.bin 0 .sub), [(.t 20), (.t 24)], none, [16]⟩,
 ⟨(some 26), .max, [(.t 16), (.t 25)], none, []⟩,
 ⟨(some 7), .mv, [(.t 26)], none, []⟩] 0 [3, 4, 5, 7])
 (.seq
 (.reg false [] [] [
 ⟨(some 27), (.load (some 9)), [(.t 4)], none, [28, 29, 31, 32, 33, 36, 37, 38, 40, 41, 42, 46]⟩,
 ⟨(some 28), (.fa 0), [(.t 5)], none, [27, 31, 32, 33, 36, 37, 38, 40, 41, 42, 46]⟩,
 ⟨(some 29), (.load none), [(.t 28)], none, [27, 31, 32, 33, 36, 37, 38, 40, 41, 42, 46]⟩,
 ⟨(some 30), (.call true false false), [(.f 94), (.t 27), (.t 29)], none, [31, 32, 33, 36, 37, 38, 40, 41, 42, 46]⟩,
 ⟨(some 31), (.load (some 9)), [(.t 3)], none, [27, 28, 29, 30, 32, 33, 36, 37, 38, 40, 41, 42, 46]⟩,
 ⟨(some 32), (.fa 0), [(.t 5)], none, [27, 28, 29, 30, 31, 36, 37, 38, 40, 41, 42, 46]⟩,
 ⟨(some 33), (.load none), [(.t 32)], none, [27, 28, 29, 30, 31, 36, 37, 38, 40, 41, 42, 46]⟩,
 ⟨(some 34), (.call true false false), [(.f 94), (.t 31), (.t 33)], none, [36, 37, 38, 40, 41, 42, 46]⟩,
 ⟨(some 35), (.bin 0 .sub), [(.t 30), (.t 34)], none, [36, 37, 38, 39, 40, 41, 42, 43, 44, 46]⟩,
 ⟨(some 36), (.load (some 9)), [(.t 4)], none, [27, 28, 29, 30, 31, 32, 33, 34, 35, 37, 38, 40, 41, 42, 46]⟩,
 ⟨(some 37), (.fa 1), [(.t 5)], none, [27, 28, 29, 30, 31, 32, 33, 34, 35, 36, 40, 41, 42, 46]⟩,
 ⟨(some 38), (.load none), [(.t 37)], none, [27, 28, 29, 30, 31, 32, 33, 34, 35, 36, 40, 41, 42, 46]⟩,
 ⟨(some 39), (.call true false false), [(.f 94), (.t 36), (.t 38)], none, [35, 40, 41, 42, 46]⟩,
 ⟨(some 40), (.load (some 9)), [(.t 3)], none, [27, 28, 29, 30, 31, 32, 33, 34, 35, 36, 37, 38, 39, 41, 42, 46]⟩,
 ⟨(some 41), (.fa 1), [(.t 5)], none, [27, 28, 29, 30, 31, 32, 33, 34, 35, 36, 37, 38, 39, 40, 46]⟩,
 ⟨(some 42), (.load none), [(.t 41)], none, [27, 28, 29, 30, 31, 32, 33, 34, 35, 36, 37, 38, 39, 40, 46]⟩,
 ⟨(some 43), (.call true false false), [(.f 94), (.t 40), (.t 42)], none, [35, 46]⟩,
 ⟨(some 44), (.bin 0 .sub), [(.t 39), (.t 43)], none, [35, 46]⟩,
 ⟨(some 45), .min, [(.t 35), (.t 44)], none, [46]⟩,
 ⟨(some 46), .mv, [(.t 7)], none, [27, 28, 29, 30, 31, 32, 33, 34, 35, 36, 37, 38, 39, 40, 41, 42, 43, 44, 45]⟩,
 ⟨(some 47), (.bin 0 .sub), [(.t 45), (.t 46)], none, []⟩,
 ⟨(some 6), .mv, [(.t 47)], none, []⟩] 0 [6])
 .ret))),
 [(.t 6)]⟩
theorem c70 : funC Try.prog [(0, [3, 4, 5]), (1, [3, 4, 5, 7]), (2, [6])] Try.f70 = some (unF l70) := by kernel_rfl
/-- (acme/swap.piece).agrees -/
def l71 : LFun := ⟨2, 30, [],
 (.seq
 (.reg false [2, 3] [2, 3] [
 ⟨(some 2), .box, [(.t 0)], none, []⟩,
 ⟨(some 3), .box, [(.t 1)], none, []⟩,
 ⟨(some 4), .mv, [(.c (.bool false))], none, []⟩] 0 [2, 3])
 (.seq
 (.reg false [] [] [
 ⟨(some 5), (.fa 0), [(.t 2)], none, []⟩,
 ⟨(some 6), (.fa 5), [(.t 5)], none, []⟩,
 ⟨(some 7), (.load none), [(.t 6)], none, []⟩,
 ⟨(some 8), (.fa 0), [(.t 3)], none, []⟩,
 ⟨(some 9), (.fa 5), [(.t 8)], none, []⟩,
 ⟨(some 10), (.load none), [(.t 9)], none, []⟩,
 ⟨(some 11), (.bin 0 .eql), [(.t 7), (.t 10)], none, []⟩,
 ⟨(some 12), .mv, [(.t 11)], none, []⟩,
 ⟨(some 13), (.fa 0), [(.t 2)], (some (12, true)), []⟩,
 ⟨(some 14), (.fa 6), [(.t 13)], (some (12, true)), []⟩,
 ⟨(some 15), (.load none), [(.t 14)], (some (12, true)), []⟩,
 ⟨(some 16), (.fa 0), [(.t 3)], (some (12, true)), []⟩,
 ⟨(some 17), (.fa 6), [(.t 16)], (some (12, true)), []⟩,
 ⟨(some 18), (.load none), [(.t 17)], (some (12, true)), []⟩,
 ⟨(some 19), (.bin 1 .eql), [(.t 15), (.t 18)], (some (12, true)), []⟩,
 ⟨(some 20), .pick, [(.t 12), (.t 19), (.c (.bool false))], none, []⟩,
 ⟨(some 21), .mv, [(.t 20)], none, []⟩,
 ⟨(some 22), (.fa 0), [(.t 2)], (some (21, true)), []⟩,
 ⟨(some 23), (.fa 7), [(.t 22)], (some (21, true)), []⟩,
 ⟨(some 24), (.load none), [(.t 23)], (some (21, true)), []⟩,
 ⟨(some 25), (.fa 0), [(.t 3)], (some (21, true)), []⟩,
 ⟨(some 26), (.fa 7), [(.t 25)], (some (21, true)), []⟩,
 ⟨(some 27), (.load none), [(.t 26)], (some (21, true)), []⟩,
 ⟨(some 28), (.bin 0 .eql), [(.t 24), (.t 27)], (some (21, true)), []⟩,
 ⟨(some 29), .pick, [(.t 21), (.t 28), (.c (.bool false))], none, []⟩,
 ⟨(some 4), .mv, [(.t 29)], none, []⟩] 0 [4])
 .ret)),
 [(.t 4)]⟩
theorem c71 : funC Try.prog [(0, [2, 3]), (1, [4])] Try.f71 = some (unF l71) := by kernel_rfl
/-- acme/swap.areNot -/
def l72 : LFun := ⟨1, 5, [],
 (.seq
 (.reg false [] [] [
 ⟨(some 2), .mv, [(.c (.bool false))], none, []⟩] 0 [0])
 (.seq
 (.reg false [] [] [
 ⟨(some 3), .mv, [(.t 0)], none, []⟩,
 ⟨(some 4), (.call false false false), [(.f 95), (.t 3), (.f 96)], none, []⟩,
 ⟨(some 2), .mv, [(.t 4)], none, []⟩] 0 [2])
 .ret)),
 [(.t 2)]⟩
theorem c72 : funC Try.prog [(0, [0]), (1, [2])] Try.f72 = some (unF l72) := by kernel_rfl
/-- (acme/swap.standard).least -/
def l73 : LFun := ⟨3, 25, [],
 (.seq
 (.reg false [3, 4, 5] [3, 4, 5] [
 ⟨(some 3), .box, [(.t 0)], none, []⟩,
 ⟨(some 4), .box, [(.t 1)], none, []⟩,
 ⟨(some 5), .box, [(.t 2)], none, []⟩,
 ⟨(some 6), .mv, [(.c (.int .i64 0))], none, []⟩] 0 [3, 4, 5])
 (.seq
 (.reg false [] [] [
 ⟨(some 7), (.fa 0), [(.t 3)], none, []⟩,
 ⟨(some 8), (.fa 3), [(.t 7)], none, []⟩,
 ⟨(some 9), (.load (some 8)), [(.t 8)], none, []⟩,
 ⟨(some 10), (.fa 0), [(.t 3)], none, []⟩,
 ⟨(some 11), (.fa 11), [(.t 10)], none, []⟩,
 ⟨(some 12), (.fa 1), [(.t 11)], none, []⟩,
 ⟨(some 13), (.load none), [(.t 12)], none, []⟩,
 ⟨(some 14), (.build [(.int .i64 0), (.int .i64 0), (.int .i64 0), (.int .i64 0), (.int .i64 0), (.int .i64 0), (.bool false), (.int .i64 0), (.int .i64 0)] [(0, 8), (8, 1)]), [(.t 9), (.t 13)], none, []⟩,
 ⟨(some 15), (.fa 0), [(.t 4)], none, []⟩,
 ⟨(some 16), (.fa 3), [(.t 15)], none, []⟩,
 ⟨(some 17), (.load (some 8)), [(.t 16)], none, []⟩,
 ⟨(some 18), (.fa 0), [(.t 4)], none, []⟩,
 ⟨(some 19), (.fa 13), [(.t 18)], none, []⟩,
 ⟨(some 20), (.fa 0), [(.t 19)], none, []⟩,
 ⟨(some 21), (.load none), [(.t 20)], none, []⟩,
 ⟨(some 22), (.build [(.int .i64 0), (.int .i64 0), (.int .i64 0), (.int .i64 0), (.int .i64 0), (.int .i64 0), (.bool false), (.int .i64 0), (.int .i64 0)] [(0, 8), (8, 1)]), [(.t 17), (.t 21)], none, []⟩,
 ⟨(some 23), (.load (some 2)), [(.t 5)], none, []⟩,
 ⟨(some 24), (.call false false false), [(.f 38), (.t 14), (.t 22), (.t 23)], none, []⟩,
 ⟨(some 6), .mv, [(.t 24)], none, []⟩] 0 [6])
 .ret)),
 [(.t 6)]⟩
theorem c73 : funC Try.prog [(0, [3, 4, 5]), (1, [6])] Try.f73 = some (unF l73) := by kernel_rfl
/-- (acme/swap.standard).most -/
def l74 : LFun := ⟨3, 25, [],
 (.seq
 (.reg false [3, 4, 5] [3, 4, 5] [
 ⟨(some 3), .box, [(.t 0)], none, []⟩,
 ⟨(some 4), .box, [(.t 1)], none, []⟩,
 ⟨(some 5), .box, [(.t 2)], none, []⟩,
 ⟨(some 6), .mv, [(.c (.int .i64 0))], none, []⟩] 0 [3, 4, 5])
 (.seq
 (.reg false [] [] [
 ⟨(some 7), (.fa 0), [(.t 3)], none, []⟩,
 ⟨(some 8), (.fa 3), [(.t 7)], none, []⟩,
 ⟨(some 9), (.load (some 8)), [(.t 8)], none, []⟩,
 ⟨(some 10), (.fa 0), [(.t 3)], none, []⟩,
 ⟨(some 11), (.fa 11), [(.t 10)], none, []⟩,
 ⟨(some 12), (.fa 0), [(.t 11)], none, []⟩,
 ⟨(some 13), (.load none), [(.t 12)], none, []⟩,
 ⟨(some 14), (.build [(.int .i64 0), (.int .i64 0), (.int .i64 0), (.int .i64 0), (.int .i64 0), (.int .i64 0), (.bool false), (.int .i64 0), (.int .i64 0)] [(0, 8), (8, 1)]), [(.t 9), (.t 13)], none, []⟩,
 ⟨(some 15), (.fa 0), [(.t 4)], none, []⟩,
 ⟨(some 16), (.fa 3), [(.t 15)], none, []⟩,
 ⟨(some 17), (.load (some 8)), [(.t 16)], none, []⟩,
 ⟨(some 18), (.fa 0), [(.t 4)], none, []⟩,
 ⟨(some 19), (.fa 13), [(.t 18)], none, []⟩,
 ⟨(some 20), (.fa 1), [(.t 19)], none, []⟩,
 ⟨(some 21), (.load none), [(.t 20)], none, []⟩,
 ⟨(some 22), (.build [(.int .i64 0), (.int .i64 0), (.int .i64 0), (.int .i64 0), (.int .i64 0), (.int .i64 0), (.bool false), (.int .i64 0), (.int .i64 0)] [(0, 8), (8, 1)]), [(.t 17), (.t 21)], none, []⟩,
 ⟨(some 23), (.load (some 2)), [(.t 5)], none, []⟩,
 ⟨(some 24), (.call false false false), [(.f 38), (.t 14), (.t 22), (.t 23)], none, []⟩,
 ⟨(some 6), .mv, [(.t 24)], none, []⟩] 0 [6])
 .ret)),
 [(.t 6)]⟩
theorem c74 : funC Try.prog [(0, [3, 4, 5]), (1, [6])] Try.f74 = some (unF l74) := by kernel_rfl
/-- acme/thread.within$1 -/
def l75 : LFun := ⟨3, 13, [],
 (.seq
 (.reg false [] [] [
 ⟨(some 4), .mv, [(.c (.bool false))], none, []⟩] 0 [0, 1, 2])
 (.seq
 (.reg false [] [] [
 ⟨(some 5), .mv, [(.t 0)], none, []⟩,
 ⟨(some 6), (.load none), [(.t 1)], none, []⟩,
 ⟨(some 7), (.bin 0 .lss), [(.t 5), (.t 6)], none, []⟩,
 ⟨(some 8), .mv, [(.t 7)], none, []⟩,
 ⟨(some 9), .mv, [(.t 0)], (some (8, false)), []⟩,
 ⟨(some 10), (.load none), [(.t 2)], (some (8, false)), []⟩,
 ⟨(some 11), (.bin 0 .gtr), [(.t 9), (.t 10)], (some (8, false)), []⟩,
 ⟨(some 12), .pick, [(.t 8), (.c (.bool true)), (.t 11)], none, []⟩,
 ⟨(some 4), .mv, [(.t 12)], none, []⟩] 0 [4])
 .ret)),
 [(.t 4)]⟩
theorem c75 : funC Try.prog [(0, [0, 1, 2]), (1, [4])] Try.f75 = some (unF l75) := by kernel_rfl
/-- (acme/thread.form).leans -/
def l81 : LFun := ⟨1, 10, [],
 (.seq
 (.reg false [1] [1] [
 ⟨(some 1), .box, [(.t 0)], none, []⟩,
 ⟨(some 2), .mv, [(.c (.int .i64 0))], none, []⟩] 0 [1])
 (.seq
 (.reg false [] [] [
 ⟨(some 3), (.fa 0), [(.t 1)], none, []⟩,
 ⟨(some 4), (.fa 1), [(.t 3)], none, []⟩,
 ⟨(some 5), (.load none), [(.t 4)], none, []⟩,
 ⟨(some 6), (.fa 0), [(.t 1)], none, []⟩,
 ⟨(some 7), (.fa 2), [(.t 6)], none, []⟩,
 ⟨(some 8), (.load none), [(.t 7)], none, []⟩,
 ⟨(some 9), (.bin 0 .add), [(.t 5), (.t 8)], none, []⟩,
 ⟨(some 2), .mv, [(.t 9)], none, []⟩] 0 [2])
 .ret)),
 [(.t 2)]⟩
theorem c81 : funC Try.prog [(0, [1]), (1, [2])] Try.f81 = some (unF l81) := by kernel_rfl
/-- acme/gauge.within$1 -/
def l85 : LFun := ⟨3, 13, [],
 (.seq
 (.reg false [] [] [
 ⟨(some 4), .mv, [(.c (.bool false))], none, []⟩] 0 [0, 1, 2])
 (.seq
 (.reg false [] [] [
 ⟨(some 5), .mv, [(.t 0)], none, []⟩,
 ⟨(some 6), (.load none), [(.t 1)], none, []⟩,
 ⟨(some 7), (.bin 0 .lss), [(.t 5), (.t 6)], none, []⟩,
 ⟨(some 8), .mv, [(.t 7)], none, []⟩,
 ⟨(some 9), .mv, [(.t 0)], (some (8, false)), []⟩,
 ⟨(some 10), (.load none), [(.t 2)], (some (8, false)), []⟩,
 ⟨(some 11), (.bin 0 .gtr), [(.t 9), (.t 10)], (some (8, false)), []⟩,
 ⟨(some 12), .pick, [(.t 8), (.c (.bool true)), (.t 11)], none, []⟩,
 ⟨(some 4), .mv, [(.t 12)], none, []⟩] 0 [4])
 .ret)),
 [(.t 4)]⟩
theorem c85 : funC Try.prog [(0, [0, 1, 2]), (1, [4])] Try.f85 = some (unF l85) := by kernel_rfl
/-- slices.ContainsFunc[[]acme/api.Span,acme/api.Span] -/
def l90 : LFun := ⟨2, 9, [],
 (.seq
 (.reg false [] [] [
 ⟨(some 4), .mv, [(.c (.bool false))], none, []⟩] 0 [0, 1])
 (.seq
 (.reg false [] [] [
 ⟨(some 5), .mv, [(.t 0)], none, []⟩,
 ⟨(some 6), .mv, [(.t 1)], none, []⟩,
 ⟨(some 7), (.call false false false), [(.f 105), (.t 5), (.t 6)], none, []⟩,
 ⟨(some 8), (.bin 0 .geq), [(.t 7), (.c (.int .i64 0))], none, []⟩,
 ⟨(some 4), .mv, [(.t 8)], none, []⟩] 0 [4])
 .ret)),
 [(.t 4)]⟩
theorem c90 : funC Try.prog [(0, [0, 1]), (1, [4])] Try.f90 = some (unF l90) := by kernel_rfl
/-- slices.IndexFunc[[]int,int] -/
def b92_0 : LCode :=
 (.seq
 (.reg true [] [] [
 ⟨(some 9), (.bin 0 .lss), [(.t 8), (.t 7)], none, []⟩] 0 [0, 1, 7, 8, 9])
 (.seq
 (.cond (.t 9)
 .skip
 (.exit 0))
 (.seq
 (.block 1
 (.seq
 (.reg true [] [] [
 ⟨(some 10), .mv, [(.t 8)], none, []⟩,
 ⟨(some 5), .mv, [(.t 10)], none, []⟩] 0 [0, 1, 5, 7, 8])
 (.seq
 (.reg true [] [] [
 ⟨(some 11), .mv, [(.t 1)], none, []⟩,
 ⟨(some 12), .mv, [(.t 0)], none, []⟩,
 ⟨(some 13), .mv, [(.t 5)], none, []⟩,
 ⟨(some 14), (.ixs 1), [(.t 12), (.t 13)], none, []⟩,
 ⟨(some 15), (.load none), [(.t 14)], none, []⟩,
 ⟨(some 16), (.call false false false), [(.t 11), (.t 15)], none, []⟩] 0 [0, 1, 5, 7, 8, 16])
 (.cond (.t 16)
 (.seq
 (.reg true [] [] [
 ⟨(some 17), .mv, [(.t 5)], none, []⟩,
 ⟨(some 4), .mv, [(.t 17)], none, []⟩] 0 [4])
 .ret)
 .skip))))
 (.reg true [] [] [
 ⟨(some 18), (.bin 0 .add), [(.t 8), (.c (.int .i64 1))], none, []⟩,
 ⟨(some 8), .mv, [(.t 18)], none, []⟩] 0 [0, 1, 7, 8]))))
def l92 : LFun := ⟨2, 19, [],
 (.seq
 (.reg false [] [] [
 ⟨(some 4), .mv, [(.c (.int .i64 0))], none, []⟩] 0 [0, 1])
 (.seq
 (.seq
 (.reg false [] [] [
 ⟨(some 6), .mv, [(.t 0)], none, []⟩,
 ⟨(some 7), .len, [(.t 6)], none, []⟩,
 ⟨(some 8), .mv, [(.c (.int .i64 0))], none, []⟩] 0 [0, 1, 7, 8])
 (.block 0
 (.loop b92_0)))
 (.seq
 (.reg false [] [] [
 ⟨(some 4), .mv, [(.c (.int .i64 (-1)))], none, []⟩] 0 [4])
 .ret))),
 [(.t 4)]⟩
theorem c92 : funC Try.prog [(0, [0, 1]), (1, [0, 1, 7, 8]), (2, [0, 1, 7, 8, 9]), (3, [0, 1, 5, 7, 8]), (4, [0, 1, 5, 7, 8, 16]), (5, [4]), (6, [0, 1, 7, 8]), (7, [4])] Try.f92 = some (unF l92) := by kernel_rfl
/-- (acme/swap.piece).left -/
def l93 : LFun := ⟨2, 19, [],
 (.seq
 (.reg false [2] [2] [
 ⟨(some 2), .box, [(.t 0)], none, []⟩,
 ⟨(some 4), .mv, [(.c (.int .i64 0))], none, []⟩] 0 [1, 2])
 (.seq
 (.reg false [] [] [
 ⟨(some 5), .mv, [(.t 1)], none, []⟩,
 ⟨(some 6), (.fa 8), [(.t 2)], none, []⟩,
 ⟨(some 7), (.load none), [(.t 6)], none, []⟩,
 ⟨(some 8), (.bin 0 .sub), [(.t 5), (.t 7)], none, []⟩,
 ⟨(some 9), (.bin 0 .mul), [(.c (.int .i64 4)), (.t 8)], none, []⟩,
 ⟨(some 10), (.fa 0), [(.t 2)], none, []⟩,
 ⟨(some 11), (.fa 1), [(.t 10)], none, []⟩,
 ⟨(some 12), (.load none), [(.t 11)], none, []⟩,
 ⟨(some 13), (.bin 0 .mul), [(.t 9), (.t 12)], none, []⟩,
 ⟨(some 14), (.fa 0), [(.t 2)], none, []⟩,
 ⟨(some 15), (.fa 0), [(.t 14)], none, []⟩,
 ⟨(some 16), (.load none), [(.t 15)], none, []⟩,
 ⟨(some 17), (.bin 0 .mul), [(.c (.int .i64 1000)), (.t 16)], none, []⟩,
 ⟨(some 18), (.bin 0 .sub), [(.t 13), (.t 17)], none, []⟩,
 ⟨(some 4), .mv, [(.t 18)], none, []⟩] 0 [4])
 .ret)),
 [(.t 4)]⟩
theorem c93 : funC Try.prog [(0, [1, 2]), (1, [4])] Try.f93 = some (unF l93) := by kernel_rfl
/-- (acme/swap.piece).right -/
def l94 : LFun := ⟨2, 19, [],
 (.seq
 (.reg false [2] [2] [
 ⟨(some 2), .box, [(.t 0)], none, []⟩,
 ⟨(some 4), .mv, [(.c (.int .i64 0))], none, []⟩] 0 [1, 2])
 (.seq
 (.reg false [] [] [
 ⟨(some 5), (.fa 0), [(.t 2)], none, []⟩,
 ⟨(some 6), (.fa 0), [(.t 5)], none, []⟩,
 ⟨(some 7), (.load none), [(.t 6)], none, []⟩,
 ⟨(some 8), (.bin 0 .mul), [(.c (.int .i64 1000)), (.t 7)], none, []⟩,
 ⟨(some 9), .mv, [(.t 1)], none, []⟩,
 ⟨(some 10), (.fa 8), [(.t 2)], none, []⟩,
 ⟨(some 11), (.load none), [(.t 10)], none, []⟩,
 ⟨(some 12), (.bin 0 .sub), [(.t 9), (.t 11)], none, []⟩,
 ⟨(some 13), (.bin 0 .mul), [(.c (.int .i64 4)), (.t 12)], none, []⟩,
 ⟨(some 14), (.fa 0), [(.t 2)], none, []⟩,
 ⟨(some 15), (.fa 2), [(.t 14)], none, []⟩,
 ⟨(some 16), (.load none), [(.t 15)], none, []⟩,
 ⟨(some 17), (.bin 0 .mul), [(.t 13), (.t 16)], none, []⟩,
 ⟨(some 18), (.bin 0 .sub), [(.t 8), (.t 17)], none, []⟩,
 ⟨(some 4), .mv, [(.t 18)], none, []⟩] 0 [4])
 .ret)),
 [(.t 4)]⟩
theorem c94 : funC Try.prog [(0, [1, 2]), (1, [4])] Try.f94 = some (unF l94) := by kernel_rfl
/-- slices.ContainsFunc[[]acme/api.SwapStandard,acme/api.SwapStandard] -/
def l95 : LFun := ⟨2, 9, [],
 (.seq
 (.reg false [] [] [
 ⟨(some 4), .mv, [(.c (.bool false))], none, []⟩] 0 [0, 1])
 (.seq
 (.reg false [] [] [
 ⟨(some 5), .mv, [(.t 0)], none, []⟩,
 ⟨(some 6), .mv, [(.t 1)], none, []⟩,
 ⟨(some 7), (.call false false false), [(.f 107), (.t 5), (.t 6)], none, []⟩,
 ⟨(some 8), (.bin 0 .geq), [(.t 7), (.c (.int .i64 0))], none, []⟩,
 ⟨(some 4), .mv, [(.t 8)], none, []⟩] 0 [4])
 .ret)),
 [(.t 4)]⟩
theorem c95 : funC Try.prog [(0, [0, 1]), (1, [4])] Try.f95 = some (unF l95) := by kernel_rfl
/-- acme/swap.areNot$1 -/
def l96 : LFun := ⟨1, 7, [],
 (.seq
 (.reg false [1] [1] [
 ⟨(some 1), .box, [(.t 0)], none, []⟩,
 ⟨(some 2), .mv, [(.c (.bool false))], none, []⟩] 0 [1])
 (.seq
 (.reg false [] [] [
 ⟨(some 3), (.load (some 15)), [(.t 1)], none, []⟩,
 ⟨(some 4), (.build [(.int .i64 0), (.int .i64 0), (.int .i64 0), (.int .i64 0), (.int .i64 0), (.int .i64 0), (.int .i64 0), (.int .i64 0), (.int .i64 0), (.bool false), (.int .i64 0), (.int .i64 0), (.int .i64 0), (.int .i64 0), (.int .i64 0)] [(0, 15)]), [(.t 3)], none, []⟩,
 ⟨(some 5), (.call false false false), [(.f 97), (.t 4)], none, []⟩,
 ⟨(some 6), (.un .not), [(.t 5)], none, []⟩,
 ⟨(some 2), .mv, [(.t 6)], none, []⟩] 0 [2])
 .ret)),
 [(.t 2)]⟩
theorem c96 : funC Try.prog [(0, [1]), (1, [2])] Try.f96 = some (unF l96) := by kernel_rfl
/-- (acme/swap.standard).isValid -/
def l97 : LFun := ⟨1, 36, [],
 (.seq
 (.reg false [1] [1] [
 ⟨(some 1), .box, [(.t 0)], none, []⟩,
 ⟨(some 2), .mv, [(.c (.bool false))], none, []⟩] 0 [1])
 (.seq
 (.reg false [6] [6] [
 ⟨(some 3), (.fa 0), [(.t 1)], none, []⟩,
 ⟨(some 4), (.fa 0), [(.t 3)], none, []⟩,
 ⟨(some 5), (.load none), [(.t 4)], none, []⟩,
 ⟨(some 6), (.bsl 1 [(.int .i64 0)] 1 [0]), [(.t 5)], none, []⟩,
 ⟨(some 7), (.call false false false), [(.f 36), (.c (.int .i64 0)), (.c (.int .i64 1000)), (.t 6)], none, []⟩,
 ⟨(some 8), .mv, [(.t 7)], none, []⟩,
 ⟨(some 9), (.fa 0), [(.t 1)], (some (8, true)), []⟩,
 ⟨(some 10), (.fa 1), [(.t 9)], (some (8, true)), []⟩,
 ⟨(some 11), (.load (some 2)), [(.t 10)], (some (8, true)), []⟩,
 ⟨(some 12), (.build [(.int .i64 0), (.int .i64 0)] [(0, 2)]), [(.t 11)], (some (8, true)), []⟩,
 ⟨(some 13), (.call false false false), [(.f 108), (.t 12)], (some (8, true)), []⟩,
 ⟨(some 14), .pick, [(.t 8), (.t 13), (.c (.bool false))], none, []⟩,
 ⟨(some 15), .mv, [(.t 14)], none, []⟩,
 ⟨(some 16), (.fa 0), [(.t 1)], (some (15, true)), []⟩,
 ⟨(some 17), (.fa 3), [(.t 16)], (some (15, true)), []⟩,
 ⟨(some 18), (.load (some 8)), [(.t 17)], (some (15, true)), []⟩,
 ⟨(some 19), (.call false false false), [(.f 35), (.t 18)], (some (15, true)), []⟩,
 ⟨(some 20), (.bin 0 .eql), [(.t 19), (.c (.int .i64 0))], (some (15, true)), []⟩,
 ⟨(some 21), .pick, [(.t 15), (.t 20), (.c (.bool false))], none, []⟩,
 ⟨(some 22), .mv, [(.t 21)], none, []⟩,
 ⟨(some 23), (.fa 0), [(.t 1)], (some (22, true)), []⟩,
 ⟨(some 24), (.fa 11), [(.t 23)], (some (22, true)), []⟩,
 ⟨(some 25), (.load (some 2)), [(.t 24)], (some (22, true)), []⟩,
 ⟨(some 26), (.build [(.int .i64 0), (.int .i64 0)] [(0, 2)]), [(.t 25)], (some (22, true)), []⟩,
 ⟨(some 27), (.call false false false), [(.f 109), (.t 26)], (some (22, true)), []⟩,
 ⟨(some 28), .pick, [(.t 22), (.t 27), (.c (.bool false))], none, []⟩,
 ⟨(some 29), .mv, [(.t 28)], none, []⟩,
 ⟨(some 30), (.fa 0), [(.t 1)], (some (29, true)), []⟩,
 ⟨(some 31), (.fa 13), [(.t 30)], (some (29, true)), []⟩,
 ⟨(some 32), (.load (some 2)), [(.t 31)], (some (29, true)), []⟩,
 ⟨(some 33), (.build [(.int .i64 0), (.int .i64 0)] [(0, 2)]), [(.t 32)], (some (29, true)), []⟩,
 ⟨(some 34), (.call false false false), [(.f 109), (.t 33)], (some (29, true)), []⟩,
 ⟨(some 35), .pick, [(.t 29), (.t 34), (.c (.bool false))], none, []⟩,
 ⟨(some 2), .mv, [(.t 35)], none, []⟩] 0 [2])
 .ret)),
 [(.t 2)]⟩
theorem c97 : funC Try.prog [(0, [1]), (1, [2])] Try.f97 = some (unF l97) := by kernel_rfl
/-- slices.Concat[[]int,int] -/
def b103_0 : LCode :=
 (.seq
 (.reg true [] [] [
 ⟨(some 12), (.bin 0 .lss), [(.t 11), (.t 10)], none, []⟩] 0 [0, 3, 9, 10, 11, 12])
 (.seq
 (.cond (.t 12)
 .skip
 (.exit 0))
 (.seq
 (.block 1
 (.seq
 (.reg true [] [] [
 ⟨(some 13), (.ixs 1), [(.t 9), (.t 11)], none, []⟩,
 ⟨(some 14), (.load none), [(.t 13)], none, []⟩,
 ⟨(some 5), .mv, [(.t 14)], none, []⟩] 0 [0, 3, 5, 9, 10, 11])
 (.seq
 (.reg true [] [] [
 ⟨(some 15), .mv, [(.t 3)], none, []⟩,
 ⟨(some 16), .mv, [(.t 5)], none, []⟩,
 ⟨(some 17), .len, [(.t 16)], none, []⟩,
 ⟨(some 18), (.bin 0 .add), [(.t 15), (.t 17)], none, []⟩,
 ⟨(some 3), .mv, [(.t 18)], none, []⟩] 0 [0, 3, 9, 10, 11])
 (.seq
 (.reg true [] [] [
 ⟨(some 19), .mv, [(.t 3)], none, []⟩,
 ⟨(some 20), (.bin 0 .lss), [(.t 19), (.c (.int .i64 0))], none, []⟩] 0 [0, 3, 9, 10, 11, 20])
 (.cond (.t 20)
 (.reg true [] [] [
 ⟨none, .bad, [], none, []⟩,
 ⟨none, .bad, [], none, []⟩] 0 [0, 3, 9, 10, 11])
 .skip)))))
 (.reg true [] [] [
 ⟨(some 22), (.bin 0 .add), [(.t 11), (.c (.int .i64 1))], none, []⟩,
 ⟨(some 11), .mv, [(.t 22)], none, []⟩] 0 [0, 3, 9, 10, 11]))))
def b103_1 : LCode :=
 (.seq
 (.reg true [] [] [
 ⟨(some 28), (.bin 0 .lss), [(.t 27), (.t 26)], none, []⟩] 0 [6, 25, 26, 27, 28])
 (.seq
 (.cond (.t 28)
 .skip
 (.exit 2))
 (.seq
 (.block 3
 (.seq
 (.reg true [] [] [
 ⟨(some 29), (.ixs 1), [(.t 25), (.t 27)], none, []⟩,
 ⟨(some 30), (.load none), [(.t 29)], none, []⟩,
 ⟨(some 8), .mv, [(.t 30)], none, []⟩] 0 [6, 8, 25, 26, 27])
 (.reg true [33] [] [
 ⟨(some 31), .mv, [(.t 6)], none, []⟩,
 ⟨(some 32), .mv, [(.t 8)], none, []⟩,
 ⟨(some 33), (.append false 1 8), [(.t 31), (.t 32)], none, []⟩,
 ⟨(some 6), .mv, [(.t 33)], none, []⟩] 0 [6, 25, 26, 27])))
 (.reg true [] [] [
 ⟨(some 34), (.bin 0 .add), [(.t 27), (.c (.int .i64 1))], none, []⟩,
 ⟨(some 27), .mv, [(.t 34)], none, []⟩] 0 [6, 25, 26, 27]))))
def l103 : LFun := ⟨1, 36, [],
 (.seq
 (.reg false [] [] [
 ⟨(some 2), .mv, [(.c .nil)], none, []⟩] 0 [0])
 (.seq
 (.reg false [] [] [
 ⟨(some 3), .mv, [(.c (.int .i64 0))], none, []⟩] 0 [0, 3])
 (.seq
 (.seq
 (.reg false [] [] [
 ⟨(some 9), .mv, [(.t 0)], none, []⟩,
 ⟨(some 10), .len, [(.t 9)], none, []⟩,
 ⟨(some 11), .mv, [(.c (.int .i64 0))], none, []⟩] 0 [0, 3, 9, 10, 11])
 (.block 0
 (.loop b103_0)))
 (.seq
 (.reg false [24] [24] [
 ⟨(some 23), .mv, [(.t 3)], none, []⟩,
 ⟨(some 24), (.call false false true), [(.f 111), (.c .nil), (.t 23)], none, []⟩,
 ⟨(some 6), .mv, [(.t 24)], none, []⟩] 0 [0, 6])
 (.seq
 (.seq
 (.reg false [] [] [
 ⟨(some 25), .mv, [(.t 0)], none, []⟩,
 ⟨(some 26), .len, [(.t 25)], none, []⟩,
 ⟨(some 27), .mv, [(.c (.int .i64 0))], none, []⟩] 0 [6, 25, 26, 27])
 (.block 2
 (.loop b103_1)))
 (.seq
 (.reg false [] [] [
 ⟨(some 35), .mv, [(.t 6)], none, []⟩,
 ⟨(some 2), .mv, [(.t 35)], none, []⟩] 0 [2])
 .ret)))))),
 [(.t 2)]⟩
theorem c103 : funC Try.prog [(0, [0]), (1, [0, 3]), (2, [0, 3, 9, 10, 11]), (3, [0, 3, 9, 10, 11, 12]), (4, [0, 3, 5, 9, 10, 11]), (5, [0, 3, 9, 10, 11]), (6, [0, 3, 9, 10, 11, 20]), (7, [0, 3, 9, 10, 11]), (8, [0, 3, 9, 10, 11]), (9, [0, 6]), (10, [6, 25, 26, 27]), (11, [6, 25, 26, 27, 28]), (12, [6, 8, 25, 26, 27]), (13, [6, 25, 26, 27]), (14, [6, 25, 26, 27]), (15, [2])] Try.f103 = some (unF l103) := by kernel_rfl
/-- slices.IndexFunc[[]acme/api.Span,acme/api.Span] -/
def b105_0 : LCode :=
 (.seq
 (.reg true [] [] [
 ⟨(some 9), (.bin 0 .lss), [(.t 8), (.t 7)], none, []⟩] 0 [0, 1, 7, 8, 9])
 (.seq
 (.cond (.t 9)
 .skip
 (.exit 0))
 (.seq
 (.block 1
 (.seq
 (.reg true [] [] [
 ⟨(some 10), .mv, [(.t 8)], none, []⟩,
 ⟨(some 5), .mv, [(.t 10)], none, []⟩] 0 [0, 1, 5, 7, 8])
 (.seq
 (.reg true [] [] [
 ⟨(some 11), .mv, [(.t 1)], none, []⟩,
 ⟨(some 12), .mv, [(.t 0)], none, []⟩,
 ⟨(some 13), .mv, [(.t 5)], none, []⟩,
 ⟨(some 14), (.ixs 2), [(.t 12), (.t 13)], none, []⟩,
 ⟨(some 15), (.load (some 2)), [(.t 14)], none, []⟩,
 ⟨(some 16), (.call false false false), [(.t 11), (.t 15)], none, []⟩] 0 [0, 1, 5, 7, 8, 16])
 (.cond (.t 16)
 (.seq
 (.reg true [] [] [
 ⟨(some 17), .mv, [(.t 5)], none, []⟩,
 ⟨(some 4), .mv, [(.t 17)], none, []⟩] 0 [4])
 .ret)
 .skip))))
 (.reg true [] [] [
 ⟨(some 18), (.bin 0 .add), [(.t 8), (.c (.int .i64 1))], none, []⟩,
 ⟨(some 8), .mv, [(.t 18)], none, []⟩] 0 [0, 1, 7, 8]))))
def l105 : LFun := ⟨2, 19, [],
 (.seq
 (.reg false [] [] [
 ⟨(some 4), .mv, [(.c (.int .i64 0))], none, []⟩] 0 [0, 1])
 (.seq
 (.seq
 (.reg false [] [] [
 ⟨(some 6), .mv, [(.t 0)], none, []⟩,
 ⟨(some 7), .len, [(.t 6)], none, []⟩,
 ⟨(some 8), .mv, [(.c (.int .i64 0))], none, []⟩] 0 [0, 1, 7, 8])
 (.block 0
 (.loop b105_0)))
 (.seq
 (.reg false [] [] [
 ⟨(some 4), .mv, [(.c (.int .i64 (-1)))], none, []⟩] 0 [4])
 .ret))),
 [(.t 4)]⟩
theorem c105 : funC Try.prog [(0, [0, 1]), (1, [0, 1, 7, 8]), (2, [0, 1, 7, 8, 9]), (3, [0, 1, 5, 7, 8]), (4, [0, 1, 5, 7, 8, 16]), (5, [4]), (6, [0, 1, 7, 8]), (7, [4])] Try.f105 = some (unF l105) := by kernel_rfl
/-- math/bits.Mul -/
def l106 : LFun := ⟨2, 30, [],
 (.seq
 (.reg false [] [] [
 ⟨(some 4), .mv, [(.c (.int .u64 0))], none, []⟩,
 ⟨(some 5), .mv, [(.c (.int .u64 0))], none, []⟩] 0 [0, 1])
 (.seq
 (.cond (.c (.bool false))
 (.seq
 (.reg false [] [] [
 ⟨(some 11), .mv, [(.t 0)], none, []⟩,
 ⟨(some 12), (.conv .u32), [(.t 11)], none, []⟩,
 ⟨(some 13), .mv, [(.t 1)], none, []⟩,
 ⟨(some 14), (.conv .u32), [(.t 13)], none, []⟩,
 ⟨(some 15), (.call false false false), [(.f 112), (.t 12), (.t 14)], none, []⟩,
 ⟨(some 10), .mv, [(.t 15)], none, []⟩,
 ⟨(some 16), (.ext 0), [(.t 10)], none, []⟩,
 ⟨(some 17), (.ext 1), [(.t 10)], none, []⟩,
 ⟨(some 6), .mv, [(.t 16)], none, []⟩,
 ⟨(some 7), .mv, [(.t 17)], none, []⟩] 0 [6, 7])
 (.seq
 (.reg false [] [] [
 ⟨(some 18), .mv, [(.t 6)], none, []⟩,
 ⟨(some 19), (.conv .u64), [(.t 18)], none, []⟩,
 ⟨(some 20), .mv, [(.t 7)], none, []⟩,
 ⟨(some 21), (.conv .u64), [(.t 20)], none, []⟩,
 ⟨(some 4), .mv, [(.t 19)], none, []⟩,
 ⟨(some 5), .mv, [(.t 21)], none, []⟩] 0 [4, 5])
 .ret))
 .skip)
 (.seq
 (.reg false [] [] [
 ⟨(some 23), .mv, [(.t 0)], none, []⟩,
 ⟨(some 24), .mv, [(.t 1)], none, []⟩,
 ⟨(some 25), (.call false false false), [(.f 113), (.t 23), (.t 24)], none, []⟩,
 ⟨(some 22), .mv, [(.t 25)], none, []⟩,
 ⟨(some 26), (.ext 0), [(.t 22)], none, []⟩,
 ⟨(some 27), (.ext 1), [(.t 22)], none, []⟩,
 ⟨(some 8), .mv, [(.t 26)], none, []⟩,
 ⟨(some 9), .mv, [(.t 27)], none, []⟩] 0 [8, 9])
 (.seq
 (.reg false [] [] [
 ⟨(some 28), .mv, [(.t 8)], none, []⟩,
 ⟨(some 29), .mv, [(.t 9)], none, []⟩,
 ⟨(some 4), .mv, [(.t 28)], none, []⟩,
 ⟨(some 5), .mv, [(.t 29)], none, []⟩] 0 [4, 5])
 .ret)))),
 [(.t 4), (.t 5)]⟩
theorem c106 : funC Try.prog [(0, [0, 1]), (1, [6, 7]), (2, [4, 5]), (3, [8, 9]), (4, [4, 5])] Try.f106 = some (unF l106) := by kernel_rfl
/-- slices.IndexFunc[[]acme/api.SwapStandard,acme/api.SwapStandard] -/
def b107_0 : LCode :=
 (.seq
 (.reg true [] [] [
 ⟨(some 9), (.bin 0 .lss), [(.t 8), (.t 7)], none, []⟩] 0 [0, 1, 7, 8, 9])
 (.seq
 (.cond (.t 9)
 .skip
 (.exit 0))
 (.seq
 (.block 1
 (.seq
 (.reg true [] [] [
 ⟨(some 10), .mv, [(.t 8)], none, []⟩,
 ⟨(some 5), .mv, [(.t 10)], none, []⟩] 0 [0, 1, 5, 7, 8])
 (.seq
 (.reg true [] [] [
 ⟨(some 11), .mv, [(.t 1)], none, []⟩,
 ⟨(some 12), .mv, [(.t 0)], none, []⟩,
 ⟨(some 13), .mv, [(.t 5)], none, []⟩,
 ⟨(some 14), (.ixs 15), [(.t 12), (.t 13)], none, []⟩,
 ⟨(some 15), (.load (some 15)), [(.t 14)], none, []⟩,
 ⟨(some 16), (.call false false false), [(.t 11), (.t 15)], none, []⟩] 0 [0, 1, 5, 7, 8, 16])
 (.cond (.t 16)
 (.seq
 (.reg true [] [] [
 ⟨(some 17), .mv, [(.t 5)], none, []⟩,
 ⟨(some 4), .mv, [(.t 17)], none, []⟩] 0 [4])
 .ret)
 .skip))))
 (.reg true [] [] [
 ⟨(some 18), (.bin 0 .add), [(.t 8), (.c (.int .i64 1))], none, []⟩,
 ⟨(some 8), .mv, [(.t 18)], none, []⟩] 0 [0, 1, 7, 8]))))
def l107 : LFun := ⟨2, 19, [],
 (.seq
 (.reg false [] [] [
 ⟨(some 4), .mv, [(.c (.int .i64 0))], none, []⟩] 0 [0, 1])
 (.seq
 (.seq
 (.reg false [] [] [
 ⟨(some 6), .mv, [(.t 0)], none, []⟩,
 ⟨(some 7), .len, [(.t 6)], none, []⟩,
 ⟨(some 8), .mv, [(.c (.int .i64 0))], none, []⟩] 0 [0, 1, 7, 8])
 (.block 0
 (.loop b107_0)))
 (.seq
 (.reg false [] [] [
 ⟨(some 4), .mv, [(.c (.int .i64 (-1)))], none, []⟩] 0 [4])
 .ret))),
 [(.t 4)]⟩
theorem c107 : funC Try.prog [(0, [0, 1]), (1, [0, 1, 7, 8]), (2, [0, 1, 7, 8, 9]), (3, [0, 1, 5, 7, 8]), (4, [0, 1, 5, 7, 8, 16]), (5, [4]), (6, [0, 1, 7, 8]), (7, [4])] Try.f107 = some (unF l107) := by kernel_rfl
/-- (acme/swap.span).isYears -/
def l108 : LFun := ⟨1, 5, [],
 (.seq
 (.reg false [1] [1] [
 ⟨(some 1), .box, [(.t 0)], none, []⟩,
 ⟨(some 2), .mv, [(.c (.bool false))], none, []⟩] 0 [1])
 (.seq
 (.reg false [] [] [
 ⟨(some 3), (.load (some 2)), [(.t 1)], none, []⟩,
 ⟨(some 4), (.call false false false), [(.f 69), (.t 3), (.c (.int .i64 0)), (.c (.int .i64 3000))], none, []⟩,
 ⟨(some 2), .mv, [(.t 4)], none, []⟩] 0 [2])
 .ret)),
 [(.t 2)]⟩
theorem c108 : funC Try.prog [(0, [1]), (1, [2])] Try.f108 = some (unF l108) := by kernel_rfl
/-- (acme/swap.span).isSize -/
def l109 : LFun := ⟨1, 5, [],
 (.seq
 (.reg false [1] [1] [
 ⟨(some 1), .box, [(.t 0)], none, []⟩,
 ⟨(some 2), .mv, [(.c (.bool false))], none, []⟩] 0 [1])
 (.seq
 (.reg false [] [] [
 ⟨(some 3), (.load (some 2)), [(.t 1)], none, []⟩,
 ⟨(some 4), (.call false false false), [(.f 69), (.t 3), (.c (.int .i64 (-10000))), (.c (.int .i64 10000))], none, []⟩,
 ⟨(some 2), .mv, [(.t 4)], none, []⟩] 0 [2])
 .ret)),
 [(.t 2)]⟩
theorem c109 : funC Try.prog [(0, [1]), (1, [2])] Try.f109 = some (unF l109) := by kernel_rfl
/-- slices.Grow[[]int,int] -/
def l111 : LFun := ⟨2, 27, [],
 (.seq
 (.reg false [] [] [
 ⟨(some 4), .mv, [(.c .nil)], none, []⟩] 0 [0, 1])
 (.seq
 (.seq
 (.reg false [] [] [
 ⟨(some 5), .mv, [(.t 1)], none, []⟩,
 ⟨(some 6), (.bin 0 .lss), [(.t 5), (.c (.int .i64 0))], none, []⟩] 0 [0, 1, 6])
 (.cond (.t 6)
 (.reg false [] [] [
 ⟨none, .bad, [], none, []⟩,
 ⟨none, .bad, [], none, []⟩] 0 [0, 1])
 .skip))
 (.seq
 (.seq
 (.reg false [] [] [
 ⟨(some 8), .mv, [(.t 1)], none, []⟩,
 ⟨(some 9), .mv, [(.t 0)], none, []⟩,
 ⟨(some 10), .cap, [(.t 9)], none, []⟩,
 ⟨(some 11), .mv, [(.t 0)], none, []⟩,
 ⟨(some 12), .len, [(.t 11)], none, []⟩,
 ⟨(some 13), (.bin 0 .sub), [(.t 10), (.t 12)], none, []⟩,
 ⟨(some 14), (.bin 0 .sub), [(.t 8), (.t 13)], none, []⟩,
 ⟨(some 1), .mv, [(.t 14)], none, []⟩] 0 [0, 1])
 (.seq
 (.reg false [] [] [
 ⟨(some 15), .mv, [(.t 1)], none, []⟩,
 ⟨(some 16), (.bin 0 .gtr), [(.t 15), (.c (.int .i64 0))], none, []⟩] 0 [0, 1, 16])
 (.cond (.t 16)
 (.reg false [22] [] [
 ⟨(some 17), .mv, [(.t 0)], none, []⟩,
 ⟨(some 18), .mv, [(.t 0)], none, []⟩,
 ⟨(some 19), .cap, [(.t 18)], none, []⟩,
 ⟨(some 20), (.sls 1 false true false), [(.t 17), (.t 19)], none, []⟩,
 ⟨(some 21), .mv, [(.t 1)], none, []⟩,
 ⟨(some 22), (.appz 1 8 [(.int .i64 0)]), [(.t 20), (.t 21)], none, []⟩,
 ⟨(some 23), .mv, [(.t 0)], none, []⟩,
 ⟨(some 24), .len, [(.t 23)], none, []⟩,
 ⟨(some 25), (.trunc 1), [(.t 22), (.t 24)], none, []⟩,
 ⟨(some 0), .mv, [(.t 25)], none, []⟩] 0 [0])
 .skip)))
 (.seq
 (.reg false [] [] [
 ⟨(some 26), .mv, [(.t 0)], none, []⟩,
 ⟨(some 4), .mv, [(.t 26)], none, []⟩] 0 [4])
 .ret)))),
 [(.t 4)]⟩
theorem c111 : funC Try.prog [(0, [0, 1]), (1, [0, 1, 6]), (2, [0, 1]), (3, [0, 1]), (4, [0, 1, 16]), (5, [0]), (6, [4])] Try.f111 = some (unF l111) := by kernel_rfl
/-- math/bits.Mul32 -/
def l112 : LFun := ⟨2, 17, [],
 (.seq
 (.reg false [] [] [
 ⟨(some 4), .mv, [(.c (.int .u32 0))], none, []⟩,
 ⟨(some 5), .mv, [(.c (.int .u32 0))], none, []⟩] 0 [0, 1])
 (.seq
 (.reg false [] [] [
 ⟨(some 7), .mv, [(.t 0)], none, []⟩,
 ⟨(some 8), (.conv .u64), [(.t 7)], none, []⟩,
 ⟨(some 9), .mv, [(.t 1)], none, []⟩,
 ⟨(some 10), (.conv .u64), [(.t 9)], none, []⟩,
 ⟨(some 11), (.bin 0 .mul), [(.t 8), (.t 10)], none, []⟩,
 ⟨(some 6), .mv, [(.t 11)], none, []⟩] 0 [6])
 (.seq
 (.reg false [] [] [
 ⟨(some 12), .mv, [(.t 6)], none, []⟩,
 ⟨(some 13), (.bin 0 .shr), [(.t 12), (.c (.int .u64 32))], none, []⟩,
 ⟨(some 14), (.conv .u32), [(.t 13)], none, []⟩,
 ⟨(some 15), .mv, [(.t 6)], none, []⟩,
 ⟨(some 16), (.conv .u32), [(.t 15)], none, []⟩,
 ⟨(some 4), .mv, [(.t 14)], none, []⟩,
 ⟨(some 5), .mv, [(.t 16)], none, []⟩] 0 [4, 5])
 .ret))),
 [(.t 4), (.t 5)]⟩
theorem c112 : funC Try.prog [(0, [0, 1]), (1, [6]), (2, [4, 5])] Try.f112 = some (unF l112) := by kernel_rfl
/-- math/bits.Mul64 -/
def l113 : LFun := ⟨2, 51, [],
 (.seq
 (.reg false [] [] [
 ⟨(some 4), .mv, [(.c (.int .u64 0))], none, []⟩,
 ⟨(some 5), .mv, [(.c (.int .u64 0))], none, []⟩] 0 [0, 1])
 (.seq
 (.reg false [] [] [
 ⟨(some 14), .mv, [(.t 0)], none, []⟩,
 ⟨(some 15), (.bin 0 .and), [(.t 14), (.c (.int .u64 4294967295))], none, []⟩,
 ⟨(some 6), .mv, [(.t 15)], none, []⟩] 0 [0, 1, 6])
 (.seq
 (.reg false [] [] [
 ⟨(some 16), .mv, [(.t 0)], none, []⟩,
 ⟨(some 17), (.bin 0 .shr), [(.t 16), (.c (.int .u64 32))], none, []⟩,
 ⟨(some 7), .mv, [(.t 17)], none, []⟩] 0 [0, 1, 6, 7])
 (.seq
 (.reg false [] [] [
 ⟨(some 18), .mv, [(.t 1)], none, []⟩,
 ⟨(some 19), (.bin 0 .and), [(.t 18), (.c (.int .u64 4294967295))], none, []⟩,
 ⟨(some 8), .mv, [(.t 19)], none, []⟩] 0 [0, 1, 6, 7, 8])
 (.seq
 (.reg false [] [] [
 ⟨(some 20), .mv, [(.t 1)], none, []⟩,
 ⟨(some 21), (.bin 0 .shr), [(.t 20), (.c (.int .u64 32))], none, []⟩,
 ⟨(some 9), .mv, [(.t 21)], none, []⟩] 0 [0, 1, 6, 7, 8, 9])
 (.seq
 (.reg false [] [] [
 ⟨(some 22), .mv, [(.t 6)], none, []⟩,
 ⟨(some 23), .mv, [(.t 8)], none, []⟩,
 ⟨(some 24), (.bin 0 .mul), [(.t 22), (.t 23)], none, []⟩,
 ⟨(some 10), .mv, [(.t 24)], none, []⟩] 0 [0, 1, 6, 7, 8, 9, 10])
 (.seq
 (.reg false [] [] [
 ⟨(some 25), .mv, [(.t 7)], none, []⟩,
 ⟨(some 26), .mv, [(.t 8)], none, []⟩,
 ⟨(some 27), (.bin 0 .mul), [(.t 25), (.t 26)], none, []⟩,
 ⟨(some 28), .mv, [(.t 10)], none, []⟩,
 ⟨(some 29), (.bin 0 .shr), [(.t 28), (.c (.int .u64 32))], none, []⟩,
 ⟨(some 30), (.bin 0 .add), [(.t 27), (.t 29)], none, []⟩,
 ⟨(some 11), .mv, [(.t 30)], none, []⟩] 0 [0, 1, 6, 7, 9, 11])
 (.seq
 (.reg false [] [] [
 ⟨(some 31), .mv, [(.t 11)], none, []⟩,
 ⟨(some 32), (.bin 0 .and), [(.t 31), (.c (.int .u64 4294967295))], none, []⟩,
 ⟨(some 12), .mv, [(.t 32)], none, []⟩] 0 [0, 1, 6, 7, 9, 11, 12])
 (.seq
 (.reg false [] [] [
 ⟨(some 33), .mv, [(.t 11)], none, []⟩,
 ⟨(some 34), (.bin 0 .shr), [(.t 33), (.c (.int .u64 32))], none, []⟩,
 ⟨(some 13), .mv, [(.t 34)], none, []⟩] 0 [0, 1, 6, 7, 9, 12, 13])
 (.seq
 (.reg false [] [] [
 ⟨(some 35), .mv, [(.t 12)], none, []⟩,
 ⟨(some 36), .mv, [(.t 6)], none, []⟩,
 ⟨(some 37), .mv, [(.t 9)], none, []⟩,
 ⟨(some 38), (.bin 0 .mul), [(.t 36), (.t 37)], none, []⟩,
 ⟨(some 39), (.bin 0 .add), [(.t 35), (.t 38)], none, []⟩,
 ⟨(some 12), .mv, [(.t 39)], none, []⟩] 0 [0, 1, 7, 9, 12, 13])
 (.seq
 (.reg false [] [] [
 ⟨(some 40), .mv, [(.t 7)], none, []⟩,
 ⟨(some 41), .mv, [(.t 9)], none, []⟩,
 ⟨(some 42), (.bin 0 .mul), [(.t 40), (.t 41)], none, []⟩,
 ⟨(some 43), .mv, [(.t 13)], none, []⟩,
 ⟨(some 44), (.bin 0 .add), [(.t 42), (.t 43)], none, []⟩,
 ⟨(some 45), .mv, [(.t 12)], none, []⟩,
 ⟨(some 46), (.bin 0 .shr), [(.t 45), (.c (.int .u64 32))], none, []⟩,
 ⟨(some 47), (.bin 0 .add), [(.t 44), (.t 46)], none, []⟩,
 ⟨(some 4), .mv, [(.t 47)], none, []⟩] 0 [0, 1, 4])
 (.seq
 (.reg false [] [] [
 ⟨(some 48), .mv, [(.t 0)], none, []⟩,
 ⟨(some 49), .mv, [(.t 1)], none, []⟩,
 ⟨(some 50), (.bin 0 .mul), [(.t 48), (.t 49)], none, []⟩,
 ⟨(some 5), .mv, [(.t 50)], none, []⟩] 0 [4, 5])
 .ret)))))))))))),
 [(.t 4), (.t 5)]⟩
theorem c113 : funC Try.prog [(0, [0, 1]), (1, [0, 1, 6]), (2, [0, 1, 6, 7]), (3, [0, 1, 6, 7, 8]), (4, [0, 1, 6, 7, 8, 9]), (5, [0, 1, 6, 7, 8, 9, 10]), (6, [0, 1, 6, 7, 9, 11]), (7, [0, 1, 6, 7, 9, 11, 12]), (8, [0, 1, 6, 7, 9, 12, 13]), (9, [0, 1, 7, 9, 12, 13]), (10, [0, 1, 4]), (11, [4, 5])] Try.f113 = some (unF l113) := by kernel_rfl
end Go.Lo
