/- Texts put together. -/
import Derived.Test.YtcihkhhkppjcmaaPd
/- Code and functions of the plain machine do what the logical ones do. -/
namespace Go.Lo
section
variable {call2 call : Nat → List V → Option V}

theorem stepI_sim (hc : CallSim call2 call) {i : LIns} (hi : okI i = true) {σ2 σ σ2' : St} (h : RelS σ2 σ) (hs : stepI2 call2 i σ2 = some σ2') : ∃ σ', stepI call (unI i) σ = some σ' ∧ RelS σ2' σ' := by
  unfold okI at hi
  simp only [Bool.and_eq_true] at hi
  unfold stepI2 at hs
  split at hs
  · rename_i hw
    split at hs
    · rename_i ws hws
      split at hs
      · rename_i e2 he
        simp only [Option.some.injEq] at hs; subst hs
        obtain ⟨vs, g1, g2⟩ := opds_rel h.fr hi.2 hws
        obtain ⟨e, g3, g4⟩ := sem_sim hc h hi.1 g2 he
        refine ⟨apply σ i.dst e, ?_, g4⟩
        unfold stepI unI
        simp only [wanted_rel h.fr hw, g1, g3]
      · cases hs
    · cases hs
  · rename_i hw
    simp only [Option.some.injEq] at hs; subst hs
    refine ⟨{ σ with fr := putO σ.fr i.dst .und }, ?_, h.fr.putO (by simp only [Rel]) _, h.tr⟩
    unfold stepI unI
    simp only [wanted_rel h.fr hw]
  · cases hs
theorem stepL_sim (hc : CallSim call2 call) : ∀ {is : List LIns} {σ2 σ σ2' : St}, is.all okI = true → RelS σ2 σ → stepL2 call2 is σ2 = some σ2' → ∃ σ', stepL call (is.map unI) σ = some σ' ∧ RelS σ2' σ'
  | [], σ2, σ, σ2', _, h, hs => by
    simp only [stepL2, Option.some.injEq] at hs; subst hs
    exact ⟨σ, rfl, h⟩
  | i :: is, σ2, σ, σ2', hi, h, hs => by
    simp only [List.all_cons, Bool.and_eq_true] at hi
    simp only [stepL2] at hs
    split at hs
    · rename_i σ1 h1
      obtain ⟨σ1', g1, g2⟩ := stepI_sim hc hi.1 h h1
      obtain ⟨σ', g3, g4⟩ := stepL_sim hc hi.2 g2 hs
      exact ⟨σ', by simp only [List.map_cons, stepL, g1, g3], g4⟩
    · cases hs
/-- One part of code beside another. -/
def CSim (f2 f : St → Option (Ex × St)) : Prop := ∀ σ2 σ ex σ2', RelS σ2 σ → f2 σ2 = some (ex, σ2') → ∃ σ', f σ = some (ex, σ') ∧ RelS σ2' σ'
theorem iter_sim {f2 f : St → Option (Ex × St)} (h : CSim f2 f) : ∀ n, CSim (iter f2 n) (iter f n)
  | 0, _, _, _, _, _, hs => by simp [iter] at hs
  | n + 1, σ2, σ, ex, σ2', hr, hs => by
    simp only [iter] at hs ⊢
    split at hs
    · rename_i σ1 h1
      obtain ⟨σ1', g1, g2⟩ := h _ _ _ _ hr h1
      obtain ⟨σ', g3, g4⟩ := iter_sim h n _ _ _ _ g2 hs
      exact ⟨σ', by rw [g1]; exact g3, g4⟩
    · rename_i hne
      obtain ⟨σ', g1, g2⟩ := h _ _ _ _ hr hs
      refine ⟨σ', ?_, g2⟩
      rw [g1]
      cases ex with
      | normal => exact (hne _ hs).elim
      | exit id => rfl
      | ret => rfl
theorem putA_rel {tk : TkF} : ∀ {ps : List Nat} {ws vs : List V} {fr2 fr : List (Nat × V)}, RelL ws noT vs → RelFr fr2 fr tk → RelFr (putA ps ws fr2) (putA ps vs fr) tk
  | [], ws, vs, fr2, fr, _, h => by simpa only [putA] using h
  | p :: ps, [], vs, fr2, fr, hw, h => by have := hw.inv0; subst this; simpa only [putA] using h
  | p :: ps, w :: ws, vs, fr2, fr, hw, h => by
    obtain ⟨v, r, rfl, h1, h2⟩ := hw.inv
    simp only [putA]
    exact putA_rel h2 (h.put h1.wk p)
def RSim (f2 f : St → List V → Option (Ex × St)) : Prop := ∀ σ2 σ as2 as9 ex σ2', RelS σ2 σ → RelL as2 noT as9 → f2 σ2 as2 = some (ex, σ2') → ∃ σ', f σ as9 = some (ex, σ') ∧ RelS σ2' σ'
theorem round_sim {a2 a b2 b : St → Option (Ex × St)} (ha : CSim a2 a) (hb : CSim b2 b) (ps wr : List Nat) : RSim (roundE a2 b2 ps wr) (roundE a b ps wr) := by
  intro σ2 σ as2 as9 ex σ2' h hw hs
  unfold roundE at hs ⊢
  split at hs
  · rename_i hl
    rw [if_pos (by rw [hw.length]; exact hl)]
    split at hs
    · rename_i σ1 h1
      obtain ⟨σ1', g1, g2⟩ := ha { σ2 with fr := putA ps as2 (dropL wr σ2.fr) } { σ with fr := putA ps as9 (dropL wr σ.fr) } _ _ ⟨putA_rel hw (h.fr.drop wr), h.tr⟩ h1
      rw [g1]
      simp only
      split at hs
      · rename_i ex' σ3 h3
        simp only [Option.some.injEq, Prod.mk.injEq] at hs
        obtain ⟨rfl, rfl⟩ := hs
        obtain ⟨σ3', g3, g4⟩ := hb _ _ _ _ g2 h3
        rw [g3]
        exact ⟨_, rfl, g4.fr.drop wr, g4.tr⟩
      · cases hs
    · cases hs
  · cases hs
theorem fold_sim {f2 f : St → List V → Option (Ex × St)} (hf : RSim f2 f) : ∀ {l2 l : List (List V)} {k : Nat} {σ2 σ : St} {r : Option (Nat × Ex)} {σ2' : St}, RelE l2 l → RelS σ2 σ → foldR f2 k σ2 l2 = some (r, σ2') → ∃ σ', foldR f k σ l = some (r, σ') ∧ RelS σ2' σ'
  | [], l, k, σ2, σ, r, σ2', hl, h, hs => by
    have := hl.nil_left; subst this
    simp only [foldR, Option.some.injEq, Prod.mk.injEq] at hs
    obtain ⟨rfl, rfl⟩ := hs
    exact ⟨σ, rfl, h⟩
  | x :: l2, l, k, σ2, σ, r, σ2', hl, h, hs => by
    simp only [RelE] at hl
    obtain ⟨y, l1, rfl, h1, h2⟩ := hl
    simp only [foldR] at hs ⊢
    split at hs
    · rename_i σ1 e1
      obtain ⟨σ1', g1, g2⟩ := hf _ _ _ _ _ _ h h1 e1
      rw [g1]
      exact fold_sim hf h2 g2 hs
    · rename_i ex σ1 hne e1
      simp only [Option.some.injEq, Prod.mk.injEq] at hs
      obtain ⟨rfl, rfl⟩ := hs
      obtain ⟨σ1', g1, g2⟩ := hf _ _ _ _ _ _ h h1 e1
      rw [g1]
      cases ex with
      | normal => exact (hne rfl).elim
      | exit id => exact ⟨σ1', rfl, g2⟩
      | ret => exact ⟨σ1', rfl, g2⟩
    · cases hs
theorem rng_sim {f2 f : St → List V → Option (Ex × St)} (hf : RSim f2 f) {it2 it : Nat → Option V} (hit : ∀ a l2, itemsOf (it2 a) = some l2 → ∃ l, itemsOf (it a) = some l ∧ RelE l2 l) : CSim (rngE f2 it2) (rngE f it) := by
  intro σ2 σ ex σ2' h hs
  unfold rngE at hs ⊢
  split at hs
  · cases hs
  · rename_i items h1
    obtain ⟨l, g1, g2⟩ := hit _ _ h1
    rw [g1]
    simp only
    split at hs
    · rename_i σ1 h2
      simp only [Option.some.injEq, Prod.mk.injEq] at hs
      obtain ⟨rfl, rfl⟩ := hs
      obtain ⟨σ', g3, g4⟩ := fold_sim hf g2 h h2
      rw [g3]
      exact ⟨σ', rfl, g4⟩
    · rename_i k e σ1 h2
      obtain ⟨σ', g3, g4⟩ := fold_sim hf g2 h h2
      rw [g3]
      simp only
      split at hs
      · cases hs
      · rename_i items' h3
        obtain ⟨l', g5, g6⟩ := hit _ _ h3
        rw [g5]
        simp only
        split at hs
        · rename_i k' ex' σ3 h4
          split at hs
          · rename_i hcond
            simp only [Option.some.injEq, Prod.mk.injEq] at hs
            obtain ⟨rfl, rfl⟩ := hs
            obtain ⟨σ3', g7, g8⟩ := fold_sim hf g6 h h4
            rw [g7]
            refine ⟨σ3', ?_, g8⟩
            simp only
            rw [if_pos ⟨hcond.1, by rw [g6.length]; exact hcond.2⟩]
          · cases hs
        · cases hs
    · cases hs
theorem pm_items {as2 as9 : List V} (h : RelL as2 noT as9) (k : (as2.all fun v => v.cells.all V.pm) = true) : (as9.all fun v => v.cells.all V.pm) = true := by
  induction as2 generalizing as9 with
  | nil => have := h.inv0; subst this; rfl
  | cons x a ih =>
    obtain ⟨y, b', rfl, k1, k2⟩ := h.inv
    simp only [List.all_cons, Bool.and_eq_true] at k ⊢
    exact ⟨((k1.cells (all_pm_cellOk k.1)).pm k.1).1, ih k2 k.2⟩
theorem andO_some {x y : Option Bool} {c : Bool} (h : andO x y = some c) : ∃ a b, x = some a ∧ y = some b ∧ c = (a || b) := by
  cases x <;> cases y <;> simp only [andO, reduceCtorEq, Option.some.injEq] at h
  exact ⟨_, _, rfl, rfl, h.symm⟩
theorem slT_rel {ts : List Nat} {w v : V} {tk : TkF} {c : Bool} (h : Rel w tk v) (ht : slT2 ts w = some c) : slT ts v = c := by
  cases w
  case sl t sz es =>
    cases t with
    | none =>
      simp only [slT2, Option.some.injEq] at ht; subst ht
      simp only [Rel] at h
      rcases h with ⟨_, rfl⟩ | ⟨es', rfl, _⟩ <;> rfl
    | some u =>
      simp only [Rel] at h
      rcases h with ⟨h1, rfl, rfl⟩ | ⟨es', rfl, h1, w0, _, _, _, h2⟩
      · simp only [slT2, h1, Option.some.injEq] at ht; subst ht; rfl
      · simp only [slT]
        cases es with
        | nil =>
          simp only [slT2, Option.some.injEq] at ht
          have : mbT u = false := by
            cases hm : mbT u with
            | false => rfl
            | true => exact absurd rfl (h2 hm)
          rw [this] at ht
          simpa using ht
        | cons e es => simpa only [slT2, Option.some.injEq] using ht
  case dead => simp [slT2] at ht
  all_goals
    simp only [slT2, Option.some.injEq] at ht; subst ht
    simp only [Rel] at h
    first
      | (subst h; rfl)
      | (obtain ⟨ds, rfl, _⟩ := h; rfl)
theorem slTL_rel {ts : List Nat} {tk : TkF} : ∀ {ws vs : List V} {c : Bool}, RelL ws tk vs → slTL2 ts ws = some c → vs.any (slT ts) = c
  | [], vs, c, h, ht => by
    have := h.inv0; subst this
    simpa only [slTL2, Option.some.injEq, List.any_nil] using ht
  | w :: ws, vs, c, h, ht => by
    obtain ⟨v, r, rfl, h1, h2⟩ := h.inv
    simp only [slTL2] at ht
    obtain ⟨a, b, q1, q2, rfl⟩ := andO_some ht
    rw [List.any_cons, slT_rel h1 q1, slTL_rel h2 q2]
theorem hasT_rel {ts : List Nat} {w v : V} {tk : TkF} {c : Bool} (h : Rel w tk v) (ht : hasT2 ts w = some c) : hasT ts v = c := by
  cases w
  case box cs =>
    simp only [Rel] at h
    obtain ⟨ds, rfl, h1⟩ := h
    exact slTL_rel h1 ht
  case dead => simp [hasT2, slT2] at ht
  case sl t sz es =>
    have k := slT_rel (ts := ts) h ht
    cases t with
    | none => simp only [Rel] at h; rcases h with ⟨_, rfl⟩ | ⟨es', rfl, _⟩ <;> exact k
    | some u => simp only [Rel] at h; rcases h with ⟨_, _, rfl⟩ | ⟨es', rfl, _⟩ <;> exact k
  all_goals
    have k := slT_rel (ts := ts) h ht
    simp only [Rel] at h
    first
      | (subst h; exact k)
      | (obtain ⟨ds, rfl, _⟩ := h; exact k)
theorem rel_nr {w v : V} {tk : TkF} (h : Rel w tk v) (hw : ∀ s o, w ≠ .ref s o) : w = .dead ∨ ∀ s o, v ≠ .ref s o := by
  cases w with
  | dead => exact .inl rfl
  | ref s o => exact absurd rfl (hw s o)
  | sl t sz es =>
    cases t with
    | none =>
      simp only [Rel] at h
      rcases h with ⟨_, rfl⟩ | ⟨_, rfl, _⟩ <;> exact .inr fun _ _ e => by cases e
    | some u =>
      simp only [Rel] at h
      rcases h with ⟨_, _, rfl⟩ | ⟨_, rfl, _⟩ <;> exact .inr fun _ _ e => by cases e
  | _ =>
    simp only [Rel] at h
    first
      | (subst h; exact .inr fun _ _ e => by cases e)
      | (obtain ⟨_, rfl, _⟩ := h; exact .inr fun _ _ e => by cases e)
theorem getR_rel {fr2 fr : List (Nat × V)} {tk : TkF} (h : RelFr fr2 fr tk) {k : Nat} {w : V} (hw : getR fr2 k = some w) : w = .dead ∨ ∃ v, getR fr k = some v ∧ Rel w tk v := by
  unfold getR at hw ⊢
  cases hk : get fr2 k with
  | none => rw [hk] at hw; cases hw
  | some u =>
    rw [hk] at hw
    rcases h k u hk with rfl | ⟨v, g1, g2⟩
    · injection hw with hw; exact .inl hw.symm
    · by_cases hr : ∃ s o, u = .ref s o
      · obtain ⟨s, o, rfl⟩ := hr
        simp only [Rel] at g2
        subst g2
        rw [g1]
        exact h s w hw
      · have e : w = u := by
            cases u with
            | ref s o => exact absurd ⟨s, o, rfl⟩ hr
            | _ => simp only [Option.some.injEq] at hw; exact hw.symm
        subst e
        rcases rel_nr g2 (fun s o e => hr ⟨s, o, e⟩) with h1 | h1
        · exact .inl h1
        · refine .inr ⟨v, ?_, g2⟩
          rw [g1]
          cases v with
          | ref s o => exact absurd rfl (h1 s o)
          | _ => rfl
theorem altT_rel {ts : List Nat} {fr2 fr : List (Nat × V)} {tk : TkF} (h : RelFr fr2 fr tk) : ∀ {ks : List Nat} {c : Bool}, altT2 ts fr2 ks = some c → altT ts fr ks = c
  | [], c, ht => by simpa only [altT2, Option.some.injEq, altT] using ht
  | k :: ks, c, ht => by
    simp only [altT2] at ht
    split at ht
    · rename_i w hw
      obtain ⟨a, b, q1, q2, rfl⟩ := andO_some ht
      rcases getR_rel h hw with rfl | ⟨v, g1, g2⟩
      · simp [hasT2, slT2] at q1
      · simp only [altT, g1, hasT_rel g2 q1, altT_rel h q2]
    · cases ht
theorem code_sim (hc : CallSim call2 call) (N : Nat) : ∀ (c : LCode), okC c = true → CSim (evC2 call2 N c) (evC call N (unC c)) := by
  intro c
  induction c with
  | skip =>
    intro _ σ2 σ ex σ2' h hs
    simp only [evC2, Option.some.injEq, Prod.mk.injEq] at hs
    obtain ⟨rfl, rfl⟩ := hs
    exact ⟨σ, rfl, h⟩
  | exit id =>
    intro _ σ2 σ ex σ2' h hs
    simp only [evC2, Option.some.injEq, Prod.mk.injEq] at hs
    obtain ⟨rfl, rfl⟩ := hs
    exact ⟨σ, rfl, h⟩
  | ret =>
    intro _ σ2 σ ex σ2' h hs
    simp only [evC2, Option.some.injEq, Prod.mk.injEq] at hs
    obtain ⟨rfl, rfl⟩ := hs
    exact ⟨σ, rfl, h⟩
  | bad => intro _ σ2 σ ex σ2' h hs; simp [evC2] at hs
  | reg lp ds pp ops kn kp =>
    intro hok σ2 σ ex σ2' h hs
    simp only [evC2] at hs
    split at hs
    · rename_i σ1 h1
      simp only [Option.some.injEq, Prod.mk.injEq] at hs
      obtain ⟨rfl, rfl⟩ := hs
      obtain ⟨σ', g1, g2⟩ := stepL_sim hc (by simpa only [okC] using hok) (prep_rel h lp pp) h1
      exact ⟨{ σ' with fr := keepL kn kp σ'.fr }, by simp only [unC, evC, g1], g2.fr.keep kn kp, g2.tr⟩
    · cases hs
  | seq a b iha ihb =>
    intro hok σ2 σ ex σ2' h hs
    simp only [okC, Bool.and_eq_true] at hok
    simp only [evC2] at hs
    simp only [unC, evC]
    split at hs
    · rename_i σ1 h1
      obtain ⟨σ', g1, g2⟩ := iha hok.1 _ _ _ _ h h1
      rw [g1]
      exact ihb hok.2 _ _ _ _ g2 hs
    · rename_i hne
      obtain ⟨σ', g1, g2⟩ := iha hok.1 _ _ _ _ h hs
      refine ⟨σ', ?_, g2⟩
      rw [g1]
      cases ex with
      | normal => exact (hne _ hs).elim
      | exit id => rfl
      | ret => rfl
  | cond c a b iha ihb =>
    intro hok σ2 σ ex σ2' h hs
    simp only [okC, Bool.and_eq_true] at hok
    simp only [evC2] at hs
    simp only [unC, evC]
    split at hs
    · rename_i t ht
      obtain ⟨v, g1, g2⟩ := opd_rel h.fr hok.1.1 ht
      simp only [Rel] at g2; subst g2
      rw [g1]
      simp only
      split at hs
      · rename_i hb
        rw [if_pos hb]
        exact iha hok.1.2 _ _ _ _ h hs
      · rename_i hb
        rw [if_neg hb]
        exact ihb hok.2 _ _ _ _ h hs
    · cases hs
  | alt ts ks a b iha ihb =>
    intro hok σ2 σ ex σ2' h hs
    simp only [okC, Bool.and_eq_true] at hok
    simp only [evC2] at hs
    simp only [unC, evC]
    split at hs
    · rename_i ht
      rw [if_pos (altT_rel h.fr ht)]
      exact ihb hok.2 _ _ _ _ h hs
    · rename_i ht
      rw [if_neg (by rw [altT_rel h.fr ht]; simp)]
      exact iha hok.1 _ _ _ _ h hs
    · cases hs
  | block id a ih =>
    intro hok σ2 σ ex σ2' h hs
    simp only [okC] at hok
    simp only [evC2] at hs
    simp only [unC, evC]
    split at hs
    · rename_i j σ1 h1
      obtain ⟨σ', g1, g2⟩ := ih hok _ _ _ _ h h1
      rw [g1]
      simp only
      split at hs
      · rename_i hj
        simp only [Option.some.injEq, Prod.mk.injEq] at hs
        obtain ⟨rfl, rfl⟩ := hs
        exact ⟨σ', by rw [if_pos hj], g2⟩
      · rename_i hj
        simp only [Option.some.injEq, Prod.mk.injEq] at hs
        obtain ⟨rfl, rfl⟩ := hs
        exact ⟨σ', by rw [if_neg hj], g2⟩
    · rename_i hne
      obtain ⟨σ', g1, g2⟩ := ih hok _ _ _ _ h hs
      refine ⟨σ', ?_, g2⟩
      rw [g1]
      cases ex with
      | normal => rfl
      | exit id => exact (hne _ _ hs).elim
      | ret => rfl
  | loop a ih =>
    intro hok σ2 σ ex σ2' h hs
    simp only [okC] at hok
    simp only [evC2] at hs
    simp only [unC, evC]
    exact iter_sim (ih hok) N _ _ _ _ h hs
  | rng g ps wr a b iha ihb =>
    intro hok σ2 σ ex σ2' h hs
    simp only [okC, Bool.and_eq_true] at hok
    simp only [evC2] at hs
    simp only [unC, evC]
    have hit : ∀ {f : Nat} {ys2 ys : Nat → List V}, (∀ a, RelL (ys2 a) noT (ys a)) → ∀ a l2, itemsOf (call2 f (ys2 a)) = some l2 → ∃ l, itemsOf (call f (ys a)) = some l ∧ RelE l2 l := by
      intro f ys2 ys hy a l2 hl
      cases hr : call2 f (ys2 a) with
      | none => rw [hr] at hl; cases hl
      | some r2 =>
        rw [hr] at hl
        obtain ⟨r, g1, _, g3⟩ := hc f _ r2 _ hr (hy a)
        obtain ⟨l, g4, g5⟩ := g3 l2 hl
        exact ⟨l, by rw [g1]; exact g4, g5⟩
    have hy1 : ∀ a, Rel (.fn (.y a) []) noT (.fn (.y a) []) := fun a => by simp only [Rel]; exact ⟨[], rfl, RelL.nil⟩
    have htr : ∀ {x : Option (List (List V))}, σ2.tr = none → RelTr σ2.tr x → x = none := fun {x} e k => by
      rw [e] at k
      cases x with
      | none => rfl
      | some l => simp [RelTr] at k
    split at hs
    · rename_i f caps ht ho
      split at hs
      · rename_i cs us hf
        split at hs
        · rename_i hpm
          obtain ⟨v, g1, g2⟩ := opd_rel h.fr hok.1.1 ho
          simp only [Rel] at g2
          obtain ⟨ds, rfl, g2⟩ := g2
          obtain ⟨ds', ts, g3, g4, g5⟩ := frzEL_rel _ _ _ _ g2 hf
          rw [htr ht h.tr, g1]
          simp only [g3]
          rw [if_pos (pm_items g4 hpm)]
          exact rng_sim (round_sim (iha hok.1.2) (ihb hok.2) ps wr) (hit (ys2 := fun a => .fn (.y a) [] :: cs) (ys := fun a => .fn (.y a) [] :: ds') fun a => RelL.cons (hy1 a) g4) _ { fr := dropL wr σ.fr, tk := protT ts σ.tk, tr := none } _ _ ⟨(roF_rel h.fr g5).drop wr, by rw [ht]; trivial⟩ hs
        · cases hs
      · cases hs
    · rename_i f caps ht ho
      split at hs
      · rename_i cs us hf
        split at hs
        · rename_i hpm
          obtain ⟨v, g1, g2⟩ := opd_rel h.fr hok.1.1 ho
          simp only [Rel] at g2
          obtain ⟨ds, rfl, g2⟩ := g2
          obtain ⟨ds', ts, g3, g4, g5⟩ := frzEL_rel _ _ _ _ g2 hf
          rw [htr ht h.tr, g1]
          simp only [g3]
          rw [if_pos (pm_items g4 hpm)]
          exact rng_sim (round_sim (iha hok.1.2) (ihb hok.2) ps wr) (hit (ys2 := fun a => cs ++ [.fn (.y a) []]) (ys := fun a => ds' ++ [.fn (.y a) []]) fun a => g4.append (RelL.one (hy1 a))) _ { fr := dropL wr σ.fr, tk := protT ts σ.tk, tr := none } _ _ ⟨(roF_rel h.fr g5).drop wr, by rw [ht]; trivial⟩ hs
        · cases hs
      · cases hs
    · cases hs
/-! ### What is given back -/
structure FinS (tk : TkF) (c : Nat) (us2 us gs : List Nat) : Prop where
  len : us.length = c
  low : ∀ t ∈ us2, t < 1000000
  of : ∀ t ∈ us, t ∈ us2 ∨ ∃ j, j < c ∧ t = dumT j
  gone : ∀ t ∈ gs, t < 1000000 ∧ ∃ n, tk t = some (n, false)
theorem FinS.dumOk {tk : TkF} {c : Nat} {us2 us gs : List Nat} (h : FinS tk c us2 us gs) : dumOk us gs = true := by
  unfold Lo.dumOk
  simp only [Bool.and_eq_true, Bool.not_eq_true']
  refine ⟨?_, ?_⟩
  · cases hm : memN (dumT us.length) us with
    | false => rfl
    | true =>
      rcases h.of _ ((memN_iff _ _).1 hm) with k | ⟨j, hj, e⟩
      · have := h.low _ k; unfold dumT at this; omega
      · rw [h.len] at e; unfold dumT at e; omega
  · cases hm : memN (dumT us.length) gs with
    | false => rfl
    | true => have := (h.gone _ ((memN_iff _ _).1 hm)).1; unfold dumT at this; omega
theorem FinS.dum {tk : TkF} {c : Nat} {us2 us gs : List Nat} (h : FinS tk c us2 us gs) : FinS tk (c + 1) us2 (us ++ [dumT us.length]) gs := by
  refine ⟨by simp [h.len], h.low, fun t ht => ?_, h.gone⟩
  rcases List.mem_append.1 ht with ht | ht
  · rcases h.of t ht with k | ⟨j, hj, e⟩
    · exact .inl k
    · exact .inr ⟨j, by omega, e⟩
  · rw [List.mem_singleton] at ht
    exact .inr ⟨c, by omega, by rw [ht, h.len]⟩
theorem FinS.add {tk : TkF} {c t : Nat} {us2 us gs : List Nat} (h : FinS tk c us2 us gs) (ht : t < 1000000) : FinS tk c (t :: us2) us gs :=
  ⟨h.len, fun s hs => by rcases List.mem_cons.1 hs with rfl | hs; exact ht; exact h.low s hs, fun s hs => by rcases h.of s hs with k | k; exact .inl (List.mem_cons_of_mem _ k); exact .inr k, h.gone⟩
theorem num_tok {c : Nat} (h : c < 1000000) : tb c = c ∧ tb (2000000 + c) = c ∧ rwT c = true ∧ rwT (2000000 + c) = true ∧ mbT (2000000 + c) = true ∧ roX c = false ∧ roX (2000000 + c) = false := by
  unfold tb rwT mbT roX
  refine ⟨by omega, by omega, by simp only [decide_eq_true_eq]; omega, by simp only [decide_eq_true_eq]; omega, by simp only [decide_eq_true_eq]; omega, by simp only [decide_eq_false_iff_not]; omega, by simp only [decide_eq_false_iff_not]; omega⟩
mutual
theorem fin_sim {l : List (Nat × Nat × Bool)} : ∀ (w v w' : V) (c c' : Nat) (us2 us2' us gs : List Nat), Rel w (get l) v → w.fin2 (c, us2) = some (w', c', us2') → FinS (get l) c us2 us gs →
    ∃ v' us' gs', v.fin l (us, gs) = some (v', us', gs') ∧ FinS (get l) c' us2' us' gs' ∧ us <+: us' ∧ (∀ U, us' <+: U → Rel w' (fun k => (U[k]?).bind (get l)) v') ∧ (∀ ρ : TkF, (∀ k n, (k, n) ∈ v'.tks → ρ k = some (n, true)) → Rel w' ρ v')
  | .bool b, v, w', c, c', us2, us2', us, gs, h, hf, hs => by
    simp only [Rel] at h; subst h
    simp only [V.fin2, Option.some.injEq, Prod.mk.injEq] at hf
    obtain ⟨rfl, rfl, rfl⟩ := hf
    exact ⟨_, _, _, rfl, hs, List.prefix_refl _, fun _ _ => by simp only [Rel], fun _ _ => by simp only [Rel]⟩
  | .int k n, v, w', c, c', us2, us2', us, gs, h, hf, hs => by
    simp only [Rel] at h; subst h
    simp only [V.fin2, Option.some.injEq, Prod.mk.injEq] at hf
    obtain ⟨rfl, rfl, rfl⟩ := hf
    exact ⟨_, _, _, rfl, hs, List.prefix_refl _, fun _ _ => by simp only [Rel], fun _ _ => by simp only [Rel]⟩
  | .nil, v, w', c, c', us2, us2', us, gs, h, hf, hs => by
    simp only [Rel] at h; subst h
    simp only [V.fin2, Option.some.injEq, Prod.mk.injEq] at hf
    obtain ⟨rfl, rfl, rfl⟩ := hf
    exact ⟨.nil, _, _, by simp only [V.fin]; rw [if_pos hs.dumOk], hs.dum, List.prefix_append _ _, fun _ _ => by simp only [Rel], fun _ _ => by simp only [Rel]⟩
  | .sl none sz es, v, w', c, c', us2, us2', us, gs, h, hf, hs => by
    simp only [V.fin2, Option.some.injEq, Prod.mk.injEq] at hf
    obtain ⟨rfl, rfl, rfl⟩ := hf
    simp only [Rel] at h
    rcases h with ⟨h1, rfl⟩ | ⟨es', rfl, h1⟩
    · exact ⟨.nil, _, _, by simp only [V.fin]; rw [if_pos hs.dumOk], hs.dum, List.prefix_append _ _, fun _ _ => by simp only [Rel]; exact .inl ⟨h1, trivial⟩, fun _ _ => by simp only [Rel]; exact .inl ⟨h1, trivial⟩⟩
    · exact ⟨.sl none sz es', _, _, by simp only [V.fin]; rw [if_pos hs.dumOk], hs.dum, List.prefix_append _ _, fun _ _ => by simp only [Rel]; exact .inr ⟨es', rfl, h1⟩, fun _ _ => by simp only [Rel]; exact .inr ⟨es', rfl, h1⟩⟩
  | .sl (some u) sz es, v, w', c, c', us2, us2', us, gs, h, hf, hs => by
    simp only [V.fin2] at hf
    split at hf
    · cases hf
    rename_i hm
    split at hf
    · rename_i hrw
      obtain ⟨hrw, hc⟩ := hrw
      simp only [Option.some.injEq, Prod.mk.injEq] at hf
      obtain ⟨rfl, rfl, rfl⟩ := hf
      obtain ⟨n1, n2, n3, n4, n5, n6, n7⟩ := num_tok hc
      simp only [Rel] at h
      rcases h with ⟨h0, h1, rfl⟩ | ⟨es', rfl, h1, w0, g1, g2, _, g4⟩
      · rw [if_pos h0]
        exact ⟨.nil, _, _, by simp only [V.fin]; rw [if_pos hs.dumOk], (hs.dum).add (tb_lt u), List.prefix_append _ _, fun _ _ => by simp only [Rel]; exact .inl ⟨n5, h1, trivial⟩, fun _ _ => by simp only [Rel]; exact .inl ⟨n5, h1, trivial⟩⟩
      · rw [g2 hrw] at g1
        have hnu : ¬ memN (tb u) us = true := fun x => by
          rcases hs.of _ ((memN_iff _ _).1 x) with k | ⟨j, hj, e⟩
          · exact hm ((memN_iff _ _).2 k)
          · have := tb_lt u; unfold dumT at e; omega
        have hng : memN (tb u) gs = false := by
          cases hx : memN (tb u) gs with
          | false => rfl
          | true =>
            obtain ⟨_, n, hn⟩ := hs.gone _ ((memN_iff _ _).1 hx)
            rw [g1] at hn
            simp at hn
        have hnum : ∀ (f : Nat), f = (if mbT u = true then 2000000 + c else c) → tb f = c ∧ rwT f = true ∧ roX f = false ∧ (mbT f = true → es.length ≠ 0) := by
          intro f e
          subst e
          split
          · rename_i hmb; exact ⟨n2, n4, n7, fun _ => g4 hmb⟩
          · exact ⟨n1, n3, n6, fun x => by unfold mbT at x; simp only [decide_eq_true_eq] at x; omega⟩
        obtain ⟨q1, q2, q3, q4⟩ := hnum _ rfl
        refine ⟨.sl (some us.length) sz es', us ++ [tb u], gs, ?_, ?_, List.prefix_append _ _, fun U hU => ?_, fun ρ hρ => ?_⟩
        · simp only [V.fin]
          rw [if_neg hnu, if_pos ⟨by rw [h1.length]; exact g1, hng⟩]
        · refine ⟨by simp [hs.len], (hs.add (tb_lt u)).low, fun t ht => ?_, hs.gone⟩
          rcases List.mem_append.1 ht with ht | ht
          · rcases hs.of t ht with k | ⟨j, hj, e⟩
            · exact .inl (List.mem_cons_of_mem _ k)
            · exact .inr ⟨j, by omega, e⟩
          · rw [List.mem_singleton] at ht; subst ht
            exact .inl (List.mem_cons_self ..)
        · simp only [Rel]
          refine .inr ⟨es', by rw [q1, hs.len], h1, true, ?_, fun _ => rfl, fun x => (by rw [q3] at x; cases x), q4⟩
          rw [q1]
          obtain ⟨r, rfl⟩ := hU
          have : (us ++ [tb u] ++ r)[c]? = some (tb u) := by rw [← hs.len]; simp
          show ((us ++ [tb u] ++ r)[c]?).bind (get l) = _
          rw [this]
          exact g1
        · simp only [Rel]
          refine .inr ⟨es', by rw [q1, hs.len], h1, true, ?_, fun _ => rfl, fun x => (by rw [q3] at x; cases x), q4⟩
          rw [q1, ← hs.len, ← h1.length]
          exact hρ _ _ (by simp [V.tks])
    · split at hf
      · rename_i hro
        simp only [Option.some.injEq, Prod.mk.injEq] at hf
        obtain ⟨rfl, rfl, rfl⟩ := hf
        simp only [Rel] at h
        rcases h with ⟨h0, h1, rfl⟩ | ⟨es', rfl, h1, w0, g1, _, g3, _⟩
        · exact ⟨.nil, _, _, by simp only [V.fin]; rw [if_pos hs.dumOk], hs.dum, List.prefix_append _ _, fun _ _ => by simp only [Rel]; exact .inl ⟨h1, trivial⟩, fun _ _ => by simp only [Rel]; exact .inl ⟨h1, trivial⟩⟩
        · rw [g3 hro] at g1
          have hnu : ¬ memN (tb u) us = true := fun x => by
            rcases hs.of _ ((memN_iff _ _).1 x) with k | ⟨j, hj, e⟩
            · exact hm ((memN_iff _ _).2 k)
            · have := tb_lt u; unfold dumT at e; omega
          have hs' : FinS (get l) c us2 us (tb u :: gs) := ⟨hs.len, hs.low, hs.of, fun t ht => by
            rcases List.mem_cons.1 ht with rfl | ht
            · exact ⟨tb_lt u, _, g1⟩
            · exact hs.gone t ht⟩
          refine ⟨.sl none sz es', _, _, ?_, hs'.dum, List.prefix_append _ _, fun _ _ => by simp only [Rel]; exact .inr ⟨es', rfl, h1⟩, fun _ _ => by simp only [Rel]; exact .inr ⟨es', rfl, h1⟩⟩
          simp only [V.fin]
          rw [if_neg hnu, if_neg (fun x => by rw [g1] at x; simp at x), if_pos hs'.dumOk]
      · cases hf
  | .agg cs, v, w', c, c', us2, us2', us, gs, h, hf, hs => by
    simp only [Rel] at h
    obtain ⟨ds, rfl, h⟩ := h
    simp only [V.fin2] at hf
    split at hf
    · rename_i cs' us' h1
      simp only [Option.some.injEq, Prod.mk.injEq] at hf
      obtain ⟨rfl, rfl⟩ := hf
      obtain ⟨ds', us1, gs1, g1, g2, g3, g4, g5⟩ := finL_sim cs ds cs' c c' us2 us2' us gs h h1 hs
      refine ⟨.agg ds', us1, gs1, by simp only [V.fin, g1], g2, g3, fun U hU => by simp only [Rel]; exact ⟨_, rfl, g4 U hU⟩, fun ρ hρ => by simp only [Rel]; exact ⟨_, rfl, g5 ρ (by simpa only [V.tks] using hρ)⟩⟩
    · cases hf
  | .und, _, _, _, _, _, _, _, _, _, hf, _ => by simp [V.fin2] at hf
  | .dead, _, _, _, _, _, _, _, _, _, hf, _ => by simp [V.fin2] at hf
  | .tup _, _, _, _, _, _, _, _, _, _, hf, _ => by simp [V.fin2] at hf
  | .gref cs, v, w', c, c', us2, us2', us, gs, h, hf, hs => by
    simp only [Rel] at h; obtain ⟨ds, rfl, h⟩ := h
    simp only [V.fin2, Option.some.injEq, Prod.mk.injEq] at hf
    obtain ⟨rfl, rfl, rfl⟩ := hf
    exact ⟨_, _, _, rfl, hs, List.prefix_refl _, fun _ _ => by simp only [Rel]; exact ⟨ds, rfl, h⟩, fun _ _ => by simp only [Rel]; exact ⟨ds, rfl, h⟩⟩
  | .bag _ _, _, _, _, _, _, _, _, _, _, hf, _ => by simp [V.fin2] at hf
  | .np, v, w', c, c', us2, us2', us, gs, h, hf, hs => by
    simp only [Rel] at h; subst h
    simp only [V.fin2, Option.some.injEq, Prod.mk.injEq] at hf
    obtain ⟨rfl, rfl, rfl⟩ := hf
    exact ⟨_, _, _, rfl, hs, List.prefix_refl _, fun _ _ => by simp only [Rel], fun _ _ => by simp only [Rel]⟩
  | .fn (.f f) cs, v, w', c, c', us2, us2', us, gs, h, hf, hs => by
    simp only [Rel] at h; obtain ⟨ds, rfl, h⟩ := h
    simp only [V.fin2] at hf
    split at hf
    · rename_i hp
      simp only [Option.some.injEq, Prod.mk.injEq] at hf
      obtain ⟨rfl, rfl, rfl⟩ := hf
      obtain ⟨h1, h2⟩ := h.pm hp
      have h3 : ∀ ρ : TkF, RelL cs ρ ds := fun ρ => h2.mono fun t x ht => by cases ht
      exact ⟨_, _, _, by simp only [V.fin]; rw [if_pos h1], hs, List.prefix_refl _, fun _ _ => by simp only [Rel]; exact ⟨ds, rfl, h3 _⟩, fun _ _ => by simp only [Rel]; exact ⟨ds, rfl, h3 _⟩⟩
    · cases hf
  | .fn (.m _) _, _, _, _, _, _, _, _, _, _, hf, _ => by simp [V.fin2] at hf
  | .fn (.y _) _, _, _, _, _, _, _, _, _, _, hf, _ => by simp [V.fin2] at hf
  | .ref _ _, _, _, _, _, _, _, _, _, _, hf, _ => by simp [V.fin2] at hf
  | .cref _, _, _, _, _, _, _, _, _, _, hf, _ => by simp [V.fin2] at hf
  | .eref _ _ _ _ _, _, _, _, _, _, _, _, _, _, hf, _ => by simp [V.fin2] at hf
  | .box _, _, _, _, _, _, _, _, _, _, hf, _ => by simp [V.fin2] at hf
  | .mbox _, _, _, _, _, _, _, _, _, _, hf, _ => by simp [V.fin2] at hf
  | .mref _, _, _, _, _, _, _, _, _, _, hf, _ => by simp [V.fin2] at hf
theorem finL_sim {l : List (Nat × Nat × Bool)} : ∀ (ws vs ws' : List V) (c c' : Nat) (us2 us2' us gs : List Nat), RelL ws (get l) vs → finL2 ws (c, us2) = some (ws', c', us2') → FinS (get l) c us2 us gs →
    ∃ vs' us' gs', finL l vs (us, gs) = some (vs', us', gs') ∧ FinS (get l) c' us2' us' gs' ∧ us <+: us' ∧ (∀ U, us' <+: U → RelL ws' (fun k => (U[k]?).bind (get l)) vs') ∧ (∀ ρ : TkF, (∀ k n, (k, n) ∈ tksL vs' → ρ k = some (n, true)) → RelL ws' ρ vs')
  | [], vs, ws', c, c', us2, us2', us, gs, h, hf, hs => by
    have := h.inv0; subst this
    simp only [finL2, Option.some.injEq, Prod.mk.injEq] at hf
    obtain ⟨rfl, rfl, rfl⟩ := hf
    exact ⟨[], us, gs, rfl, hs, List.prefix_refl _, fun _ _ => RelL.nil, fun _ _ => RelL.nil⟩
  | w :: ws, vs, ws', c, c', us2, us2', us, gs, h, hf, hs => by
    obtain ⟨v, r, rfl, h1, h2⟩ := h.inv
    simp only [finL2] at hf
    split at hf
    · rename_i w1 st1 e1
      obtain ⟨c1, us21⟩ := st1
      split at hf
      · rename_i ws1 st2 e2
        obtain ⟨c2, us22⟩ := st2
        simp only [Option.some.injEq, Prod.mk.injEq] at hf
        obtain ⟨rfl, rfl, rfl⟩ := hf
        obtain ⟨v1, us1, gs1, g1, g2, g3, g4, g5⟩ := fin_sim w v w1 c c1 us2 us21 us gs h1 e1 hs
        obtain ⟨vs1, us3, gs3, k1, k2, k3, k4, k5⟩ := finL_sim ws r ws1 c1 c2 us21 us22 us1 gs1 h2 e2 g2
        refine ⟨v1 :: vs1, us3, gs3, by simp only [finL, g1, k1], k2, g3.trans k3, fun U hU => RelL.cons (g4 U (k3.trans hU)) (k4 U hU), fun ρ hρ => RelL.cons (g5 ρ fun k n hk => hρ k n (by simp [tksL, hk])) (k5 ρ fun k n hk => hρ k n (by simp [tksL, hk]))⟩
      · cases hf
    · cases hf
end
theorem one_rel {tk : TkF} {ws vs : List V} (h : RelL ws tk vs) : Rel (one ws) tk (one vs) := by
  cases ws with
  | nil => have := h.inv0; subst this; simp only [one, Rel]; exact ⟨[], rfl, RelL.nil⟩
  | cons w ws =>
    obtain ⟨v, r, rfl, h1, h2⟩ := h.inv
    cases ws with
    | nil => have := h2.inv0; subst this; exact h1
    | cons w' ws =>
      obtain ⟨v', r', rfl, h3, h4⟩ := h2.inv
      simp only [one, Rel]
      exact ⟨_, rfl, h⟩
theorem one_tksL (vs : List V) : (one vs).tks = tksL vs := by
  unfold one
  split
  · simp [tksL]
  · simp [V.tks]
theorem rvs_rel {fr2 fr : List (Nat × V)} {tk : TkF} (h : RelFr fr2 fr tk) : ∀ {rs : List RV} {ws : List V}, rvs fr2 rs = some ws → ∃ vs, rvs fr rs = some vs ∧ RelL ws tk vs
  | [], ws, hs => by
    simp only [rvs, Option.some.injEq] at hs; subst hs
    exact ⟨[], rfl, RelL.nil⟩
  | .t n :: rs, ws, hs => by
    simp only [rvs] at hs ⊢
    split at hs
    · rename_i w ws' h1 h2
      simp only [Option.some.injEq] at hs; subst hs
      obtain ⟨v, g1, g2⟩ := opd_rel h (x := .t n) rfl h1
      obtain ⟨vs, g3, g4⟩ := rvs_rel h h2
      rw [show opd fr (.t n) = some v from g1, g3]
      exact ⟨_, rfl, RelL.cons g2 g4⟩
    · cases hs
  | .c s n :: rs, ws, hs => by
    simp only [rvs] at hs ⊢
    split at hs
    · rename_i cs ws' h1 h2
      split at hs
      · rename_i w h3
        simp only [Option.some.injEq] at hs; subst hs
        rcases h s _ h1 with e | ⟨v, g1, g2⟩
        · cases e
        · simp only [Rel] at g2
          obtain ⟨ds, rfl, g2⟩ := g2
          obtain ⟨vs, g3, g4⟩ := rvs_rel h h2
          obtain ⟨x, g5, g6⟩ := partV_rel g2 h3
          rw [g1, g3]
          simp only [g5]
          exact ⟨_, rfl, RelL.cons g6 g4⟩
      · cases hs
    · cases hs
theorem fin2_not_tup {w w' : V} {st st' : Nat × List Nat} (h : w.fin2 st = some (w', st')) : ∀ cs, w' ≠ .tup cs := by
  intro cs e
  subst e
  cases w with
  | sl t sz es =>
    cases t with
    | none => simp [V.fin2] at h
    | some u =>
      simp only [V.fin2] at h
      split at h
      · cases h
      · split at h
        · simp at h
        · split at h <;> simp at h
  | agg cs =>
    simp only [V.fin2] at h
    split at h <;> simp at h
  | fn f cs =>
    cases f with
    | f n =>
      simp only [V.fin2] at h
      split at h <;> simp at h
    | _ => simp [V.fin2] at h
  | _ => simp [V.fin2] at h
/-! ### Boxes that are given away -/
mutual
theorem plainR_rel : ∀ (w v : V) {tk : TkF}, Rel w tk v → w.plainR = true → v.plainR = true
  | .bool b, v, _, h, _ => by simp only [Rel] at h; subst h; rfl
  | .int k n, v, _, h, _ => by simp only [Rel] at h; subst h; rfl
  | .nil, v, _, h, _ => by simp only [Rel] at h; subst h; rfl
  | .np, v, _, h, _ => by simp only [Rel] at h; subst h; rfl
  | .gref _, v, _, h, _ => by simp only [Rel] at h; obtain ⟨_, rfl, _⟩ := h; rfl
  | .sl none sz es, v, _, h, _ => by simp only [Rel] at h; rcases h with ⟨_, rfl⟩ | ⟨_, rfl, _⟩ <;> rfl
  | .sl (some u) sz es, v, _, h, _ => by simp only [Rel] at h; rcases h with ⟨_, _, rfl⟩ | ⟨_, rfl, _⟩ <;> rfl
  | .agg cs, v, _, h, k => by
    simp only [Rel] at h; obtain ⟨ds, rfl, h⟩ := h
    simp only [V.plainR] at k ⊢
    exact plainRL_rel cs ds h k
  | .und, _, _, _, k => by simp [V.plainR] at k
  | .dead, _, _, _, k => by simp [V.plainR] at k
  | .tup _, _, _, _, k => by simp [V.plainR] at k
  | .fn _ _, _, _, _, k => by simp [V.plainR] at k
  | .ref _ _, _, _, _, k => by simp [V.plainR] at k
  | .cref _, _, _, _, k => by simp [V.plainR] at k
  | .eref _ _ _ _ _, _, _, _, k => by simp [V.plainR] at k
  | .box _, _, _, _, k => by simp [V.plainR] at k
  | .mbox _, _, _, _, k => by simp [V.plainR] at k
  | .mref _, _, _, _, k => by simp [V.plainR] at k
theorem plainRL_rel : ∀ (ws vs : List V) {tk : TkF}, RelL ws tk vs → plainRL ws = true → plainRL vs = true
  | [], vs, _, h, _ => by have := h.inv0; subst this; rfl
  | w :: ws, vs, _, h, k => by
    obtain ⟨v, r, rfl, h1, h2⟩ := h.inv
    simp only [plainRL, Bool.and_eq_true] at k ⊢
    exact ⟨plainR_rel w v h1 k.1, plainRL_rel ws r h2 k.2⟩
end
mutual
theorem Rel.toks {tk tk' : TkF} : ∀ (w v : V), w.plainR = true → (∀ x ∈ w.tks, tk' (tb x.1) = tk (tb x.1)) → Rel w tk v → Rel w tk' v
  | .bool b, v, _, _, h => by simp only [Rel] at h ⊢; exact h
  | .int k n, v, _, _, h => by simp only [Rel] at h ⊢; exact h
  | .nil, v, _, _, h => by simp only [Rel] at h ⊢; exact h
  | .np, v, _, _, h => by simp only [Rel] at h ⊢; exact h
  | .gref _, v, _, _, h => by simp only [Rel] at h ⊢; exact h
  | .sl none sz es, v, _, _, h => by simp only [Rel] at h ⊢; exact h
  | .sl (some u) sz es, v, _, hk, h => by
    have := hk (u, es.length) (by simp [V.tks])
    simp only [Rel] at h ⊢
    rcases h with h | ⟨es', h1, h2, w, h3, h4⟩
    · exact .inl h
    · exact .inr ⟨es', h1, h2, w, by rw [this]; exact h3, h4⟩
  | .agg cs, v, k, hk, h => by
    simp only [Rel] at h ⊢; obtain ⟨ds, e, h⟩ := h
    exact ⟨ds, e, RelL.toks cs ds (by simpa [V.plainR] using k) (by simpa [V.tks] using hk) h⟩
  | .und, _, k, _, _ => by simp [V.plainR] at k
  | .dead, _, k, _, _ => by simp [V.plainR] at k
  | .tup _, _, k, _, _ => by simp [V.plainR] at k
  | .fn _ _, _, k, _, _ => by simp [V.plainR] at k
  | .ref _ _, _, k, _, _ => by simp [V.plainR] at k
  | .cref _, _, k, _, _ => by simp [V.plainR] at k
  | .eref _ _ _ _ _, _, k, _, _ => by simp [V.plainR] at k
  | .box _, _, k, _, _ => by simp [V.plainR] at k
  | .mbox _, _, k, _, _ => by simp [V.plainR] at k
  | .mref _, _, k, _, _ => by simp [V.plainR] at k
theorem RelL.toks {tk tk' : TkF} : ∀ (ws vs : List V), plainRL ws = true → (∀ x ∈ tksL ws, tk' (tb x.1) = tk (tb x.1)) → RelL ws tk vs → RelL ws tk' vs
  | [], vs, _, _, h => by have := h.inv0; subst this; exact RelL.nil
  | w :: ws, vs, k, hk, h => by
    obtain ⟨v, r, rfl, h1, h2⟩ := h.inv
    simp only [plainRL, Bool.and_eq_true] at k
    exact RelL.cons (Rel.toks w v k.1 (fun x hx => hk x (by simp [tksL, hx])) h1) (RelL.toks ws r k.2 (fun x hx => hk x (by simp [tksL, hx])) h2)
end
section gifts
variable {tk : TkF} {b2 b1 : Nat → Option (List V)} (hbx : ∀ s cs, b2 s = some cs → ∃ ds, b1 s = some ds ∧ RelL cs tk ds)
include hbx
theorem givB_rel {s off : Nat} {w' : V} {a us : List Nat} (hg : givB b2 s off = some (w', a, us)) : ∃ v' ts, givB b1 s off = some (v', a, ts) ∧ (∀ tk' : TkF, Rel w' tk' v') ∧ Toks tk us ts := by
  unfold givB at hg
  split at hg
  case isFalse => cases hg
  rename_i hlt
  split at hg
  · rename_i cs hcs
    obtain ⟨ds, g1, g2⟩ := hbx s cs hcs
    split at hg
    · rename_i cs' us' h1
      obtain ⟨ds', ts, k1, k2, k3⟩ := frzEL_rel cs ds cs' us' g2 h1
      split at hg
      · rename_i hp
        simp only [Option.some.injEq, Prod.mk.injEq] at hg
        obtain ⟨rfl, rfl, rfl⟩ := hg
        refine ⟨.gref (ds'.drop off), ts, by unfold givB; rw [if_pos hlt]; simp only [g1, k1]; rw [if_pos (k2.pm hp).1], fun tk' => ?_, k3⟩
        simp only [Rel]
        exact ⟨_, rfl, k2.drop off⟩
      · cases hg
    · cases hg
  · cases hg
theorem givC_rel : ∀ (ws vs ws' : List V) (a us : List Nat), RelL ws tk vs → givC b2 ws = some (ws', a, us) → ∃ vs' ts, givC b1 vs = some (vs', a, ts) ∧ (∀ tk' : TkF, RelL ws' tk' vs') ∧ Toks tk us ts := by
  intro ws
  induction ws with
  | nil =>
    intro vs ws' a us h hg
    have := h.inv0; subst this
    simp only [givC, Option.some.injEq, Prod.mk.injEq] at hg
    obtain ⟨rfl, rfl, rfl⟩ := hg
    exact ⟨[], [], rfl, fun _ => RelL.nil, Toks.nil⟩
  | cons w ws ih =>
    intro vs ws' a us h hg
    obtain ⟨v, r, rfl, h1, h2⟩ := h.inv
    have other : (match givC b2 ws with
        | some (vs', c, d) => if w.pm = true then some (w :: vs', c, d) else none
        | none => none) = some (ws', a, us) → ∃ vs' ts, givC b1 (v :: r) = some (vs', a, ts) ∧ (∀ tk' : TkF, RelL ws' tk' vs') ∧ Toks tk us ts := fun hg => by
      split at hg
      · rename_i ws2 c d hr
        split at hg
        · rename_i hp
          simp only [Option.some.injEq, Prod.mk.injEq] at hg
          obtain ⟨rfl, rfl, rfl⟩ := hg
          obtain ⟨vs2, ts, k1, k2, k3⟩ := ih r ws2 c d h2 hr
          obtain ⟨p1, p2⟩ := h1.pm hp
          refine ⟨v :: vs2, ts, ?_, fun tk' => RelL.cons (p2.mono fun t x ht => by cases ht) (k2 tk'), k3⟩
          have e : givC b1 (v :: r) = (match givC b1 r with
            | some (vs', c, d) => if v.pm = true then some (v :: vs', c, d) else none
            | none => none) := by
            cases v <;> first | rfl | (simp [V.pm] at p1)
          rw [e, k1]
          simp only
          rw [if_pos p1]
        · cases hg
      · cases hg
    cases w with
    | ref s off =>
      simp only [givC] at hg
      split at hg
      · rename_i w' a1 u1 ws2 c d e1 e2
        simp only [Option.some.injEq, Prod.mk.injEq] at hg
        obtain ⟨rfl, rfl, rfl⟩ := hg
        obtain ⟨v', t1, k1, k2, k3⟩ := givB_rel hbx e1
        obtain ⟨vs2, t2, k4, k5, k6⟩ := ih r ws2 c d h2 e2
        simp only [Rel] at h1
        subst h1
        exact ⟨v' :: vs2, t1 ++ t2, by simp only [givC, k1, k4], fun tk' => RelL.cons (k2 tk') (k5 tk'), k3.append k6⟩
      · cases hg
    | _ => exact other hg
theorem giv_rel {w v w' : V} {a us : List Nat} (h : Rel w tk v) (hg : w.giv b2 = some (w', a, us)) : ∃ v' ts, v.giv b1 = some (v', a, ts) ∧ (∀ tk' : TkF, (∀ x ∈ w'.tks, tk' (tb x.1) = tk (tb x.1)) → Rel w' tk' v') ∧ Toks tk us ts := by
  have other : (if w.plainR = true then some (w, ([] : List Nat), ([] : List Nat)) else none) = some (w', a, us) → ∃ v' ts, v.giv b1 = some (v', a, ts) ∧ (∀ tk' : TkF, (∀ x ∈ w'.tks, tk' (tb x.1) = tk (tb x.1)) → Rel w' tk' v') ∧ Toks tk us ts := fun hg => by
    split at hg
    · rename_i hp
      simp only [Option.some.injEq, Prod.mk.injEq] at hg
      obtain ⟨rfl, rfl, rfl⟩ := hg
      have hv := plainR_rel w v h hp
      refine ⟨v, [], ?_, fun tk' ht => Rel.toks w v hp ht h, Toks.nil⟩
      cases v <;> first | (simp only [V.giv]; rw [if_pos hv]) | (simp [V.plainR] at hv)
    · cases hg
  cases w with
  | ref s off =>
    simp only [V.giv] at hg
    obtain ⟨v', ts, k1, k2, k3⟩ := givB_rel hbx hg
    simp only [Rel] at h
    subst h
    exact ⟨v', ts, k1, fun tk' _ => k2 tk', k3⟩
  | fn f cs =>
    cases f with
    | f n =>
      simp only [V.giv] at hg
      split at hg
      · rename_i cs' c d e1
        simp only [Option.some.injEq, Prod.mk.injEq] at hg
        obtain ⟨rfl, rfl, rfl⟩ := hg
        simp only [Rel] at h
        obtain ⟨ds, rfl, h⟩ := h
        obtain ⟨ds', ts, k1, k2, k3⟩ := givC_rel hbx cs ds cs' _ _ h e1
        exact ⟨.fn (.f n) ds', ts, by simp only [V.giv, k1], fun tk' _ => by simp only [Rel]; exact ⟨ds', rfl, k2 tk'⟩, k3⟩
      · cases hg
    | m n => exact other hg
    | y n => exact other hg
  | _ => exact other hg
theorem givL_rel : ∀ (ws vs ws' : List V) (a us : List Nat), RelL ws tk vs → givL b2 ws = some (ws', a, us) → ∃ vs' ts, givL b1 vs = some (vs', a, ts) ∧ (∀ tk' : TkF, (∀ x ∈ tksL ws', tk' (tb x.1) = tk (tb x.1)) → RelL ws' tk' vs') ∧ Toks tk us ts
  | [], vs, ws', a, us, h, hg => by
    have := h.inv0; subst this
    simp only [givL, Option.some.injEq, Prod.mk.injEq] at hg
    obtain ⟨rfl, rfl, rfl⟩ := hg
    exact ⟨[], [], rfl, fun _ _ => RelL.nil, Toks.nil⟩
  | w :: ws, vs, ws', a, us, h, hg => by
    obtain ⟨v, r, rfl, h1, h2⟩ := h.inv
    simp only [givL] at hg
    split at hg
    · rename_i w' a1 u1 ws2 c d e1 e2
      simp only [Option.some.injEq, Prod.mk.injEq] at hg
      obtain ⟨rfl, rfl, rfl⟩ := hg
      obtain ⟨v', t1, k1, k2, k3⟩ := giv_rel hbx h1 e1
      obtain ⟨vs2, t2, k4, k5, k6⟩ := givL_rel ws r ws2 c d h2 e2
      exact ⟨v' :: vs2, t1 ++ t2, by simp only [givL, k1, k4], fun tk' ht => RelL.cons (k2 tk' fun x hx => ht x (by simp [tksL, hx])) (k5 tk' fun x hx => ht x (by simp [tksL, hx])), k3.append k6⟩
    · cases hg
end gifts
theorem result_sim {σ2 σ : St} (h : RelS σ2 σ) {rs : List RV} {r2 : V} (hr : result2 rs σ2 = some r2) : ∃ r, result rs σ = some r ∧ RelR r2 r ∧ ∀ l2, itemsOf (some r2) = some l2 → ∃ l, itemsOf (some r) = some l ∧ RelE l2 l := by
  unfold result2 at hr
  split at hr
  · rename_i ws0' h1
    split at hr
    case h_2 => cases hr
    rename_i ws ss us0 h0
    split at hr
    case isFalse => cases hr
    rename_i hap
    split at hr
    · rename_i ws' st h2
      obtain ⟨c, us2⟩ := st
      simp only [Option.some.injEq] at hr; subst hr
      obtain ⟨vs0, g1, g20⟩ := rvs_rel h.fr h1
      obtain ⟨vs, ts, g3, g4, g5⟩ := givL_rel (tk := get σ.tk) (b2 := bxOf σ2.fr []) (b1 := bxOf σ.fr []) (fun s cs => bxOf_rel h.fr) ws0' vs0 ws ss us0 g20 h0
      have g2 : RelL ws (get (protT ts σ.tk)) vs := g4 _ fun x hx => by
        rw [get_protT]
        have hn : memN (tb x.1) ts = false := by
          cases hm : memN (tb x.1) ts with
          | false => rfl
          | true =>
            exfalso
            have h3 := g5.sub _ ((memN_iff _ _).1 hm)
            obtain ⟨u, hu, hue⟩ := List.mem_map.1 h3
            have h4 := List.all_eq_true.1 hap u hu
            simp only [Bool.not_eq_true'] at h4
            have h5 : tb x.1 ∈ (tksL ws).map fun x => tb x.1 := List.mem_map.2 ⟨x, hx, rfl⟩
            rw [hue, (memN_iff _ _).2 h5] at h4
            cases h4
        cases hg : get σ.tk (tb x.1) with
        | none => rfl
        | some y => obtain ⟨n, wr⟩ := y; simp [hn]
      obtain ⟨vs', us, gs, k1, k2, k3, k4, k5⟩ := finL_sim ws vs ws' 0 c [] us2 [] [] g2 h2 ⟨rfl, fun _ h => (by cases h), fun _ h => (by cases h), fun _ h => (by cases h)⟩
      refine ⟨one vs', by unfold result; simp only [g1, g3, k1], ⟨⟨_, one_rel (k4 us (List.prefix_refl _))⟩, fun ρ hρ => one_rel (k5 ρ (by rw [one_tksL] at hρ; exact hρ))⟩, fun l2 hl => ?_⟩
      have key : ws' = [] := by
        cases ws' with
        | nil => rfl
        | cons w ws1 =>
          exfalso
          cases ws with
          | nil => simp [finL2] at h2
          | cons w0 ws0 =>
            simp only [finL2] at h2
            split at h2
            · rename_i w1 st1 e1
              split at h2
              · rename_i ws2 st2 e2
                simp only [Option.some.injEq, Prod.mk.injEq, List.cons.injEq] at h2
                obtain ⟨⟨rfl, rfl⟩, _⟩ := h2
                have hnt := fin2_not_tup e1
                cases ws2 with
                | nil =>
                  simp only [one] at hl
                  cases w1 <;> first | (cases hl; done) | exact hnt _ rfl
                | cons w2 ws2 =>
                  simp only [one, itemsOf] at hl
                  cases w1 <;> first | (simp [itemsL] at hl; done) | exact hnt _ rfl
              · cases h2
            · cases h2
      subst key
      have := (k4 us (List.prefix_refl _)).inv0; subst this
      simp only [one, itemsOf, itemsL, Option.some.injEq] at hl ⊢
      subst hl
      exact ⟨[], rfl, RelE.nil⟩
    · cases hr
  · cases hr
theorem items_tups (l : List (List V)) : itemsL (tupsL l) = some l := itemsL_tups l
theorem tups_rel : ∀ {l2 l : List (List V)}, RelE l2 l → ∀ ρ : TkF, RelL (tupsL l2) ρ (tupsL l)
  | [], l, h, ρ => by have := h.nil_left; subst this; exact RelL.nil
  | x :: l2, l, h, ρ => by
    simp only [RelE] at h
    obtain ⟨y, r, rfl, h1, h2⟩ := h
    simp only [tupsL]
    exact RelL.cons (by simp only [Rel]; exact ⟨_, rfl, h1.wk⟩) (tups_rel h2 ρ)
theorem finish_sim {σ2 σ : St} (h : RelS σ2 σ) {it : Bool} {rs : List RV} {r2 : V} (hr : finish2 it rs σ2 = some r2) : ∃ r, finish it rs σ = some r ∧ RelR r2 r ∧ ∀ l2, itemsOf (some r2) = some l2 → ∃ l, itemsOf (some r) = some l ∧ RelE l2 l := by
  unfold finish2 at hr
  unfold finish
  split at hr
  · rename_i hi
    rw [if_pos hi]
    split at hr
    · rename_i he
      rw [if_pos he]
      split at hr
      · rename_i l2 ht
        simp only [Option.some.injEq] at hr; subst hr
        have := h.tr
        rw [ht] at this
        cases hl : σ.tr with
        | none => rw [hl] at this; exact this.elim
        | some l =>
          rw [hl] at this
          simp only [RelTr] at this
          refine ⟨_, rfl, ⟨⟨noT, by simp only [Rel]; exact ⟨_, rfl, tups_rel this _⟩⟩, fun ρ _ => by simp only [Rel]; exact ⟨_, rfl, tups_rel this _⟩⟩, fun l' hl' => ?_⟩
          simp only [itemsOf, itemsL_tups, Option.some.injEq] at hl' ⊢
          subst hl'
          exact ⟨l, rfl, this⟩
      · cases hr
    · cases hr
  · rename_i hi
    rw [if_neg hi]
    exact result_sim h hr
/-! ### Functions -/
theorem ranged_rel : ∀ {ws vs : List V} {tk : TkF}, RelL ws tk vs → (∀ w ∈ ws, w ≠ .dead) → ranged vs = ranged ws
  | [], vs, tk, h, _ => by have := h.inv0; subst this; rfl
  | w :: ws, vs, tk, h, k => by
    obtain ⟨v, r, rfl, h1, h2⟩ := h.inv
    have ih := ranged_rel h2 fun x hx => k x (by simp [hx])
    cases w with
    | dead => exact (k .dead (by simp) rfl).elim
    | fn f cs =>
      simp only [Rel] at h1; obtain ⟨ds, rfl, _⟩ := h1
      cases f <;> first | exact ih | rfl
    | sl t sz es =>
      cases t with
      | none => simp only [Rel] at h1; rcases h1 with ⟨_, rfl⟩ | ⟨_, rfl, _⟩ <;> exact ih
      | some u => simp only [Rel] at h1; rcases h1 with ⟨_, _, rfl⟩ | ⟨_, rfl, _⟩ <;> exact ih
    | und => simp only [Rel] at h1; subst h1; exact ih
    | bool _ => simp only [Rel] at h1; subst h1; exact ih
    | int _ _ => simp only [Rel] at h1; subst h1; exact ih
    | nil => simp only [Rel] at h1; subst h1; exact ih
    | ref _ _ => simp only [Rel] at h1; subst h1; exact ih
    | agg _ => simp only [Rel] at h1; obtain ⟨ds, rfl, _⟩ := h1; exact ih
    | tup _ => simp only [Rel] at h1; obtain ⟨ds, rfl, _⟩ := h1; exact ih
    | cref _ => simp only [Rel] at h1; obtain ⟨ds, rfl, _⟩ := h1; exact ih
    | gref _ => simp only [Rel] at h1; obtain ⟨ds, rfl, _⟩ := h1; exact ih
    | np => simp only [Rel] at h1; subst h1; exact ih
    | bag _ _ => simp only [Rel] at h1; subst h1; exact ih
    | eref _ _ _ _ _ => simp only [Rel] at h1; obtain ⟨ds, rfl, _⟩ := h1; exact ih
    | box _ => simp only [Rel] at h1; obtain ⟨ds, rfl, _⟩ := h1; exact ih
    | mbox _ => simp only [Rel] at h1; obtain ⟨ds, rfl, _⟩ := h1; exact ih
    | mref _ => simp only [Rel] at h1; subst h1; exact ih
theorem params_rel : ∀ {ws vs : List V} {tk : TkF} (n : Nat), RelL ws tk vs → RelFr (params n ws) (params n vs) tk
  | [], vs, tk, n, h => by have := h.inv0; subst this; intro s w hs; simp [params, get] at hs
  | w :: ws, vs, tk, n, h => by
    obtain ⟨v, r, rfl, h1, h2⟩ := h.inv
    intro s x hs
    simp only [params, get] at hs ⊢
    split at hs
    · rename_i e
      injection hs with hs; subst hs
      rw [if_pos e]
      exact .inr ⟨v, rfl, h1⟩
    · rename_i e
      rw [if_neg e]
      exact params_rel (n + 1) h2 s x hs
theorem liveL_ne : ∀ {ws : List V}, liveL ws = true → ∀ w ∈ ws, w ≠ .dead
  | [], _, _, h => by cases h
  | w :: ws, hl, x, hx => by
    have : w ≠ .dead ∧ liveL ws = true := by cases w <;> simp_all [liveL]
    rcases List.mem_cons.1 hx with rfl | hx
    · exact this.1
    · exact liveL_ne this.2 x hx
theorem io_rel {ws vs : List V} (h : RelL ws noT vs) (hl : liveL ws = true) : ioArg vs = false ∧ ioTk vs = [] := by
  cases ws with
  | nil => have := h.inv0; subst this; exact ⟨rfl, rfl⟩
  | cons w ws =>
    obtain ⟨v, r, rfl, h1, h2⟩ := h.inv
    cases v <;> first | exact ⟨rfl, rfl⟩ | skip
    exfalso
    cases w <;> simp only [liveL, Bool.false_eq_true] at hl <;> first
      | (simp only [Rel] at h1; done)
      | (simp only [Rel] at h1; cases h1; done)
      | (simp only [Rel] at h1; obtain ⟨_, h1, _⟩ := h1; cases h1; done)
      | (rename_i t _ _; cases t <;> simp [Rel] at h1)
theorem body_sim (hc : CallSim call2 call) (N : Nat) {lf : LFun} (hok : okC lf.body = true) (hsl : lf.sl = []) {as2 as9 : List V} (ha : RelL as2 noT as9) {r2 : V} (hr : evBody2 call2 N lf as2 = some r2) :
    ∃ r, evBody call N (unF lf) as9 = some r ∧ RelR r2 r ∧ ∀ l2, itemsOf (some r2) = some l2 → ∃ l, itemsOf (some r) = some l ∧ RelE l2 l := by
  unfold evBody2 at hr
  unfold evBody
  split at hr
  case isFalse => cases hr
  rename_i hlen
  obtain ⟨hio1, hio2⟩ := io_rel ha hlen.2
  rw [if_pos (by rw [ha.length]; exact ⟨hlen.1, fun h => by rw [hio1] at h; cases h⟩), ranged_rel ha (liveL_ne hlen.2), hio2]
  have hend : ∀ (lf : LFun) (σ : St), evEnd lf as9 σ = finish (ranged as2) lf.res σ := fun lf σ => by
    unfold evEnd
    rw [hio1, ranged_rel ha (liveL_ne hlen.2)]; rfl
  simp only [unF, hend]
  rw [hsl] at hr ⊢
  simp only [deadL, List.append_nil] at hr ⊢
  have h0 : RelS { fr := params 0 as2, tk := [], tr := if ranged as2 = true then some [] else none } { fr := params 0 as9, tk := [], tr := if ranged as2 = true then some [] else none } := by
    refine ⟨params_rel 0 (ha.mono fun _ _ h => by cases h), ?_⟩
    simp only
    split
    · simp only [RelTr]; exact RelE.nil
    · trivial
  split at hr
  · rename_i σ1 h1
    obtain ⟨σ', g1, g2⟩ := code_sim hc N _ hok _ _ _ _ h0 h1
    rw [g1]
    exact finish_sim g2 hr
  · rename_i σ1 h1
    obtain ⟨σ', g1, g2⟩ := code_sim hc N _ hok _ _ _ _ h0 h1
    rw [g1]
    exact finish_sim g2 hr
  · cases hr
end
end Go.Lo

/- The limit of the plain machine; what it says is said of the logical one. -/
namespace Go.Lo
section
variable {c c' : Nat → List V → Option V}
theorem sem2_le (h : Le c c') {bx : Nat → Option (List V)} {ex : List Nat} {d : Nat} {k : K} {vs : List V} {e : Eff2} (he : sem2 c bx ex d k vs = some e) : sem2 c' bx ex d k vs = some e := by
  cases k with
  | call dr al mk =>
    have key : ∀ {f : Nat} {us : List V}, callE2 c bx d dr al mk f us = some e → callE2 c' bx d dr al mk f us = some e := fun he => by
      unfold callE2 at he ⊢
      split at he
      · rename_i as9 has
        split at he
        · rename_i r hr
          simp only [h _ as9 r hr]
          exact he
        · cases he
      · cases he
    simp only [sem2] at he ⊢
    split at he
    · exact key he
    · exact key he
    · exact he
    · exact he
  | _ => exact he
theorem stepI2_le (h : Le c c') {i : LIns} {σ σ' : St} (hs : stepI2 c i σ = some σ') : stepI2 c' i σ = some σ' := by
  unfold stepI2 at hs ⊢
  cases hw : wanted σ.fr i.guard with
  | none => rw [hw] at hs; cases hs
  | some b =>
    rw [hw] at hs
    cases b with
    | false => exact hs
    | true =>
      simp only at hs ⊢
      cases hvs : opds σ.fr i.xs with
      | none => rw [hvs] at hs; cases hs
      | some vs =>
        rw [hvs] at hs
        simp only at hs ⊢
        cases he : sem2 c (bxOf σ.fr i.ex) i.ex (i.dst.getD 0) i.k vs with
        | none => rw [he] at hs; cases hs
        | some e =>
          rw [he] at hs
          rw [sem2_le h he]
          exact hs
theorem stepL2_le (h : Le c c') : ∀ {is : List LIns} {σ σ' : St}, stepL2 c is σ = some σ' → stepL2 c' is σ = some σ'
  | [], _, _, hs => hs
  | i :: is, σ, σ', hs => by
    simp only [stepL2] at hs ⊢
    split at hs
    · rename_i σ1 h1
      rw [stepI2_le h h1]
      exact stepL2_le h hs
    · cases hs
theorem evC2_le (h : Le c c') {N N' : Nat} (hN : N ≤ N') : ∀ (lc : LCode) {σ : St} {x : Ex × St}, evC2 c N lc σ = some x → evC2 c' N' lc σ = some x := by
  intro lc
  induction lc with
  | skip => intro σ x hs; exact hs
  | exit id => intro σ x hs; exact hs
  | ret => intro σ x hs; exact hs
  | bad => intro σ x hs; exact hs
  | reg lp ds pp ops kn kp =>
    intro σ x hs
    simp only [evC2] at hs ⊢
    split at hs
    · rename_i σ1 h1
      rw [stepL2_le h h1]
      exact hs
    · cases hs
  | seq a b iha ihb =>
    intro σ x hs
    simp only [evC2] at hs ⊢
    split at hs
    · rename_i σ1 h1
      rw [iha h1]
      exact ihb hs
    · rename_i hne
      rw [iha hs]
      split
      · rename_i σ1 h1
        injection h1 with h1
        subst h1
        exact (hne _ hs).elim
      · rfl
  | alt ts ks a b iha ihb =>
    intro σ x hs
    simp only [evC2] at hs ⊢
    split at hs
    · exact ihb hs
    · exact iha hs
    · cases hs
  | cond cc a b iha ihb =>
    intro σ x hs
    simp only [evC2] at hs ⊢
    split at hs
    · rename_i t ht
      cases t with
      | true => simp only [if_true] at hs ⊢; exact iha hs
      | false => simp only [Bool.false_eq_true, if_false] at hs ⊢; exact ihb hs
    · cases hs
  | block id a ih =>
    intro σ x hs
    simp only [evC2] at hs ⊢
    split at hs
    · rename_i j σ1 h1
      rw [ih h1]
      exact hs
    · rename_i hne
      rw [ih hs]
      split
      · rename_i j σ1 h1
        injection h1 with h1
        subst h1
        exact (hne _ _ hs).elim
      · rfl
  | loop a ih =>
    intro σ x hs
    simp only [evC2] at hs ⊢
    exact iter_le (fun _ _ h => ih h) hN hs
  | rng g ps wr a b iha ihb =>
    intro σ x hs
    simp only [evC2] at hs ⊢
    split at hs
    · split at hs
      · split at hs
        · rename_i hc
          rw [if_pos hc]
          exact rngE_le (fun _ _ _ h => roundE_le (fun _ _ h => iha h) (fun _ _ h => ihb h) h) (fun _ R hR => h _ _ R hR) hs
        · cases hs
      · cases hs
    · split at hs
      · split at hs
        · rename_i hc
          rw [if_pos hc]
          exact rngE_le (fun _ _ _ h => roundE_le (fun _ _ h => iha h) (fun _ _ h => ihb h) h) (fun _ R hR => h _ _ R hR) hs
        · cases hs
      · cases hs
    · cases hs
theorem evBody2_le (h : Le c c') {N N' : Nat} (hN : N ≤ N') {lf : LFun} {args : List V} {r : V} (hs : evBody2 c N lf args = some r) : evBody2 c' N' lf args = some r := by
  unfold evBody2 at hs ⊢
  split at hs
  · rename_i hl
    rw [if_pos hl]
    split at hs
    · rename_i σ h1; rw [evC2_le h hN _ h1]; exact hs
    · rename_i σ h1; rw [evC2_le h hN _ h1]; exact hs
    · cases hs
  · cases hs
end
section
variable {F : Nat → Option (List V → Option V)} {C : Nat → Option LFun}
theorem evF2_succ : ∀ (n : Nat), Le (evF2 F C n) (evF2 F C (n + 1))
  | 0, f, as9, r, h => by simp [evF2] at h
  | n + 1, f, as9, r, h => by
    rw [evF2] at h ⊢
    split at h
    · exact h
    · split at h
      · exact evBody2_le (evF2_succ n) (Nat.le_succ n) h
      · cases h
theorem evF2_le {n m : Nat} (h : n ≤ m) : Le (evF2 F C n) (evF2 F C m) := by
  induction h with
  | refl => exact fun _ _ _ h => h
  | step _ ih => exact fun f as9 r hr => evF2_succ _ f as9 r (ih f as9 r hr)
/-- What a function gives back, if it ends: whatever the fuel. -/
noncomputable def run2 (F : Nat → Option (List V → Option V)) (C : Nat → Option LFun) (f : Nat) (as9 : List V) : Option V :=
  open Classical in if h : ∃ r n, evF2 F C n f as9 = some r then some (Classical.choose h) else none
theorem run2_of {n f : Nat} {as9 : List V} {r : V} (h : evF2 F C n f as9 = some r) : run2 F C f as9 = some r := by
  unfold run2
  have hex : ∃ r n, evF2 F C n f as9 = some r := ⟨r, n, h⟩
  rw [dif_pos hex]
  obtain ⟨m, hm⟩ := Classical.choose_spec hex
  have h1 := evF2_le (Nat.le_max_left n m) f as9 r h
  have h2 := evF2_le (Nat.le_max_right n m) f as9 _ hm
  rw [h1] at h2
  exact h2.symm
theorem of_run2 {f : Nat} {as9 : List V} {r : V} (h : run2 F C f as9 = some r) : ∃ n, evF2 F C n f as9 = some r := by
  unfold run2 at h
  split at h
  · rename_i hex
    injection h with h; subst h
    exact Classical.choose_spec hex
  · cases h
/-! Few calls need little fuel. -/
theorem sem2_fin {bx : Nat → Option (List V)} {ex : List Nat} {d : Nat} {k : K} {vs : List V} {e : Eff2} (he : sem2 (run2 F C) bx ex d k vs = some e) : ∃ n, sem2 (evF2 F C n) bx ex d k vs = some e := by
  cases k with
  | call dr al mk =>
    have key : ∀ {f : Nat} {us : List V}, callE2 (run2 F C) bx d dr al mk f us = some e → ∃ n, callE2 (evF2 F C n) bx d dr al mk f us = some e := fun he => by
      unfold callE2 at he ⊢
      split at he
      · rename_i as9 has
        split at he
        · rename_i r hr
          obtain ⟨n, hn⟩ := of_run2 hr
          refine ⟨n, ?_⟩
          simp only [hn]
          exact he
        · cases he
      · cases he
    simp only [sem2] at he ⊢
    split at he
    · exact key he
    · exact key he
    · exact ⟨0, he⟩
    · exact ⟨0, he⟩
  | _ => exact ⟨0, he⟩
theorem stepI2_fin {i : LIns} {σ σ' : St} (hs : stepI2 (run2 F C) i σ = some σ') : ∃ n, stepI2 (evF2 F C n) i σ = some σ' := by
  unfold stepI2 at hs ⊢
  cases hw : wanted σ.fr i.guard with
  | none => rw [hw] at hs; cases hs
  | some b =>
    rw [hw] at hs
    cases b with
    | false => exact ⟨0, hs⟩
    | true =>
      simp only at hs ⊢
      cases hvs : opds σ.fr i.xs with
      | none => rw [hvs] at hs; cases hs
      | some vs =>
        rw [hvs] at hs
        simp only at hs ⊢
        cases he : sem2 (run2 F C) (bxOf σ.fr i.ex) i.ex (i.dst.getD 0) i.k vs with
        | none => rw [he] at hs; cases hs
        | some e =>
          rw [he] at hs
          obtain ⟨n, hn⟩ := sem2_fin he
          exact ⟨n, by rw [hn]; exact hs⟩
theorem stepL2_fin : ∀ {is : List LIns} {σ σ' : St}, stepL2 (run2 F C) is σ = some σ' → ∃ n, stepL2 (evF2 F C n) is σ = some σ'
  | [], _, _, hs => ⟨0, hs⟩
  | i :: is, σ, σ', hs => by
    simp only [stepL2] at hs ⊢
    split at hs
    · rename_i σ1 h1
      obtain ⟨n, hn⟩ := stepI2_fin h1
      obtain ⟨m, hm⟩ := stepL2_fin hs
      refine ⟨max n m, ?_⟩
      rw [stepI2_le (evF2_le (Nat.le_max_left n m)) hn]
      exact stepL2_le (evF2_le (Nat.le_max_right n m)) hm
    · cases hs
theorem evC2_fin {N : Nat} : ∀ (lc : LCode) {σ : St} {x : Ex × St}, evC2 (run2 F C) N lc σ = some x → ∃ n, evC2 (evF2 F C n) N lc σ = some x := by
  intro lc
  induction lc with
  | skip => intro σ x hs; exact ⟨0, hs⟩
  | exit id => intro σ x hs; exact ⟨0, hs⟩
  | ret => intro σ x hs; exact ⟨0, hs⟩
  | bad => intro σ x hs; exact ⟨0, hs⟩
  | reg lp ds pp ops kn kp =>
    intro σ x hs
    simp only [evC2] at hs ⊢
    split at hs
    · rename_i σ1 h1
      obtain ⟨n, hn⟩ := stepL2_fin h1
      exact ⟨n, by rw [hn]; exact hs⟩
    · cases hs
  | seq a b iha ihb =>
    intro σ x hs
    simp only [evC2] at hs ⊢
    split at hs
    · rename_i σ1 h1
      obtain ⟨n, hn⟩ := iha h1
      obtain ⟨m, hm⟩ := ihb hs
      refine ⟨max n m, ?_⟩
      rw [evC2_le (evF2_le (Nat.le_max_left n m)) (Nat.le_refl N) _ hn]
      exact evC2_le (evF2_le (Nat.le_max_right n m)) (Nat.le_refl N) _ hm
    · rename_i hne
      obtain ⟨n, hn⟩ := iha hs
      refine ⟨n, ?_⟩
      rw [hn]
      split
      · rename_i σ1 h1
        injection h1 with h1
        subst h1
        exact (hne _ hs).elim
      · rfl
  | alt ts ks a b iha ihb =>
    intro σ x hs
    simp only [evC2] at hs ⊢
    split at hs
    · exact ihb hs
    · exact iha hs
    · cases hs
  | cond cc a b iha ihb =>
    intro σ x hs
    simp only [evC2] at hs ⊢
    split at hs
    · rename_i t ht
      cases t with
      | true => simp only [if_true] at hs ⊢; exact iha hs
      | false => simp only [Bool.false_eq_true, if_false] at hs ⊢; exact ihb hs
    · cases hs
  | block id a ih =>
    intro σ x hs
    simp only [evC2] at hs ⊢
    split at hs
    · rename_i j σ1 h1
      obtain ⟨n, hn⟩ := ih h1
      exact ⟨n, by rw [hn]; exact hs⟩
    · rename_i hne
      obtain ⟨n, hn⟩ := ih hs
      refine ⟨n, ?_⟩
      rw [hn]
      split
      · rename_i j σ1 h1
        injection h1 with h1
        subst h1
        exact (hne _ _ hs).elim
      · rfl
  | loop a ih =>
    intro σ x hs
    simp only [evC2] at hs ⊢
    exact iter_fin (f := fun n => evC2 (evF2 F C n) N a) (fun n m hnm σ x h => evC2_le (evF2_le hnm) (Nat.le_refl N) a h) (fun σ x h => ih h) hs
  | rng g ps wr a b iha ihb =>
    intro σ x hs
    have key : ∀ {f : Nat} {mkA : Nat → List V} {τ : St}, rngE (roundE (evC2 (run2 F C) N a) (evC2 (run2 F C) N b) ps wr) (fun a => run2 F C f (mkA a)) τ = some x → ∃ n, rngE (roundE (evC2 (evF2 F C n) N a) (evC2 (evF2 F C n) N b) ps wr) (fun a => evF2 F C n f (mkA a)) τ = some x := by
      intro f mkA τ hs
      refine rngE_fin (it := fun a => run2 F C f (mkA a)) (jt := fun n a => evF2 F C n f (mkA a)) (f := fun n => roundE (evC2 (evF2 F C n) N a) (evC2 (evF2 F C n) N b) ps wr) (fun n m hnm σ as9 x h => ?_) (fun σ as9 x h => ?_) (fun n m hnm a R h => evF2_le hnm _ _ R h) (fun a R h => of_run2 h) hs
      · exact roundE_le (fun _ _ h => evC2_le (evF2_le hnm) (Nat.le_refl N) a h) (fun _ _ h => evC2_le (evF2_le hnm) (Nat.le_refl N) b h) h
      · exact roundE_fin (fA := fun n => evC2 (evF2 F C n) N a) (fB := fun n => evC2 (evF2 F C n) N b) (fun n m hnm σ x h => evC2_le (evF2_le hnm) (Nat.le_refl N) a h) (fun n m hnm σ x h => evC2_le (evF2_le hnm) (Nat.le_refl N) b h) (fun _ _ h => iha h) (fun _ _ h => ihb h) h
    simp only [evC2] at hs ⊢
    split at hs
    · split at hs
      · split at hs
        · rename_i hc
          simp only [if_pos hc]
          exact key (mkA := fun a => .fn (.y a) [] :: _) hs
        · cases hs
      · cases hs
    · split at hs
      · split at hs
        · rename_i hc
          simp only [if_pos hc]
          exact key (mkA := fun a => _ ++ [.fn (.y a) []]) hs
        · cases hs
      · cases hs
    · cases hs
/-- A body's equation: the calls in it may be told by theirs. -/
theorem run2_of_body {f N : Nat} {lf : LFun} {as9 : List V} {r : V} (hF : F f = none) (hC : C f = some lf) (h : evBody2 (run2 F C) N lf as9 = some r) : run2 F C f as9 = some r := by
  have key : ∃ n, evBody2 (evF2 F C n) N lf as9 = some r := by
    unfold evBody2 at h ⊢
    split at h
    · rename_i hl
      split at h
      · rename_i σ h1
        obtain ⟨n, hn⟩ := evC2_fin _ h1
        exact ⟨n, by rw [if_pos hl, hn]; exact h⟩
      · rename_i σ h1
        obtain ⟨n, hn⟩ := evC2_fin _ h1
        exact ⟨n, by rw [if_pos hl, hn]; exact h⟩
      · cases h
    · cases h
  obtain ⟨n, hn⟩ := key
  refine run2_of (n := max n N + 1) ?_
  rw [evF2, hF]
  simp only [hC]
  exact evBody2_le (evF2_le (Nat.le_max_left n N)) (Nat.le_max_right n N) hn
theorem run2_told {f : Nat} {g : List V → Option V} {as9 : List V} (hF : F f = some g) : run2 F C f as9 = g as9 := by
  cases hg : g as9 with
  | some r => exact run2_of (n := 1) (by rw [evF2, hF]; exact hg)
  | none =>
    cases hr : run2 F C f as9 with
    | none => rfl
    | some r =>
      obtain ⟨n, hn⟩ := of_run2 hr
      cases n with
      | zero => simp [evF2] at hn
      | succ n =>
        rw [evF2, hF] at hn
        simp only at hn
        rw [hg] at hn
        cases hn
/-- What the tables of the two machines have to do with each other. -/
structure TabR (F2 F : Nat → Option (List V → Option V)) (C2 C : Nat → Option LFun) : Prop where
  told : ∀ f g2 as2 r2 as9, F2 f = some g2 → g2 as2 = some r2 → RelL as2 noT as9 → ∃ r, run F C f as9 = some r ∧ RelR r2 r ∧ ∀ l2, itemsOf (some r2) = some l2 → ∃ l, itemsOf (some r) = some l ∧ RelE l2 l
  code : ∀ f lf, F2 f = none → C2 f = some lf → F f = none ∧ C f = some (unF lf) ∧ okC lf.body = true ∧ lf.sl = []
theorem evF2_sim {F2 F : Nat → Option (List V → Option V)} {C2 C : Nat → Option LFun} (h : TabR F2 F C2 C) : ∀ n, CallSim (evF2 F2 C2 n) (run F C)
  | 0, f, as2, r2, as9, hr, _ => by simp [evF2] at hr
  | n + 1, f, as2, r2, as9, hr, ha => by
    rw [evF2] at hr
    split at hr
    · rename_i g2 hg
      exact h.told f g2 as2 r2 as9 hg hr ha
    · rename_i hg
      split at hr
      · rename_i lf hlf
        obtain ⟨k0, k1, k2, k3⟩ := h.code f lf hg hlf
        obtain ⟨r, g1, g2⟩ := body_sim (evF2_sim h n) n k2 k3 ha hr
        exact ⟨r, run_of_body k0 k1 g1, g2⟩
      · cases hr
theorem run2_sim {F2 F : Nat → Option (List V → Option V)} {C2 C : Nat → Option LFun} (h : TabR F2 F C2 C) {f : Nat} {as2 as9 : List V} {r2 : V} (hr : run2 F2 C2 f as2 = some r2) (ha : RelL as2 noT as9) : ∃ r, run F C f as9 = some r ∧ RelR r2 r := by
  obtain ⟨n, hn⟩ := of_run2 hr
  obtain ⟨r, g1, g2, _⟩ := evF2_sim h n f as2 r2 as9 hn ha
  exact ⟨r, g1, g2⟩
/-- A law that is true for the plain machine. -/
theorem run2_true {F2 F : Nat → Option (List V → Option V)} {C2 C : Nat → Option LFun} (h : TabR F2 F C2 C) {f : Nat} {as2 as9 : List V} (hr : run2 F2 C2 f as2 = some (.bool true)) (ha : RelL as2 noT as9) : run F C f as9 = some (.bool true) := by
  obtain ⟨r, g1, g2⟩ := run2_sim h hr ha
  obtain ⟨ρ, hρ⟩ := g2.ex
  simp only [Rel] at hρ
  rw [g1, hρ]
end
end Go.Lo

/- Words for the walks of the plain machine. -/
namespace Go.Lo
abbrev I (n : Int) : V := .int .i64 n
abbrev B (b : Bool) : V := .bool b
/-- A slice that nobody writes any more. -/
abbrev S (sz : Nat) (es : List (List V)) : V := .sl none sz es
/-- Integers as elements. -/
abbrev eI (xs : List Int) : List (List V) := xs.map fun x => [I x]
theorem wrap64 {n : Int} (h1 : -9223372036854775808 ≤ n) (h2 : n ≤ 9223372036854775807) : IntKind.i64.wrap n = n := by
  simp [IntKind.wrap, IntKind.bits, IntKind.signed]
  omega
theorem if_iff {α : Type} {P Q : Prop} [Decidable P] [Decidable Q] {x y : α} (h : P ↔ Q) : (if P then x else y) = if Q then x else y := by by_cases hp : P <;> simp [hp, ← h]
theorem iter_succ {f : St → Option (Ex × St)} {n : Nat} {σ : St} : iter f (n + 1) σ = match f σ with
    | some (.normal, σ') => iter f n σ'
    | r => r := rfl
theorem loop_find {f : St → Option (Ex × St)} {s : Nat → St} {n : Nat} {g : Nat → Bool} {E : Nat → Ex × St} {X : Ex × St} (hs : ∀ i, i < n → f (s i) = some (if g i = true then E i else (.normal, s (i + 1)))) (hE : ∀ i, (E i).1 ≠ .normal) (hn : f (s n) = some X) (hX : X.1 ≠ .normal) :
    ∀ (k i : Nat), i + k = n → iter f (k + 1) (s i) = some (match (List.range' i k).find? g with
      | some j => E j
      | none => X)
  | 0, i, h => by
    have : i = n := by omega
    subst this
    rw [iter_succ, hn]
    obtain ⟨x, σ⟩ := X
    cases x with
    | normal => exact (hX rfl).elim
    | exit id => rfl
    | ret => rfl
  | k + 1, i, h => by
    rw [iter_succ, hs i (by omega), List.range'_succ, List.find?_cons]
    cases hg : g i with
    | true =>
      simp only [if_true]
      have he := hE i
      generalize E i = e at he ⊢
      obtain ⟨x, σ⟩ := e
      cases x with
      | normal => exact (he rfl).elim
      | exit id => rfl
      | ret => rfl
    | false =>
      simp only [Bool.false_eq_true, if_false]
      exact loop_find hs hE hn hX k (i + 1) (by omega)
/-- The first element, and the first index, for which a function says so. -/
def prAt {α : Type} (pr : α → Bool) (xs : List α) (i : Nat) : Bool := match xs[i]? with
  | some x => pr x
  | none => false
theorem prAt_some {α : Type} {pr : α → Bool} {xs : List α} {i : Nat} {x : α} (h : xs[i]? = some x) : prAt pr xs i = pr x := by simp only [prAt, h]
theorem find_idx {α : Type} (pr : α → Bool) (xs : List α) : (List.range' 0 xs.length).find? (prAt pr xs) = xs.findIdx? pr := by
  have key : ∀ (l : List α) (k : Nat) (g : Nat → Bool), (∀ i x, l[i]? = some x → g (k + i) = pr x) → (List.range' k l.length).find? g = (l.findIdx? pr).map (· + k) := by
    intro l
    induction l with
    | nil => intro k g _; rfl
    | cons x l ih =>
      intro k g hg
      rw [List.length_cons, List.range'_succ, List.find?_cons, List.findIdx?_cons]
      have h0 := hg 0 x rfl
      rw [Nat.add_zero] at h0
      rw [h0]
      cases hx : pr x with
      | true => simp
      | false =>
        simp only [Bool.false_eq_true, if_false, Option.map_map]
        rw [ih (k + 1) g fun i y hy => by rw [show k + 1 + i = k + (i + 1) by omega]; exact hg (i + 1) y (by simpa using hy)]
        cases l.findIdx? pr <;> simp; omega
  have := key xs 0 (prAt pr xs) (fun i x h => by rw [Nat.zero_add, prAt_some h])
  rw [this]; cases xs.findIdx? pr <;> simp
/-- A search, by what a round comes to. -/
theorem loop_if {f : St → Option (Ex × St)} {s : Nat → St} {n : Nat} {g : Nat → Bool} {E : Nat → Ex × St} {X : Ex × St} (hs : ∀ i, i < n → f (s i) = if g i = true then some (E i) else some (.normal, s (i + 1))) (hE : ∀ i, (E i).1 ≠ .normal) (hn : f (s n) = some X) (hX : X.1 ≠ .normal) :
    iter f (n + 1) (s 0) = some (match (List.range' 0 n).find? g with
      | some j => E j
      | none => X) :=
  loop_find (fun i hi => by rw [hs i hi]; split <;> rfl) hE hn hX n 0 (by omega)
theorem loop_all {f : St → Option (Ex × St)} {s : Nat → St} {n : Nat} {X : Ex × St} (hs : ∀ i, i < n → f (s i) = some (.normal, s (i + 1))) (hn : f (s n) = some X) (hX : X.1 ≠ .normal) : iter f (n + 1) (s 0) = some X := by
  have := loop_find (g := fun _ => false) (E := fun i => (.ret, s i)) (s := s) (fun i hi => by rw [hs i hi]; rfl) (fun _ => by simp) hn hX n 0 (by omega)
  rw [this]
  have : (List.range' 0 n).find? (fun _ => false) = none := by simp
  rw [this]
/-! ### How the machine goes on, in small steps -/
section
variable (call : Nat → List V → Option V) (N : Nat)
def goE (dst : Option Nat) (is : List LIns) (σ : St) : Option Eff2 → Option St
  | some e => stepL2 call is (apply2 σ dst e)
  | none => none
def goK (dst : Option Nat) (k : K) (ex : List Nat) (is : List LIns) (σ : St) : Option (List V) → Option St
  | some vs => goE call dst is σ (sem2 call (bxOf σ.fr ex) ex (dst.getD 0) k vs)
  | none => none
def goG (dst : Option Nat) (k : K) (xs : List Opd) (ex : List Nat) (is : List LIns) (σ : St) (b : Bool) : Option V → Option St
  | some (.bool c) => match c == b with
    | true => goK call dst k ex is σ (opds σ.fr xs)
    | false => stepL2 call is { σ with fr := putO σ.fr dst .und }
  | some .und => stepL2 call is { σ with fr := putO σ.fr dst .und }
  | _ => none
def regE (kn : Nat) (kp : List Nat) : Option St → Option (Ex × St)
  | some σ => some (.normal, { σ with fr := keepL kn kp σ.fr })
  | none => none
def seqE (b : LCode) : Option (Ex × St) → Option (Ex × St)
  | some (.normal, σ) => evC2 call N b σ
  | r => r
def conE (a b : LCode) (σ : St) : Option V → Option (Ex × St)
  | some (.bool true) => evC2 call N a σ
  | some (.bool false) => evC2 call N b σ
  | _ => none
def blkE (id : Nat) : Option (Ex × St) → Option (Ex × St)
  | some (.exit j, σ) => if j = id then some (.normal, σ) else some (.exit j, σ)
  | r => r
def endE (it : Bool) (res : List RV) : Option (Ex × St) → Option V
  | some (.normal, σ) => finish2 it res σ
  | some (.ret, σ) => finish2 it res σ
  | _ => none
variable {call N}
variable {dst : Option Nat} {k : K} {xs : List Opd} {ex : List Nat} {is : List LIns} {σ : St} {e : Eff2} {vs : List V}
@[simp] theorem goE_some : goE call dst is σ (some e) = stepL2 call is (apply2 σ dst e) := rfl
@[simp] theorem goK_some : goK call dst k ex is σ (some vs) = goE call dst is σ (sem2 call (bxOf σ.fr ex) ex (dst.getD 0) k vs) := rfl
@[simp] theorem goG_tt : goG call dst k xs ex is σ true (some (.bool true)) = goK call dst k ex is σ (opds σ.fr xs) := rfl
@[simp] theorem goG_tf : goG call dst k xs ex is σ true (some (.bool false)) = stepL2 call is { σ with fr := putO σ.fr dst .und } := rfl
@[simp] theorem goG_ft : goG call dst k xs ex is σ false (some (.bool true)) = stepL2 call is { σ with fr := putO σ.fr dst .und } := rfl
@[simp] theorem goG_ff : goG call dst k xs ex is σ false (some (.bool false)) = goK call dst k ex is σ (opds σ.fr xs) := rfl
@[simp] theorem goG_und (b : Bool) : goG call dst k xs ex is σ b (some .und) = stepL2 call is { σ with fr := putO σ.fr dst .und } := rfl
@[simp] theorem stepL2_nil : stepL2 call [] σ = some σ := rfl
@[simp] theorem stepL2_cons : stepL2 call (⟨dst, k, xs, none, ex⟩ :: is) σ = goK call dst k ex is σ (opds σ.fr xs) := by
  simp only [stepL2, stepI2, wanted]
  cases opds σ.fr xs with
  | none => rfl
  | some vs => simp only [goK]; cases sem2 call (bxOf σ.fr ex) ex (dst.getD 0) k vs <;> rfl
@[simp] theorem stepL2_guard (s : Nat) (b : Bool) : stepL2 call (⟨dst, k, xs, some (s, b), ex⟩ :: is) σ = goG call dst k xs ex is σ b (get σ.fr s) := by
  simp only [stepL2, stepI2, wanted]
  cases hg : get σ.fr s with
  | none => rfl
  | some v =>
    cases v <;> try rfl
    rename_i c
    simp only [goG]
    cases hcb : c == b with
    | false => simp
    | true =>
      simp only
      cases opds σ.fr xs with
      | none => rfl
      | some vs => simp only [goK]; cases sem2 call (bxOf σ.fr ex) ex (dst.getD 0) k vs <;> rfl
@[simp] theorem regE_some {kn : Nat} {kp : List Nat} : regE kn kp (some σ) = some (.normal, { σ with fr := keepL kn kp σ.fr }) := rfl
@[simp] theorem seqE_normal {b : LCode} : seqE call N b (some (.normal, σ)) = evC2 call N b σ := rfl
@[simp] theorem seqE_ret {b : LCode} : seqE call N b (some (.ret, σ)) = some (.ret, σ) := rfl
@[simp] theorem seqE_exit {b : LCode} {i : Nat} : seqE call N b (some (.exit i, σ)) = some (.exit i, σ) := rfl
@[simp] theorem conE_true {a b : LCode} : conE call N a b σ (some (.bool true)) = evC2 call N a σ := rfl
@[simp] theorem conE_false {a b : LCode} : conE call N a b σ (some (.bool false)) = evC2 call N b σ := rfl
@[simp] theorem blkE_normal {id : Nat} : blkE id (some (.normal, σ)) = some (.normal, σ) := rfl
@[simp] theorem blkE_ret {id : Nat} : blkE id (some (.ret, σ)) = some (.ret, σ) := rfl
@[simp] theorem blkE_exit {id j : Nat} : blkE id (some (.exit j, σ)) = if j = id then some (.normal, σ) else some (.exit j, σ) := rfl
@[simp] theorem endE_normal {it : Bool} {res : List RV} : endE it res (some (.normal, σ)) = finish2 it res σ := rfl
@[simp] theorem endE_ret {it : Bool} {res : List RV} : endE it res (some (.ret, σ)) = finish2 it res σ := rfl
@[simp] theorem evC2_skip : evC2 call N .skip σ = some (.normal, σ) := rfl
@[simp] theorem evC2_ret : evC2 call N .ret σ = some (.ret, σ) := rfl
@[simp] theorem evC2_exit {id : Nat} : evC2 call N (.exit id) σ = some (.exit id, σ) := rfl
@[simp] theorem evC2_reg {lp : Bool} {ds pp : List Nat} {ops : List LIns} {kn : Nat} {kp : List Nat} : evC2 call N (.reg lp ds pp ops kn kp) σ = regE kn kp (stepL2 call ops (prep2 lp pp σ)) := by
  simp only [evC2]
  cases stepL2 call ops (prep2 lp pp σ) <;> rfl
@[simp] theorem evC2_seq {a b : LCode} : evC2 call N (.seq a b) σ = seqE call N b (evC2 call N a σ) := by
  simp only [evC2]
  cases evC2 call N a σ with
  | none => rfl
  | some r => obtain ⟨x, τ⟩ := r; cases x <;> rfl
@[simp] theorem evC2_cond {c : Opd} {a b : LCode} : evC2 call N (.cond c a b) σ = conE call N a b σ (opd σ.fr c) := by
  simp only [evC2]
  cases opd σ.fr c with
  | none => rfl
  | some v =>
    cases v <;> try rfl
    rename_i t
    cases t <;> rfl
def altE (a b : LCode) (σ : St) : Option Bool → Option (Ex × St)
  | some true => evC2 call N b σ
  | some false => evC2 call N a σ
  | none => none
@[simp] theorem altE_true {a b : LCode} : altE (call := call) (N := N) a b σ (some true) = evC2 call N b σ := rfl
@[simp] theorem altE_false {a b : LCode} : altE (call := call) (N := N) a b σ (some false) = evC2 call N a σ := rfl
@[simp] theorem evC2_alt {ts ks : List Nat} {a b : LCode} : evC2 call N (.alt ts ks a b) σ = altE (call := call) (N := N) a b σ (altT2 ts σ.fr ks) := by
  simp only [evC2]
  cases altT2 ts σ.fr ks with
  | none => rfl
  | some c => cases c <;> rfl
@[simp] theorem andO_ss {a b : Bool} : andO (some a) (some b) = some (a || b) := rfl
@[simp] theorem altT2_nil {ts : List Nat} {fr : List (Nat × V)} : altT2 ts fr [] = some false := rfl
def altG (ts : List Nat) (fr : List (Nat × V)) (ks : List Nat) : Option V → Option Bool
  | some v => andO (hasT2 ts v) (altT2 ts fr ks)
  | none => none
def getRV (fr : List (Nat × V)) : Option V → Option V
  | some (.ref s _) => get fr s
  | r => r
@[simp] theorem getRV_ref {fr : List (Nat × V)} {s o : Nat} : getRV fr (some (.ref s o)) = get fr s := rfl
@[simp] theorem getRV_box {fr : List (Nat × V)} {cs : List V} : getRV fr (some (.box cs)) = some (.box cs) := rfl
@[simp] theorem getRV_sl {fr : List (Nat × V)} {t : Option Nat} {sz : Nat} {es : List (List V)} : getRV fr (some (.sl t sz es)) = some (.sl t sz es) := rfl
@[simp] theorem getRV_nil {fr : List (Nat × V)} : getRV fr (some .nil) = some .nil := rfl
@[simp] theorem altG_some {ts : List Nat} {fr : List (Nat × V)} {ks : List Nat} {v : V} : altG ts fr ks (some v) = andO (hasT2 ts v) (altT2 ts fr ks) := rfl
@[simp] theorem altT2_cons {ts : List Nat} {fr : List (Nat × V)} {k : Nat} {ks : List Nat} : altT2 ts fr (k :: ks) = altG ts fr ks (getRV fr (get fr k)) := by
  simp only [altT2, getR, getRV]
  cases get fr k with
  | none => rfl
  | some v =>
    cases v with
    | ref s o => simp only; cases get fr s <;> rfl
    | _ => rfl
@[simp] theorem hasT2_box {ts : List Nat} {cs : List V} : hasT2 ts (.box cs) = slTL2 ts cs := rfl
@[simp] theorem slTL2_nil {ts : List Nat} : slTL2 ts [] = some false := rfl
@[simp] theorem slTL2_cons {ts : List Nat} {v : V} {vs : List V} : slTL2 ts (v :: vs) = andO (slT2 ts v) (slTL2 ts vs) := rfl
@[simp] theorem slT2_nil {ts : List Nat} {u sz : Nat} : slT2 ts (.sl (some u) sz []) = some (!mbT u && memN (tb u / 100) ts) := rfl
@[simp] theorem slT2_cons {ts : List Nat} {u sz : Nat} {e : List V} {es : List (List V)} : slT2 ts (.sl (some u) sz (e :: es)) = some (memN (tb u / 100) ts) := rfl
theorem slT2_ne {ts : List Nat} {u sz : Nat} {es : List (List V)} (h : es ≠ []) : slT2 ts (.sl (some u) sz es) = some (memN (tb u / 100) ts) := by
  cases es with
  | nil => exact absurd rfl h
  | cons e es => rfl
@[simp] theorem evC2_block {id : Nat} {a : LCode} : evC2 call N (.block id a) σ = blkE id (evC2 call N a σ) := by
  simp only [evC2]
  cases evC2 call N a σ with
  | none => rfl
  | some r => obtain ⟨x, τ⟩ := r; cases x <;> rfl
@[simp] theorem evC2_loop {a : LCode} : evC2 call N (.loop a) σ = iter (evC2 call N a) N σ := rfl
theorem evBody2_eq {lf : LFun} {args : List V} (h : args.length = lf.np) (hl : liveL args = true) : evBody2 call N lf args = endE (ranged args) lf.res (evC2 call N lf.body { fr := params 0 args ++ deadL lf.sl, tk := [], tr := if ranged args = true then some [] else none }) := by
  unfold evBody2
  rw [if_pos ⟨h, hl⟩]
  cases evC2 call N lf.body { fr := params 0 args ++ deadL lf.sl, tk := [], tr := if ranged args = true then some [] else none } with
  | none => rfl
  | some r => obtain ⟨x, τ⟩ := r; cases x <;> rfl
/-- A function's equation. -/
theorem run2_body {F : Nat → Option (List V → Option V)} {C : Nat → Option LFun} {f : Nat} (N : Nat) {lf : LFun} {as1 : List V} {r : V} (hF : F f = none) (hC : C f = some lf) (h : as1.length = lf.np) (hl : liveL as1 = true) (hr : ranged as1 = false)
    (hb : endE false lf.res (evC2 (run2 F C) N lf.body { fr := params 0 as1 ++ deadL lf.sl, tk := [] }) = some r) : run2 F C f as1 = some r := by
  refine run2_of_body (N := N) hF hC ?_
  rw [evBody2_eq h hl, hr]
  exact hb
/-- An iterator's equation. -/
theorem run2_iter {F : Nat → Option (List V → Option V)} {C : Nat → Option LFun} {f : Nat} (N : Nat) {lf : LFun} {as1 : List V} {r : V} (hF : F f = none) (hC : C f = some lf) (h : as1.length = lf.np) (hl : liveL as1 = true) (hr : ranged as1 = true)
    (hb : endE true lf.res (evC2 (run2 F C) N lf.body { fr := params 0 as1 ++ deadL lf.sl, tk := [], tr := some [] }) = some r) : run2 F C f as1 = some r := by
  refine run2_of_body (N := N) hF hC ?_
  rw [evBody2_eq h hl, hr]
  exact hb
/-! ### Ranges over functions -/
def raE (evB : St → Option (Ex × St)) : Option (Ex × St) → Option (Ex × St)
  | some (.normal, σ) => evB σ
  | _ => none
def rbE (wr : List Nat) : Option (Ex × St) → Option (Ex × St)
  | some (ex, σ) => some (ex, { σ with fr := dropL wr σ.fr })
  | none => none
@[simp] theorem raE_some {evB : St → Option (Ex × St)} : raE evB (some (.normal, σ)) = evB σ := rfl
@[simp] theorem rbE_some {wr : List Nat} {x : Ex} : rbE wr (some (x, σ)) = some (x, { σ with fr := dropL wr σ.fr }) := rfl
@[simp] theorem rbE_ite {P : Prop} [Decidable P] {wr : List Nat} {x y : Option (Ex × St)} : rbE wr (if P then x else y) = if P then rbE wr x else rbE wr y := by split <;> rfl
theorem roundE_eq {evA evB : St → Option (Ex × St)} {ps wr : List Nat} {as1 : List V} : roundE evA evB ps wr σ as1 = if as1.length = ps.length then rbE wr (raE evB (evA { σ with fr := putA ps as1 (dropL wr σ.fr) })) else none := by
  unfold roundE
  split
  · cases evA { σ with fr := putA ps as1 (dropL wr σ.fr) } with
    | none => rfl
    | some r =>
      obtain ⟨x, τ⟩ := r
      cases x with
      | normal =>
        simp only [raE]
        cases evB τ with
        | none => rfl
        | some r => obtain ⟨x, τ⟩ := r; rfl
      | exit _ => rfl
      | ret => rfl
  · rfl
def rnF (call : Nat → List V → Option V) (N : Nat) (ps wr : List Nat) (asg body : LCode) (σ : St) (ys : List V → Nat → Nat → Option V) : Option (List V × List Nat) → Option (Ex × St)
  | some (cs, ts) => if (cs.all fun v => v.cells.all V.pm) = true then rngE (roundE (evC2 call N asg) (evC2 call N body) ps wr) (ys cs 0) { fr := dropL wr (roF ts σ.fr), tk := σ.tk, tr := none } else none
  | none => none
def rnE (call : Nat → List V → Option V) (N : Nat) (ps wr : List Nat) (asg body : LCode) (σ : St) : Option (List (List V)) → Option V → Option (Ex × St)
  | none, some (.fn (.f f) caps) => rnF call N ps wr asg body σ (fun cs _ a => call f (.fn (.y a) [] :: cs)) (frzEL caps)
  | none, some (.fn (.m f) caps) => rnF call N ps wr asg body σ (fun cs _ a => call f (cs ++ [.fn (.y a) []])) (frzEL caps)
  | _, _ => none
@[simp] theorem rnE_f {ps wr : List Nat} {asg body : LCode} {f : Nat} {caps : List V} : rnE call N ps wr asg body σ none (some (.fn (.f f) caps)) = rnF call N ps wr asg body σ (fun cs _ a => call f (.fn (.y a) [] :: cs)) (frzEL caps) := rfl
@[simp] theorem rnE_m {ps wr : List Nat} {asg body : LCode} {f : Nat} {caps : List V} : rnE call N ps wr asg body σ none (some (.fn (.m f) caps)) = rnF call N ps wr asg body σ (fun cs _ a => call f (cs ++ [.fn (.y a) []])) (frzEL caps) := rfl
@[simp] theorem rnF_some {ps wr : List Nat} {asg body : LCode} {ys : List V → Nat → Nat → Option V} {cs : List V} {ts : List Nat} : rnF call N ps wr asg body σ ys (some (cs, ts)) = if (cs.all fun v => v.cells.all V.pm) = true then rngE (roundE (evC2 call N asg) (evC2 call N body) ps wr) (ys cs 0) { fr := dropL wr (roF ts σ.fr), tk := σ.tk, tr := none } else none := rfl
@[simp] theorem evC2_rng {g : Opd} {ps wr : List Nat} {asg body : LCode} : evC2 call N (.rng g ps wr asg body) σ = rnE call N ps wr asg body σ σ.tr (opd σ.fr g) := by
  simp only [evC2]
  cases σ.tr with
  | some l => rfl
  | none =>
    cases opd σ.fr g with
    | none => rfl
    | some v =>
      cases v with
      | fn f caps =>
        cases f with
        | y a => rfl
        | f f =>
          simp only [rnE, rnF]
          cases frzEL caps with
          | none => rfl
          | some p => obtain ⟨x, y⟩ := p; rfl
        | m f =>
          simp only [rnE, rnF]
          cases frzEL caps with
          | none => rfl
          | some p => obtain ⟨x, y⟩ := p; rfl
      | _ => rfl
theorem rngE_all {f : St → List V → Option (Ex × St)} {it : Nat → Option V} {items : List (List V)} {σ' : St} (h1 : it 0 = some (.tup (tupsL items))) (h2 : foldR f 0 σ items = some (none, σ')) : rngE f it σ = some (.normal, σ') := by
  unfold rngE
  rw [h1]
  simp only [itemsOf, itemsL_tups, h2]
theorem fold_all {α β : Type} {f : St → List V → Option (Ex × St)} {s : List β → St} {W : α → List V} {h : α → List β} : ∀ (xs : List α) (k : Nat) (l : List β), (∀ x ∈ xs, ∀ l, f (s l) (W x) = some (.normal, s (l ++ h x))) → foldR f k (s l) (xs.map W) = some (none, s (l ++ xs.flatMap h))
  | [], k, l, _ => by simp [foldR]
  | x :: xs, k, l, hf => by
    simp only [List.map_cons, foldR, hf x (by simp) l]
    rw [fold_all xs (k + 1) (l ++ h x) fun y hy => hf y (by simp [hy])]
    simp
theorem len_flatMap {α β : Type} {h : α → List β} {c : Nat} (hc : ∀ x, (h x).length ≤ c) : ∀ xs : List α, (xs.flatMap h).length ≤ xs.length * c
  | [] => by simp
  | x :: xs => by
    have := len_flatMap hc xs
    have := hc x
    rw [List.flatMap_cons, List.length_append, List.length_cons, Nat.add_mul]; omega
/-- All rounds of a range over a function that goes on and on; the first one starts from a frame of its own. -/
theorem rng_fold {α β : Type} {f : St → List V → Option (Ex × St)} {it : Nat → Option V} {σ0 : St} {s : List β → St} {W : α → List V} {h : α → List β} {xs : List α} {l0 : List β} (h1 : it 0 = some (.tup (tupsL (xs.map W)))) (hx : xs ≠ [])
    (h0 : ∀ x, f σ0 (W x) = f (s l0) (W x)) (hf : ∀ pre x suf, xs = pre ++ x :: suf → f (s (l0 ++ pre.flatMap h)) (W x) = some (.normal, s (l0 ++ pre.flatMap h ++ h x))) : rngE f it σ0 = some (.normal, s (l0 ++ xs.flatMap h)) := by
  have key : ∀ (suf pre : List α) (k : Nat), xs = pre ++ suf → foldR f k (s (l0 ++ pre.flatMap h)) (suf.map W) = some (none, s (l0 ++ xs.flatMap h)) := by
    intro suf
    induction suf with
    | nil => intro pre k e; rw [List.append_nil] at e; subst e; rfl
    | cons x suf ih =>
      intro pre k e
      simp only [List.map_cons, foldR, hf pre x suf e]
      have := ih (pre ++ [x]) (k + 1) (by rw [e]; simp)
      rw [← this]
      simp
  refine rngE_all h1 ?_
  have k0 := key xs [] 0 rfl
  simp only [List.flatMap_nil, List.append_nil] at k0
  rw [← k0]
  cases xs with
  | nil => exact absurd rfl hx
  | cons x xs => simp only [List.map_cons, foldR, h0 x]
/-! ### Operations -/
variable {bx : Nat → Option (List V)} {d : Nat}
def stoE (s off : Nat) (new : List V) : Option (List V) → Option Eff2
  | some cs => match splice cs off new with | some cs' => some (.sto s cs') | none => none
  | none => none
@[simp] theorem stoE_some {s off : Nat} {new cs : List V} : stoE s off new (some cs) = if off + new.length ≤ cs.length then some (.sto s (cs.take off ++ new ++ cs.drop (off + new.length))) else none := by
  by_cases h : off + new.length ≤ cs.length <;> simp [stoE, splice, h]
def ldE (off : Nat) (n : Option Nat) : Option (List V) → Option V
  | some cs => partV cs off n
  | none => none
@[simp] theorem ldE_some {off : Nat} {n : Option Nat} {cs : List V} : ldE off n (some cs) = partV cs off n := rfl
@[simp] theorem x_mv {v : V} : sem2 call bx ex d .mv [v] = some (.val v) := rfl
@[simp] theorem x_pick_t {a b : V} : sem2 call bx ex d .pick [.bool true, a, b] = some (.val a) := rfl
@[simp] theorem x_pick_f {a b : V} : sem2 call bx ex d .pick [.bool false, a, b] = some (.val b) := rfl
theorem x_pick {c : Bool} {a b : V} : sem2 call bx ex d .pick [.bool c, a, b] = some (.val (if c = true then a else b)) := rfl
@[simp] theorem x_box {v : V} : sem2 call bx ex d .box [v] = if v.cells.all V.cellOk = true then some (.val (.box v.cells)) else none := rfl
@[simp] theorem x_alloc {zs : List V} : sem2 call bx ex d (.alloc zs) [] = some (.val (.box zs)) := rfl
def agE : Option (List V) → Option Eff2
  | some cs => some (.val (.agg cs))
  | none => none
@[simp] theorem agE_some {cs : List V} : agE (some cs) = some (.val (.agg cs)) := rfl
@[simp] theorem x_build {zs vs : List V} {pl : List (Nat × Nat)} : sem2 call bx ex d (.build zs pl) vs = agE (fill pl vs zs) := by
  simp only [sem2]; cases fill pl vs zs <;> rfl
@[simp] theorem fill_nil {cs : List V} : fill [] [] cs = some cs := rfl
@[simp] theorem x_load {n : Option Nat} {v : V} : sem2 call bx ex d (.load n) [v] = valO2 (loadV bx n v) := rfl
@[simp] theorem ld_ref {n : Option Nat} {s off : Nat} : loadV bx n (.ref s off) = if s < 1000000 then ldE off n (bx s) else none := by simp only [loadV]; cases bx s <;> rfl
@[simp] theorem ld_gref {n : Option Nat} {cs : List V} : loadV bx n (.gref cs) = partV cs 0 n := rfl
@[simp] theorem ld_cref {n : Option Nat} {cs : List V} : loadV bx n (.cref cs) = partV cs 0 n := rfl
@[simp] theorem ld_eref {n : Option Nat} {t m i off : Nat} {cs : List V} : loadV bx n (.eref t m i off cs) = partV cs off n := rfl
@[simp] theorem x_store {n s off : Nat} {root : Option Nat} {v : V} : sem2 call bx ex d (.store n root) [.ref s off, v] = if s < 1000000 ∧ v.cells.length = n ∧ v.cells.all V.cellOk = true ∧ (root = none ∨ root = some s) then stoE s off v.cells (bx s) else none := by
  simp only [sem2]
  split
  · cases bx s <;> rfl
  · rfl
@[simp] theorem x_bin {ty : Nat} {op : BinOp} {x y : V} : sem2 call bx ex d (.bin ty op) [x, y] = valO2 (binV2 ty op x y) := rfl
@[simp] theorem x_un {op : UnOp} {x : V} : sem2 call bx ex d (.un op) [x] = valO2 (unV op x) := rfl
def eqE (ne : Bool) : Option Bool → Option Eff2
  | some r => some (.val (.bool (ne != r)))
  | none => none
@[simp] theorem eqE_some {ne r : Bool} : eqE ne (some r) = some (.val (.bool (ne != r))) := rfl
@[simp] theorem x_eqs {ne : Bool} {sh : List (Option IntKind)} {cs ds : List V} : sem2 call bx ex d (.eqs ne sh) [.agg cs, .agg ds] = eqE ne (eqSh sh cs ds) := by
  simp only [sem2]; cases eqSh sh cs ds <;> rfl
@[simp] theorem x_conv {q k : IntKind} {n : Int} : sem2 call bx ex d (.conv k) [.int q n] = some (.val (.int k (k.wrap n))) := rfl
@[simp] theorem x_mkf {f : Nat} : sem2 call bx ex d (.mkf f) vs = some (.val (.fn (.f f) vs)) := rfl
@[simp] theorem x_mkm {f : Nat} : sem2 call bx ex d (.mkm f) vs = some (.val (.fn (.m f) vs)) := rfl
@[simp] theorem x_fa_ref {off s o : Nat} : sem2 call bx ex d (.fa off) [.ref s o] = some (.val (.ref s (o + off))) := rfl
@[simp] theorem x_fa_gref {off : Nat} {cs : List V} : sem2 call bx ex d (.fa off) [.gref cs] = some (.val (.gref (cs.drop off))) := rfl
@[simp] theorem x_fa_cref {off : Nat} {cs : List V} : sem2 call bx ex d (.fa off) [.cref cs] = some (.val (.cref (cs.drop off))) := rfl
@[simp] theorem x_fa_eref {off t n i o : Nat} {cs : List V} : sem2 call bx ex d (.fa off) [.eref t n i o cs] = some (.val (.eref t n i (o + off) cs)) := rfl
@[simp] theorem x_fld {off : Nat} {n : Option Nat} {cs : List V} : sem2 call bx ex d (.fld off n) [.agg cs] = valO2 (partV cs off n) := rfl
def ixE : Option (List V) → Option Eff2
  | some cs => some (.val (.cref cs))
  | none => none
@[simp] theorem ixE_some {cs : List V} : ixE (some cs) = some (.val (.cref cs)) := rfl
def ixF (u n i : Nat) : Option (List V) → Option Eff2
  | some cs => some (.val (.eref u n i 0 cs))
  | none => none
@[simp] theorem ixF_some {u n i : Nat} {cs : List V} : ixF u n i (some cs) = some (.val (.eref u n i 0 cs)) := rfl
@[simp] theorem x_ixs {sz : Nat} {es : List (List V)} {k : IntKind} {i : Int} (h : 0 ≤ i) : sem2 call bx ex d (.ixs sz) [.sl none sz es, .int k i] = ixE es[i.toNat]? := by
  simp only [sem2]; rw [if_pos ⟨trivial, h⟩]; cases es[i.toNat]? <;> rfl
@[simp] theorem x_ixs_own {sz u : Nat} {es : List (List V)} {k : IntKind} {i : Int} (h : 0 ≤ i) : sem2 call bx ex d (.ixs sz) [.sl (some u) sz es, .int k i] = ixF u es.length i.toNat es[i.toNat]? := by
  simp only [sem2]; rw [if_pos ⟨trivial, h⟩]; cases es[i.toNat]? <;> rfl
@[simp] theorem x_ixa_ref {len sz s o : Nat} {k : IntKind} {i : Int} (h : 0 ≤ i ∧ i < len) : sem2 call bx ex d (.ixa len sz) [.ref s o, .int k i] = some (.val (.ref s (o + i.toNat * sz))) := by simp only [sem2, if_pos h]
@[simp] theorem x_ixa_gref {len sz : Nat} {cs : List V} {k : IntKind} {i : Int} (h : 0 ≤ i ∧ i < len) : sem2 call bx ex d (.ixa len sz) [.gref cs, .int k i] = some (.val (.gref (cs.drop (i.toNat * sz)))) := by simp only [sem2, if_pos h]
@[simp] theorem x_ixa_cref {len sz : Nat} {cs : List V} {k : IntKind} {i : Int} (h : 0 ≤ i ∧ i < len) : sem2 call bx ex d (.ixa len sz) [.cref cs, .int k i] = some (.val (.cref (cs.drop (i.toNat * sz)))) := by simp only [sem2, if_pos h]
@[simp] theorem x_ixa_eref {len sz t n j o : Nat} {cs : List V} {k : IntKind} {i : Int} (h : 0 ≤ i ∧ i < len) : sem2 call bx ex d (.ixa len sz) [.eref t n j o cs, .int k i] = some (.val (.eref t n j (o + i.toNat * sz) cs)) := by simp only [sem2, if_pos h]
@[simp] theorem x_idx {len sz : Nat} {n : Option Nat} {cs : List V} {k : IntKind} {i : Int} (h : 0 ≤ i ∧ i < len) : sem2 call bx ex d (.idx len sz n) [.agg cs, .int k i] = valO2 (partV cs (i.toNat * sz) n) := by simp only [sem2, if_pos h]
@[simp] theorem x_ext {i : Nat} {cs : List V} : sem2 call bx ex d (.ext i) [.tup cs] = valO2 cs[i]? := rfl
@[simp] theorem x_len {t : Option Nat} {sz : Nat} {es : List (List V)} : sem2 call bx ex d .len [.sl t sz es] = some (.val (.int .i64 es.length)) := rfl
@[simp] theorem x_len_nil : sem2 call bx ex d .len [.nil] = some (.val (.int .i64 0)) := rfl
@[simp] theorem x_cap_nil : sem2 call bx ex d .cap [.nil] = some (.val (.int .i64 0)) := rfl
@[simp] theorem x_nilc_ref {s o : Nat} : sem2 call bx ex d .nilc [.ref s o] = some (.val (.ref s o)) := rfl
@[simp] theorem x_nilc_gref {cs : List V} : sem2 call bx ex d .nilc [.gref cs] = some (.val (.gref cs)) := rfl
@[simp] theorem x_nilc_cref {cs : List V} : sem2 call bx ex d .nilc [.cref cs] = some (.val (.cref cs)) := rfl
@[simp] theorem x_nilc_fn {f : Fk} {cs : List V} : sem2 call bx ex d .nilc [.fn f cs] = some (.val (.fn f cs)) := rfl
def mxE : Option (IntKind × List Int) → Option Eff2
  | some (k, n :: ns) => some (.val (.int k (maxL n ns)))
  | _ => none
def mnE : Option (IntKind × List Int) → Option Eff2
  | some (k, n :: ns) => some (.val (.int k (minL n ns)))
  | _ => none
@[simp] theorem mxE_some {k : IntKind} {n : Int} {ns : List Int} : mxE (some (k, n :: ns)) = some (.val (.int k (maxL n ns))) := rfl
@[simp] theorem mnE_some {k : IntKind} {n : Int} {ns : List Int} : mnE (some (k, n :: ns)) = some (.val (.int k (minL n ns))) := rfl
@[simp] theorem x_max : sem2 call bx ex d .max vs = mxE (intsOf vs) := by
  simp only [sem2]
  cases intsOf vs with
  | none => rfl
  | some p => obtain ⟨k, l⟩ := p; cases l <;> rfl
@[simp] theorem x_min : sem2 call bx ex d .min vs = mnE (intsOf vs) := by
  simp only [sem2]
  cases intsOf vs with
  | none => rfl
  | some p => obtain ⟨k, l⟩ := p; cases l <;> rfl
/-- A call's end. -/
def caR (d : Nat) (dr al mk : Bool) : Option V → Option Eff2
  | some r => if r.pureR = true then (if mk = true then (if distinctN (r.tks.map fun x => tb x.1) = true ∧ (r.tks.all fun x => decide (tb x.1 < 100)) = true ∧ d < 9999 then
        (if al = true then some (.res (r.rn d) d 1) else if r.al = true then (if dr = true then none else some (.res (r.rn d) d 2)) else some (.res (r.rn d) d 0)) else none) else
        (if r.tks.isEmpty = true ∧ r.al = false ∧ r.nb = true then some (.val r) else none)) else none
  | none => none
def caE (call : Nat → List V → Option V) (d : Nat) (dr al mk : Bool) (f : Nat) : Option (List V) → Option Eff2
  | some as1 => caR d dr al mk (call f as1)
  | none => none
@[simp] theorem caE_some {dr al mk : Bool} {f : Nat} {as1 : List V} : caE call d dr al mk f (some as1) = caR d dr al mk (call f as1) := rfl
theorem callE2_eq {dr al mk : Bool} {f : Nat} {vs : List V} : callE2 call bx d dr al mk f vs = caE call d dr al mk f (frzL (bxF bx 4) vs) := by
  simp only [callE2]
  cases frzL (bxF bx 4) vs with
  | none => rfl
  | some as1 => simp only [caE]; cases call f as1 <;> rfl
@[simp] theorem x_call_f {dr al mk : Bool} {f : Nat} {caps vs : List V} : sem2 call bx ex d (.call dr al mk) (.fn (.f f) caps :: vs) = caE call d dr al mk f (frzL (bxF bx 4) (vs ++ caps)) := by
  simp only [sem2]; exact callE2_eq
@[simp] theorem x_call_m {dr al mk : Bool} {f : Nat} {caps vs : List V} : sem2 call bx ex d (.call dr al mk) (.fn (.m f) caps :: vs) = caE call d dr al mk f (frzL (bxF bx 4) (caps ++ vs)) := by
  simp only [sem2]; exact callE2_eq
def yiE (ex : List Nat) (a : Nat) : Option (List V × List Nat) → Option Eff2
  | some (as1, ps) => if ps.all (fun u => !memN (tb u / 100) ex) = true ∧ (as1.all fun v => v.cells.all V.pm) = true then some (.yld a as1 ps) else none
  | none => none
@[simp] theorem yiE_some {a : Nat} {as1 : List V} {ps : List Nat} : yiE ex a (some (as1, ps)) = if ps.all (fun u => !memN (tb u / 100) ex) = true ∧ (as1.all fun v => v.cells.all V.pm) = true then some (.yld a as1 ps) else none := rfl
@[simp] theorem x_yield {al mk : Bool} {a : Nat} {vs : List V} : sem2 call bx ex d (.call false al mk) (.fn (.y a) [] :: vs) = yiE ex a (frzEL vs) := by
  simp only [sem2, Bool.false_eq_true, if_false]
  cases frzEL vs with
  | none => rfl
  | some p => obtain ⟨x, y⟩ := p; rfl
def esE (u m i off n : Nat) (cs : List V) (ex : List Nat) : Option Nat → Option (V × List Nat) → Option Eff2
  | none, some (v', []) => if rwT u = true ∧ memN (tb u / 100) ex = false ∧ v'.cells.length = n ∧ v'.cells.all V.pm = true then
      (if off + n ≤ cs.length then some (.est (tb u) m i (cs.take off ++ v'.cells ++ cs.drop (off + n))) else none) else none
  | _, _ => none
@[simp] theorem esE_some {u m i off n : Nat} {cs : List V} {v' : V} : esE u m i off n cs ex none (some (v', [])) = if rwT u = true ∧ memN (tb u / 100) ex = false ∧ v'.cells.length = n ∧ v'.cells.all V.pm = true then
      (if off + n ≤ cs.length then some (.est (tb u) m i (cs.take off ++ v'.cells ++ cs.drop (off + n))) else none) else none := rfl
def baE (n d : Nat) (ex : List Nat) (vs : List V) : Option (List (List V) × List Nat) → Option Eff2
  | some (es, ps) => if ps.all (fun u => !memN (tb u / 100) ex) = true ∧ d < 9999 then some (.mk (.sl (some (d * 100)) n es) (d * 100) (ps.map (surP (neTL vs)))) else none
  | none => none
@[simp] theorem baE_nil {n : Nat} {es : List (List V)} : baE n d ex vs (some (es, [])) = if d < 9999 then some (.mk (.sl (some (d * 100)) n es) (d * 100) []) else none := by
  by_cases h : d < 9999 <;> simp [baE, h]
@[simp] theorem baE_cons {n : Nat} {es : List (List V)} {p : Nat} {ps : List Nat} : baE n d ex vs (some (es, p :: ps)) = if (p :: ps).all (fun u => !memN (tb u / 100) ex) = true ∧ d < 9999 then some (.mk (.sl (some (d * 100)) n es) (d * 100) ((p :: ps).map (surP (neTL vs)))) else none := rfl
@[simp] theorem x_bsl {sz len : Nat} {z : List V} {ix : List Nat} : sem2 call bx ex d (.bsl sz z len ix) vs = baE sz d ex vs (fillE sz ix vs (List.replicate len z)) := by
  simp only [sem2]
  cases fillE sz ix vs (List.replicate len z) with
  | none => rfl
  | some p => obtain ⟨x, y⟩ := p; rfl
@[simp] theorem fillE_nil {sz : Nat} {es : List (List V)} : fillE sz [] [] es = some (es, []) := rfl
def slE (sz : Nat) (es : List (List V)) : Option (Nat × Nat) → Option Eff2
  | some (l, h) => some (.val (.sl none sz ((es.take h).drop l)))
  | none => none
def slF (u sz : Nat) (es : List (List V)) : Option (Nat × Nat) → Option Eff2
  | some (l, h) => some (.prot (.sl none sz ((es.take h).drop l)) [u])
  | none => none
@[simp] theorem slE_some {sz l h : Nat} {es : List (List V)} : slE sz es (some (l, h)) = some (.val (.sl none sz ((es.take h).drop l))) := rfl
@[simp] theorem slF_some {u sz l h : Nat} {es : List (List V)} : slF u sz es (some (l, h)) = some (.prot (.sl none sz ((es.take h).drop l)) [u]) := rfl
@[simp] theorem x_sls {sz : Nat} {es : List (List V)} {lo hi mx : Bool} {vs : List V} : sem2 call bx ex d (.sls sz lo hi mx) (.sl none sz es :: vs) = slE sz es (bounds es.length es.length lo hi mx vs) := by
  simp only [sem2, if_true]
  cases bounds es.length es.length lo hi mx vs with
  | none => rfl
  | some p => obtain ⟨x, y⟩ := p; rfl
@[simp] theorem x_sls_own {sz u : Nat} {es : List (List V)} {lo hi mx : Bool} {vs : List V} : sem2 call bx ex d (.sls sz lo hi mx) (.sl (some u) sz es :: vs) = if memN (tb u / 100) ex = false then slF u sz es (bounds es.length es.length lo hi mx vs) else none := by
  simp only [sem2, true_and]
  split
  · cases bounds es.length es.length lo hi mx vs with
    | none => rfl
    | some p => obtain ⟨x, y⟩ := p; rfl
  · rfl
@[simp] theorem bounds_lo {len : Nat} {k : IntKind} {i : Int} (h : 0 ≤ i ∧ i ≤ len) : bounds len len true false false [.int k i] = some (i.toNat, len) := by
  simp only [bounds, if_true, Bool.false_eq_true, if_false]
  rw [if_pos ⟨h.1, h.2, Int.le_refl _, Int.le_refl _⟩]; rfl
@[simp] theorem bounds_hi {len : Nat} {k : IntKind} {i : Int} (h : 0 ≤ i ∧ i ≤ len) : bounds len len false true false [.int k i] = some (0, i.toNat) := by
  simp only [bounds, if_true, Bool.false_eq_true, if_false]
  rw [if_pos ⟨Int.le_refl _, h.1, h.2, Int.le_refl _⟩]; rfl
@[simp] theorem bounds_lh {len : Nat} {k q : IntKind} {i j : Int} (h : 0 ≤ i ∧ i ≤ j ∧ j ≤ len) : bounds len len true true false [.int k i, .int q j] = some (i.toNat, j.toNat) := by
  simp only [bounds, if_true, Bool.false_eq_true, if_false]
  rw [if_pos ⟨h.1, h.2.1, h.2.2, Int.le_refl _⟩]
@[simp] theorem bounds_all {len : Nat} : bounds len len false false false [] = some (0, len) := by
  simp only [bounds, Bool.false_eq_true, if_false]
  rw [if_pos ⟨Int.le_refl _, by omega, Int.le_refl _, Int.le_refl _⟩]; rfl
@[simp] theorem x_mks {sz bytes : Nat} {z : List V} {k q : IntKind} {l c : Int} (h : 0 ≤ l ∧ l ≤ c ∧ c * bytes ≤ 140737488355328) : sem2 call bx ex d (.mks sz bytes z) [.int k l, .int q c] = if d < 9999 then some (.mk (.sl (some (d * 100)) sz (List.replicate l.toNat z)) (d * 100) []) else none := by
  simp only [sem2, h.1, h.2.1, h.2.2, true_and]
@[simp] theorem x_app_nil {dr : Bool} {sz bytes : Nat} {t : Option Nat} {ys : List (List V)} (h : ys.length * bytes ≤ 140737488355328) : sem2 call bx ex d (.append dr sz bytes) [.nil, .sl t sz ys] = if d < 9999 then some (if dr = true then .mk (.sl (some (2000000 + d * 100)) sz ys) (d * 100) [] else .mkg (.sl (some (2000000 + d * 100)) sz ys) d) else none := by
  simp only [sem2, elsOf, if_true, h, true_and]; split <;> (try split) <;> rfl
theorem app_eq {dr : Bool} {sz bytes u : Nat} {y : V} {xs ys : List (List V)} (hy : elsOf sz y = some ys) (h2 : (xs.length + ys.length) * bytes ≤ 140737488355328) : sem2 call bx ex d (.append dr sz bytes) [.sl (some u) sz xs, y] =
    if memN (tb u / 100) ex = false ∧ (mbT u = false ∨ tb u = d * 100) then some (if mbT u = true then (if dr = true then .app (.sl (some (unT u)) sz (xs ++ ys)) (d * 100) else .mkg (.sl (some (unT u)) sz (xs ++ ys)) d) else .app (.sl (some u) sz (xs ++ ys)) (tb u)) else none := by
  simp only [sem2, hy, true_and]
  cases hm : memN (tb u / 100) ex with
  | true => simp
  | false =>
    simp only [if_true, true_and]
    rw [if_pos h2]
    cases hb : mbT u with
    | false => simp
    | true =>
      simp only [if_true, Bool.true_eq_false, false_or]
      split <;> (try split) <;> rfl
@[simp] theorem x_mkmp : sem2 call bx ex d .mkmp [] = some (.val (.mbox [])) := rfl
def mlG (n : Int) : Option (List V) → Option Eff2
  | some cs => (match lookM cs n with
    | some .dead => none
    | some v => some (.val v)
    | none => if wellM cs = true then some (.val .nil) else none)
  | none => none
theorem x_mlook {s : Nat} {n : Int} (h : -9223372036854775808 ≤ n ∧ n ≤ 9223372036854775807) : sem2 call bx ex d .mlook [.mref s, .int .i64 n] = mlG n (bx (s + 1000000)) := by
  simp only [sem2, if_pos h]
  cases bx (s + 1000000) <;> rfl
theorem mlG_some {n : Int} {cs : List V} : mlG n (some cs) = (match lookM cs n with
    | some .dead => none
    | some v => some (.val v)
    | none => if wellM cs = true then some (.val .nil) else none) := rfl
def mpG (s : Nat) (n : Int) (v : V) : Option (List V) → Option Eff2
  | some cs => if wellM cs = true then some (.msto s (setM cs n v)) else none
  | none => none
@[simp] theorem mpG_some {s : Nat} {n : Int} {v : V} {cs : List V} : mpG s n v (some cs) = if wellM cs = true then some (.msto s (setM cs n v)) else none := rfl
theorem x_mput {s : Nat} {n : Int} {t : Option Nat} {sz : Nat} {es : List (List V)} (h : -9223372036854775808 ≤ n ∧ n ≤ 9223372036854775807) : sem2 call bx ex d .mput [.mref s, .int .i64 n, .sl t sz es] = mpG s n (.sl t sz es) (bx (s + 1000000)) := by
  simp only [sem2, if_pos h]
  cases bx (s + 1000000) <;> rfl
theorem x_appo {sz bytes u : Nat} {t : Option Nat} {xs ys : List (List V)} (h2 : (xs.length + ys.length) * bytes ≤ 140737488355328) (hne : xs ≠ []) : sem2 call bx ex d (.appo sz bytes) [.sl (some u) sz xs, .sl t sz ys] =
    if memN (tb u / 100) ex = false then some (.app (.sl (some u) sz (xs ++ ys)) (tb u)) else none := by
  simp [sem2, elsOf, h2, hne]
@[simp] theorem x_app {dr : Bool} {sz bytes u : Nat} {t : Option Nat} {xs ys : List (List V)} (h2 : (xs.length + ys.length) * bytes ≤ 140737488355328) : sem2 call bx ex d (.append dr sz bytes) [.sl (some u) sz xs, .sl t sz ys] =
    if memN (tb u / 100) ex = false ∧ (mbT u = false ∨ tb u = d * 100) then some (if mbT u = true then (if dr = true then .app (.sl (some (unT u)) sz (xs ++ ys)) (d * 100) else .mkg (.sl (some (unT u)) sz (xs ++ ys)) d) else .app (.sl (some u) sz (xs ++ ys)) (tb u)) else none :=
  app_eq (by simp only [elsOf, if_true]) h2
@[simp] theorem x_store_own {n u m i off : Nat} {root : Option Nat} {cs : List V} {v : V} : sem2 call bx ex d (.store n root) [.eref u m i off cs, v] = esE u m i off n cs ex root v.frzE := by
  simp only [sem2]
  cases root with
  | some r => rfl
  | none =>
    cases v.frzE with
    | none => rfl
    | some p =>
      obtain ⟨v', l⟩ := p
      cases l with
      | cons _ _ => rfl
      | nil =>
        simp only [esE, splice]
        split
        · rename_i h
          rw [h.2.2.1]
          by_cases hl : off + n ≤ cs.length <;> simp [hl]
        · rfl
/-! ### What is not known parts the ways -/
section
variable {P : Prop} [Decidable P]
@[simp low] theorem goG_bool (b c : Bool) : goG call dst k xs ex is σ b (some (.bool c)) = if c = true then goG call dst k xs ex is σ b (some (.bool true)) else goG call dst k xs ex is σ b (some (.bool false)) := by cases c <;> rfl
@[simp low] theorem conE_bool {a b : LCode} (c : Bool) : conE call N a b σ (some (.bool c)) = if c = true then evC2 call N a σ else evC2 call N b σ := by cases c <;> rfl
@[simp low] theorem x_pick_b {c : Bool} {a b : V} : sem2 call bx ex d .pick [.bool c, a, b] = if c = true then some (.val a) else some (.val b) := by cases c <;> rfl
@[simp] theorem goE_ite {x y : Option Eff2} : goE call dst is σ (if P then x else y) = if P then goE call dst is σ x else goE call dst is σ y := by split <;> rfl
@[simp] theorem regE_ite {kn : Nat} {kp : List Nat} {x y : Option St} : regE kn kp (if P then x else y) = if P then regE kn kp x else regE kn kp y := by split <;> rfl
@[simp] theorem seqE_ite {b : LCode} {x y : Option (Ex × St)} : seqE call N b (if P then x else y) = if P then seqE call N b x else seqE call N b y := by split <;> rfl
@[simp] theorem blkE_ite {id : Nat} {x y : Option (Ex × St)} : blkE id (if P then x else y) = if P then blkE id x else blkE id y := by split <;> rfl
@[simp] theorem endE_ite {it : Bool} {res : List RV} {x y : Option (Ex × St)} : endE it res (if P then x else y) = if P then endE it res x else endE it res y := by split <;> rfl
@[simp] theorem caR_ite {d : Nat} {dr al mk : Bool} {x y : Option V} : caR d dr al mk (if P then x else y) = if P then caR d dr al mk x else caR d dr al mk y := by split <;> rfl
end
@[simp] theorem valO2_some {v : V} : valO2 (some v) = some (.val v) := rfl
@[simp] theorem dst_getD {n m : Nat} : (some n).getD m = n := rfl
def opV (s : Nat) : Option V → Option V
  | some (.box _) => some (.ref s 0)
  | some (.mbox _) => some (.mref s)
  | some .dead => none
  | r => r
@[simp] theorem opd_c {fr : List (Nat × V)} {v : V} : opd fr (.c v) = some v := rfl
@[simp] theorem opd_f {fr : List (Nat × V)} {n : Nat} : opd fr (.f n) = some (.fn (.f n) []) := rfl
@[simp] theorem opd_t {fr : List (Nat × V)} {s : Nat} : opd fr (.t s) = opV s (get fr s) := by
  simp only [opd]
  cases get fr s with
  | none => rfl
  | some v => cases v <;> rfl
@[simp] theorem opV_mbox {s : Nat} {cs : List V} : opV s (some (.mbox cs)) = some (.mref s) := rfl
@[simp] theorem opV_mref {s t : Nat} : opV s (some (.mref t)) = some (.mref t) := rfl
@[simp] theorem opV_box {s : Nat} {cs : List V} : opV s (some (.box cs)) = some (.ref s 0) := rfl
@[simp] theorem opV_int {s : Nat} {k : IntKind} {n : Int} : opV s (some (.int k n)) = some (.int k n) := rfl
@[simp] theorem opV_bool {s : Nat} {b : Bool} : opV s (some (.bool b)) = some (.bool b) := rfl
@[simp] theorem opV_agg {s : Nat} {cs : List V} : opV s (some (.agg cs)) = some (.agg cs) := rfl
@[simp] theorem opV_tup {s : Nat} {cs : List V} : opV s (some (.tup cs)) = some (.tup cs) := rfl
@[simp] theorem opV_nil {s : Nat} : opV s (some .nil) = some .nil := rfl
@[simp] theorem opV_und {s : Nat} : opV s (some .und) = some .und := rfl
@[simp] theorem opV_sl {s : Nat} {t : Option Nat} {sz : Nat} {es : List (List V)} : opV s (some (.sl t sz es)) = some (.sl t sz es) := rfl
@[simp] theorem opV_fn {s : Nat} {f : Fk} {cs : List V} : opV s (some (.fn f cs)) = some (.fn f cs) := rfl
@[simp] theorem opV_ref {s a b : Nat} : opV s (some (.ref a b)) = some (.ref a b) := rfl
@[simp] theorem opV_gref {s : Nat} {cs : List V} : opV s (some (.gref cs)) = some (.gref cs) := rfl
@[simp] theorem opV_np {s : Nat} : opV s (some .np) = some .np := rfl
@[simp] theorem opV_bag {s sz : Nat} {es : List (List Int)} : opV s (some (.bag sz es)) = some (.bag sz es) := rfl
@[simp] theorem opV_cref {s : Nat} {cs : List V} : opV s (some (.cref cs)) = some (.cref cs) := rfl
@[simp] theorem opV_eref {s t n i o : Nat} {cs : List V} : opV s (some (.eref t n i o cs)) = some (.eref t n i o cs) := rfl
def opsC (v : Option V) (vs : Option (List V)) : Option (List V) := match v, vs with
  | some v, some vs => some (v :: vs)
  | _, _ => none
@[simp] theorem opsC_some {v : V} {vs : List V} : opsC (some v) (some vs) = some (v :: vs) := rfl
@[simp] theorem opds_nil {fr : List (Nat × V)} : opds fr [] = some [] := rfl
@[simp] theorem opds_cons {fr : List (Nat × V)} {x : Opd} {xs : List Opd} : opds fr (x :: xs) = opsC (opd fr x) (opds fr xs) := by
  simp only [opds, opsC]
  cases opd fr x <;> cases opds fr xs <;> rfl
@[simp] theorem frzL_nil {rd : Nat → Option (List V)} : frzL rd [] = some [] := rfl
@[simp] theorem frzL_cons {rd : Nat → Option (List V)} {v : V} {vs : List V} : frzL rd (v :: vs) = opsC (v.frz rd) (frzL rd vs) := by
  simp only [frzL, opsC]
  cases v.frz rd <;> cases frzL rd vs <;> rfl
def bxV : Option V → Option (List V)
  | some (.box cs) => some cs
  | _ => none
@[simp] theorem bxV_some {cs : List V} : bxV (some (.box cs)) = some cs := rfl
def mbV : Option V → Option (List V)
  | some (.mbox cs) => some cs
  | _ => none
@[simp] theorem mbV_some {cs : List V} : mbV (some (.mbox cs)) = some cs := rfl
@[simp] theorem bxOf_eq {fr : List (Nat × V)} {ex : List Nat} {s : Nat} : bxOf fr ex s = if s < 1000000 then (if memN s ex = true then none else bxV (get fr s)) else (if memN (s - 1000000) ex = true then none else mbV (get fr (s - 1000000))) := by
  unfold bxOf
  split
  · split
    · rfl
    · cases get fr s with
      | none => rfl
      | some v => cases v <;> rfl
  · split
    · rfl
    · cases get fr (s - 1000000) with
      | none => rfl
      | some v => cases v <;> rfl
def bxG (bx : Nat → Option (List V)) (n : Nat) : Option (List V) → Option (List V)
  | some cs => frzL (bxF bx n) cs
  | none => none
@[simp] theorem bxG_some {n : Nat} {cs : List V} : bxG bx n (some cs) = frzL (bxF bx n) cs := rfl
@[simp] theorem bxF_succ {n s : Nat} : bxF bx (n + 1) s = if s < 1000000 then bxG bx n (bx s) else none := by
  simp only [bxF]; cases bx s <;> rfl
end
@[simp] theorem flatE_ints (xs : List Int) : flatE (xs.map fun x => [V.int .i64 x]) = true := by simp [flatE, V.flat]
@[simp] theorem flatE_nil : flatE [] = true := rfl
section
variable {f : Nat → Nat} {u : Nat} {e : List V} {es : List (List V)}
@[simp] theorem keepN_nil : keepN f u [] = if mbT u = true then u else f u := rfl
@[simp] theorem keepN_cons : keepN f u (e :: es) = f u := by simp [keepN]
@[simp] theorem keepN_nn (h : mbT u = false) : keepN f u es = f u := by simp [keepN, h]
@[simp] theorem keepN_same (h : f u = u) : keepN f u es = u := by
  unfold keepN
  split
  · cases es <;> simp [h]
  · exact h
@[simp] theorem mod_keepN_ro : keepN roT u es % 1000000 = u % 1000000 := tb_keepN tb_roT u es
@[simp] theorem mod_keepN_ru : keepN ruT u es % 1000000 = u % 1000000 := tb_keepN tb_ruT u es
@[simp] theorem mod_keepN_roU {ps : List Nat} : keepN (roU ps) u es % 1000000 = u % 1000000 := tb_keepN (tb_roU ps) u es
@[simp high] theorem tb_keepN_ro : tb (keepN roT u es) = tb u := tb_keepN tb_roT u es
@[simp high] theorem tb_keepN_ru : tb (keepN ruT u es) = tb u := tb_keepN tb_ruT u es
@[simp high] theorem tb_keepN_roU {ps : List Nat} : tb (keepN (roU ps) u es) = tb u := tb_keepN (tb_roU ps) u es
@[simp high] theorem mb_keepN_ro : mbT (keepN roT u es) = mbT u := mb_keepN mb_roT u es
@[simp high] theorem mb_keepN_ru : mbT (keepN ruT u es) = mbT u := mb_keepN mb_ruT u es
@[simp high] theorem mb_keepN_roU {ps : List Nat} : mbT (keepN (roU ps) u es) = mbT u := mb_keepN (mb_roU ps) u es
end
attribute [simp] List.getElem?_cons_zero List.getElem?_cons_succ
attribute [simp] V.nb nbL params deadL liveL prep2 prepG prS surP neTL V.neT killT killG roF roA ruA roU exB estT mpF V.mp mpL get put putO partV binV2 binV binI binS unV nilCmp apply2 keepL dropL memN V.frz frzEL V.frzE V.pureR pureRL V.tks tksL V.al alL V.rn rnL distinctN fill splice fillE V.cells V.cellOk V.pm eqSh intsOf maxL minL ranged finish2 result2 givL V.giv givC givB V.plainR plainRL apartT bxOf rvs finL2 V.fin2 one goesOn tb rwT mbT roX roT ruT unT roundE_eq putA itemsOf itemsL tupsL caR
end Go.Lo

/- Arguments that read as data, for the plain machine. -/
namespace Go.Lo
def i64r (n : Int) : Prop := -9223372036854775808 ≤ n ∧ n ≤ 9223372036854775807
theorem wf_i64r {n : Int} (h : (Lit.int .i64 n).wf = true) : i64r n := by
  simp [Lit.wf, IntKind.min, IntKind.max, IntKind.bits, IntKind.signed] at h
  unfold i64r
  omega
theorem relL_ints (k : IntKind) : ∀ xs : List Int, RelL (xs.map fun x => .int k x) noT (xs.map fun x => .int k x)
  | [] => RelL.nil
  | x :: xs => by rw [List.map_cons]; exact RelL.cons (by simp only [Rel]) (relL_ints k xs)
theorem relE_eI1 : ∀ xs : List Int, RelE (eI xs) (eI xs)
  | [] => by simp [RelE]
  | x :: xs => by
    have := relE_eI1 xs
    simp only [List.map_cons] at this ⊢
    exact RelE.cons (RelL.one (by simp only [Rel])) this
theorem can_ints {v : V} (h : HasC (.sl (.int .i64)) [v]) : ∃ xs : List Int, Rel (S 1 (eI xs)) noT v ∧ ∀ x ∈ xs, i64r x := by
  simp only [HasC] at h
  rcases h with h | ⟨es, h, _, he⟩
  · injection h with h _
    subst h
    exact ⟨[], by rw [Rel]; left; exact ⟨rfl, rfl⟩, fun x hx => by cases hx⟩
  · injection h with h _
    subst h
    have key : ∀ es : List (List V), (∀ x ∈ es, ∃ n, x = [V.int .i64 n] ∧ (Lit.int .i64 n).wf = true) → ∃ xs : List Int, es = eI xs ∧ ∀ x ∈ xs, i64r x := by
      intro es
      induction es with
      | nil => exact fun _ => ⟨[], rfl, fun x hx => by cases hx⟩
      | cons e es ih =>
        intro h
        obtain ⟨n, h1, h2⟩ := h e (by simp)
        obtain ⟨xs, g1, g2⟩ := ih fun x hx => h x (by simp [hx])
        subst h1
        refine ⟨n :: xs, by simp [g1], fun x hx => ?_⟩
        rcases List.mem_cons.1 hx with rfl | hx
        · exact wf_i64r h2
        · exact g2 x hx
    obtain ⟨xs, rfl, hx⟩ := key es he
    exact ⟨xs, by rw [Rel]; right; exact ⟨_, rfl, relE_eI1 xs⟩, hx⟩
theorem can_rows {v : V} (h : HasC (.sl (.sl (.int .i64))) [v]) : ∃ rs : List (List Int), Rel (S 1 (rs.map fun r => [S 1 (eI r)])) noT v ∧ ∀ r ∈ rs, ∀ x ∈ r, i64r x := by
  rw [HasC] at h
  rcases h with h | ⟨es, h, _, he⟩
  · injection h with h _
    subst h
    exact ⟨[], by rw [Rel]; left; exact ⟨rfl, rfl⟩, fun x hx => by cases hx⟩
  · injection h with h _
    subst h
    have key : ∀ es : List (List V), (∀ x ∈ es, HasC (.sl (.int .i64)) x) → ∃ rs : List (List Int), RelE (rs.map fun r => [S 1 (eI r)]) es ∧ ∀ r ∈ rs, ∀ x ∈ r, i64r x := by
      intro es
      induction es with
      | nil => exact fun _ => ⟨[], by simp [RelE], fun x hx => by cases hx⟩
      | cons e es ih =>
        intro h
        have h1 := h e (by simp)
        obtain ⟨v, rfl⟩ : ∃ v, e = [v] := by
          simp only [HasC] at h1
          rcases h1 with h1 | ⟨_, h1, _⟩ <;> exact ⟨_, h1⟩
        obtain ⟨xs, hx, hb⟩ := can_ints h1
        obtain ⟨rs, g1, g2⟩ := ih fun x hx => h x (by simp [hx])
        refine ⟨xs :: rs, by rw [List.map_cons]; exact RelE.cons (RelL.one hx) g1, fun r hr => ?_⟩
        rcases List.mem_cons.1 hr with rfl | hr
        · exact hb
        · exact g2 r hr
    obtain ⟨rs, hr, hb⟩ := key es he
    exact ⟨rs, by rw [Rel]; right; exact ⟨_, rfl, hr⟩, hb⟩
theorem can_arr {k : IntKind} {n : Nat} {v : V} (h : HasV (.arr n (.int k)) v) : ∃ xs : List Int, xs.length = n ∧ v = .agg (xs.map fun x => .int k x) ∧ ∀ x ∈ xs, (Lit.int k x).wf = true := by
  simp only [HasV, HasC] at h
  obtain ⟨cs, rfl, es, rfl, rfl, he⟩ := h
  have key : ∀ es : List (List V), (∀ x ∈ es, ∃ n, x = [V.int k n] ∧ (Lit.int k n).wf = true) → ∃ xs : List Int, xs.length = es.length ∧ es.flatten = xs.map (fun x => .int k x) ∧ ∀ x ∈ xs, (Lit.int k x).wf = true := by
    intro es
    induction es with
    | nil => exact fun _ => ⟨[], rfl, rfl, fun x hx => by cases hx⟩
    | cons e es ih =>
      intro h
      obtain ⟨n, h1, h2⟩ := h e (by simp)
      obtain ⟨xs, g1, g2, g3⟩ := ih fun x hx => h x (by simp [hx])
      subst h1
      refine ⟨n :: xs, by simp [g1], by simp [g2], fun x hx => ?_⟩
      rcases List.mem_cons.1 hx with rfl | hx
      · exact h2
      · exact g3 x hx
  obtain ⟨xs, g1, g2, g3⟩ := key es he
  exact ⟨xs, g1, by rw [g2], g3⟩
theorem can_int {k : IntKind} {v : V} (h : HasV (.int k) v) : ∃ n, v = .int k n ∧ (Lit.int k n).wf = true := by
  simp only [HasV, HasC] at h
  obtain ⟨n, h, w⟩ := h
  injection h with h _
  exact ⟨n, h, w⟩
theorem can_bool {v : V} (h : HasV .bool v) : ∃ b, v = .bool b := by
  simp only [HasV, HasC] at h
  obtain ⟨n, h⟩ := h
  injection h with h _
  exact ⟨n, h⟩
theorem HasCs.inv {t : Ty} {ts : List Ty} {cs : List V} (h : HasCs (t :: ts) cs) : ∃ a b, cs = a ++ b ∧ HasC t a ∧ HasCs ts b := by rw [HasCs] at h; exact h
theorem HasC.sl1 {t : Ty} {x : List V} (hx : HasC (.sl t) x) : ∃ v, x = [v] := by
  rw [HasC] at hx
  rcases hx with hx | ⟨_, hx, _⟩ <;> exact ⟨_, hx⟩
end Go.Lo

/- More arguments that read as data. -/
namespace Go.Lo
theorem wf_u8 {n : Int} (h : (Lit.int .u8 n).wf = true) : 0 ≤ n ∧ n ≤ 255 := by
  simp [Lit.wf, IntKind.min, IntKind.max, IntKind.bits, IntKind.signed] at h; omega
theorem wf_u16 {n : Int} (h : (Lit.int .u16 n).wf = true) : 0 ≤ n ∧ n ≤ 65535 := by
  simp [Lit.wf, IntKind.min, IntKind.max, IntKind.bits, IntKind.signed] at h; omega
theorem wf_i8 {n : Int} (h : (Lit.int .i8 n).wf = true) : -128 ≤ n ∧ n ≤ 127 := by
  simp [Lit.wf, IntKind.min, IntKind.max, IntKind.bits, IntKind.signed] at h; omega
theorem wf_i16 {n : Int} (h : (Lit.int .i16 n).wf = true) : -32768 ≤ n ∧ n ≤ 32767 := by
  simp [Lit.wf, IntKind.min, IntKind.max, IntKind.bits, IntKind.signed] at h; omega
/-- A slice whose elements are told by things of a type, each of which stands for its cells. -/
theorem can_sl {α : Type} {t : Ty} {E : α → List V} {Q : α → Prop} {v : V} (h : HasC (.sl t) [v]) (he : ∀ x, HasC t x → ∃ a, RelL (E a) noT x ∧ Q a) : ∃ l : List α, Rel (S t.cells (l.map E)) noT v ∧ ∀ a ∈ l, Q a := by
  rw [HasC] at h
  rcases h with h | ⟨es, h, _, hes⟩
  · injection h with h _
    subst h
    exact ⟨[], by rw [Rel]; left; exact ⟨rfl, rfl⟩, fun x hx => by cases hx⟩
  · injection h with h _
    subst h
    have key : ∀ es : List (List V), (∀ x ∈ es, HasC t x) → ∃ l : List α, RelE (l.map E) es ∧ ∀ a ∈ l, Q a := by
      intro es
      induction es with
      | nil => exact fun _ => ⟨[], by simp [RelE], fun x hx => by cases hx⟩
      | cons e es ih =>
        intro h
        obtain ⟨a, h1, h2⟩ := he e (h e (by simp))
        obtain ⟨l, g1, g2⟩ := ih fun x hx => h x (by simp [hx])
        refine ⟨a :: l, by rw [List.map_cons]; exact RelE.cons h1 g1, fun x hx => ?_⟩
        rcases List.mem_cons.1 hx with rfl | hx
        · exact h2
        · exact g2 x hx
    obtain ⟨l, hr, hb⟩ := key es hes
    exact ⟨l, by rw [Rel]; right; exact ⟨_, rfl, hr⟩, hb⟩
theorem can_intsK {k : IntKind} {v : V} (h : HasC (.sl (.int k)) [v]) : ∃ xs : List Int, Rel (S 1 (xs.map fun x => [V.int k x])) noT v ∧ ∀ x ∈ xs, (Lit.int k x).wf = true :=
  can_sl (E := fun x => [V.int k x]) (Q := fun x => (Lit.int k x).wf = true) h fun x hx => by
    simp only [HasC] at hx
    obtain ⟨n, rfl, hn⟩ := hx
    exact ⟨n, RelL.one (by simp only [Rel]), hn⟩
theorem can_arrs {k : IntKind} {n : Nat} {v : V} (h : HasC (.sl (.arr n (.int k))) [v]) : ∃ rs : List (List Int), Rel (S n (rs.map fun r => r.map fun x => V.int k x)) noT v ∧ ∀ r ∈ rs, r.length = n ∧ ∀ x ∈ r, (Lit.int k x).wf = true := by
  have := can_sl (E := fun r : List Int => r.map fun x => V.int k x) (Q := fun r => r.length = n ∧ ∀ x ∈ r, (Lit.int k x).wf = true) h fun x hx => by
    obtain ⟨xs, h1, h2, h3⟩ := can_arr (k := k) (n := n) (v := .agg x) (by simp only [HasV]; exact ⟨x, rfl, hx⟩)
    injection h2 with h2
    exact ⟨xs, by rw [h2]; exact relL_ints k xs, h1, h3⟩
  rwa [show (Ty.arr n (.int k)).cells = n from by simp [Ty.cells]] at this
theorem rel_aggK (k : IntKind) (xs : List Int) : Rel (.agg (xs.map fun x => .int k x)) noT (.agg (xs.map fun x => .int k x)) := by
  rw [Rel]
  exact ⟨_, rfl, relL_ints k xs⟩
theorem rel_int (k : IntKind) (n : Int) : Rel (.int k n) noT (.int k n) := by rw [Rel]
theorem rel_bool (b : Bool) : Rel (.bool b) noT (.bool b) := by rw [Rel]
end Go.Lo
