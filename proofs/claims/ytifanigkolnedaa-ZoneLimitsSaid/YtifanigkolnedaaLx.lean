/- Instructions that stand apart may change places. -/
import Derived.Test.YtifanigkolnedaaLw
namespace Go.Lo

/-! ### Puts -/
theorem put_comm {α : Type} : ∀ (l : List (Nat × α)) {s t : Nat} {u v : α}, s ≠ t → put (put l s u) t v = put (put l t v) s u
  | [], s, t, u, v, h => by
    simp only [put]
    by_cases h1 : s < t
    · have : ¬ t < s := by omega
      simp [h, h.symm, h1, this]
    · have : t < s := by omega
      simp [h, h.symm, h1, this]
  | (k, w) :: l, s, t, u, v, h => by
    simp only [put]
    by_cases e1 : k = s <;> by_cases e2 : k = t
    · omega
    · subst e1
      by_cases h2 : t < k
      · simp only [put, if_true, if_neg e2, if_pos h2, if_neg h.symm, if_neg (by omega : ¬ k < t)]
      · simp only [put, if_true, if_neg e2, if_neg h2]
    · subst e2
      by_cases h1 : s < k
      · simp only [put, if_true, if_neg e1, if_pos h1, if_neg h, if_neg (by omega : ¬ k < s)]
      · simp only [put, if_true, if_neg e1, if_neg h1]
    · by_cases h1 : s < k <;> by_cases h2 : t < k
      · simp only [put, if_neg e1, if_neg e2, if_pos h1, if_pos h2]
        by_cases h3 : s < t
        · simp only [if_neg h, if_neg h.symm, if_neg (by omega : ¬ t < s), if_pos h3]
        · simp only [if_neg h, if_neg h.symm, if_pos (by omega : t < s), if_neg h3]
      · simp only [put, if_neg e1, if_neg e2, if_pos h1, if_neg h2, if_neg h, if_neg (by omega : ¬ t < s)]
      · simp only [put, if_neg e1, if_neg e2, if_neg h1, if_pos h2, if_neg h.symm, if_neg (by omega : ¬ s < t)]
      · simp only [put, if_neg e1, if_neg e2, if_neg h1, if_neg h2]
        rw [put_comm l h]
theorem put_protT (ps : List Nat) : ∀ (l : List (Nat × Nat × Bool)) {t : Nat} {v : Nat × Bool}, memN t ps = false → protT ps (put l t v) = put (protT ps l) t v
  | [], t, v, h => by obtain ⟨n, w⟩ := v; simp [put, protT, h]
  | (k, n, w) :: l, t, (n', w'), h => by
    simp only [put]
    by_cases e : k = t
    · subst e
      simp [protT, put, h]
    · by_cases h1 : t < k
      · simp only [if_neg e, if_pos h1, protT, h, Bool.false_eq_true, if_false]
        split <;> simp [put, e, h1]
      · simp only [if_neg e, if_neg h1, protT, put_protT ps l h]
        split <;> simp [put, e, h1]
theorem put_lenT {u m : Nat} : ∀ (l : List (Nat × Nat × Bool)) {t : Nat} {v : Nat × Bool}, t ≠ u → lenT u m (put l t v) = put (lenT u m l) t v
  | [], t, v, h => by obtain ⟨n, w⟩ := v; simp [put, lenT, h]
  | (k, n, w) :: l, t, (n', w'), h => by
    simp only [put]
    by_cases e : k = t
    · subst e
      simp [lenT, put, h]
    · by_cases h1 : t < k
      · simp only [if_neg e, if_pos h1, lenT, if_neg h]
        split <;> simp [put, e, h1]
      · simp only [if_neg e, if_neg h1, lenT, put_lenT l h]
        split <;> simp [put, e, h1]
theorem protT_comm (ps qs : List Nat) : ∀ (l : List (Nat × Nat × Bool)), protT ps (protT qs l) = protT qs (protT ps l)
  | [] => rfl
  | (k, n, w) :: l => by
    simp only [protT]
    by_cases h1 : memN k ps = true <;> by_cases h2 : memN k qs = true <;> simp [h1, h2, protT_comm ps qs l]
theorem protT_lenT (ps : List Nat) {u m : Nat} : ∀ (l : List (Nat × Nat × Bool)), protT ps (lenT u m l) = lenT u m (protT ps l)
  | [] => rfl
  | (k, n, w) :: l => by
    simp only [protT, lenT]
    by_cases h2 : k = u
    · subst h2
      by_cases h1 : memN k ps = true <;> simp [protT, h1]
    · by_cases h1 : memN k ps = true <;> simp [protT, h1, h2, protT_lenT ps l]
theorem lenT_comm {t n u m : Nat} (h : t ≠ u) : ∀ (l : List (Nat × Nat × Bool)), lenT t n (lenT u m l) = lenT u m (lenT t n l)
  | [] => rfl
  | (k, q, w) :: l => by
    simp only [lenT]
    by_cases h1 : k = t <;> by_cases h2 : k = u
    · omega
    · subst h1; simp [lenT, h2]
    · subst h2; simp [lenT, h1]
    · simp [lenT, h1, h2, lenT_comm h l]

/-! ### What an instruction looks at and turns -/
structure Quiet (x y : LIns) : Prop where
  dst : ∀ d, x.dst = some d → memN d (looksL y) = false ∧ y.dst ≠ some d ∧ rootK y.k ≠ some d ∧ memN d y.ex = true
  root : ∀ r, rootK x.k = some r → memN r y.ex = true ∧ rootK y.k ≠ some r ∧ y.dst ≠ some r
  draw : drawK x.k = true
  made : mkK x.k = true → x.dst.isSome = true
theorem quietL_spec {x y : LIns} (h : quietL x y = true) : Quiet x y := by
  unfold quietL at h
  simp only [Bool.and_eq_true, Bool.or_eq_true, Bool.not_eq_true'] at h
  obtain ⟨⟨⟨h1, h2⟩, h3⟩, h4⟩ := h
  refine ⟨fun d hd => ?_, fun r hr => ?_, h3, fun hm => ?_⟩
  · rw [hd] at h1
    simp only [Bool.and_eq_true, Bool.not_eq_true', bne_iff_ne, ne_eq] at h1
    exact ⟨h1.1.1.1, h1.1.1.2, h1.1.2, h1.2⟩
  · rw [hr] at h2
    simp only [Bool.and_eq_true, bne_iff_ne, ne_eq] at h2
    exact ⟨h2.1.1, h2.1.2, h2.2⟩
  · rcases h4 with h4 | h4
    · rw [hm] at h4; cases h4
    · exact h4
/-- The effects of such an instruction. -/
def DrawEff (i : LIns) : Eff → Prop
  | .val _ => True
  | .mk _ t _ ps => (∃ d, i.dst = some d ∧ t / 100 = d) ∧ ∀ p ∈ ps, memN (p / 100) i.ex = false
  | .mkp _ _ _ => False
  | .trunc _ _ _ => False
  | .app _ t _ => memN (t / 100) i.ex = false ∧ isAppK i.k = true
  | .prot _ ps => ∀ p ∈ ps, memN (p / 100) i.ex = false
  | .yld _ _ _ => False
  | .sto s _ => rootK i.k = some s
  | .est _ _ _ _ => False
  | .res v al => al = false ∧ ∃ d, i.dst = some d ∧ ∀ p ∈ v.tks, p.1 / 100 = d
theorem tkOf_some {tk : List (Nat × Nat × Bool)} {ex : List Nat} {t : Nat} (h : (tkOf tk ex t).isSome = true) : memN (t / 100) ex = false := by
  unfold tkOf at h
  split at h
  · cases h
  · rename_i hm; simpa using hm
theorem callE_draw {call : Nat → List V → Option V} {bx : Nat → Option (List V)} {d f : Nat} {al mk : Bool} {vs : List V} {e : Eff} (h : callE call bx d true al mk f vs = some e) : (∃ v, e = .val v) ∨ (mk = true ∧ ∃ v, e = .res v false ∧ ∀ p ∈ v.tks, p.1 / 100 = d) := by
  unfold callE at h
  split at h
  case h_2 => cases h
  split at h
  case h_2 => cases h
  rename_i r _
  split at h
  case isFalse => cases h
  split at h
  · rename_i hmk
    split at h
    case isFalse => cases h
    rename_i hdis
    split at h
    · simp only [if_true, reduceCtorEq] at h
    · simp only [Option.some.injEq] at h; subst h
      refine .inr ⟨hmk, _, rfl, fun p hp => ?_⟩
      obtain ⟨t, n⟩ := p
      obtain ⟨q, h3, h4⟩ := rn_tks _ hp
      have := List.all_eq_true.1 hdis.2 (q, n) h4
      simp only [decide_eq_true_eq] at this
      show t / 100 = d
      omega
  · split at h
    · simp only [Option.some.injEq] at h; subst h; exact .inl ⟨_, rfl⟩
    · cases h
theorem drawEff {call : Nat → List V → Option V} {bx : Nat → Option (List V)} {tk : List (Nat × Nat × Bool)} {i : LIns} {vs : List V} {e : Eff} (hd : drawK i.k = true) (hm : mkK i.k = true → i.dst.isSome = true)
    (h : sem call bx (tkOf tk i.ex) (i.dst.getD 0) i.k vs = some e) : DrawEff i e := by
  have hval : ∀ {x : Option V}, valO x = some e → DrawEff i e := fun hx => by
    obtain ⟨v, _, rfl⟩ := valO_some hx
    trivial
  have mkd : mkK i.k = true → ∃ d, i.dst = some d ∧ i.dst.getD 0 = d := fun hx => by
    obtain ⟨d, hd⟩ := Option.isSome_iff_exists.1 (hm hx)
    exact ⟨d, hd, by rw [hd]; rfl⟩
  have key : ∀ t x, tkOf tk i.ex t = some x → memN (t / 100) i.ex = false := fun t x h => tkOf_some (by rw [h]; rfl)
  generalize hdd : i.dst.getD 0 = dd at h
  cases hk : i.k <;> rw [hk] at h <;> simp only [sem] at h
  case bsl sz z len ix =>
    obtain ⟨d, h1, h2⟩ := mkd (by rw [hk]; rfl)
    split at h
    · split at h
      · rename_i es ps hf hp
        simp only [Option.some.injEq] at h; subst h
        refine ⟨⟨d, h1, by omega⟩, fun p hps => tkOf_some (List.all_eq_true.1 hp p hps)⟩
      · cases h
    · cases h
  case mks sz b z =>
    obtain ⟨d, h1, h2⟩ := mkd (by rw [hk]; rfl)
    repeat' split at h
    all_goals first
      | (cases h; done)
      | (simp only [Option.some.injEq] at h; subst h; exact ⟨⟨d, h1, by omega⟩, by simp⟩)
  case append dr sz b =>
    obtain ⟨d, h1, h2⟩ := mkd (by rw [hk]; rfl)
    have hdr : dr = true := by rw [hk] at hd; exact hd
    subst hdr
    repeat' split at h
    all_goals first
      | (cases h; done)
      | (simp only [Option.some.injEq] at h; subst h; exact trivial)
      | (simp only [Option.some.injEq] at h; subst h; exact ⟨⟨d, h1, by omega⟩, by simp⟩)
      | (simp only [Option.some.injEq] at h; subst h; exact ⟨key _ _ (by assumption), by rw [hk]; rfl⟩)
      | exact absurd rfl ‹¬ true = true›
  case appz sz b z => rw [hk] at hd; simp [drawK] at hd
  case trunc sz => rw [hk] at hd; simp [drawK] at hd
  case sls sz lo hi mx =>
    repeat' split at h
    all_goals first
      | (cases h; done)
      | (simp only [Option.some.injEq] at h; subst h; exact trivial)
      | (simp only [Option.some.injEq] at h; subst h; intro p hp; rw [List.mem_singleton] at hp; subst hp; exact tkOf_some (by assumption))
  case store n root =>
    cases root with
    | none => rw [hk] at hd; simp [drawK] at hd
    | some r =>
      split at h
      · split at h
        · rename_i hc
          split at h
          · split at h
            · simp only [Option.some.injEq] at h; subst h
              rcases hc.2.2 with hc | hc
              · cases hc
              · injection hc with hc
                subst hc
                rw [DrawEff, hk]; rfl
            · cases h
          · cases h
        · cases h
      · cases h
      · cases h
  case call dr al mk =>
    have hdr : dr = true := by rw [hk] at hd; exact hd
    subst hdr
    have fin : ∀ {f : Nat} {us : List V}, callE call bx dd true al mk f us = some e → DrawEff i e := fun hc => by
      rcases callE_draw hc with ⟨v, rfl⟩ | ⟨hmk, v, rfl, hp⟩
      · trivial
      · subst hmk
        obtain ⟨d, h1, h2⟩ := mkd (by rw [hk]; rfl)
        exact ⟨rfl, d, h1, fun p hpm => by rw [hp p hpm, ← hdd]; exact h2⟩
    split at h
    · exact fin h
    · exact fin h
    · simp only [if_true, reduceCtorEq] at h
    · cases h
  all_goals
    repeat' split at h
    all_goals first
      | (cases h; done)
      | exact hval h
      | (simp only [Option.some.injEq] at h; subst h; exact trivial)
/-- Of the arrays it asks at most which there are; an append asks for their lengths. -/
theorem sem_tk {call : Nat → List V → Option V} {bx : Nat → Option (List V)} {tk tk' : Nat → Option (Nat × Bool)} {d : Nat} {k : K} {vs : List V} (hd : drawK k = true)
    (h1 : ∀ t, (tk t).isSome = (tk' t).isSome) (h2 : isAppK k = true → ∀ t, (tk t).map (·.1) = (tk' t).map (·.1)) : sem call bx tk d k vs = sem call bx tk' d k vs := by
  cases k <;> simp only [sem]
  case bsl => simp only [h1]
  case trunc => simp [drawK] at hd
  case sls => simp only [h1]
  case call dr al mk => simp only [h1]
  case store n root =>
    cases root with
    | none => simp [drawK] at hd
    | some r => rfl
  case append dr sz b =>
    have h2 := h2 rfl
    split
    · rfl
    · rename_i t sz1 xs y
      have := h2 t
      cases h3 : tk t with
      | none =>
        cases h4 : tk' t with
        | none => rfl
        | some q => rw [h3, h4] at this; cases this
      | some p =>
        cases h4 : tk' t with
        | none => rw [h3, h4] at this; cases this
        | some q =>
          obtain ⟨n1, w1⟩ := p
          obtain ⟨n2, w2⟩ := q
          rw [h3, h4] at this
          simp only [Option.map_some, Option.some.injEq] at this
          subst this
          rfl
    · rfl
end Go.Lo
