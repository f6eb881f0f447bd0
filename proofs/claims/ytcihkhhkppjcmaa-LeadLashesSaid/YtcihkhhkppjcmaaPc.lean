/- Texts put together. -/
import Derived.Test.YtcihkhhkppjcmaaPb
import Derived.RangeFuncRecord
import Derived.RangeFuncLeaves
/- Instructions that stand apart may change places. -/
namespace Go.Lo

/-! ### Puts -/
theorem put_comm {α : Type} : ∀ (l : List (Nat × α)) {s t : Nat} {u v : α}, s ≠ t → put (put l s u) t v = put (put l t v) s u
  | [], s, t, u, v, h => by
    simp only [put]
    by_cases h1 : s < t
    · have : ¬ t < s := by omega
      simp [h, h.symm, h1, this]
    · have : t < s := by omega
      simp [h, h.symm, h1, this]
  | (k, w) :: l, s, t, u, v, h => by
    simp only [put]
    by_cases e1 : k = s <;> by_cases e2 : k = t
    · omega
    · subst e1
      by_cases h2 : t < k
      · simp only [put, if_true, if_neg e2, if_pos h2, if_neg h.symm, if_neg (by omega : ¬ k < t)]
      · simp only [put, if_true, if_neg e2, if_neg h2]
    · subst e2
      by_cases h1 : s < k
      · simp only [put, if_true, if_neg e1, if_pos h1, if_neg h, if_neg (by omega : ¬ k < s)]
      · simp only [put, if_true, if_neg e1, if_neg h1]
    · by_cases h1 : s < k <;> by_cases h2 : t < k
      · simp only [put, if_neg e1, if_neg e2, if_pos h1, if_pos h2]
        by_cases h3 : s < t
        · simp only [if_neg h, if_neg h.symm, if_neg (by omega : ¬ t < s), if_pos h3]
        · simp only [if_neg h, if_neg h.symm, if_pos (by omega : t < s), if_neg h3]
      · simp only [put, if_neg e1, if_neg e2, if_pos h1, if_neg h2, if_neg h, if_neg (by omega : ¬ t < s)]
      · simp only [put, if_neg e1, if_neg e2, if_neg h1, if_pos h2, if_neg h.symm, if_neg (by omega : ¬ s < t)]
      · simp only [put, if_neg e1, if_neg e2, if_neg h1, if_neg h2]
        rw [put_comm l h]
theorem put_protT (ps : List Nat) : ∀ (l : List (Nat × Nat × Bool)) {t : Nat} {v : Nat × Bool}, memN t ps = false → protT ps (put l t v) = put (protT ps l) t v
  | [], t, v, h => by obtain ⟨n, w⟩ := v; simp [put, protT, h]
  | (k, n, w) :: l, t, (n', w'), h => by
    simp only [put]
    by_cases e : k = t
    · subst e
      simp [protT, put, h]
    · by_cases h1 : t < k
      · simp only [if_neg e, if_pos h1, protT, h, Bool.false_eq_true, if_false]
        split <;> simp [put, e, h1]
      · simp only [if_neg e, if_neg h1, protT, put_protT ps l h]
        split <;> simp [put, e, h1]
theorem put_lenT {u m : Nat} : ∀ (l : List (Nat × Nat × Bool)) {t : Nat} {v : Nat × Bool}, t ≠ u → lenT u m (put l t v) = put (lenT u m l) t v
  | [], t, v, h => by obtain ⟨n, w⟩ := v; simp [put, lenT, h]
  | (k, n, w) :: l, t, (n', w'), h => by
    simp only [put]
    by_cases e : k = t
    · subst e
      simp [lenT, put, h]
    · by_cases h1 : t < k
      · simp only [if_neg e, if_pos h1, lenT, if_neg h]
        split <;> simp [put, e, h1]
      · simp only [if_neg e, if_neg h1, lenT, put_lenT l h]
        split <;> simp [put, e, h1]
theorem protT_comm (ps qs : List Nat) : ∀ (l : List (Nat × Nat × Bool)), protT ps (protT qs l) = protT qs (protT ps l)
  | [] => rfl
  | (k, n, w) :: l => by
    simp only [protT]
    by_cases h1 : memN k ps = true <;> by_cases h2 : memN k qs = true <;> simp [h1, h2, protT_comm ps qs l]
theorem protT_lenT (ps : List Nat) {u m : Nat} : ∀ (l : List (Nat × Nat × Bool)), protT ps (lenT u m l) = lenT u m (protT ps l)
  | [] => rfl
  | (k, n, w) :: l => by
    simp only [protT, lenT]
    by_cases h2 : k = u
    · subst h2
      by_cases h1 : memN k ps = true <;> simp [protT, h1]
    · by_cases h1 : memN k ps = true <;> simp [protT, h1, h2, protT_lenT ps l]
theorem lenT_comm {t n u m : Nat} (h : t ≠ u) : ∀ (l : List (Nat × Nat × Bool)), lenT t n (lenT u m l) = lenT u m (lenT t n l)
  | [] => rfl
  | (k, q, w) :: l => by
    simp only [lenT]
    by_cases h1 : k = t <;> by_cases h2 : k = u
    · omega
    · subst h1; simp [lenT, h2]
    · subst h2; simp [lenT, h1]
    · simp [lenT, h1, h2, lenT_comm h l]

/-! ### What an instruction looks at and turns -/
structure Quiet (x y : LIns) : Prop where
  dst : ∀ d, x.dst = some d → memN d (looksL y) = false ∧ y.dst ≠ some d ∧ rootK y.k ≠ some d ∧ memN d y.ex = true
  root : ∀ r, rootK x.k = some r → memN r y.ex = true ∧ rootK y.k ≠ some r ∧ y.dst ≠ some r
  draw : drawK x.k = true
  made : mkK x.k = true → x.dst.isSome = true
theorem quietL_spec {x y : LIns} (h : quietL x y = true) : Quiet x y := by
  unfold quietL at h
  simp only [Bool.and_eq_true, Bool.or_eq_true, Bool.not_eq_true'] at h
  obtain ⟨⟨⟨h1, h2⟩, h3⟩, h4⟩ := h
  refine ⟨fun d hd => ?_, fun r hr => ?_, h3, fun hm => ?_⟩
  · rw [hd] at h1
    simp only [Bool.and_eq_true, Bool.not_eq_true', bne_iff_ne, ne_eq] at h1
    exact ⟨h1.1.1.1, h1.1.1.2, h1.1.2, h1.2⟩
  · rw [hr] at h2
    simp only [Bool.and_eq_true, bne_iff_ne, ne_eq] at h2
    exact ⟨h2.1.1, h2.1.2, h2.2⟩
  · rcases h4 with h4 | h4
    · rw [hm] at h4; cases h4
    · exact h4
/-- The effects of such an instruction. -/
def DrawEff (i : LIns) : Eff → Prop
  | .val _ => True
  | .mk _ t _ ps => (∃ d, i.dst = some d ∧ t / 100 = d) ∧ ∀ p ∈ ps, memN (p / 100) i.ex = false
  | .mkp _ _ _ => False
  | .trunc _ _ _ => False
  | .app _ t _ => memN (t / 100) i.ex = false ∧ isAppK i.k = true
  | .prot _ ps => ∀ p ∈ ps, memN (p / 100) i.ex = false
  | .yld _ _ _ => False
  | .msto _ _ => False
  | .sto s _ => rootK i.k = some s
  | .est _ _ _ _ => False
  | .io _ _ _ => False
  | .res v al => (al = true → alK i.k = true) ∧ ∃ d, i.dst = some d ∧ ∀ p ∈ v.tks, p.1 / 100 = d
theorem tkOf_some {tk : List (Nat × Nat × Bool)} {ex : List Nat} {t : Nat} (h : (tkOf tk ex t).isSome = true) : memN (t / 100) ex = false := by
  unfold tkOf at h
  split at h
  · cases h
  · rename_i hm; simpa using hm
theorem callE_draw {call : Nat → List V → Option V} {bx : Nat → Option (List V)} {d f : Nat} {al mk : Bool} {vs : List V} {e : Eff} (h : callE call bx d true al mk f vs = some e) : (∃ v, e = .val v) ∨ (mk = true ∧ ∃ v al', (al' = true → al = true) ∧ e = .res v al' ∧ ∀ p ∈ v.tks, p.1 / 100 = d) := by
  unfold callE at h
  split at h
  case h_2 => cases h
  split at h
  case h_2 => cases h
  rename_i r _
  split at h
  case isFalse => cases h
  split at h
  · rename_i hmk
    split at h
    case isFalse => cases h
    rename_i hdis
    have tks : ∀ p ∈ (r.rn d).tks, p.1 / 100 = d := by
      intro p hp
      obtain ⟨t, n⟩ := p
      obtain ⟨q, h3, h4⟩ := rn_tks _ hp
      have := List.all_eq_true.1 hdis.2 (q, n) h4
      simp only [decide_eq_true_eq] at this
      show t / 100 = d
      omega
    split at h
    · split at h
      · cases h
      · rename_i hal
        simp only [Option.some.injEq] at h; subst h
        refine .inr ⟨hmk, _, true, fun _ => ?_, rfl, tks⟩
        cases al
        · exact absurd ⟨rfl, rfl⟩ hal
        · rfl
    · simp only [Option.some.injEq] at h; subst h
      exact .inr ⟨hmk, _, false, (fun x => by cases x), rfl, tks⟩
  · split at h
    · simp only [Option.some.injEq] at h; subst h; exact .inl ⟨_, rfl⟩
    · cases h
theorem drawEff {call : Nat → List V → Option V} {bx : Nat → Option (List V)} {tk : List (Nat × Nat × Bool)} {i : LIns} {vs : List V} {e : Eff} (hd : drawK i.k = true) (hm : mkK i.k = true → i.dst.isSome = true)
    (h : sem call bx (tkOf tk i.ex) (i.dst.getD 0) i.k vs = some e) : DrawEff i e := by
  have hval : ∀ {x : Option V}, valO x = some e → DrawEff i e := fun hx => by
    obtain ⟨v, _, rfl⟩ := valO_some hx
    trivial
  have mkd : mkK i.k = true → ∃ d, i.dst = some d ∧ i.dst.getD 0 = d := fun hx => by
    obtain ⟨d, hd⟩ := Option.isSome_iff_exists.1 (hm hx)
    exact ⟨d, hd, by rw [hd]; rfl⟩
  have key : ∀ t x, tkOf tk i.ex t = some x → memN (t / 100) i.ex = false := fun t x h => tkOf_some (by rw [h]; rfl)
  generalize hdd : i.dst.getD 0 = dd at h
  cases hk : i.k <;> rw [hk] at h <;> simp only [sem] at h
  case bsl sz z len ix =>
    obtain ⟨d, h1, h2⟩ := mkd (by rw [hk]; rfl)
    split at h
    · split at h
      · rename_i es ps hf hp
        simp only [Option.some.injEq] at h; subst h
        refine ⟨⟨d, h1, by omega⟩, fun p hps => tkOf_some (List.all_eq_true.1 hp p hps)⟩
      · cases h
    · cases h
  case mks sz b z =>
    obtain ⟨d, h1, h2⟩ := mkd (by rw [hk]; rfl)
    repeat' split at h
    all_goals first
      | (cases h; done)
      | (simp only [Option.some.injEq] at h; subst h; exact ⟨⟨d, h1, by omega⟩, by simp⟩)
  case append dr sz b =>
    obtain ⟨d, h1, h2⟩ := mkd (by rw [hk]; rfl)
    have hdr : dr = true := by rw [hk] at hd; exact hd
    subst hdr
    repeat' split at h
    all_goals first
      | (cases h; done)
      | (simp only [Option.some.injEq] at h; subst h; exact trivial)
      | (simp only [Option.some.injEq] at h; subst h; exact ⟨⟨d, h1, by omega⟩, by simp⟩)
      | (simp only [Option.some.injEq] at h; subst h; exact ⟨key _ _ (by assumption), by rw [hk]; rfl⟩)
      | exact absurd rfl ‹¬ true = true›
  case appo sz b =>
    obtain ⟨d, h1, h2⟩ := mkd (by rw [hk]; rfl)
    repeat' split at h
    all_goals first
      | (cases h; done)
      | (simp only [Option.some.injEq] at h; subst h; exact trivial)
      | (simp only [Option.some.injEq] at h; subst h; exact ⟨key _ _ (by assumption), by rw [hk]; rfl⟩)
  case appz sz b z => rw [hk] at hd; simp [drawK] at hd
  case trunc sz => rw [hk] at hd; simp [drawK] at hd
  case mput => rw [hk] at hd; simp [drawK] at hd
  case callp => rw [hk] at hd; simp [drawK] at hd
  case sls sz lo hi mx =>
    repeat' split at h
    all_goals first
      | (cases h; done)
      | (simp only [Option.some.injEq] at h; subst h; exact trivial)
      | (simp only [Option.some.injEq] at h; subst h; intro p hp; rw [List.mem_singleton] at hp; subst hp; exact tkOf_some (by assumption))
  case store n root =>
    cases root with
    | none => rw [hk] at hd; simp [drawK] at hd
    | some r =>
      split at h
      · split at h
        · rename_i hc
          split at h
          · split at h
            · simp only [Option.some.injEq] at h; subst h
              rcases hc.2.2.2 with hc | hc
              · cases hc
              · injection hc with hc
                subst hc
                rw [DrawEff, hk]; rfl
            · cases h
          · cases h
        · cases h
      · cases h
      · cases h
  case call dr al mk =>
    have hdr : dr = true := by rw [hk] at hd; exact hd
    subst hdr
    have fin : ∀ {f : Nat} {us : List V}, callE call bx dd true al mk f us = some e → DrawEff i e := fun hc => by
      rcases callE_draw hc with ⟨v, rfl⟩ | ⟨hmk, v, al', hal', rfl, hp⟩
      · trivial
      · subst hmk
        obtain ⟨d, h1, h2⟩ := mkd (by rw [hk]; rfl)
        exact ⟨fun hx => by rw [hk, hal' hx]; rfl, d, h1, fun p hpm => by rw [hp p hpm, ← hdd]; exact h2⟩
    split at h
    · exact fin h
    · exact fin h
    · simp only [if_true, reduceCtorEq] at h
    · cases h
  all_goals
    repeat' split at h
    all_goals first
      | (cases h; done)
      | exact hval h
      | (simp only [Option.some.injEq] at h; subst h; exact trivial)
def tokE : Eff → Bool
  | .mk _ _ _ _ => true
  | .app _ _ _ => true
  | .prot _ _ => true
  | .res _ _ => true
  | _ => false
theorem drawTok {call : Nat → List V → Option V} {bx : Nat → Option (List V)} {tk : Nat → Option (Nat × Bool)} {d : Nat} {k : K} {vs : List V} {e : Eff} (hd : drawK k = true) (h : sem call bx tk d k vs = some e) (ht : tokE e = true) : tokK k = true := by
  have hval : ∀ {x : Option V}, valO x = some e → tokK k = true := fun hx => by
    obtain ⟨v, _, rfl⟩ := valO_some hx
    cases ht
  cases k <;> simp only [sem] at h <;> (try rfl)
  case appz => simp [drawK] at hd
  case trunc => simp [drawK] at hd
  case mput => simp [drawK] at hd
  case call dr al mk =>
    have hdr : dr = true := hd
    subst hdr
    have fin : ∀ {f : Nat} {us : List V}, callE call bx d true al mk f us = some e → tokK (.call true al mk) = true := fun hc => by
      rcases callE_draw hc with ⟨v, rfl⟩ | ⟨hmk, v, al', hal', rfl, hp⟩
      · cases ht
      · exact hmk
    split at h
    · exact fin h
    · exact fin h
    · simp only [if_true, reduceCtorEq] at h
    · cases h
  all_goals
    repeat' split at h
    all_goals first
      | (cases h; done)
      | exact hval h
      | (simp only [Option.some.injEq] at h; subst h; cases ht)
/-- Of the arrays it asks at most which there are; an append asks for their lengths. -/
theorem sem_tk {call : Nat → List V → Option V} {bx : Nat → Option (List V)} {tk tk' : Nat → Option (Nat × Bool)} {d : Nat} {k : K} {vs : List V} (hd : drawK k = true)
    (h1 : ∀ t, (tk t).isSome = (tk' t).isSome) (h2 : isAppK k = true → ∀ t, (tk t).map (·.1) = (tk' t).map (·.1)) : sem call bx tk d k vs = sem call bx tk' d k vs := by
  cases k <;> simp only [sem]
  case bsl => simp only [h1]
  case trunc => simp [drawK] at hd
  case callp => simp [drawK] at hd
  case sls => simp only [h1]
  case call dr al mk => simp only [h1]
  case store n root =>
    cases root with
    | none => simp [drawK] at hd
    | some r => rfl
  case append dr sz b =>
    have h2 := h2 rfl
    split
    · rfl
    · rename_i t sz1 xs y
      have := h2 t
      cases h3 : tk t with
      | none =>
        cases h4 : tk' t with
        | none => rfl
        | some q => rw [h3, h4] at this; cases this
      | some p =>
        cases h4 : tk' t with
        | none => rw [h3, h4] at this; cases this
        | some q =>
          obtain ⟨n1, w1⟩ := p
          obtain ⟨n2, w2⟩ := q
          rw [h3, h4] at this
          simp only [Option.map_some, Option.some.injEq] at this
          subst this
          rfl
    · rfl
  case appo sz b =>
    have h2 := h2 rfl
    split
    · rename_i t sz1 xs y
      have := h2 t
      cases h3 : tk t with
      | none =>
        cases h4 : tk' t with
        | none => rfl
        | some q => rw [h3, h4] at this; cases this
      | some p =>
        cases h4 : tk' t with
        | none => rw [h3, h4] at this; cases this
        | some q =>
          obtain ⟨n1, w1⟩ := p
          obtain ⟨n2, w2⟩ := q
          rw [h3, h4] at this
          simp only [Option.map_some, Option.some.injEq] at this
          subst this
          rfl
    · rfl
end Go.Lo

/- Instructions that stand apart may change places: the proof. -/
namespace Go.Lo

def effI (call : Nat → List V → Option V) (i : LIns) (σ : St) : Option (Option Eff) :=
  match wanted σ.fr i.guard with
  | some true => match opds σ.fr i.xs with
    | some vs => (match sem call (bxOf σ.fr i.ex) (tkOf σ.tk i.ex) (i.dst.getD 0) i.k vs with
      | some e => some (some e)
      | none => none)
    | none => none
  | some false => some none
  | none => none
def applyO (σ : St) (dst : Option Nat) : Option Eff → St
  | some e => apply σ dst e
  | none => { σ with fr := putO σ.fr dst .und }
theorem stepI_eff (call : Nat → List V → Option V) (i : LIns) (σ : St) : stepI call i σ = (effI call i σ).map (applyO σ i.dst) := by
  unfold stepI effI
  cases wanted σ.fr i.guard with
  | none => rfl
  | some b =>
    cases b with
    | false => rfl
    | true =>
      simp only
      cases opds σ.fr i.xs with
      | none => rfl
      | some vs =>
        simp only
        cases sem call (bxOf σ.fr i.ex) (tkOf σ.tk i.ex) (i.dst.getD 0) i.k vs <;> rfl
def DrawEffO (i : LIns) : Option Eff → Prop
  | some e => DrawEff i e
  | none => True

/-! ### The writes of an effect -/
def rootE : Option Eff → Option Nat
  | some (.sto s _) => some s
  | _ => none
def boxE : Option Eff → V
  | some (.sto _ cs) => .box cs
  | _ => .und
def vE : Option Eff → V
  | some (.val v) => v
  | some (.mk v _ _ _) => v
  | some (.app v _ _) => v
  | some (.prot v _) => v
  | some (.res v _) => v
  | _ => .und
def tkE : Option Eff → List (Nat × Nat × Bool) → List (Nat × Nat × Bool)
  | some (.mk _ t n ps), tk => put (protT ps tk) t (n, true)
  | some (.app _ t n), tk => lenT t n tk
  | some (.prot _ ps), tk => protT ps tk
  | some (.res v al), tk => addT v.tks (if al = true then protAll tk else tk)
  | _, tk => tk
theorem applyO_eq {i : LIns} {e : Option Eff} (h : DrawEffO i e) (σ : St) : applyO σ i.dst e = { σ with fr := putO (putO σ.fr (rootE e) (boxE e)) i.dst (vE e), tk := tkE e σ.tk } := by
  cases e with
  | none => rfl
  | some e =>
    cases e <;> simp only [DrawEffO, DrawEff] at h
    all_goals rfl
theorem putO_comm {l : List (Nat × V)} {x y : Option Nat} {u v : V} (h : ∀ d, x = some d → y ≠ some d) : putO (putO l x u) y v = putO (putO l y v) x u := by
  cases x with
  | none => rfl
  | some s =>
    cases y with
    | none => rfl
    | some t => exact put_comm l (fun e => h s rfl (by rw [e]))
theorem addT_put : ∀ (ts : List (Nat × Nat)) (l : List (Nat × Nat × Bool)) {t : Nat} {v : Nat × Bool}, (∀ p ∈ ts, p.1 ≠ t) → addT ts (put l t v) = put (addT ts l) t v
  | [], l, t, v, _ => rfl
  | (k, n) :: ts, l, t, v, h => by
    simp only [addT]
    rw [put_comm l (fun e => h (k, n) (by simp) e.symm), addT_put ts _ (fun p hp => h p (by simp [hp]))]
theorem addT_protT (ps : List Nat) : ∀ (ts : List (Nat × Nat)) (l : List (Nat × Nat × Bool)), (∀ p ∈ ts, memN p.1 ps = false) → addT ts (protT ps l) = protT ps (addT ts l)
  | [], l, _ => rfl
  | (k, n) :: ts, l, h => by
    simp only [addT]
    rw [← put_protT ps l (h (k, n) (by simp)), addT_protT ps ts _ (fun p hp => h p (by simp [hp]))]
theorem addT_lenT {u m : Nat} : ∀ (ts : List (Nat × Nat)) (l : List (Nat × Nat × Bool)), (∀ p ∈ ts, p.1 ≠ u) → addT ts (lenT u m l) = lenT u m (addT ts l)
  | [], l, _ => rfl
  | (k, n) :: ts, l, h => by
    simp only [addT]
    rw [← put_lenT l (h (k, n) (by simp)), addT_lenT ts _ (fun p hp => h p (by simp [hp]))]
theorem addT_addT : ∀ (ts us : List (Nat × Nat)) (l : List (Nat × Nat × Bool)), (∀ p ∈ ts, ∀ q ∈ us, p.1 ≠ q.1) → addT ts (addT us l) = addT us (addT ts l)
  | [], us, l, _ => rfl
  | (k, n) :: ts, us, l, h => by
    simp only [addT]
    rw [← addT_put us l (fun q hq e => h (k, n) (by simp) q hq e.symm), addT_addT ts us _ (fun p hp q hq => h p (by simp [hp]) q hq)]
theorem mem_of_memN : ∀ {xs : List Nat} {s : Nat}, memN s xs = true → s ∈ xs
  | x :: xs, s, h => by
    simp only [memN] at h
    split at h
    · rename_i e; subst e; simp
    · exact List.mem_cons_of_mem _ (mem_of_memN h)
theorem not_memN {ex : List Nat} {ps : List Nat} {d t : Nat} (hd : memN d ex = true) (ht : t / 100 = d) (hp : ∀ p ∈ ps, memN (p / 100) ex = false) : memN t ps = false := by
  cases h : memN t ps
  · rfl
  · have := hp t (mem_of_memN h)
    rw [ht, hd] at this
    cases this
theorem ne_tok {ex : List Nat} {d t u : Nat} (hd : memN d ex = true) (ht : t / 100 = d) (hu : memN (u / 100) ex = false) : t ≠ u := by
  intro e
  rw [← e, ht, hd] at hu
  cases hu
theorem tkE_comm {x y : LIns} {e f : Option Eff} (he : DrawEffO x e) (hf : DrawEffO y f) (hxy : Quiet x y) (hyx : Quiet y x) (hap : isAppK x.k = true → isAppK y.k = true → False) (hal : alK x.k = true → tokK y.k = true → False) (hal2 : alK y.k = true → tokK x.k = true → False) (ht : ∀ e', e = some e' → tokE e' = true → tokK x.k = true) (ht2 : ∀ f', f = some f' → tokE f' = true → tokK y.k = true) (l : List (Nat × Nat × Bool)) :
    tkE f (tkE e l) = tkE e (tkE f l) := by
  cases e with
  | none => rfl
  | some e =>
    cases f with
    | none => rfl
    | some f =>
      simp only [DrawEffO] at he hf
      cases e <;> (try (cases f <;> rfl)) <;> cases f <;> (try rfl) <;> simp only [tkE]
      case mk.mk v t n ps v' t' n' ps' =>
        obtain ⟨⟨d, h1, h2⟩, h3⟩ := he
        obtain ⟨⟨d', h1', h2'⟩, h3'⟩ := hf
        have hd := hxy.dst d h1
        have hd' := hyx.dst d' h1'
        rw [put_protT _ _ (not_memN hd.2.2.2 h2 h3'), put_protT _ _ (not_memN hd'.2.2.2 h2' h3), protT_comm, put_comm]
        intro e
        exact hd.2.1 (by rw [h1', ← h2', ← e, h2])
      case mk.app v t n ps v' t' n' =>
        obtain ⟨⟨d, h1, h2⟩, h3⟩ := he
        have hd := hxy.dst d h1
        rw [put_lenT _ (ne_tok hd.2.2.2 h2 hf.1), protT_lenT]
      case mk.prot v t n ps v' ps' =>
        obtain ⟨⟨d, h1, h2⟩, h3⟩ := he
        have hd := hxy.dst d h1
        rw [put_protT _ _ (not_memN hd.2.2.2 h2 hf), protT_comm]
      case mk.res v t n ps v' al' =>
        obtain ⟨⟨d, h1, h2⟩, h3⟩ := he
        obtain ⟨q, d', h1', h2'⟩ := hf
        cases al' with
        | true => exact (hal2 (q rfl) (ht _ rfl rfl)).elim
        | false =>
        simp only [Bool.false_eq_true, if_false]
        have hd := hxy.dst d h1
        have hd' := hyx.dst d' h1'
        rw [addT_put, addT_protT]
        · exact fun p hp => not_memN hd'.2.2.2 (h2' p hp) h3
        · intro p hp e
          have := h2' p hp
          exact hd.2.1 (by rw [h1', ← this, e, h2])
      case app.mk v t n v' t' n' ps' =>
        obtain ⟨⟨d, h1, h2⟩, h3⟩ := hf
        have hd := hyx.dst d h1
        rw [put_lenT _ (ne_tok hd.2.2.2 h2 he.1), protT_lenT]
      case app.app v t n v' t' n' => exact (hap he.2 hf.2).elim
      case app.prot => rw [protT_lenT]
      case app.res v t n v' al' =>
        obtain ⟨q, d', h1', h2'⟩ := hf
        cases al' with
        | true => exact (hal2 (q rfl) (ht _ rfl rfl)).elim
        | false =>
        simp only [Bool.false_eq_true, if_false]
        have hd' := hyx.dst d' h1'
        rw [addT_lenT]
        exact fun p hp => ne_tok hd'.2.2.2 (h2' p hp) he.1
      case prot.mk v ps v' t' n' ps' =>
        obtain ⟨⟨d, h1, h2⟩, h3⟩ := hf
        have hd := hyx.dst d h1
        rw [put_protT _ _ (not_memN hd.2.2.2 h2 he), protT_comm]
      case prot.app => rw [protT_lenT]
      case prot.prot => rw [protT_comm]
      case prot.res v ps v' al' =>
        obtain ⟨q, d', h1', h2'⟩ := hf
        cases al' with
        | true => exact (hal2 (q rfl) (ht _ rfl rfl)).elim
        | false =>
        simp only [Bool.false_eq_true, if_false]
        have hd' := hyx.dst d' h1'
        rw [addT_protT]
        exact fun p hp => not_memN hd'.2.2.2 (h2' p hp) he
      case res.mk v al v' t' n' ps' =>
        obtain ⟨⟨d, h1, h2⟩, h3⟩ := hf
        obtain ⟨q, d', h1', h2'⟩ := he
        cases al with
        | true => exact (hal (q rfl) (ht2 _ rfl rfl)).elim
        | false =>
        simp only [Bool.false_eq_true, if_false]
        have hd := hyx.dst d h1
        have hd' := hxy.dst d' h1'
        rw [addT_put, addT_protT]
        · exact fun p hp => not_memN hd'.2.2.2 (h2' p hp) h3
        · intro p hp e
          have := h2' p hp
          exact hd.2.1 (by rw [h1', ← this, e, h2])
      case res.app v al v' t' n' =>
        obtain ⟨q, d', h1', h2'⟩ := he
        cases al with
        | true => exact (hal (q rfl) (ht2 _ rfl rfl)).elim
        | false =>
        simp only [Bool.false_eq_true, if_false]
        have hd' := hxy.dst d' h1'
        rw [addT_lenT]
        exact fun p hp => ne_tok hd'.2.2.2 (h2' p hp) hf.1
      case res.prot v al v' ps' =>
        obtain ⟨q, d', h1', h2'⟩ := he
        cases al with
        | true => exact (hal (q rfl) (ht2 _ rfl rfl)).elim
        | false =>
        simp only [Bool.false_eq_true, if_false]
        have hd' := hxy.dst d' h1'
        rw [addT_protT]
        exact fun p hp => not_memN hd'.2.2.2 (h2' p hp) hf
      case res.res v al v' al' =>
        obtain ⟨q, d, h1, h2⟩ := he
        obtain ⟨q', d', h1', h2'⟩ := hf
        cases al with
        | true => exact (hal (q rfl) (ht2 _ rfl rfl)).elim
        | false =>
        cases al' with
        | true => exact (hal2 (q' rfl) (ht _ rfl rfl)).elim
        | false =>
        simp only [Bool.false_eq_true, if_false]
        have hd := hxy.dst d h1
        rw [addT_addT]
        intro p hp q hq e
        exact hd.2.1 (by rw [h1', ← h2' p hp, e, h2 q hq])
theorem rootE_root {i : LIns} {e : Option Eff} (h : DrawEffO i e) : ∀ r, rootE e = some r → rootK i.k = some r := by
  intro r hr
  cases e with
  | none => simp [rootE] at hr
  | some e =>
    cases e <;> simp only [rootE, reduceCtorEq, Option.some.injEq] at hr
    subst hr
    exact h
/-- Their writes do not meet. -/
theorem applyO_comm {x y : LIns} {e f : Option Eff} (he : DrawEffO x e) (hf : DrawEffO y f) (hxy : Quiet x y) (hyx : Quiet y x) (hap : isAppK x.k = true → isAppK y.k = true → False) (hal : alK x.k = true → tokK y.k = true → False) (hal2 : alK y.k = true → tokK x.k = true → False) (ht : ∀ e', e = some e' → tokE e' = true → tokK x.k = true) (ht2 : ∀ f', f = some f' → tokE f' = true → tokK y.k = true) (σ : St) :
    applyO (applyO σ x.dst e) y.dst f = applyO (applyO σ y.dst f) x.dst e := by
  rw [applyO_eq hf, applyO_eq he, applyO_eq he, applyO_eq hf, tkE_comm he hf hxy hyx hap hal hal2 ht ht2]
  congr 1
  have hr1 := rootE_root he
  have hr2 := rootE_root hf
  -- the four writes
  rw [putO_comm (x := x.dst) (y := rootE f) (fun d hd hr => (hxy.dst d hd).2.2.1 (hr2 d hr)),
    putO_comm (x := x.dst) (y := y.dst) (fun d hd => (hxy.dst d hd).2.1),
    putO_comm (x := rootE e) (y := rootE f) (fun d hd hr => (hxy.root d (hr1 d hd)).2.1 (hr2 d hr)),
    putO_comm (x := rootE e) (y := y.dst) (fun d hd => (hxy.root d (hr1 d hd)).2.2)]
end Go.Lo

/- Instructions that stand apart do not see each other; any order comes to the same. -/
namespace Go.Lo

def SameAt (fr fr' : List (Nat × V)) (g : Nat) : Prop := get fr' g = get fr g ∨ ∃ cs cs0, get fr' g = some (.box cs) ∧ get fr g = some (.box cs0)
theorem opd_same {fr fr' : List (Nat × V)} {g : Nat} (h : SameAt fr fr' g) : opd fr' (.t g) = opd fr (.t g) := by
  rcases h with h | ⟨cs, cs0, h1, h2⟩
  · simp only [opd, h]
  · simp only [opd, h1, h2]
theorem opds_same {fr fr' : List (Nat × V)} : ∀ {xs : List Opd}, (∀ g, memN g (slotsL xs) = true → SameAt fr fr' g) → opds fr' xs = opds fr xs
  | [], _ => rfl
  | x :: xs, h => by
    cases x with
    | t n =>
      simp only [slotsL, memN] at h
      simp only [opds]
      rw [opd_same (h n (by simp)), opds_same (fun g hg => h g (by split <;> simp_all))]
    | c v =>
      simp only [slotsL] at h
      simp only [opds]
      rw [opds_same h]; rfl
    | f n =>
      simp only [slotsL] at h
      simp only [opds]
      rw [opds_same h]; rfl
theorem wanted_same {fr fr' : List (Nat × V)} {g : Option (Nat × Bool)} (h : ∀ s b, g = some (s, b) → SameAt fr fr' s) : wanted fr' g = wanted fr g := by
  cases g with
  | none => rfl
  | some p =>
    obtain ⟨s, b⟩ := p
    rcases h s b rfl with h | ⟨cs, cs0, h1, h2⟩
    · simp only [wanted, h]
    · simp only [wanted, h1, h2]
theorem get_putO {l : List (Nat × V)} {x : Option Nat} {v : V} {g : Nat} (h : x ≠ some g) : get (putO l x v) g = get l g := by
  cases x with
  | none => rfl
  | some d => exact get_put_other l d v g (fun e => h (by rw [e]))
theorem get_addT_other : ∀ {ts : List (Nat × Nat)} {l : List (Nat × Nat × Bool)} {t : Nat}, (∀ p ∈ ts, p.1 ≠ t) → get (addT ts l) t = get l t
  | [], l, t, _ => rfl
  | (k, n) :: ts, l, t, h => by
    simp only [addT]
    rw [get_addT_other (fun p hp => h p (by simp [hp])), get_put_other _ _ _ _ (h (k, n) (by simp))]
theorem effI_indep {call : Nat → List V → Option V} {x y : LIns} {e : Option Eff} {σ : St} (hxy : Quiet x y) (hy : drawK y.k = true) (hap : isAppK x.k = true → isAppK y.k = true → False) (he : DrawEffO x e)
    (hb : ∀ s, rootE e = some s → ∃ cs cs0, boxE e = .box cs ∧ get σ.fr s = some (.box cs0)) : effI call y (applyO σ x.dst e) = effI call y σ := by
  rw [applyO_eq he]
  have hsame : ∀ g, memN g (looksL y) = true → SameAt σ.fr (putO (putO σ.fr (rootE e) (boxE e)) x.dst (vE e)) g := by
    intro g hg
    have hd : x.dst ≠ some g := fun h => by
      have := (hxy.dst g h).1
      rw [hg] at this
      cases this
    unfold SameAt
    rw [get_putO hd]
    by_cases hr : rootE e = some g
    · obtain ⟨cs, cs0, h1, h2⟩ := hb g hr
      rw [hr, h1]
      exact .inr ⟨cs, cs0, get_put_same _ _ _, h2⟩
    · exact .inl (get_putO hr)
  have hbx : bxOf (putO (putO σ.fr (rootE e) (boxE e)) x.dst (vE e)) y.ex = bxOf σ.fr y.ex := by
    have same : ∀ s, ¬ memN s y.ex = true → get (putO (putO σ.fr (rootE e) (boxE e)) x.dst (vE e)) s = get σ.fr s := fun s hm => by
      have hd : x.dst ≠ some s := fun h => hm (hxy.dst s h).2.2.2
      have hr : rootE e ≠ some s := fun h => hm (hxy.root s (rootE_root he s h)).1
      rw [get_putO hd, get_putO hr]
    funext s
    unfold bxOf
    split
    · split
      · rfl
      · rename_i hm; rw [same s hm]
    · split
      · rfl
      · rename_i hm; rw [same _ hm]
  have htk : ∀ t, memN (t / 100) y.ex = false → ((get (tkE e σ.tk) t).isSome = (get σ.tk t).isSome ∧ (isAppK y.k = true → (get (tkE e σ.tk) t).map (·.1) = (get σ.tk t).map (·.1))) := by
    intro t ht
    cases e with
    | none => exact ⟨rfl, fun _ => rfl⟩
    | some e =>
      simp only [DrawEffO] at he
      cases e <;> (try (exact ⟨rfl, fun _ => rfl⟩)) <;> simp only [tkE]
      case mk v u n ps =>
        obtain ⟨⟨d, h1, h2⟩, _⟩ := he
        have hne := ne_tok (hxy.dst d h1).2.2.2 h2 ht
        rw [get_put_other _ _ _ _ hne, get_protT]
        refine ⟨by simp, fun _ => ?_⟩
        cases get σ.tk t with
        | none => rfl
        | some p => simp only [Option.map_some]; split <;> rfl
      case app v u n =>
        obtain ⟨_, h2⟩ := he
        rw [get_lenT]
        refine ⟨by split <;> simp, fun h => (hap h2 h).elim⟩
      case prot v ps =>
        rw [get_protT]
        refine ⟨by simp, fun _ => ?_⟩
        cases get σ.tk t with
        | none => rfl
        | some p => simp only [Option.map_some]; split <;> rfl
      case res v al =>
        obtain ⟨_, d, h1, h2⟩ := he
        rw [get_addT_other (fun p hp => ne_tok (hxy.dst d h1).2.2.2 (h2 p hp) ht)]
        cases al with
        | false => exact ⟨rfl, fun _ => rfl⟩
        | true =>
          simp only [if_true]
          rw [get_protAll]
          refine ⟨by simp, fun _ => ?_⟩
          cases get σ.tk t <;> rfl
  unfold effI
  simp only
  rw [wanted_same (fun s b hs => hsame s (by unfold looksL; rw [hs]; simp [memN])), opds_same (fun g hg => hsame g (by
    unfold looksL
    split
    · simp only [memN]; split
      · rfl
      · exact hg
    · exact hg)), hbx]
  cases wanted σ.fr y.guard with
  | none => rfl
  | some b =>
    cases b with
    | false => rfl
    | true =>
      simp only
      cases opds σ.fr y.xs with
      | none => rfl
      | some vs =>
        simp only
        rw [sem_tk (tk := tkOf (tkE e σ.tk) y.ex) (tk' := tkOf σ.tk y.ex) hy (fun t => ?_) (fun h t => ?_)]
        · unfold tkOf
          split
          · rfl
          · rename_i hm; exact (htk t (by simpa using hm)).1
        · unfold tkOf
          split
          · rfl
          · rename_i hm; exact (htk t (by simpa using hm)).2 h
theorem sem_sto {call : Nat → List V → Option V} {bx : Nat → Option (List V)} {tk : Nat → Option (Nat × Bool)} {d s : Nat} {k : K} {vs cs : List V} (h : sem call bx tk d k vs = some (.sto s cs)) : s < 1000000 ∧ ∃ cs0, bx s = some cs0 := by
  have hval : ∀ {x : Option V}, valO x = some (.sto s cs) → False := fun hx => by
    obtain ⟨v, _, hv⟩ := valO_some hx
    cases hv
  cases k <;> simp only [sem, callE] at h
  case store n root =>
    split at h
    · split at h
      · rename_i hc
        split at h
        · rename_i cs0 hb
          split at h
          · simp only [Option.some.injEq, Eff.sto.injEq] at h
            obtain ⟨rfl, _⟩ := h
            exact ⟨hc.1, cs0, hb⟩
          · cases h
        · cases h
      · cases h
    · repeat' split at h
      all_goals cases h
    · cases h
  all_goals
    repeat' split at h
    all_goals first
      | (cases h; done)
      | exact (hval h).elim
theorem effI_ok {call : Nat → List V → Option V} {x : LIns} {e : Option Eff} {σ : St} (hd : drawK x.k = true) (hm : mkK x.k = true → x.dst.isSome = true) (h : effI call x σ = some e) :
    DrawEffO x e ∧ (∀ s, rootE e = some s → ∃ cs cs0, boxE e = .box cs ∧ get σ.fr s = some (.box cs0)) ∧ ∀ e', e = some e' → tokE e' = true → tokK x.k = true := by
  unfold effI at h
  split at h
  · split at h
    · split at h
      · rename_i e' he
        simp only [Option.some.injEq] at h; subst h
        refine ⟨drawEff hd hm he, fun s hs => ?_, fun e'' h1 h2 => by injection h1 with h1; subst h1; exact drawTok hd he h2⟩
        cases e' <;> simp only [rootE, reduceCtorEq, Option.some.injEq] at hs
        subst hs
        obtain ⟨hlt, cs0, hb⟩ := sem_sto he
        exact ⟨_, cs0, rfl, (bxOf_get hlt hb).1⟩
      · cases h
    · cases h
  · simp only [Option.some.injEq] at h; subst h
    exact ⟨trivial, (fun s hs => by simp [rootE] at hs), fun e' h1 _ => by cases h1⟩
  · cases h
theorem apartL_spec {x y : LIns} (h : apartL0 x y = true) : Quiet x y ∧ Quiet y x ∧ (isAppK x.k = true → isAppK y.k = true → False) ∧ (alK x.k = true → tokK y.k = true → False) ∧ (alK y.k = true → tokK x.k = true → False) := by
  unfold apartL0 at h
  simp only [Bool.and_eq_true, Bool.not_eq_true'] at h
  refine ⟨quietL_spec h.1.1.1.1, quietL_spec h.1.1.1.2, fun h1 h2 => ?_, fun h1 h2 => ?_, fun h1 h2 => ?_⟩
  · have := h.1.1.2
    rw [h1, h2] at this
    cases this
  · have := h.1.2
    rw [h1, h2] at this
    cases this
  · have := h.2
    rw [h1, h2] at this
    cases this
/-- What a call turns. -/
theorem call_shape {call : Nat → List V → Option V} {bx : Nat → Option (List V)} {tk : Nat → Option (Nat × Bool)} {d : Nat} {k : K} {vs : List V} {e : Eff} (hk : isCallK k = true) (h : sem call bx tk d k vs = some e) :
    ∃ (v : Option (List (List V)) → V) (g : List (Nat × Nat × Bool) → List (Nat × Nat × Bool)) (r : Option (List (List V)) → Option (List (List V))), ∀ (σ : St) (dst : Option Nat), apply σ dst e = { fr := putO σ.fr dst (v σ.tr), tk := g σ.tk, tr := r σ.tr } := by
  have hcall : ∀ dr al mk f as, callE call bx d dr al mk f as = some e → ∃ (v : Option (List (List V)) → V) (g : List (Nat × Nat × Bool) → List (Nat × Nat × Bool)) (r : Option (List (List V)) → Option (List (List V))), ∀ (σ : St) (dst : Option Nat), apply σ dst e = { fr := putO σ.fr dst (v σ.tr), tk := g σ.tk, tr := r σ.tr } := by
    intro dr al mk f as h
    have hv : ∀ v, ∃ (v' : Option (List (List V)) → V) (g : List (Nat × Nat × Bool) → List (Nat × Nat × Bool)) (r : Option (List (List V)) → Option (List (List V))), ∀ (σ : St) (dst : Option Nat), apply σ dst (.val v) = { fr := putO σ.fr dst (v' σ.tr), tk := g σ.tk, tr := r σ.tr } :=
      fun v => ⟨fun _ => v, fun x => x, fun x => x, fun _ _ => rfl⟩
    have hr : ∀ v al, ∃ (v' : Option (List (List V)) → V) (g : List (Nat × Nat × Bool) → List (Nat × Nat × Bool)) (r : Option (List (List V)) → Option (List (List V))), ∀ (σ : St) (dst : Option Nat), apply σ dst (.res v al) = { fr := putO σ.fr dst (v' σ.tr), tk := g σ.tk, tr := r σ.tr } :=
      fun v al => ⟨fun _ => v, fun tk => addT v.tks (if al = true then protAll tk else tk), fun x => x, fun _ _ => rfl⟩
    unfold callE at h
    repeat' split at h
    all_goals first
      | (cases h; done)
      | (injection h with h; subst h; exact hv _)
      | (injection h with h; subst h; exact hr _ _)
  cases k <;> simp only [isCallK, Bool.false_eq_true] at hk
  simp only [sem] at h
  repeat' split at h
  all_goals first
    | (cases h; done)
    | exact hcall _ _ _ _ _ h
    | (injection h with h; subst h; exact ⟨fun tr => .bool (goesOn _ tr), fun tk => protT _ tk, fun tr => tr.map (· ++ [_]), fun _ _ => rfl⟩)
/-- A new box and a call that does not see it. -/
theorem alone_comm {call : Nat → List V → Option V} {x y : LIns} (h : aloneL x y = true) (σ : St) : (stepI call x σ).bind (stepI call y) = (stepI call y σ).bind (stepI call x) := by
  unfold aloneL at h
  simp only [Bool.and_eq_true] at h
  obtain ⟨⟨⟨⟨ha, hc⟩, hx⟩, hd⟩, hy⟩ := h
  cases hxd : x.dst with
  | none => rw [hxd] at hd; cases hd
  | some d =>
    rw [hxd] at hd
    simp only [Bool.and_eq_true, Bool.not_eq_true', bne_iff_ne, ne_eq] at hd
    obtain ⟨⟨hd1, hd2⟩, hd3⟩ := hd
    have hxs : x.xs = [] := List.isEmpty_iff.1 hx
    obtain ⟨zs, hk⟩ : ∃ zs, x.k = .alloc zs := by
      revert ha
      cases x.k <;> simp [isAllocK]
    -- the box
    have hb : ∀ τ : St, stepI call x τ = (wanted τ.fr x.guard).map fun b => { τ with fr := put τ.fr d (if b = true then .box zs else .und) } := by
      intro τ
      unfold stepI
      cases wanted τ.fr x.guard with
      | none => rfl
      | some b =>
        cases b with
        | false => simp only [hxd]; rfl
        | true => simp only [hxs, opds, hk, sem, hxd]; rfl
    -- the call does not see it
    have hs : ∀ (τ : St) (v : V), effI call y { τ with fr := put τ.fr d v } = effI call y τ := by
      intro τ v
      have hsame : ∀ g, memN g (looksL y) = true → SameAt τ.fr (put τ.fr d v) g := fun g hg => .inl (get_put_other _ _ _ _ fun e => by rw [e, hg] at hd1; cases hd1)
      have hbx : bxOf (put τ.fr d v) y.ex = bxOf τ.fr y.ex := by
        have same : ∀ s, ¬ memN s y.ex = true → get (put τ.fr d v) s = get τ.fr s := fun s hm => get_put_other _ _ _ _ fun e => hm (e ▸ hd3)
        funext s
        unfold bxOf
        split
        · split
          · rfl
          · rename_i hm; rw [same s hm]
        · split
          · rfl
          · rename_i hm; rw [same _ hm]
      unfold effI
      simp only
      rw [wanted_same (g := y.guard) (fun s b hg => hsame s (by unfold looksL; rw [hg]; simp [memN])), opds_same (xs := y.xs) (fun g hg => hsame g (by
        unfold looksL
        split
        · simp only [memN]; split <;> simp_all
        · exact hg)), hbx]
    -- its effect
    have he : ∀ e, effI call y σ = some e → ∃ (v : Option (List (List V)) → V) (g : List (Nat × Nat × Bool) → List (Nat × Nat × Bool)) (r : Option (List (List V)) → Option (List (List V))), ∀ (τ : St), applyO τ y.dst e = { fr := putO τ.fr y.dst (v τ.tr), tk := g τ.tk, tr := r τ.tr } := by
      intro e h
      unfold effI at h
      split at h
      · split at h
        · split at h
          · rename_i e' he'
            injection h with h; subst h
            obtain ⟨v, g, r, hv⟩ := call_shape hc he'
            exact ⟨v, g, r, fun τ => hv τ _⟩
          · cases h
        · cases h
      · injection h with h; subst h
        exact ⟨fun _ => .und, fun x => x, fun x => x, fun _ => rfl⟩
      · cases h
    have hw : ∀ (v : V), wanted (putO σ.fr y.dst v) x.guard = wanted σ.fr x.guard := by
      intro v
      refine wanted_same fun s b hg => .inl (get_putO fun e => ?_)
      rw [e] at hy
      have : memN s (looksL x) = true := by unfold looksL; rw [hg]; simp [memN]
      simp [this] at hy
    rw [stepI_eff call y σ, hb σ]
    cases hyy : effI call y σ with
    | none =>
      cases wanted σ.fr x.guard with
      | none => rfl
      | some b => simp only [Option.map_some, Option.bind_some, Option.map_none, Option.bind_none]; rw [stepI_eff, hs, hyy]; rfl
    | some e =>
      obtain ⟨v, g, r, hv⟩ := he e hyy
      simp only [Option.map_some, Option.bind_some]
      rw [hb, hv]
      simp only
      rw [hw]
      cases wanted σ.fr x.guard with
      | none => rfl
      | some b =>
        simp only [Option.map_some, Option.bind_some]
        rw [stepI_eff, hs, hyy, Option.map_some, hv]
        simp only
        congr 2
        cases hyd : y.dst with
        | none => rfl
        | some f => exact put_comm σ.fr fun e => hd2 (by rw [hyd, e])
theorem step_comm0 {call : Nat → List V → Option V} {x y : LIns} (h : apartL0 x y = true) (σ : St) : (stepI call x σ).bind (stepI call y) = (stepI call y σ).bind (stepI call x) := by
  obtain ⟨hxy, hyx, hap, hal, hal2⟩ := apartL_spec h
  rw [stepI_eff, stepI_eff]
  cases hx : effI call x σ with
  | none =>
    cases hy : effI call y σ with
    | none => rfl
    | some f =>
      obtain ⟨k1, k2, k3⟩ := effI_ok hyx.draw hyx.made hy
      simp only [Option.map_none, Option.bind_none, Option.map_some, Option.bind_some]
      rw [stepI_eff, effI_indep hyx hxy.draw (fun a b => hap b a) k1 k2, hx]
      rfl
  | some e =>
    obtain ⟨j1, j2, j3⟩ := effI_ok hxy.draw hxy.made hx
    simp only [Option.map_some, Option.bind_some]
    rw [stepI_eff, effI_indep hxy hyx.draw hap j1 j2]
    cases hy : effI call y σ with
    | none => rfl
    | some f =>
      obtain ⟨k1, k2, k3⟩ := effI_ok hyx.draw hyx.made hy
      simp only [Option.map_some, Option.bind_some]
      rw [stepI_eff, effI_indep hyx hxy.draw (fun a b => hap b a) k1 k2, hx, Option.map_some, applyO_comm j1 k1 hxy hyx hap hal hal2 j3 k3]

/-- Two that stand apart may change places. -/
theorem step_comm {call : Nat → List V → Option V} {x y : LIns} (h : apartL x y = true) (σ : St) : (stepI call x σ).bind (stepI call y) = (stepI call y σ).bind (stepI call x) := by
  unfold apartL at h
  simp only [Bool.or_eq_true] at h
  rcases h with (h | h) | h
  · exact step_comm0 h σ
  · exact alone_comm h σ
  · exact (alone_comm h σ).symm
/-! ### By number -/
def stepIx (call : Nat → List V → Option V) (is : List LIns) : List Nat → St → Option St
  | [], σ => some σ
  | i :: r, σ => match is[i]? with
    | some l => (match stepI call l σ with
      | some σ' => stepIx call is r σ'
      | none => none)
    | none => none
theorem stepIx_append (call : Nat → List V → Option V) (is : List LIns) : ∀ (r s : List Nat) (σ : St), stepIx call is (r ++ s) σ = (stepIx call is r σ).bind (stepIx call is s)
  | [], s, σ => rfl
  | i :: r, s, σ => by
    simp only [List.cons_append, stepIx]
    split
    · split
      · exact stepIx_append call is r s _
      · rfl
    · rfl
theorem stepIx_first {call : Nat → List V → Option V} {is : List LIns} {i : Nat} {y : LIns} (hi : is[i]? = some y) : ∀ (r s : List Nat) (σ : St), (∀ k ∈ r, ∀ x, is[k]? = some x → apartL x y = true) →
    (∀ k ∈ r, k < is.length) → stepIx call is (r ++ i :: s) σ = stepIx call is (i :: (r ++ s)) σ
  | [], s, σ, _, _ => rfl
  | k :: r, s, σ, h, hl => by
    have hk : k < is.length := hl k (by simp)
    have hkk : is[k]? = some is[k] := List.getElem?_eq_getElem hk
    have hc := step_comm (call := call) (h k (by simp) _ hkk) σ
    simp only [List.cons_append]
    rw [stepIx, hkk]
    simp only
    have ih := fun σ => stepIx_first (call := call) hi r s σ (fun k hk => h k (by simp [hk])) (fun k hk => hl k (by simp [hk]))
    rw [stepIx, hi]
    simp only
    cases h1 : stepI call is[k] σ with
    | none =>
      rw [h1] at hc
      cases h2 : stepI call y σ with
      | none => rfl
      | some σ2 =>
        rw [h2] at hc
        simp only [Option.bind_none, Option.bind_some] at hc
        simp only [stepIx, hkk, ← hc]
    | some σ1 =>
      rw [h1] at hc
      simp only
      rw [ih]
      simp only [stepIx, hi]
      cases h2 : stepI call y σ with
      | none =>
        rw [h2] at hc
        simp only [Option.bind_none, Option.bind_some] at hc
        rw [hc]
      | some σ2 =>
        rw [h2] at hc
        simp only [Option.bind_some] at hc
        simp only [hkk, hc]
theorem stepL_ix (call : Nat → List V → Option V) (is : List LIns) : ∀ (l : List LIns) (k : Nat) (σ : St), (∀ j, l[j]? = is[k + j]?) → stepL call l σ = stepIx call is (List.range' k l.length) σ
  | [], k, σ, _ => rfl
  | x :: l, k, σ, h => by
    have h0 : is[k]? = some x := by simpa using (h 0).symm
    simp only [stepL, List.length_cons, List.range'_succ, stepIx, h0]
    cases stepI call x σ with
    | none => rfl
    | some σ' => exact stepL_ix call is l (k + 1) σ' (fun j => by have := h (j + 1); simpa [Nat.add_assoc, Nat.add_comm 1 j] using this)
end Go.Lo

/- Every order that a region may draw comes to the same as the written one. -/
namespace Go.Lo
section
variable {ops : Array Oper} {b : Array Nat} {is : List LIns}

def restOf (n : Nat) (listed : Array Bool) : List Nat := (List.range n).filter fun i => !listed.getD i true
/-- What is listed: whatever must come before is listed too. -/
def DownTo (ops : Array Oper) (listed : Array Bool) : Prop :=
  ∀ i o, ops[i]? = some o → listed.getD i true = true → ∀ e ∈ o.after, Region.binds .any e = true → listed.getD e.on false = true
theorem zipIdx_mem {α : Type} {l : List α} {i : Nat} {x : α} (h : l[i]? = some x) : (x, i) ∈ l.zipIdx := by
  rw [List.mem_iff_getElem?]
  exact ⟨i, by rw [List.getElem?_zipIdx, h]; simp⟩
theorem closedB_spec (h : closedB ops b = true) {i : Nat} {o : Oper} (ho : ops[i]? = some o) : (∀ e ∈ o.after, Region.binds .any e = true → e.on < i) ∧
    ∀ k, k < i → (b.getD i 0).testBit k = true → ∃ e ∈ o.after, Region.binds .any e = true ∧ (e.on = k ∨ (k < e.on ∧ (b.getD e.on 0).testBit k = true)) := by
  have h1 := List.all_eq_true.1 h (o, i) (zipIdx_mem (by simpa using ho))
  simp only [Bool.and_eq_true] at h1
  obtain ⟨h2, h3⟩ := h1
  refine ⟨fun e he hb => ?_, fun k hk ht => ?_⟩
  · have := Array.all_eq_true'.1 h2 e he
    rw [hb] at this
    simpa using this
  · have := List.all_eq_true.1 h3 k (List.mem_range.2 hk)
    rw [ht] at this
    simp only [Bool.not_true, Bool.false_or] at this
    obtain ⟨e, he, h4⟩ := Array.any_eq_true'.1 this
    simp only [Bool.and_eq_true, Bool.or_eq_true, beq_iff_eq, decide_eq_true_eq] at h4
    exact ⟨e, he, h4.1, h4.2⟩
theorem getD_size {listed : Array Bool} {i : Nat} (h : listed.getD i false = true) : i < listed.size ∧ listed.getD i true = true := by
  rcases Nat.lt_or_ge i listed.size with hi | hi
  · simp only [Array.getD, hi, dif_pos] at h ⊢
    exact ⟨trivial, h⟩
  · simp [Array.getD, Nat.not_lt.2 hi] at h
/-- Whatever comes before one that is ready is listed. -/
theorem before_listed (hc : closedB ops b = true) {listed : Array Bool} (hs : listed.size = ops.size) (hd : DownTo ops listed) : ∀ (i : Nat) {o : Oper}, ops[i]? = some o →
    (∀ e ∈ o.after, Region.binds .any e = true → listed.getD e.on false = true) → ∀ k, k < i → (b.getD i 0).testBit k = true → listed.getD k true = true := by
  intro i
  induction i using Nat.strongRecOn with
  | _ i ih =>
    intro o ho hall k hk ht
    obtain ⟨h1, h2⟩ := closedB_spec hc ho
    obtain ⟨e, he, hb, h3⟩ := h2 k hk ht
    obtain ⟨h4, h5⟩ := getD_size (hall e he hb)
    rcases h3 with rfl | ⟨h3, h6⟩
    · exact h5
    · have hlt : e.on < ops.size := by omega
      exact ih e.on (h1 e he hb) (Array.getElem?_eq_getElem hlt) (hd e.on _ (Array.getElem?_eq_getElem hlt) h5) k h3 h6
theorem drawOkL_spec (h : drawOkL b is = true) {i k : Nat} {x y : LIns} (hy : is[i]? = some y) (hx : is[k]? = some x) (hk : k < i) (ht : (b.getD i 0).testBit k = false) : apartL x y = true := by
  have h1 := List.all_eq_true.1 h (y, i) (zipIdx_mem hy)
  have h2 := List.all_eq_true.1 h1 (x, k) (zipIdx_mem hx)
  simp only [hk, ht, decide_true, Bool.not_false, Bool.and_self, if_true] at h2
  exact h2
theorem rest_split {n : Nat} {listed : Array Bool} {i : Nat} (hs : listed.size = n) (hi : i < n) (hu : listed.getD i true = false) :
    ∃ r s, restOf n listed = r ++ i :: s ∧ restOf n (listed.setIfInBounds i true) = r ++ s ∧ (∀ k ∈ r, k < i ∧ listed.getD k true = false) := by
  have hr : List.range n = List.range i ++ i :: List.range' (i + 1) (n - i - 1) := by
    rw [List.range_eq_range', List.range_eq_range', ← List.range'_succ]
    rw [show n - i - 1 + 1 = n - i by omega]
    have := List.range'_append (s := 0) (m := i) (n := n - i) (step := 1)
    simp only [Nat.one_mul, Nat.zero_add] at this
    rw [this]
    congr 1
    omega
  refine ⟨(List.range i).filter fun i => !listed.getD i true, (List.range' (i + 1) (n - i - 1)).filter fun i => !listed.getD i true, ?_, ?_, ?_⟩
  · unfold restOf
    rw [hr, List.filter_append, List.filter_cons_of_pos (by simp [hu])]
  · unfold restOf
    rw [hr, List.filter_append, List.filter_cons_of_neg (by simp [Array.getD, hs, hi])]
    congr 1
    · apply List.filter_congr
      intro j hj
      have := List.mem_range.1 hj
      rw [getD_set_ne true (by omega)]
    · apply List.filter_congr
      intro j hj
      have := List.mem_range'.1 hj
      rw [getD_set_ne true (by omega)]
  · intro k hk
    rw [List.mem_filter, List.mem_range] at hk
    exact ⟨hk.1, by simpa using hk.2⟩
theorem down_set {listed : Array Bool} {i : Nat} {o : Oper} (hd : DownTo ops listed) (_hs : listed.size = ops.size) (ho : ops[i]? = some o) (hall : ∀ e ∈ o.after, Region.binds .any e = true → listed.getD e.on false = true) :
    DownTo ops (listed.setIfInBounds i true) := by
  have key : ∀ j, listed.getD j false = true → (listed.setIfInBounds i true).getD j false = true := by
    intro j hj
    by_cases e : i = j
    · subst e
      obtain ⟨h1, _⟩ := getD_size hj
      simp [Array.getD, h1]
    · rw [getD_set_ne false e]; exact hj
  intro j p hp hl e he hb
  by_cases hij : i = j
  · subst hij
    rw [ho] at hp
    injection hp with hp; subst hp
    exact key _ (hall e he hb)
  · rw [getD_set_ne true hij] at hl
    exact key _ (hd j p hp hl e he hb)
theorem rest_length_set {n : Nat} {listed : Array Bool} {i : Nat} (hs : listed.size = n) (hi : i < n) (hu : listed.getD i true = false) : (restOf n (listed.setIfInBounds i true)).length + 1 = (restOf n listed).length := by
  obtain ⟨r, s, h1, h2, _⟩ := rest_split hs hi hu
  rw [h1, h2]; simp; omega
/-- The first that is not listed is ready. -/
theorem ready_some (hc : closedB ops b = true) {listed : Array Bool} (hs : listed.size = ops.size) (hne : restOf ops.size listed ≠ []) : Region.ready .any ops listed ≠ [] := by
  intro hr
  have hex : ∃ i, i < ops.size ∧ listed.getD i true = false := by
    obtain ⟨i, hi⟩ := List.exists_mem_of_ne_nil _ hne
    unfold restOf at hi
    rw [List.mem_filter, List.mem_range] at hi
    exact ⟨i, hi.1, by simpa using hi.2⟩
  have hmin : ∀ i, i < ops.size → listed.getD i true = false → False := by
    intro i
    induction i using Nat.strongRecOn with
    | _ i ih =>
      intro hi hu
      have : i ∈ Region.ready .any ops listed := mem_ready.2 ⟨hu, _, Array.getElem?_eq_getElem hi, fun e he hb => by
        have hlt := (closedB_spec hc (Array.getElem?_eq_getElem hi)).1 e he hb
        have hlt2 : e.on < listed.size := by omega
        cases hl : listed.getD e.on true with
        | false => exact (ih e.on hlt (by omega) hl).elim
        | true => simp only [Array.getD, hlt2, dif_pos] at hl ⊢; exact hl⟩
      rw [hr] at this
      cases this
  obtain ⟨i, h1, h2⟩ := hex
  exact hmin i h1 h2
theorem go_same {call : Nat → List V → Option V} (hc : closedB ops b = true) (hd : drawOkL b is = true) (hlen : is.length = ops.size) : ∀ (fuel t : Nat) (listed : Array Bool), listed.size = ops.size → DownTo ops listed → (restOf ops.size listed).length ≤ fuel →
    ∃ l, Region.linearise.go .any ops fuel t listed [] = l ∧ (∀ σ, stepIx call is l σ = stepIx call is (restOf ops.size listed) σ) ∧ l.Nodup ∧ ∀ i ∈ l, i < ops.size ∧ listed.getD i true = false := by
  intro fuel
  induction fuel with
  | zero =>
    intro t listed hs hdn hl
    have : restOf ops.size listed = [] := List.eq_nil_of_length_eq_zero (by omega)
    refine ⟨[], by simp [Region.linearise.go], fun σ => by rw [this], List.nodup_nil, by simp⟩
  | succ fuel ih =>
    intro t listed hs hdn hl
    simp only [Region.linearise.go]
    change ∃ l, (match (Region.ready .any ops listed)[t % (Region.ready .any ops listed).length]? with
      | some i => Region.linearise.go .any ops fuel (t / (Region.ready .any ops listed).length) (listed.setIfInBounds i true) [i]
      | none => [].reverse) = l ∧ _
    cases hi : (Region.ready .any ops listed)[t % (Region.ready .any ops listed).length]? with
    | none =>
      have hnil : Region.ready .any ops listed = [] := by
        cases hr : Region.ready .any ops listed with
        | nil => rfl
        | cons x xs =>
          rw [hr] at hi
          have hlt : t % (x :: xs).length < (x :: xs).length := Nat.mod_lt _ (by simp)
          simp at hi
          simp at hlt
          omega
      have : restOf ops.size listed = [] := by
        apply Decidable.byContradiction
        intro hne
        exact ready_some hc hs hne hnil
      exact ⟨[], rfl, fun σ => by rw [this], List.nodup_nil, by simp⟩
    | some i =>
      simp only
      obtain ⟨hu, o, ho, hall⟩ := mem_ready.1 (List.mem_of_getElem? hi)
      have hilt : i < ops.size := (Array.getElem?_eq_some_iff.1 ho).1
      obtain ⟨r, s, h1, h2, h3⟩ := rest_split hs hilt hu
      obtain ⟨l, e1, e2, e3, e4⟩ := ih (t / (Region.ready .any ops listed).length) (listed.setIfInBounds i true) (by simpa using hs) (down_set hdn hs ho hall) (by
        have := rest_length_set hs hilt hu
        omega)
      have hy : is[i]? = some is[i] := List.getElem?_eq_getElem (by omega)
      refine ⟨i :: l, by rw [linearise_go_acc, e1]; rfl, fun σ => ?_, ?_, ?_⟩
      · rw [h1, stepIx_first hy r s σ (fun k hk x hx => ?_) (fun k hk => by have := (h3 k hk).1; omega)]
        · simp only [stepIx, hy]
          cases stepI call is[i] σ with
          | none => rfl
          | some σ' => simp only; rw [e2, h2]
        · refine drawOkL_spec hd hy hx (h3 k hk).1 ?_
          cases ht : (b.getD i 0).testBit k with
          | false => rfl
          | true =>
            have := before_listed hc hs hdn i ho hall k (h3 k hk).1 ht
            rw [(h3 k hk).2] at this
            cases this
      · rw [List.nodup_cons]
        refine ⟨fun hm => ?_, e3⟩
        have := (e4 i hm).2
        simp [Array.getD, hs, hilt] at this
      · intro j hj
        rcases List.mem_cons.1 hj with rfl | hj
        · exact ⟨hilt, hu⟩
        · obtain ⟨h5, h6⟩ := e4 j hj
          refine ⟨h5, ?_⟩
          by_cases e : i = j
          · subst e; simp [Array.getD, hs, hilt] at h6
          · rw [getD_set_ne true e] at h6; exact h6
/-- A drawn order: every operation once, and it comes to the same. -/
theorem linearise_same {call : Nat → List V → Option V} (hc : closedB ops b = true) (hd : drawOkL b is = true) (hlen : is.length = ops.size) (t : Nat) :
    (∀ σ, stepIx call is (Region.linearise .any ops t) σ = stepL call is σ) ∧ (Region.linearise .any ops t).Nodup ∧ ∀ i ∈ Region.linearise .any ops t, i < ops.size := by
  have hun : ∀ i, i < ops.size → (Array.replicate ops.size false).getD i true = false := fun i hi => by simp [Array.getD, hi]
  have hrest : restOf ops.size (Array.replicate ops.size false) = List.range ops.size := by
    unfold restOf
    rw [List.filter_eq_self]
    intro i hi
    rw [hun i (List.mem_range.1 hi)]; rfl
  obtain ⟨l, e1, e2, e3, e4⟩ := go_same (call := call) hc hd hlen ops.size t (Array.replicate ops.size false) (by simp) (fun i o ho hl => by
    have hi : i < ops.size := (Array.getElem?_eq_some_iff.1 ho).1
    rw [hun i hi] at hl
    cases hl) (by rw [hrest]; simp)
  unfold Region.linearise
  rw [e1]
  refine ⟨fun σ => ?_, e3, fun i hi => (e4 i hi).1⟩
  rw [e2, hrest, stepL_ix call is is 0 σ (by simp), hlen, List.range_eq_range']
end
end Go.Lo

/- Regions. -/
namespace Go.Lo
section
variable {P : Program} {X : Sc} {w0 w : World} {Ω : Own} {a : Act} {σ σ' : St} {o : Oper} {call : Nat → List V → Option V} {ops : Array Oper} {b : Array Nat} {draw da : Bool}

/-! ### What was yielded grows -/
def TrLe (σ σ' : St) : Prop := ∃ m, σ'.tr = σ.tr.map (· ++ m)
theorem TrLe.refl (σ : St) : TrLe σ σ := ⟨[], by cases h : σ.tr <;> simp⟩
theorem TrLe.of {σ σ' : St} (h : σ'.tr = σ.tr) : TrLe σ σ' := ⟨[], by rw [h]; cases h : σ.tr <;> simp⟩
theorem TrLe.trans {σ σ1 σ2 : St} (h : TrLe σ σ1) (k : TrLe σ1 σ2) : TrLe σ σ2 := by
  obtain ⟨m, h⟩ := h
  obtain ⟨m', k⟩ := k
  refine ⟨m ++ m', ?_⟩
  rw [k, h]
  cases σ.tr <;> simp
theorem TrLe.none {σ σ' : St} (h : TrLe σ σ') (hn : σ.tr = none) : σ'.tr = none := by
  obtain ⟨m, h⟩ := h
  rw [h, hn]; rfl
theorem TrLe.upTo {σ σ' : St} (h : TrLe σ σ') {T : List (List V)} (hT : UpTo T σ') : UpTo T σ := fun l hl => by
  obtain ⟨m, h⟩ := h
  rw [hl] at h
  exact (List.prefix_append l m).trans (hT _ h)
theorem prep_tr (lp : Bool) (ds : List Nat) (σ : St) : (prep lp ds σ).tr = σ.tr := by
  cases lp <;> cases ds <;> rfl
theorem apply_tr (σ : St) (d : Option Nat) (e : Eff) : TrLe σ (apply σ d e) := by
  cases e with
  | yld a as ps => exact ⟨[as], rfl⟩
  | mkp v d n => exact .of (by simp only [apply]; exact prep_tr _ _ _)
  | _ => exact .of rfl
theorem stepI_tr {i : LIns} (h : stepI call i σ = some σ') : TrLe σ σ' := by
  unfold stepI at h
  split at h
  · split at h
    · split at h
      · simp only [Option.some.injEq] at h; subst h; exact apply_tr _ _ _
      · cases h
    · cases h
  · simp only [Option.some.injEq] at h; subst h; exact .of rfl
  · cases h
theorem stepIx_tr {is : List LIns} : ∀ {l : List Nat} {σ σ' : St}, stepIx call is l σ = some σ' → TrLe σ σ'
  | [], σ, σ', h => by simp only [stepIx, Option.some.injEq] at h; subst h; exact .refl _
  | i :: l, σ, σ', h => by
    simp only [stepIx] at h
    split at h
    · split at h
      · rename_i σ1 h1
        exact (stepI_tr h1).trans (stepIx_tr h)
      · cases h
    · cases h
theorem stepL_tr : ∀ {is : List LIns} {σ σ' : St}, stepL call is σ = some σ' → TrLe σ σ'
  | [], σ, σ', h => by simp only [stepL, Option.some.injEq] at h; subst h; exact .refl _
  | i :: is, σ, σ', h => by
    simp only [stepL] at h
    split at h
    · rename_i σ1 h1
      exact (stepI_tr h1).trans (stepL_tr h)
    · cases h

theorem insC_k (i : Nat) : insC P ops b draw da o i = badI ∨ ∃ k xs ys g, opC P o.op (if isAppend o = true then da else draw && busyOf ops b i) (alC P o.type) (makes P o) (if draw then storeRoot ops o else truncRoot ops o) = some (k, xs) ∧ opdsC xs = some ys ∧ guardC ops o = some g ∧
    insC P ops b draw da o i = { dst := o.dst, k := k, xs := ys, guard := g, ex := if draw then exOf ops b i else [] } ∧ (makes P o = true → ∃ d, o.dst = some d) := by
  unfold insC
  split
  · exact .inl rfl
  · rename_i hm
    split
    · rename_i k' xs hop
      split
      · exact .inl rfl
      · rename_i ys hys
        split
        · rename_i g hg
          refine .inr ⟨k', xs, ys, g, hop, hys, hg, rfl, fun hmk => ?_⟩
          cases hd : o.dst with
          | none => exact (hm ⟨hmk, hd⟩).elim
          | some d => exact ⟨d, rfl⟩
        · exact .inl rfl
    · exact .inl rfl
theorem guard_sound (h : Inv X w0 Ω w a.tmps σ) {g : Option (Nat × Bool)} (hg : guardC ops o = some g) {c : Bool} (hw : wanted σ.fr g = some c) : Region.wanted o (yielded ops a.tmps) = c := by
  unfold guardC at hg
  unfold Region.wanted
  split at hg
  · rename_i hgu
    rw [hgu]
    simp only [Option.some.injEq] at hg; subst hg
    simp only [wanted, Option.some.injEq] at hw
    exact hw
  · rename_i i wt hgu
    rw [hgu]
    split at hg
    · rename_i p hp
      split at hg
      · rename_i d hd
        simp only [Option.some.injEq] at hg; subst hg
        simp only [wanted] at hw
        have hy : ∀ v, get σ.fr d = some v → ∃ x, a.tmps[d]? = some x ∧ DenS Ω w d v x := fun v hv => by
          obtain ⟨h1, h2⟩ := h.slot d v hv
          refine ⟨a.tmps[d], Array.getElem?_eq_getElem h1, ?_⟩
          simpa [Array.getD, h1] using h2
        split at hw
        · rename_i c' hc
          obtain ⟨x, h1, h2⟩ := hy _ hc
          simp only [DenS, Den] at h2
          subst h2
          simp only [Option.some.injEq] at hw; subst hw
          simp only [yielded, hp, hd, Option.bind_some, h1]
          cases c' <;> cases wt <;> rfl
        · rename_i hc
          obtain ⟨x, h1, h2⟩ := hy _ hc
          simp only [DenS, Den] at h2
          subst h2
          simp only [Option.some.injEq] at hw; subst hw
          simp only [yielded, hp, hd, Option.bind_some, h1]
          rfl
        · cases hw
      · cases hg
    · cases hg
/-- What follows an operation. -/
def Next1 (P : Program) (X : Sc) (w0 : World) (Ω : Own) (a : Act) (o : Oper) (σ' : St) (K : Act → World → Prop) : Prop :=
  ∀ a' w' Ω', a'.tmps.size = a.tmps.size → a'.defers = a.defers → (∀ k, o.dst ≠ some k → a'.tmps.getD k undef = a.tmps.getD k undef) → Inv X w0 Ω' w' a'.tmps σ' → (∀ d, Fresh Ω d → (makes P o = true → o.dst ≠ some d) → Fresh Ω' d) → K a' w'
theorem put_size (a : Act) (dst : Option Nat) (x : Value) : (a.put dst x).tmps.size = a.tmps.size := by cases dst <;> simp [Act.put]
theorem put_keeps (a : Act) (dst : Option Nat) (x : Value) (k : Nat) (h : dst ≠ some k) : (a.put dst x).tmps.getD k undef = a.tmps.getD k undef := by
  cases dst with
  | none => rfl
  | some d => simp only [Act.put]; exact getD_set_other (fun e => h (by rw [e]))
theorem put_defers (a : Act) (dst : Option Nat) (x : Value) : (a.put dst x).defers = a.defers := by cases dst <;> rfl
theorem needs_da {q : Bool} : needs P (if isAppend o = true then da else q) o = needs P da o := by
  unfold needs
  cases isAppend o <;> simp
theorem own_sem {bx : Nat → Option (List V)} {tk : Nat → Option (Nat × Bool)} {d : Nat} {k : K} {vs : List V} {e : Eff} (h : sem call bx tk d (ownK k) vs = some e) : sem call bx tk d k vs = some e := by
  unfold ownK at h
  split at h
  · rename_i sz bytes
    have h0 := h
    simp only [sem] at h
    split at h
    · exact h0
    · cases h
  · exact h
theorem isAppend_k (ha : isAppend o = true) {al mk : Bool} {root : Option Nat} {k : K} {xs : List Operand} (h : opC P o.op true al mk root = some (k, xs)) : ∃ s b, k = .append true s b := by
  unfold isAppend at ha
  split at ha
  · rename_i args tys ho
    rw [ho] at h
    simp only [opC, callC] at h
    split at h <;> (try contradiction)
    · split at h
      · split at h
        · split at h
          · simp only [Option.some.injEq, Prod.mk.injEq] at h
            exact ⟨_, _, h.1.symm⟩
          · cases h
        · cases h
      · split at h
        · split at h
          · rename_i hc
            exact absurd hc.2.2 (by simp)
          · cases h
        · cases h
      · cases h
  · cases ha
theorem wpOp_step {ro : Option Nat} {n i : Nat} {K : Act → World → Prop} {Q : Exit → Act → World → Prop} {T : List (List V)} {own : Bool} (hY : YieldOk P X w0 T) (hT : UpTo T σ') (hcall : CallsOk P call) (h : Inv X w0 Ω w a.tmps σ) (ho : ops[i]? = some o) (hst : stepI call (modI own (insC P ops b draw da o i)) σ = some σ')
    (hdst : ∀ d, (insC P ops b draw da o i).dst = some d → d < a.tmps.size) (hfr : needs P (da && !own) o = true → ∀ d, o.dst = some d → Fresh Ω d) (hK : Next1 P X w0 Ω a o σ' K) : wpOpIn (wideR ro) n P ops Q i K a w := by
  rcases insC_k (P := P) (ops := ops) (b := b) (draw := draw) (da := da) (o := o) i with hbad | ⟨k, xs, ys, g, h1, h2, h3, h4, h5⟩
  · rw [hbad] at hst
    cases own <;> (simp only [modI, Bool.false_eq_true, if_false, if_true, ownI, ownK, stepI, badI, wanted, opds, sem] at hst; cases hst)
  · have hmod : modI own (insC P ops b draw da o i) = { dst := o.dst, k := if own = true then ownK k else k, xs := ys, guard := g, ex := if draw then exOf ops b i else [] } := by
      rw [h4]; cases own <;> rfl
    rw [hmod] at hst
    rw [h4] at hdst
    simp only at hdst
    unfold stepI at hst
    simp only at hst
    unfold wpOpIn
    simp only [ho]
    split at hst
    · rename_i hw
      rw [guard_sound h h3 hw]
      simp only [if_true]
      split at hst
      · rename_i vs hvs
        split at hst
        · rename_i e he
          simp only [Option.some.injEq] at hst; subst hst
          have he' : sem call (bxOf σ.fr (if draw then exOf ops b i else [])) (tkOf σ.tk (if draw then exOf ops b i else [])) (o.dst.getD 0) k vs = some e := by
            cases own with
            | true => exact own_sem he
            | false => exact he
          have hs := op_sound hY hcall h hdst h1 h2 hvs he' h5 (fun hn hv => hfr (by
            rw [needs_da (q := draw && busyOf ops b i)] at hn
            cases own with
            | false => simpa using hn
            | true =>
              cases ha : isAppend o with
              | false => unfold needs at hn ⊢; rw [ha] at hn ⊢; simpa using hn
              | true =>
                exfalso
                obtain ⟨y, rfl⟩ := hv ha
                unfold needs at hn
                rw [ha] at hn h1
                have hda : da = true := by cases da <;> simp_all
                subst hda
                simp only [if_true] at h1
                obtain ⟨s, b', rfl⟩ := isAppend_k ha h1
                simp only [if_true, ownK, sem] at he
                cases he)) hT
          exact hs ro n K Q fun x w' Ω' hi hf => hK _ w' Ω' (put_size _ _ _) (put_defers _ _ _) (put_keeps _ _ _) hi hf
        · cases hst
      · cases hst
    · rename_i hw
      rw [guard_sound h h3 hw]
      simp only [Bool.false_eq_true, if_false]
      simp only [Option.some.injEq] at hst; subst hst
      exact ⟨fun _ _ => trivial, hK _ w Ω (put_size _ _ _) (put_defers _ _ _) (put_keeps _ _ _) (h.putO hdst (by simp [Den]) a rfl) (fun _ hf _ => hf)⟩
    · cases hst

/-! ### Regions -/
theorem insCL_get (draw da : Bool) : ∀ (l : List Oper) (j i : Nat) (o : Oper), l[i]? = some o → (insCL P ops b draw da l j)[i]? = some (insC P ops b draw da o (j + i))
  | [], j, i, o, h => by simp at h
  | x :: l, j, 0, o, h => by
    simp only [List.getElem?_cons_zero, Option.some.injEq] at h; subst h
    simp [insCL]
  | x :: l, j, i + 1, o, h => by
    simp only [List.getElem?_cons_succ] at h
    simp only [insCL, List.getElem?_cons_succ]
    rw [insCL_get draw da l (j + 1) i o h]
    congr 2
    omega
theorem insCL_length (draw da : Bool) : ∀ (l : List Oper) (j : Nat), (insCL P ops b draw da l j).length = l.length
  | [], _ => rfl
  | x :: l, j => by simp [insCL, insCL_length draw da l (j + 1)]
/-- What is made by the operations that are still to come is not there yet. -/
def FreshIx (P : Program) (da : Bool) (ops : Array Oper) (Ω : Own) (l : List Nat) : Prop := ∀ i ∈ l, ∀ o d, ops[i]? = some o → needs P da o = true → o.dst = some d → Fresh Ω d
/-- What follows a region. -/
def NextR (X : Sc) (w0 : World) (Ω : Own) (a : Act) (σ' : St) (ks ds : List Nat) (K : Act → World → Prop) : Prop :=
  ∀ a' w' Ω', a'.tmps.size = a.tmps.size → a'.defers = a.defers → (∀ k, k ∉ ks → a'.tmps.getD k undef = a.tmps.getD k undef) → Inv X w0 Ω' w' a'.tmps σ' → (∀ d, Fresh Ω d → d ∉ ds → Fresh Ω' d) → K a' w'
theorem needs_makes {o : Oper} (h : needs P da o = true) : makes P o = true := by
  unfold needs at h
  simp only [Bool.and_eq_true] at h
  exact h.1
theorem ppOf_mem {l : List Oper} {d : Nat} : d ∈ ppOf P da l ↔ ∃ o ∈ l, needs P da o = true ∧ o.dst = some d := by
  unfold ppOf
  rw [List.mem_filterMap]
  constructor
  · rintro ⟨o, ho, h⟩
    split at h
    · exact ⟨o, ho, by assumption, h⟩
    · cases h
  · rintro ⟨o, ho, h1, h2⟩
    exact ⟨o, ho, by rw [if_pos h1, h2]⟩
theorem distinct_nodup : ∀ {l : List Nat}, distinctN l = true → l.Nodup
  | [], _ => List.nodup_nil
  | d :: l, h => by
    simp only [distinctN] at h
    split at h
    · cases h
    · rename_i hm
      rw [List.nodup_cons]
      exact ⟨fun hd => hm (memN_self hd), distinct_nodup h⟩
theorem dsOf_mem {l : List Oper} {d : Nat} : d ∈ dsOf P l ↔ ∃ o ∈ l, makes P o = true ∧ o.dst = some d := by
  unfold dsOf
  rw [List.mem_filterMap]
  constructor
  · rintro ⟨o, ho, h⟩
    split at h
    · exact ⟨o, ho, by assumption, h⟩
    · cases h
  · rintro ⟨o, ho, h1, h2⟩
    exact ⟨o, ho, by rw [if_pos h1, h2]⟩
/-- The slots of what is made are all different. -/
theorem ds_inj : ∀ {l : List Oper}, (dsOf P l).Nodup → ∀ {i j : Nat} {o p : Oper} {d : Nat}, l[i]? = some o → l[j]? = some p → makes P o = true → makes P p = true → o.dst = some d → p.dst = some d → i = j
  | [], _, i, j, o, p, d, hi, _, _, _, _, _ => by simp at hi
  | x :: l, hn, i, j, o, p, d, hi, hj, h1, h2, h3, h4 => by
    have hcons : makes P x = true → ∀ d, x.dst = some d → d ∉ dsOf P l ∧ (dsOf P l).Nodup := fun hx d hd => by
      simp only [dsOf, List.filterMap_cons, hx, if_true, hd, List.nodup_cons] at hn
      exact hn
    have htail : (dsOf P l).Nodup := by
      unfold dsOf at hn ⊢
      rw [List.filterMap_cons] at hn
      split at hn
      · exact hn
      · exact (List.nodup_cons.1 hn).2
    cases i with
    | zero =>
      simp only [List.getElem?_cons_zero, Option.some.injEq] at hi; subst hi
      cases j with
      | zero => rfl
      | succ j =>
        simp only [List.getElem?_cons_succ] at hj
        exact ((hcons h1 d h3).1 (dsOf_mem.2 ⟨p, List.mem_of_getElem? hj, h2, h4⟩)).elim
    | succ i =>
      simp only [List.getElem?_cons_succ] at hi
      cases j with
      | zero =>
        simp only [List.getElem?_cons_zero, Option.some.injEq] at hj; subst hj
        exact ((hcons h2 d h4).1 (dsOf_mem.2 ⟨o, List.mem_of_getElem? hi, h1, h3⟩)).elim
      | succ j =>
        simp only [List.getElem?_cons_succ] at hj
        rw [ds_inj htail hi hj h1 h2 h3 h4]
theorem wpOps_sound {ro : Option Nat} {n : Nat} {Q : Exit → Act → World → Prop} {T : List (List V)} {own : Bool} (hY : YieldOk P X w0 T) (hcall : CallsOk P call) (hds : (dsOf P ops.toList).Nodup) {ks : List Nat} (hks : ∀ li ∈ (insCL P ops b draw da ops.toList 0).map (modI own), ∀ d, li.dst = some d → d ∈ ks) : ∀ (l : List Nat) (a : Act) (w : World) (Ω : Own) (σ σ' : St), l.Nodup → UpTo T σ' → Inv X w0 Ω w a.tmps σ →
    stepIx call ((insCL P ops b draw da ops.toList 0).map (modI own)) l σ = some σ' → (∀ li ∈ (insCL P ops b draw da ops.toList 0).map (modI own), ∀ d, li.dst = some d → d < a.tmps.size) → FreshIx P (da && !own) ops Ω l → NextR X w0 Ω a σ' ks (dsOf P ops.toList) (Q .normal) → wpOpsIn (wideR ro) n P ops Q l a w
  | [], a, w, Ω, σ, σ', _, _, h, hst, _, _, hK => by
    simp only [stepIx, Option.some.injEq] at hst; subst hst
    exact hK a w Ω rfl rfl (fun _ _ => rfl) h (fun _ hf _ => hf)
  | i :: l, a, w, Ω, σ, σ', hn, hT, h, hst, hdst, hfr, hK => by
    rw [wpOpsIn_cons]
    simp only [stepIx] at hst
    split at hst
    · rename_i li hli
      have hilt : i < ops.size := by
        have := (List.getElem?_eq_some_iff.1 hli).1
        rw [List.length_map, insCL_length] at this
        simpa using this
      have ho : ops[i]? = some ops[i] := Array.getElem?_eq_getElem hilt
      have hli' := insCL_get (P := P) (ops := ops) (b := b) draw da ops.toList 0 i ops[i] (by simp)
      rw [Nat.zero_add] at hli'
      have hli' : ((insCL P ops b draw da ops.toList 0).map (modI own))[i]? = some (modI own (insC P ops b draw da ops[i] i)) := by rw [List.getElem?_map, hli']; rfl
      have hmd : ∀ li, (modI own li).dst = li.dst := fun li => by cases own <;> rfl
      rw [hli'] at hli
      injection hli with hli; subst hli
      split at hst
      · rename_i σ1 h1
        have hmem : ops[i] ∈ ops.toList := by simp
        refine wpOp_step hY ((stepIx_tr hst).upTo hT) hcall h ho h1 (fun d hd => hdst _ (List.mem_of_getElem? hli') d (by rw [hmd]; exact hd)) (fun hm d hd => hfr i (by simp) _ d ho hm hd) ?_
        intro a' w' Ω' hsz hdf htm hinv hfresh
        have hn' := List.nodup_cons.1 hn
        refine wpOps_sound hY hcall hds hks l a' w' Ω' σ1 σ' hn'.2 hT hinv hst (fun o ho d hd => by rw [hsz]; exact hdst o ho d hd) (fun j hj p d hp hm hd => ?_) ?_
        · refine hfresh d (hfr j (by simp [hj]) p d hp hm hd) (fun hm' hd' => ?_)
          have := ds_inj hds (i := i) (j := j) (by simp) (by simpa using hp) hm' (needs_makes hm) hd' hd
          exact hn'.1 (this ▸ hj)
        · intro a'' w'' Ω'' hsz' hdf' htm' hinv' hf'
          refine hK a'' w'' Ω'' (hsz'.trans hsz) (hdf'.trans hdf) (fun k hk => (htm' k hk).trans (htm k fun e => hk (hks _ (List.mem_of_getElem? hli') k (by
            rcases insC_k (P := P) (ops := ops) (b := b) (draw := draw) (da := da) (o := ops[i]) i with hbad | ⟨_, _, _, _, _, _, _, h4, _⟩
            · rw [hbad] at h1
              cases own <;> (simp only [modI, Bool.false_eq_true, if_false, if_true, ownI, ownK, stepI, badI, wanted, opds, sem] at h1; cases h1)
            · rw [hmd, h4]; exact e)))) hinv' (fun d hf hnd => hf' d (hfresh d hf (fun hm hd => hnd (dsOf_mem.2 ⟨_, hmem, hm, hd⟩))) hnd)
      · cases hst
    · cases hst
theorem inv_keep {tm : Array Value} (h : Inv X w0 Ω w tm σ) (kn : Nat) (kp : List Nat) : Inv X w0 Ω w tm { σ with fr := keepL kn kp σ.fr } where
  kept := h.kept
  ownB := h.ownB
  ownA := h.ownA
  bnd := h.bnd
  uniq := h.uniq
  limB := h.limB
  slot s v hs := h.slot s v (get_keepL hs)
  tok := h.tok
  old := h.old
  out := h.out
/-- A region, taken in one of two ways. -/
theorem reg_sound {ro : Option Nat} {n id : Nat} {Q : Exit → Act → World → Prop} {T : List (List V)} {own : Bool} (hY : YieldOk P X w0 T) (hT : UpTo T σ') (hcall : CallsOk P call) (hmix : P.follows .mixedOrders = true) {lp : Bool} {kn : Nat} {kp : List Nat} (hdraw : draw = true → drawOkL b ((insCL P ops b draw da ops.toList 0).map (modI own)) = true ∧ closedB ops b = true) (hdis : distinctN (dsOf P ops.toList) = true) (h : Inv X w0 Ω w a.tmps σ) {N : Nat} {ex : Ex}
    (hev : evC call N (.reg lp (dsOf P ops.toList) (ppOf P (da && !own) ops.toList) ((insCL P ops b draw da ops.toList 0).map (modI own)) kn kp) σ = some (ex, σ')) (hdst : ∀ d ∈ dstsC (.reg lp (dsOf P ops.toList) (ppOf P (da && !own) ops.toList) ((insCL P ops b draw da ops.toList 0).map (modI own)) kn kp), d < a.tmps.size) (hfr : ∀ d ∈ onceC (.reg lp (dsOf P ops.toList) (ppOf P (da && !own) ops.toList) ((insCL P ops b draw da ops.toList 0).map (modI own)) kn kp), Fresh Ω d)
    (hK : ex = .normal → NextR X w0 Ω a σ' (dstsC (.reg lp (dsOf P ops.toList) (ppOf P (da && !own) ops.toList) ((insCL P ops b draw da ops.toList 0).map (modI own)) kn kp)) (onceC (.reg lp (dsOf P ops.toList) (ppOf P (da && !own) ops.toList) ((insCL P ops b draw da ops.toList 0).map (modI own)) kn kp) ++ loopC (.reg lp (dsOf P ops.toList) (ppOf P (da && !own) ops.toList) ((insCL P ops b draw da ops.toList 0).map (modI own)) kn kp)) (Q .normal)) : (Code.region id ops draw).wpIn (wideR ro) n P Q a w := by
  have hnd := distinct_nodup hdis
  simp only [evC] at hev
  split at hev
  · rename_i σ1 h1
    simp only [Option.some.injEq, Prod.mk.injEq] at hev
    obtain ⟨rfl, rfl⟩ := hev
    have hK := hK rfl
    have hdst' : ∀ li ∈ (insCL P ops b draw da ops.toList 0).map (modI own), ∀ d, li.dst = some d → d < a.tmps.size := fun li hli d hd =>
      hdst d (by simp only [dstsC]; exact List.mem_filterMap.2 ⟨li, hli, hd⟩)
    -- the state behind the start
    obtain ⟨Ω1, hinv, hfresh, hkeep⟩ : ∃ Ω1, Inv X w0 Ω1 w a.tmps (prep lp (ppOf P (da && !own) ops.toList) σ) ∧ (∀ d ∈ ppOf P (da && !own) ops.toList, Fresh Ω1 d) ∧ ∀ d, Fresh Ω d → Fresh Ω1 d := by
      cases lp with
      | false =>
        refine ⟨Ω, h, fun d hd => hfr d (by
          obtain ⟨o, ho, hm, hdd⟩ := ppOf_mem.1 hd
          simpa [onceC] using dsOf_mem.2 ⟨o, ho, needs_makes hm, hdd⟩), fun _ hf => hf⟩
      | true =>
        generalize ppOf P (da && !own) ops.toList = pp
        cases pp with
        | nil => exact ⟨Ω, h, (fun d hd => by cases hd), fun _ hf => hf⟩
        | cons p0 pp =>
        refine ⟨Ω.prep (p0 :: pp), h.prep _, fun d hd => fresh_prep (memN_self hd), fun d hf => ⟨fun b hb => hf.1 b (prep_box hb).1, fun b t p e hb => hf.2 b t p e (prep_arr hb).1⟩⟩
    have hmem : ∀ d, d ∉ onceC (.reg lp (dsOf P ops.toList) (ppOf P (da && !own) ops.toList) ((insCL P ops b draw da ops.toList 0).map (modI own)) kn kp) ++ loopC (.reg lp (dsOf P ops.toList) (ppOf P (da && !own) ops.toList) ((insCL P ops b draw da ops.toList 0).map (modI own)) kn kp) → d ∉ dsOf P ops.toList := by
      intro d hd hm
      apply hd
      cases lp <;> simp [onceC, loopC, hm]
    have go : ∀ (l : List Nat) (w' : World), l.Nodup → (∀ i ∈ l, i < ops.size) → stepIx call ((insCL P ops b draw da ops.toList 0).map (modI own)) l (prep lp (ppOf P (da && !own) ops.toList) σ) = some σ1 → Inv X w0 Ω1 w' a.tmps (prep lp (ppOf P (da && !own) ops.toList) σ) → wpOpsIn (wideR ro) n P ops Q l a w' := by
      intro l w' hl hlt hst hi
      refine wpOps_sound (own := own) hY hcall hnd (ks := ((insCL P ops b draw da ops.toList 0).map (modI own)).filterMap (·.dst)) (fun li hli d hd => List.mem_filterMap.2 ⟨li, hli, hd⟩) l a w' Ω1 _ σ1 hl hT hi hst hdst' (fun i _ o d ho hm hd => hfresh d (ppOf_mem.2 ⟨o, List.mem_of_getElem? (i := i) (by rw [Array.getElem?_toList]; exact ho), hm, hd⟩)) ?_
      intro a' w' Ω' hsz hdf htm hinv' hf'
      exact hK a' w' Ω' hsz hdf htm (inv_keep hinv' kn kp) (fun d hf hd => hf' d (hkeep d hf) (hmem d hd))
    cases draw with
    | false =>
      refine wpIn_region (go _ w List.nodup_range (fun i hi => List.mem_range.1 hi) ?_ hinv)
      rw [stepL_ix call ((insCL P ops b false da ops.toList 0).map (modI own)) _ 0 _ (by simp), List.length_map, insCL_length, ← List.range_eq_range', Array.length_toList] at h1
      exact h1
    | true =>
      obtain ⟨hd1, hd2⟩ := hdraw rfl
      refine wpIn_region_draw fun t => ?_
      simp only [Region.schedule, hmix, Bool.true_or, if_true]
      obtain ⟨g1, g2, g3⟩ := linearise_same (call := call) hd2 hd1 (by rw [List.length_map, insCL_length, Array.length_toList]) t
      refine go _ _ g2 g3 ?_ ?_
      · rw [g1]; exact h1
      · exact hinv.drew 1
  · cases hev
theorem mod_false : ∀ is : List LIns, is.map (modI false) = is
  | [] => rfl
  | i :: is => by simp only [List.map_cons, mod_false is]; rfl
theorem mod_true (is : List LIns) : is.map (modI true) = is.map ownI := by
  apply List.map_congr_left; intro i _; rfl
/-- A region. -/
theorem region_sound {ro : Option Nat} {n id : Nat} {Q : Exit → Act → World → Prop} {T : List (List V)} (hY : YieldOk P X w0 T) (hT : UpTo T σ') (hcall : CallsOk P call) (hmix : P.follows .mixedOrders = true) {lp : Bool} {kn : Nat} {kp : List Nat} {lc : LCode} (hc : regC P lp kn kp ops draw = some lc) (h : Inv X w0 Ω w a.tmps σ) {N : Nat} {ex : Ex}
    (hev : evC call N lc σ = some (ex, σ')) (hdst : ∀ d ∈ dstsC lc, d < a.tmps.size) (hfr : ∀ d ∈ onceC lc, Fresh Ω d)
    (hK : ex = .normal → NextR X w0 Ω a σ' (dstsC lc) (onceC lc ++ loopC lc) (Q .normal)) : (Code.region id ops draw).wpIn (wideR ro) n P Q a w := by
  unfold regC at hc
  generalize hb : (if draw = true then Region.before ops else #[]) = b at hc
  simp only at hc
  generalize drawsApp ops b draw = da at hc
  split at hc
  · rename_i hchk
    obtain ⟨hdraw, hdis⟩ := hchk
    have plainW : ∀ {lc' : LCode}, lc' = .reg lp (dsOf P ops.toList) (ppOf P da ops.toList) (insCL P ops b draw da ops.toList 0) kn kp → evC call N lc' σ = some (ex, σ') → (∀ d ∈ dstsC lc', d < a.tmps.size) → (∀ d ∈ onceC lc', Fresh Ω d) →
        (ex = .normal → NextR X w0 Ω a σ' (dstsC lc') (onceC lc' ++ loopC lc') (Q .normal)) → (Code.region id ops draw).wpIn (wideR ro) n P Q a w := by
      intro lc' e1 e2 e3 e4 e5
      subst e1
      have := reg_sound (own := false) (da := da) (b := b) (draw := draw) (id := id) (kn := kn) (kp := kp) (lp := lp) hY hT hcall hmix (by rw [mod_false]; exact hdraw) hdis h (N := N) (ex := ex) (Q := Q) (n := n) (ro := ro)
      rw [mod_false, Bool.not_false, Bool.and_true] at this
      exact this e2 e3 e4 e5
    split at hc
    · rename_i hl
      obtain ⟨rfl, rfl⟩ := hl
      split at hc
      · rename_i hown
        simp only [Option.some.injEq] at hc; subst hc
        simp only [dstsC, onceC, loopC, List.mem_append, if_true, List.nil_append] at hdst hfr hK
        simp only [evC] at hev
        have wide : ∀ {ks ds ks' ds' : List Nat} {σ' : St}, (∀ k, k ∉ ks' → k ∉ ks) → (∀ d, d ∉ ds' → d ∉ ds) → NextR X w0 Ω a σ' ks' ds' (Q .normal) → NextR X w0 Ω a σ' ks ds (Q .normal) := by
          intro ks ds ks' ds' σ' q1 q2 hN a' w' Ω' g1 g2 g3 g4 g5
          exact hN a' w' Ω' g1 g2 (fun k hk => g3 k (q1 k hk)) g4 (fun d hd hn => g5 d hd (q2 d hn))
        split at hev
        · rename_i hb1
          have := reg_sound (own := true) (da := true) (b := b) (draw := draw) (id := id) (kn := kn) (kp := kp) (lp := true) hY hT hcall hmix (by
            rw [mod_true]; exact fun hd => ⟨hown hd, (hdraw hd).2⟩) hdis h (N := N) (ex := ex) (Q := Q) (n := n) (ro := ro)
          rw [mod_true, Bool.not_true, Bool.and_false] at this
          refine this hev (fun d hd => hdst d (.inr (by simpa only [dstsC] using hd))) (fun d hd => by simp [onceC] at hd) (fun hx => wide (fun k hk => ?_) (fun d hd => ?_) (hK hx))
          · simp only [List.mem_append, not_or] at hk; simpa only [dstsC] using hk.2
          · simp only [List.mem_append, not_or] at hd; simpa [onceC, loopC] using hd.2
        · rename_i hb1
          refine plainW rfl hev (fun d hd => hdst d (.inl (by simpa only [dstsC] using hd))) (fun d hd => by simp [onceC] at hd) (fun hx => wide (fun k hk => ?_) (fun d hd => ?_) (hK hx))
          · simp only [List.mem_append, not_or] at hk; simpa only [dstsC] using hk.1
          · simp only [List.mem_append, not_or] at hd; simpa [onceC, loopC] using hd.1
      · cases hc
    · simp only [Option.some.injEq] at hc
      exact plainW hc.symm hev hdst hfr hK
  · cases hc
end
end Go.Lo

/- Ranges over functions: steps, scopes, rounds. -/
namespace Go.Lo
section
variable {P : Program} {X : Sc} {w0 w w' w'' : World} {Ω Ω' Ω'' : Own} {tm : Array Value} {σ : St}

/-! ### Steps -/
theorem Stp0.mine (h : Stp0 Ω Ω' w w') {b : Nat} (hb : Ω'.mine b) (hlt : b < w.heap.size) : Ω.mine b := by
  apply Classical.byContradiction
  intro hn
  obtain ⟨h1, _⟩ := h.same b hlt hn
  unfold Own.mine at hb hn
  rw [h1] at hb
  exact hn hb
theorem Stp.refl (hb : ∀ b, Ω.o b ≠ .out → b < w.heap.size) : Stp Ω Ω w w :=
  ⟨⟨rfl, rfl, rfl, Nat.le_refl _, fun _ _ _ => rfl, fun _ _ _ => ⟨rfl, rfl⟩⟩, ⟨fun _ h => h, fun _ _ => Nat.le_refl _, fun _ _ _ _ => rfl⟩, hb, rfl, hb⟩
theorem ExtM.trans (h : ExtM Ω Ω' w w') (k : ExtM Ω' Ω'' w' w'') : ExtM Ω Ω'' w w'' :=
  ⟨fun b hb => k.froz b (h.froz b hb), fun b hb => Nat.le_trans (h.lim b hb) (k.lim b (h.froz b hb)), fun b off hb hl =>
    (k.cell b off (h.froz b hb) (Nat.lt_of_lt_of_le hl (h.lim b hb))).trans (h.cell b off hb hl)⟩
theorem Stp.trans (h : Stp Ω Ω' w w') (k : Stp Ω' Ω'' w' w'') : Stp Ω Ω'' w w'' where
  s := by
    refine ⟨k.s.os.trans h.s.os, k.s.tape.trans h.s.tape, k.s.output.trans h.s.output, Nat.le_trans h.s.size k.s.size, fun b hlt hm => ?_, fun b hlt hm => ?_⟩
    · rw [k.s.block b (Nat.lt_of_lt_of_le hlt h.s.size) (fun hn => hm (h.s.mine hn hlt)), h.s.block b hlt hm]
    · obtain ⟨a1, a2⟩ := h.s.same b hlt hm
      obtain ⟨b1, b2⟩ := k.s.same b (Nat.lt_of_lt_of_le hlt h.s.size) (fun hn => hm (h.s.mine hn hlt))
      exact ⟨b1.trans a1, b2.trans a2⟩
  m := h.m.trans k.m
  bnd := k.bnd
  yl := k.yl.trans h.yl
  bnd0 := h.bnd0
/-- The same, but for the record l. -/
structure StpX (l : Nat) (Ω Ω' : Own) (w w' : World) : Prop where
  os : w'.os = w.os
  tape : w'.tape = w.tape
  output : w'.output = w.output
  size : w.heap.size ≤ w'.heap.size
  block : ∀ b, b < w.heap.size → ¬ Ω.mine b → b ≠ l → w'.heap[b]? = w.heap[b]?
  same : ∀ b, b < w.heap.size → ¬ Ω.mine b → Ω'.o b = Ω.o b ∧ Ω'.lim b = Ω.lim b
  m : ExtM Ω Ω' w w'
theorem Stp.toX (h : Stp Ω Ω' w w') (l : Nat) : StpX l Ω Ω' w w' :=
  ⟨h.s.os, h.s.tape, h.s.output, h.s.size, fun b hlt hm _ => h.s.block b hlt hm, h.s.same, h.m⟩
theorem StpX.mine {l : Nat} (h : StpX l Ω Ω' w w') {b : Nat} (hb : Ω'.mine b) (hlt : b < w.heap.size) : Ω.mine b := by
  apply Classical.byContradiction
  intro hn
  obtain ⟨h1, _⟩ := h.same b hlt hn
  unfold Own.mine at hb hn
  rw [h1] at hb
  exact hn hb
theorem StpX.trans {l : Nat} (h : StpX l Ω Ω' w w') (k : StpX l Ω' Ω'' w' w'') : StpX l Ω Ω'' w w'' where
  os := k.os.trans h.os
  tape := k.tape.trans h.tape
  output := k.output.trans h.output
  size := Nat.le_trans h.size k.size
  block b hlt hm hl := by rw [k.block b (Nat.lt_of_lt_of_le hlt h.size) (fun hn => hm (h.mine hn hlt)) hl, h.block b hlt hm hl]
  same b hlt hm := by
    obtain ⟨a1, a2⟩ := h.same b hlt hm
    obtain ⟨b1, b2⟩ := k.same b (Nat.lt_of_lt_of_le hlt h.size) (fun hn => hm (h.mine hn hlt))
    exact ⟨b1.trans a1, b2.trans a2⟩
  m := h.m.trans k.m
theorem putObj_cell {l b off : Nat} {o : Obj} (h : b ≠ l) : (w.putObj l o).cell? ⟨b, off, none⟩ = w.cell? ⟨b, off, none⟩ :=
  World.cell?_of_block (World.putObj_heap_other h)
theorem StpX.put {l : Nat} {o : Obj} (hl : Ω.o l = .out) : StpX l Ω Ω w (w.putObj l o) :=
  ⟨rfl, rfl, rfl, by simp, fun b _ _ hb => World.putObj_heap_other hb, fun _ _ _ => ⟨rfl, rfl⟩, ⟨fun _ h => h, fun _ _ => Nat.le_refl _, fun b off hb _ => putObj_cell (fun e => by
    subst e; exact Own.froz_ne hb hl)⟩⟩

/-! ### Scopes -/
/-- From here on. -/
def Sc.rb (X : Sc) (Ω : Own) (w : World) : Sc where
  x := Ω.mine
  o := Ω.o
  lim := Ω.lim
  j tr Ω' w' := X.j tr Ω' w' ∧ Stp Ω Ω' w w'
  st h s := ⟨X.st h.1 s, h.2.trans s⟩
theorem Inv.rb (h : Inv X w0 Ω w tm σ) : Inv (X.rb Ω w) w Ω w tm σ where
  kept := Kept.refl _ _
  ownB _ s hb := .inr (.inl ⟨s, hb⟩)
  ownA _ t p hb := .inr (.inr ⟨t, p, hb⟩)
  bnd := h.bnd
  uniq := h.uniq
  limB := h.limB
  slot := h.slot
  tok := h.tok
  old _ _ _ := ⟨rfl, rfl⟩
  out := ⟨h.out, Stp.refl h.bnd⟩
theorem Inv.unrb {tm' : Array Value} {σ' : St} (h : Inv X w0 Ω w tm σ) (k : Inv (X.rb Ω w) w Ω' w' tm' σ') : Inv X w0 Ω' w' tm' σ' := by
  have hx : ∀ b, b < w0.heap.size → ¬ X.x b → ¬ Ω.mine b := fun b hb hX hm => by
    rcases hm with ⟨s, hs⟩ | ⟨t, p, hp⟩
    · exact h.oldBox hb hX s hs
    · exact h.oldArr hb hX t p hp
  have own : ∀ b, (w.heap.size ≤ b ∨ Ω.mine b) → w0.heap.size ≤ b ∨ X.x b := fun b hb => by
    rcases hb with hb | hb
    · exact .inl (Nat.le_trans h.kept.size hb)
    · rcases hb with ⟨s, hs⟩ | ⟨t, p, hp⟩
      · exact h.ownB b s hs
      · exact h.ownA b t p hp
  exact {
    kept := ⟨k.kept.os.trans h.kept.os, k.kept.tape.trans h.kept.tape, k.kept.output.trans h.kept.output, Nat.le_trans h.kept.size k.kept.size, fun b hb hX => by
      rw [k.kept.block b (Nat.lt_of_lt_of_le hb h.kept.size) (hx b hb hX), h.kept.block b hb hX]⟩
    ownB := fun b s hb => own b (k.ownB b s hb)
    ownA := fun b t p hb => own b (k.ownA b t p hb)
    bnd := k.bnd
    uniq := k.uniq
    limB := k.limB
    slot := k.slot
    tok := k.tok
    old := fun b hb hX => by
      obtain ⟨a1, a2⟩ := k.old b (Nat.lt_of_lt_of_le hb h.kept.size) (hx b hb hX)
      obtain ⟨b1, b2⟩ := h.old b hb hX
      exact ⟨a1.trans b1, a2.trans b2⟩
    out := k.out.1 }
def mark (r : Nat) : Deferred := { target := .collected r, args := #[] }
def marks (M : List Nat) : List Deferred := M.map mark
/-- With marks among the deferred calls. -/
def Sc.df (X : Sc) (M : List Nat) : Sc where
  x := X.x
  o := X.o
  lim := X.lim
  j tr Ω w := X.j tr Ω w ∧ ∀ r ∈ M, ¬ Ω.mine r ∧ w.heap[r]? = some (.deferred (some []))
  st h s := ⟨X.st h.1 s, fun r hr => by
    obtain ⟨a1, a2⟩ := h.2 r hr
    have hlt := (Array.getElem?_eq_some_iff.1 a2).1
    exact ⟨fun hm => a1 (s.s.mine hm hlt), by rw [s.s.block r hlt a1]; exact a2⟩⟩
/-- The same scope, told otherwise. -/
theorem Inv.sc {X' : Sc} (h : Inv X w0 Ω w tm σ) (hx : X'.x = X.x) (ho : X'.o = X.o) (hl : X'.lim = X.lim) (hj : X.j σ.tr Ω w → X'.j σ.tr Ω w) : Inv X' w0 Ω w tm σ where
  kept := by rw [hx]; exact h.kept
  ownB := by rw [hx]; exact h.ownB
  ownA := by rw [hx]; exact h.ownA
  bnd := h.bnd
  uniq := h.uniq
  limB := h.limB
  slot := h.slot
  tok := h.tok
  old := by rw [hx, ho, hl]; exact h.old
  out := hj h.out
/-- What goes on elsewhere. -/
structure Grow (n : Nat) (Ω Ω' : Own) (w w' : World) : Prop where
  os : w'.os = w.os
  tape : w'.tape = w.tape
  output : w'.output = w.output
  size : w.heap.size ≤ w'.heap.size
  block : ∀ b, b < n → w'.heap[b]? = w.heap[b]?
  same : ∀ b, b < n → Ω'.o b = Ω.o b ∧ Ω'.lim b = Ω.lim b
  mine : ∀ b, Ω'.mine b → Ω.mine b
  bnd : ∀ b, Ω'.o b ≠ .out → b < w'.heap.size
  yl : Ω'.yl = Ω.yl
/-- It does not mind what is none of its business. -/
def Lax (X : Sc) : Prop := ∀ (tr : Option (List (List V))) (Ωs : Own) (ws : World) (Ω Ω' : Own) (w w' : World), X.j tr Ωs ws → X.j tr Ω w → Grow ws.heap.size Ω Ω' w w' → X.j tr Ω' w'
def Plain (X : Sc) : Prop := (∀ tr Ω w, X.j tr Ω w → tr = none) ∧ Lax X
theorem Lax.df (h : Lax X) (M : List Nat) : Lax (X.df M) := fun tr Ωs ws Ω Ω' w w' hs hj g => by
  refine ⟨h tr Ωs ws Ω Ω' w w' hs.1 hj.1 g, fun r hr => ?_⟩
  obtain ⟨_, a2⟩ := hs.2 r hr
  obtain ⟨b1, b2⟩ := hj.2 r hr
  have hlt := (Array.getElem?_eq_some_iff.1 a2).1
  exact ⟨fun hm => b1 (g.mine r hm), by rw [g.block r hlt]; exact b2⟩
theorem Plain.df (h : Plain X) (M : List Nat) : Plain (X.df M) := ⟨fun tr Ω w hj => h.1 tr Ω w hj.1, h.2.df M⟩
theorem froz_same {b : Nat} (h : Ω'.o b = Ω.o b) : Ω'.froz b ↔ Ω.froz b := by unfold Own.froz; rw [h]
theorem Plain.rb (h : Plain X) (Ωb : Own) (wb : World) : Plain (X.rb Ωb wb) := by
  refine ⟨fun tr Ω w hj => h.1 tr Ω w hj.1, fun tr Ωs ws Ω Ω' w w' hs hj g => ⟨h.2 tr Ωs ws Ω Ω' w w' hs.1 hj.1 g, ?_⟩⟩
  have hn := hs.2.s.size
  have k := hj.2
  refine ⟨⟨g.os.trans k.s.os, g.tape.trans k.s.tape, g.output.trans k.s.output, Nat.le_trans k.s.size g.size, fun b hlt hm => ?_, fun b hlt hm => ?_⟩, ⟨fun b hb => ?_, fun b hb => ?_, fun b off hb hl => ?_⟩, g.bnd, g.yl.trans k.yl, k.bnd0⟩
  · rw [g.block b (Nat.lt_of_lt_of_le hlt hn), k.s.block b hlt hm]
  · obtain ⟨a1, a2⟩ := g.same b (Nat.lt_of_lt_of_le hlt hn)
    obtain ⟨b1, b2⟩ := k.s.same b hlt hm
    exact ⟨a1.trans b1, a2.trans b2⟩
  · have hlt := k.bnd0 b (Own.froz_ne hb)
    exact (froz_same (g.same b (Nat.lt_of_lt_of_le hlt hn)).1).2 (k.m.froz b hb)
  · have hlt := k.bnd0 b (Own.froz_ne hb)
    rw [(g.same b (Nat.lt_of_lt_of_le hlt hn)).2]
    exact k.m.lim b hb
  · have hlt := k.bnd0 b (Own.froz_ne hb)
    rw [World.cell?_of_block (g.block b (Nat.lt_of_lt_of_le hlt hn))]
    exact k.m.cell b off hb hl
/-- What is asked of a scope. -/
structure ScOk (P : Program) (X : Sc) (w0 : World) (T : List (List V)) (ro : Option Nat) : Prop where
  y : YieldOk P X w0 T
  k : Plain X ∨ ∀ Ω w, ¬ X.j none Ω w
  r : ∀ l, ro = some l → l < w0.heap.size ∧ ¬ X.x l ∧ ∃ r, w0.heap[l]? = some (.loop r)
theorem YieldOk.df {T : List (List V)} (h : YieldOk P X w0 T) {M : List Nat} (hM : Plain X ∨ M = []) : YieldOk P (X.df M) w0 T where
  none Ω w hj := h.none Ω w hj.1
  some ro n b l tr as xs Ω w hj hyl hd hp hT := by
    rcases hM with hM | rfl
    · have := hM.1 _ _ _ hj.1
      cases this
    · obtain ⟨fn, tmps, asg, body, r1, r2⟩ := h.some ro n b l tr as xs Ω w hj.1 hyl hd hp hT
      refine ⟨fn, tmps, asg, body, r1, RoundIn.mono r2 fun e w' he => ?_⟩
      obtain ⟨e1, e2, e3⟩ := he
      exact ⟨e1, ⟨e2, fun r hr => by cases hr⟩, e3⟩
/-- A scope from here on, in a round of l. -/
theorem ScOk.round {T : List (List V)} {ro : Option Nat} (h : ScOk P X w0 T ro) (hp : Plain X) {l : Nat} {r : Loop} (hl : Ω.o l = .out) (hr : w.heap[l]? = some (.loop r)) : ScOk P (X.rb Ω w) w [] (some l) where
  y := ⟨fun Ω w hj => h.y.none Ω w hj.1, fun ro n b l tr as xs Ω w hj _ _ _ _ => by have := hp.1 _ _ _ hj.1; cases this⟩
  k := .inl (hp.rb _ _)
  r l' e := by
    injection e with e; subst e
    refine ⟨(Array.getElem?_eq_some_iff.1 hr).1, fun hm => ?_, r, hr⟩
    rcases hm with ⟨s, hs⟩ | ⟨t, p, hs⟩ <;> rw [hl] at hs <;> cases hs
end

/-! ### Rounds, logically -/
section
variable {F : St → List V → Option (Ex × St)}
def jumpOf : Option (Nat × Ex) → Option Code
  | none => none
  | some (_, .normal) => none
  | some (_, .exit id) => some (.exit id)
  | some (_, .ret) => some .ret
theorem foldR_snoc : ∀ (t : List (List V)) (k : Nat) (σ σo : St) (x : List V), foldR F k σ t = some (none, σo) → foldR F k σ (t ++ [x]) = match F σo x with
    | some (.normal, σ') => some (none, σ')
    | some (ex, σ') => some (some (k + t.length, ex), σ')
    | none => none
  | [], k, σ, σo, x, h => by
    simp only [foldR, Option.some.injEq, Prod.mk.injEq, true_and] at h
    subst h
    simp only [List.nil_append, foldR, List.length_nil, Nat.add_zero]
    cases F σ x with
    | none => rfl
    | some p => obtain ⟨e, σ'⟩ := p; cases e <;> rfl
  | y :: t, k, σ, σo, x, h => by
    simp only [foldR, List.cons_append] at h ⊢
    split at h
    · rename_i σ1 h1
      rw [foldR_snoc t (k + 1) σ1 σo x h, show k + 1 + t.length = k + (y :: t).length by simp; omega]
    · simp only [Option.some.injEq, Prod.mk.injEq, reduceCtorEq, false_and] at h
    · cases h
/-- Behind a beginning that goes on. -/
theorem foldR_pre : ∀ (t r : List (List V)) (k : Nat) (σ : St) (st : Option (Nat × Ex)) (σ' : St), foldR F k σ (t ++ r) = some (st, σ') →
    (∃ σo, foldR F k σ t = some (none, σo) ∧ foldR F (k + t.length) σo r = some (st, σ')) ∨ (∃ i e, st = some (i, e) ∧ i < k + t.length ∧ foldR F k σ t = some (st, σ'))
  | [], r, k, σ, st, σ', h => .inl ⟨σ, rfl, by simpa using h⟩
  | y :: t, r, k, σ, st, σ', h => by
    simp only [List.cons_append, foldR] at h ⊢
    split at h
    · rename_i σ1 h1
      rcases foldR_pre t r (k + 1) σ1 st σ' h with ⟨σo, a1, a2⟩ | ⟨i, e, a1, a2, a3⟩
      · exact .inl ⟨σo, a1, by rw [show k + (y :: t).length = k + 1 + t.length by simp; omega]; exact a2⟩
      · exact .inr ⟨i, e, a1, by simp; omega, a3⟩
    · rename_i ex σ1 hne h1
      simp only [Option.some.injEq, Prod.mk.injEq] at h
      obtain ⟨rfl, rfl⟩ := h
      exact .inr ⟨k, ex, rfl, by simp, rfl⟩
    · cases h
theorem foldR_stop : ∀ (t : List (List V)) (k : Nat) (σ : St) (i : Nat) (e : Ex) (σ' : St), foldR F k σ t = some (some (i, e), σ') → e ≠ .normal ∧ k ≤ i ∧ i < k + t.length
  | [], k, σ, i, e, σ', h => by simp [foldR] at h
  | y :: t, k, σ, i, e, σ', h => by
    simp only [foldR] at h
    split at h
    · obtain ⟨a1, a2, a3⟩ := foldR_stop t (k + 1) _ i e σ' h
      exact ⟨a1, by omega, by simp; omega⟩
    · rename_i ex σ1 hne h1
      simp only [Option.some.injEq, Prod.mk.injEq] at h
      obtain ⟨⟨rfl, rfl⟩, rfl⟩ := h
      exact ⟨fun e => hne e, Nat.le_refl _, by simp⟩
    · cases h
/-- The rounds are those that are asked for. -/
inductive FoldOk (F : St → List V → Option (Ex × St)) (σ1 : St) (T : List (List V)) : Nat → Ex → St → Prop where
  | all {σ' : St} (h : foldR F 0 σ1 T = some (none, σ')) : FoldOk F σ1 T 0 .normal σ'
  | stop {k : Nat} {ex : Ex} {σ' : St} (hl : T.length = k + 1) (h : foldR F 0 σ1 T = some (some (k, ex), σ')) : FoldOk F σ1 T (k + 1) ex σ'
theorem FoldOk.fold {σ1 σ' : St} {T : List (List V)} {b : Nat} {ex : Ex} (h : FoldOk F σ1 T b ex σ') : ∃ st, foldR F 0 σ1 T = some (st, σ') ∧ jumpOf st = jumpOf (some (0, ex)) := by
  cases h with
  | all h => exact ⟨none, h, rfl⟩
  | stop hl h => exact ⟨_, h, by cases ex <;> rfl⟩
theorem FoldOk.at {σ1 σ' : St} {T : List (List V)} {b : Nat} {ex : Ex} (h : FoldOk F σ1 T b ex σ') {t : List (List V)} {x : List V} (ht : t ++ [x] <+: T) :
    ∃ σo e2 σ2, foldR F 0 σ1 t = some (none, σo) ∧ F σo x = some (e2, σ2) ∧ goesOn b (some t) = (jumpOf (some (0, e2))).isNone := by
  obtain ⟨r, rfl⟩ := ht
  obtain ⟨st, hf, _⟩ := h.fold
  have hf' := hf
  rw [List.append_assoc] at hf
  rcases foldR_pre t ([x] ++ r) 0 σ1 st σ' hf with ⟨σo, a1, a2⟩ | ⟨i, e, a1, a2, a3⟩
  · simp only [List.singleton_append, foldR, Nat.zero_add] at a2
    split at a2
    · rename_i σ2 h2
      refine ⟨σo, .normal, σ2, a1, h2, ?_⟩
      cases h with
      | all h => simp [goesOn, jumpOf]
      | stop hl h =>
        rename_i k
        rw [hf'] at h
        injection h with h
        injection h with h _
        subst h
        obtain ⟨_, b2, _⟩ := foldR_stop r _ _ _ _ _ a2
        simp only [goesOn, jumpOf, Option.isNone_none, bne_iff_ne, ne_eq]
        omega
    · rename_i e2 σ2 hne h2
      simp only [Option.some.injEq, Prod.mk.injEq] at a2
      obtain ⟨rfl, rfl⟩ := a2
      refine ⟨σo, e2, σ2, a1, h2, ?_⟩
      have he : e2 ≠ .normal := fun e => hne e
      have hj : (jumpOf (some (0, e2))).isNone = false := by cases e2 <;> first | exact (he rfl).elim | rfl
      rw [hj]
      cases h with
      | all h => rw [hf'] at h; cases h
      | stop hl h =>
        rw [hf'] at h
        injection h with h
        injection h with h _
        injection h with h
        injection h with h _
        subst h
        simp [goesOn]
    · cases a2
  · exfalso
    subst a1
    cases h with
    | all h => rw [hf'] at h; cases h
    | stop hl h =>
      rw [hf'] at h
      injection h with h
      injection h with h _
      injection h with h
      injection h with h _
      subst h
      simp at hl
      omega
end
end Go.Lo

/- Ranges over functions: what a piece of code comes to; what an iterator and the body promise each other. -/
namespace Go.Lo
section
variable {P : Program} {X : Sc} {w0 : World} {call : Nat → List V → Option V}

/-! ### Code -/
def Ex.out : Ex → Exit
  | .normal => .normal
  | .exit id => .exit id
  | .ret => .ret
/-- Behind a piece of code. -/
structure Arr (X : Sc) (w0 : World) (ro : Option Nat) (Ω : Own) (a : Act) (M : List Nat) (df : List Deferred) (σ' : St) (ks ds : List Nat) (a' : Act) (w' : World) (Ω' : Own) (M' : List Nat) : Prop where
  size : a'.tmps.size = a.tmps.size
  defers : a'.defers = marks M' ++ df
  nodup : M'.Nodup
  low : ∀ r ∈ M', w0.heap.size ≤ r
  same : M' = M ∨ (Plain X ∧ ro = none)
  keep : ∀ k, k ∉ ks → a'.tmps.getD k undef = a.tmps.getD k undef
  inv : Inv (X.df M') w0 Ω' w' a'.tmps σ'
  fresh : ∀ d, Fresh Ω d → d ∉ ds → Fresh Ω' d
/-- What follows a piece of code. -/
def NextC (X : Sc) (w0 : World) (ro : Option Nat) (Ω : Own) (a : Act) (M : List Nat) (df : List Deferred) (σ' : St) (ks ds : List Nat) (K : Act → World → Prop) : Prop :=
  ∀ a' w' Ω' M', Arr X w0 ro Ω a M df σ' ks ds a' w' Ω' M' → K a' w'
/-- What is made once is made in one place. -/
def Once (lc : LCode) : Prop := (onceC lc).Nodup ∧ ∀ d ∈ onceC lc, d ∉ loopC lc
/-- A piece of code does what its compiled form does. -/
def CodeOk (P : Program) (call : Nat → List V → Option V) (N : Nat) (c : Code) (lc : LCode) : Prop :=
  ∀ {X : Sc} {w0 : World} {T : List (List V)} {ro : Option Nat} {n : Nat} {Ω : Own} {w : World} {a : Act} {σ σ' : St} {ex : Ex} {Q : Exit → Act → World → Prop} {M : List Nat} {df : List Deferred},
    ScOk P X w0 T ro → (Plain X ∨ M = []) → M.Nodup → (∀ r ∈ M, w0.heap.size ≤ r) → a.defers = marks M ++ df → evC call N lc σ = some (ex, σ') → UpTo T σ' → Inv (X.df M) w0 Ω w a.tmps σ → (∀ d ∈ dstsC lc, d < a.tmps.size) →
    (∀ d ∈ onceC lc, Fresh Ω d) → Once lc → NextC X w0 ro Ω a M df σ' (dstsC lc) (onceC lc ++ loopC lc) (Q ex.out) → c.wpIn (wideR ro) n P Q a w
end

/-! ### What was yielded grows -/
section
variable {call : Nat → List V → Option V}
theorem iter_tr {f : St → Option (Ex × St)} (h : ∀ σ ex σ', f σ = some (ex, σ') → TrLe σ σ') : ∀ {n : Nat} {σ : St} {ex : Ex} {σ' : St}, iter f n σ = some (ex, σ') → TrLe σ σ'
  | 0, _, _, _, hs => by simp [iter] at hs
  | n + 1, σ, ex, σ', hs => by
    simp only [iter] at hs
    split at hs
    · rename_i σ1 h1
      exact (h _ _ _ h1).trans (iter_tr h hs)
    · exact h _ _ _ hs
theorem roundE_tr {evA evB : St → Option (Ex × St)} (hA : ∀ σ ex σ', evA σ = some (ex, σ') → TrLe σ σ') (hB : ∀ σ ex σ', evB σ = some (ex, σ') → TrLe σ σ') {ps wr : List Nat} {σ : St} {as : List V} {ex : Ex} {σ' : St}
    (h : roundE evA evB ps wr σ as = some (ex, σ')) : TrLe σ σ' := by
  unfold roundE at h
  split at h
  · split at h
    · rename_i σ1 h1
      split at h
      · rename_i e2 σ2 h2
        simp only [Option.some.injEq, Prod.mk.injEq] at h
        obtain ⟨rfl, rfl⟩ := h
        have k1 := hA _ _ _ h1
        have k1 : TrLe σ σ1 := k1
        have k2 := k1.trans (hB _ _ _ h2)
        exact k2
      · cases h
    · cases h
  · cases h
theorem foldR_tr {f : St → List V → Option (Ex × St)} (h : ∀ σ as ex σ', f σ as = some (ex, σ') → TrLe σ σ') : ∀ {t : List (List V)} {k : Nat} {σ : St} {st : Option (Nat × Ex)} {σ' : St}, foldR f k σ t = some (st, σ') → TrLe σ σ'
  | [], _, _, _, _, hs => by
    simp only [foldR, Option.some.injEq, Prod.mk.injEq] at hs
    obtain ⟨_, rfl⟩ := hs
    exact .refl _
  | x :: t, k, σ, st, σ', hs => by
    simp only [foldR] at hs
    split at hs
    · rename_i σ1 h1
      exact (h _ _ _ _ h1).trans (foldR_tr h hs)
    · rename_i e σ1 _ h1
      simp only [Option.some.injEq, Prod.mk.injEq] at hs
      obtain ⟨_, rfl⟩ := hs
      exact h _ _ _ _ h1
    · cases hs
theorem rngE_spec {f : St → List V → Option (Ex × St)} {it : Nat → Option V} {σ : St} {ex : Ex} {σ' : St} (h : rngE f it σ = some (ex, σ')) : ∃ b T, itemsOf (it b) = some T ∧ FoldOk f σ T b ex σ' := by
  unfold rngE at h
  split at h
  · cases h
  · rename_i items hi
    split at h
    · rename_i σ1 h1
      simp only [Option.some.injEq, Prod.mk.injEq] at h
      obtain ⟨rfl, rfl⟩ := h
      exact ⟨0, items, hi, .all h1⟩
    · rename_i k _ _ h1
      split at h
      · cases h
      · rename_i items' hi'
        split at h
        · rename_i k' ex' σ1 h2
          split at h
          · rename_i hc
            obtain ⟨rfl, hl⟩ := hc
            simp only [Option.some.injEq, Prod.mk.injEq] at h
            obtain ⟨rfl, rfl⟩ := h
            exact ⟨k' + 1, items', hi', .stop hl h2⟩
          · cases h
        · cases h
    · cases h
theorem evC_tr {N : Nat} : ∀ (lc : LCode) {σ : St} {ex : Ex} {σ' : St}, evC call N lc σ = some (ex, σ') → TrLe σ σ' := by
  intro lc
  induction lc with
  | skip => intro σ ex σ' h; simp only [evC, Option.some.injEq, Prod.mk.injEq] at h; obtain ⟨_, rfl⟩ := h; exact .refl _
  | exit id => intro σ ex σ' h; simp only [evC, Option.some.injEq, Prod.mk.injEq] at h; obtain ⟨_, rfl⟩ := h; exact .refl _
  | ret => intro σ ex σ' h; simp only [evC, Option.some.injEq, Prod.mk.injEq] at h; obtain ⟨_, rfl⟩ := h; exact .refl _
  | bad => intro σ ex σ' h; simp only [evC] at h; cases h
  | reg lp ds pp ops kn kp =>
    intro σ ex σ' h
    simp only [evC] at h
    split at h
    · rename_i σ1 h1
      simp only [Option.some.injEq, Prod.mk.injEq] at h
      obtain ⟨_, rfl⟩ := h
      have k0 : TrLe σ (prep lp pp σ) := .of (prep_tr _ _ _)
      have k2 : TrLe σ σ1 := k0.trans (stepL_tr h1)
      exact k2
    · cases h
  | seq a b iha ihb =>
    intro σ ex σ' h
    simp only [evC] at h
    split at h
    · rename_i σ1 h1; exact (iha h1).trans (ihb h)
    · exact iha h
  | cond c a b iha ihb =>
    intro σ ex σ' h
    simp only [evC] at h
    split at h
    · split at h
      · exact iha h
      · exact ihb h
    · cases h
  | alt ts ks a b iha ihb =>
    intro σ ex σ' h
    simp only [evC] at h
    split at h
    · exact ihb h
    · exact iha h
  | block id a ih =>
    intro σ ex σ' h
    simp only [evC] at h
    split at h
    · rename_i j σ1 h1
      split at h <;> simp only [Option.some.injEq, Prod.mk.injEq] at h <;> obtain ⟨_, rfl⟩ := h <;> exact ih h1
    · exact ih h
  | loop a ih => intro σ ex σ' h; simp only [evC] at h; exact iter_tr (fun _ _ _ h => ih h) h
  | rng g ps wr a b iha ihb =>
    intro σ ex σ' h
    have key : ∀ {it : Nat → Option V} {τ : St}, τ.tr = σ.tr → rngE (roundE (evC call N a) (evC call N b) ps wr) it τ = some (ex, σ') → TrLe σ σ' := fun e h => by
      obtain ⟨k, T, _, hf⟩ := rngE_spec h
      obtain ⟨st, hf, _⟩ := hf.fold
      have := foldR_tr (fun _ _ _ _ h => roundE_tr (fun _ _ _ h => iha h) (fun _ _ _ h => ihb h) h) hf
      exact TrLe.trans (.of e) this
    simp only [evC] at h
    split at h
    · split at h
      · split at h
        · exact key (by rfl) h
        · cases h
      · cases h
    · split at h
      · split at h
        · exact key (by rfl) h
        · cases h
      · cases h
    · cases h
end

/-! ### What the iterator may know, and what the body learns -/
def frzB : OwnK → Bool
  | .frz => true
  | .arr _ true => true
  | _ => false
theorem froz_iff {Ω : Own} {b : Nat} : Ω.froz b ↔ frzB (Ω.o b) = true := by
  unfold Own.froz
  cases h : Ω.o b with
  | arr t p => cases p <;> simp [frzB]
  | _ => simp [frzB]
def itOwn (Ω : Own) (l b : Nat) : Own where
  o k := if frzB (Ω.o k) = true then .frz else .out
  lim := Ω.lim
  cur _ := none
  tsz _ := 0
  yl := some (l, b)
theorem itOwn_or (Ω : Own) (l b k : Nat) : (itOwn Ω l b).o k = .out ∨ ((itOwn Ω l b).o k = .frz ∧ Ω.froz k) := by
  simp only [itOwn]
  split
  · rename_i h; exact .inr ⟨rfl, froz_iff.2 h⟩
  · exact .inl rfl
theorem base_itOwn {Ω : Own} {w : World} {l b : Nat} (hb : ∀ k, Ω.o k ≠ .out → k < w.heap.size) : Base (itOwn Ω l b) w := by
  refine ⟨fun k => ?_, fun k hk => ?_⟩
  · rcases itOwn_or Ω l b k with h | ⟨h, _⟩ <;> simp [h]
  · rcases itOwn_or Ω l b k with h | ⟨_, h⟩
    · exact absurd h hk
    · exact hb k (Own.froz_ne h)
/-- What the iterator has frozen is frozen for the body. -/
def Own.mg (Ωo Ωi : Own) (n : Nat) : Own :=
  { Ωo with o := fun k => if n ≤ k ∧ frzB (Ωi.o k) = true then .frz else Ωo.o k, lim := fun k => if n ≤ k ∧ frzB (Ωi.o k) = true then Ωi.lim k else Ωo.lim k }

/-- While an iterator is at work: what was so at the start. -/
structure JS (Xc : Sc) (w0 : World) (Ω1 : Own) (we ws : World) (l : Nat) : Prop where
  plain : Plain Xc
  hl : we.heap.size = l
  hws : ws.heap.size = l + 1
  hj : Xc.j none Ω1 we
  lo : Ω1.o l = .out
  sz : w0.heap.size ≤ l
  bnd : ∀ k, Ω1.o k ≠ .out → k < l
/-- And what is so now. -/
structure JAt (Xc : Sc) (w0 : World) (Ω1 : Own) (ws : World) (tm : Array Value) (F : St → List V → Option (Ex × St)) (σ1 : St) (l b : Nat) (r0 : Loop) (ks : List Nat) (t : List (List V)) (Ωi : Own) (w : World) (Ωo : Own) (σo : St) (st : Option (Nat × Ex)) : Prop where
  fold : foldR F 0 σ1 t = some (st, σo)
  inv : Inv Xc w0 Ωo w tm σo
  rcd : w.heap[l]? = some (.loop { r0 with state := if (jumpOf st).isNone then .ready else .done, pending := jumpOf st })
  a1 : ∀ k, k < ws.heap.size → Ωi.o k = (itOwn Ω1 l b).o k ∧ Ωi.lim k = Ω1.lim k
  a2 : ∀ k, Ω1.froz k → Ωo.froz k ∧ Ω1.lim k ≤ Ωo.lim k
  b1 : ∀ k, ws.heap.size ≤ k → Ωi.o k ≠ .out → Ωo.o k = .out ∨ (Ωo.o k = .frz ∧ Ωi.froz k ∧ Ωo.lim k ≤ Ωi.lim k)
  c1 : ∀ k, Ωi.o k ≠ .out → k < w.heap.size
  d1 : Ωo.o l = .out
  e1 : ∀ k, k < ws.heap.size → Ωo.mine k → Ω1.mine k
  yl : Ωi.yl = some (l, b)
  kept : Kept (fun k => Ω1.mine k ∨ k = l) ws w
  fresh : ∀ d, Fresh Ω1 d → d ∉ ks → Fresh Ωo d
section
variable {Xc : Sc} {w0 we ws w w' : World} {Ω1 Ωi Ωi' Ωo : Own} {tm : Array Value} {F : St → List V → Option (Ex × St)} {σ1 σo : St} {l b : Nat} {r0 : Loop} {ks : List Nat} {t : List (List V)} {st : Option (Nat × Ex)}

theorem mine_ne {Ω : Own} {k : Nat} (h : Ω.mine k) : Ω.o k ≠ .out ∧ Ω.o k ≠ .frz := by
  rcases h with ⟨s, hs⟩ | ⟨t, p, hp⟩
  · rw [hs]; exact ⟨by simp, by simp⟩
  · rw [hp]; exact ⟨by simp, by simp⟩
theorem JAt.nm (h : JAt Xc w0 Ω1 ws tm F σ1 l b r0 ks t Ωi w Ωo σo st) {k : Nat} (hk : k < ws.heap.size) : ¬ Ωi.mine k := fun hm => by
  obtain ⟨g1, g2⟩ := mine_ne hm
  rw [(h.a1 k hk).1] at g1 g2
  rcases itOwn_or Ω1 l b k with e | ⟨e, _⟩
  · exact g1 e
  · exact g2 e
theorem JAt.trn (S : JS Xc w0 Ω1 we ws l) (h : JAt Xc w0 Ω1 ws tm F σ1 l b r0 ks t Ωi w Ωo σo st) : σo.tr = none := S.plain.1 _ _ _ h.inv.out
/-- The iterator goes on. -/
theorem JAt.step (S : JS Xc w0 Ω1 we ws l) (h : JAt Xc w0 Ω1 ws tm F σ1 l b r0 ks t Ωi w Ωo σo st) (s : Stp Ωi Ωi' w w') : JAt Xc w0 Ω1 ws tm F σ1 l b r0 ks t Ωi' w' Ωo σo st := by
  have hsz := h.kept.size
  have hlw : l < ws.heap.size := by rw [S.hws]; exact Nat.lt_succ_self l
  have blk : ∀ k, k < ws.heap.size → w'.heap[k]? = w.heap[k]? := fun k hk => s.s.block k (Nat.lt_of_lt_of_le hk hsz) (h.nm hk)
  have frzo : ∀ k, Ωi.mine k → Ωo.o k = .out ∨ (Ωo.o k = .frz ∧ Ωi.froz k ∧ Ωo.lim k ≤ Ωi.lim k) := fun k hm => h.b1 k (Nat.le_of_not_lt fun hlt => h.nm hlt hm) (mine_ne hm).1
  have hblk : ∀ k, Ωo.mine k → w'.heap[k]? = w.heap[k]? := fun k hm => by
    refine s.s.block k (h.inv.bnd k (mine_ne hm).1) fun hi => ?_
    rcases frzo k hi with e | ⟨e, _⟩
    · exact (mine_ne hm).1 e
    · exact (mine_ne hm).2 e
  have hcell : ∀ k off, Ωo.o k ≠ .out → off < Ωo.lim k → w'.cell? ⟨k, off, none⟩ = w.cell? ⟨k, off, none⟩ := fun k off hne hl => by
    by_cases hm : Ωi.mine k
    · rcases frzo k hm with e | ⟨_, f, g⟩
      · exact absurd e hne
      · exact s.m.cell k off f (Nat.lt_of_lt_of_le hl g)
    · exact World.cell?_of_block (s.s.block k (h.inv.bnd k hne) hm)
  have htr := h.trn S
  have hlt0 : ∀ k, k < w0.heap.size → k < ws.heap.size := fun k hk => by have := S.sz; have := S.hws; omega
  refine ⟨h.fold, ?_, by rw [blk l hlw]; exact h.rcd, fun k hk => ?_, h.a2, fun k hk hne => ?_, s.bnd, h.d1, h.e1, s.yl.trans h.yl, ?_, h.fresh⟩
  · refine h.inv.other (tr' := σo.tr) ⟨s.s.os.trans h.inv.kept.os, s.s.tape.trans h.inv.kept.tape, s.s.output.trans h.inv.kept.output, Nat.le_trans h.inv.kept.size s.s.size, fun k hk hX => by
      rw [blk k (hlt0 k hk)]; exact h.inv.kept.block k hk hX⟩ s.s.size hblk (fun k off hf hl => hcell k off (hf.elim Own.frozp_ne (fun e => by rw [e]; simp)) hl) ?_
    have hj := h.inv.out
    rw [htr] at hj ⊢
    exact S.plain.2 none Ω1 we Ωo Ωo w w' S.hj hj ⟨s.s.os, s.s.tape, s.s.output, s.s.size, fun k hk => blk k (by rw [S.hl] at hk; have := S.hws; omega), fun _ _ => ⟨rfl, rfl⟩, fun _ h => h, fun k hk => Nat.lt_of_lt_of_le (h.inv.bnd k hk) s.s.size, rfl⟩
  · obtain ⟨a1, a2⟩ := s.s.same k (Nat.lt_of_lt_of_le hk hsz) (h.nm hk)
    obtain ⟨b1, b2⟩ := h.a1 k hk
    exact ⟨a1.trans b1, a2.trans b2⟩
  · by_cases hlt : k < w.heap.size
    · by_cases hm : Ωi.mine k
      · rcases frzo k hm with e | ⟨e, f, g⟩
        · exact .inl e
        · exact .inr ⟨e, s.m.froz k f, Nat.le_trans g (s.m.lim k f)⟩
      · rw [(s.s.same k hlt hm).1] at hne
        rcases h.b1 k hk hne with e | ⟨e, f, g⟩
        · exact .inl e
        · exact .inr ⟨e, s.m.froz k f, Nat.le_trans g (s.m.lim k f)⟩
    · refine .inl (Classical.byContradiction fun e => hlt (h.inv.bnd k e))
  · exact ⟨s.s.os.trans h.kept.os, s.s.tape.trans h.kept.tape, s.s.output.trans h.kept.output, Nat.le_trans hsz s.s.size, fun k hk hx => by rw [blk k hk]; exact h.kept.block k hk hx⟩
/-- The scope of the iterator. -/
def itSc (Xc : Sc) (w0 : World) (Ω1 : Own) (ws : World) (tm : Array Value) (F : St → List V → Option (Ex × St)) (σ1 : St) (l b : Nat) (r0 : Loop) (ks : List Nat) : Sc where
  x k := Ω1.mine k ∨ k = l
  o := (itOwn Ω1 l b).o
  lim := Ω1.lim
  j tr Ω w := ∃ t Ωa wa Ωo σo st, tr = some t ∧ JAt Xc w0 Ω1 ws tm F σ1 l b r0 ks t Ωa wa Ωo σo st ∧ Stp Ωa Ω wa w
  st h s := by
    obtain ⟨t, Ωa, wa, Ωo, σo, st, h1, h2, h3⟩ := h
    exact ⟨t, Ωa, wa, Ωo, σo, st, h1, h2, h3.trans s⟩
theorem itSc_at (S : JS Xc w0 Ω1 we ws l) (h : (itSc Xc w0 Ω1 ws tm F σ1 l b r0 ks).j (some t) Ωi w) : ∃ Ωo σo st, JAt Xc w0 Ω1 ws tm F σ1 l b r0 ks t Ωi w Ωo σo st := by
  obtain ⟨t', Ωa, wa, Ωo, σo, st, h1, h2, h3⟩ := h
  injection h1 with h1; subst h1
  exact ⟨Ωo, σo, st, h2.step S h3⟩
theorem itSc_of (h : JAt Xc w0 Ω1 ws tm F σ1 l b r0 ks t Ωi w Ωo σo st) : (itSc Xc w0 Ω1 ws tm F σ1 l b r0 ks).j (some t) Ωi w :=
  ⟨t, Ωi, w, Ωo, σo, st, rfl, h, Stp.refl h.c1⟩
theorem mg_lt {n k : Nat} (h : k < n) : (Ωo.mg Ωi n).o k = Ωo.o k ∧ (Ωo.mg Ωi n).lim k = Ωo.lim k := by
  simp only [Own.mg, if_neg (fun (x : n ≤ k ∧ frzB (Ωi.o k) = true) => absurd x.1 (Nat.not_le_of_lt h)), and_self]
theorem mg_frz {n k : Nat} (h : n ≤ k) (hf : Ωi.froz k) : (Ωo.mg Ωi n).o k = .frz ∧ (Ωo.mg Ωi n).lim k = Ωi.lim k := by
  simp only [Own.mg, if_pos (And.intro h (froz_iff.1 hf)), and_self]
theorem mg_not {n k : Nat} (hf : ¬ Ωi.froz k) : (Ωo.mg Ωi n).o k = Ωo.o k ∧ (Ωo.mg Ωi n).lim k = Ωo.lim k := by
  simp only [Own.mg, if_neg (fun (x : n ≤ k ∧ frzB (Ωi.o k) = true) => hf (froz_iff.2 x.2)), and_self]
/-- Either way. -/
theorem JAt.mg (h : JAt Xc w0 Ω1 ws tm F σ1 l b r0 ks t Ωi w Ωo σo st) (k : Nat) : ((Ωo.mg Ωi ws.heap.size).o k = Ωo.o k ∧ (Ωo.mg Ωi ws.heap.size).lim k = Ωo.lim k) ∨
    (ws.heap.size ≤ k ∧ Ωi.froz k ∧ (Ωo.mg Ωi ws.heap.size).o k = .frz ∧ (Ωo.mg Ωi ws.heap.size).lim k = Ωi.lim k ∧ (Ωo.o k = .out ∨ (Ωo.o k = .frz ∧ Ωo.lim k ≤ Ωi.lim k))) := by
  by_cases hk : ws.heap.size ≤ k
  · by_cases hf : Ωi.froz k
    · obtain ⟨g1, g2⟩ := mg_frz (Ωo := Ωo) hk hf
      refine .inr ⟨hk, hf, g1, g2, ?_⟩
      rcases h.b1 k hk (Own.froz_ne hf) with e | ⟨e, _, g⟩
      · exact .inl e
      · exact .inr ⟨e, g⟩
    · exact .inl (mg_not hf)
  · exact .inl (mg_lt (Nat.lt_of_not_le hk))
theorem JAt.mgBack (h : JAt Xc w0 Ω1 ws tm F σ1 l b r0 ks t Ωi w Ωo σo st) {k : Nat} {o : OwnK} (ho : (Ωo.mg Ωi ws.heap.size).o k = o) (hne : o ≠ .frz) : Ωo.o k = o ∧ (Ωo.mg Ωi ws.heap.size).lim k = Ωo.lim k := by
  rcases h.mg k with ⟨g1, g2⟩ | ⟨_, _, g, _⟩
  · exact ⟨by rw [← g1]; exact ho, g2⟩
  · rw [g] at ho; exact absurd ho.symm hne
theorem JAt.mgOut (h : JAt Xc w0 Ω1 ws tm F σ1 l b r0 ks t Ωi w Ωo σo st) {k : Nat} {o : OwnK} (ho : Ωo.o k = o) (h1 : o ≠ .out) (h2 : o ≠ .frz) : (Ωo.mg Ωi ws.heap.size).o k = o ∧ (Ωo.mg Ωi ws.heap.size).lim k = Ωo.lim k := by
  rcases h.mg k with ⟨g1, g2⟩ | ⟨_, _, _, _, g | ⟨g, _⟩⟩
  · exact ⟨by rw [g1]; exact ho, g2⟩
  · rw [ho] at g; exact absurd g h1
  · rw [ho] at g; exact absurd g h2
theorem JAt.mgMine (h : JAt Xc w0 Ω1 ws tm F σ1 l b r0 ks t Ωi w Ωo σo st) {k : Nat} (hm : (Ωo.mg Ωi ws.heap.size).mine k) : Ωo.mine k := by
  rcases hm with ⟨s, hs⟩ | ⟨t, p, hp⟩
  · exact .inl ⟨s, (h.mgBack hs (by simp)).1⟩
  · exact .inr ⟨t, p, (h.mgBack hp (by simp)).1⟩
theorem JAt.mgFroz (h : JAt Xc w0 Ω1 ws tm F σ1 l b r0 ks t Ωi w Ωo σo st) {k : Nat} (hf : Ωo.froz k) : (Ωo.mg Ωi ws.heap.size).froz k ∧ Ωo.lim k ≤ (Ωo.mg Ωi ws.heap.size).lim k := by
  rcases h.mg k with ⟨g1, g2⟩ | ⟨_, _, g, g', g3⟩
  · exact ⟨(froz_same g1).2 hf, Nat.le_of_eq g2.symm⟩
  · refine ⟨.inl g, ?_⟩
    rw [g']
    rcases g3 with e | ⟨_, e⟩
    · exact absurd e (Own.froz_ne hf)
    · exact e
/-- The body learns what the iterator has frozen. -/
theorem JAt.merge (S : JS Xc w0 Ω1 we ws l) (h : JAt Xc w0 Ω1 ws tm F σ1 l b r0 ks t Ωi w Ωo σo st) : Inv Xc w0 (Ωo.mg Ωi ws.heap.size) w tm σo := by
  have hlt0 : ∀ k, k < w0.heap.size → k < ws.heap.size := fun k hk => by have := S.sz; have := S.hws; omega
  have hbnd : ∀ k, (Ωo.mg Ωi ws.heap.size).o k ≠ .out → k < w.heap.size := fun k hk => by
    rcases h.mg k with ⟨g1, _⟩ | ⟨_, hf, _⟩
    · exact h.inv.bnd k (by rw [← g1]; exact hk)
    · exact h.c1 k (Own.froz_ne hf)
  have hx : Ext Ωo (Ωo.mg Ωi ws.heap.size) w w := by
    refine ⟨fun k hk => (h.mgFroz hk).1, fun k hk => .inr (h.mgOut hk (by simp) (by simp)).1, fun k u p hk => ⟨p, (h.mgOut hk (by simp) (by simp)).1⟩, fun k s hk => (h.mgOut hk (by simp) (by simp)).1, fun k hk => ?_, fun _ _ _ _ => rfl, fun _ _ _ _ => rfl, fun _ _ _ c k n _ hc => ⟨c, k, n, hc, .inl ⟨rfl, rfl, rfl⟩⟩, rfl, fun k hk => (h.mgOut hk (by simp) (by simp)).1⟩
    rcases h.mg k with ⟨_, g2⟩ | ⟨_, _, _, g', g3⟩
    · exact Nat.le_of_eq g2.symm
    · rw [g']
      rcases g3 with e | ⟨_, e⟩
      · exact absurd e hk
      · exact e
  have htr := h.trn S
  refine ⟨h.inv.kept, fun k s hk => h.inv.ownB k s (h.mgBack hk (by simp)).1, fun k u p hk => h.inv.ownA k u p (h.mgBack hk (by simp)).1, hbnd, fun k k' s hk hk' => h.inv.uniq k k' s (h.mgBack hk (by simp)).1 (h.mgBack hk' (by simp)).1, fun k s hk => ?_,
    fun s v hs => ?_, fun u n wr hu => ?_, fun k hk hX => ?_, ?_⟩
  · obtain ⟨g1, g2⟩ := h.mgBack hk (by simp)
    rw [g2]; exact h.inv.limB k s g1
  · obtain ⟨g1, g2⟩ := h.inv.slot s v hs
    exact ⟨g1, g2.ext hx fun _ _ _ _ hh => hh⟩
  · obtain ⟨c, k, T, xs, g1, ⟨p, g2⟩, g3, g4, g5, g6, g7, g8⟩ := h.inv.tok u n wr hu
    obtain ⟨q1, q2⟩ := h.mgOut g2 (by simp) (by simp)
    exact ⟨c, k, T, xs, g1, ⟨p, q1⟩, g3, g4, g5, by rw [q2]; exact g6, g7, fun hw b q hb => g8 hw b q (h.mgBack hb (by simp)).1⟩
  · rw [(mg_lt (hlt0 k hk)).1, (mg_lt (hlt0 k hk)).2]; exact h.inv.old k hk hX
  · have hj := h.inv.out
    rw [htr] at hj ⊢
    refine S.plain.2 none Ω1 we Ωo _ w w S.hj hj ⟨rfl, rfl, rfl, Nat.le_refl _, fun _ _ => rfl, fun k hk => mg_lt ?_, fun k hm => h.mgMine hm, hbnd, rfl⟩
    rw [S.hl] at hk; have := S.hws; omega
end
end Go.Lo

/- Ranges over functions: a round; the statement. -/
open Go.RowKit (Below)
namespace Go.Lo
section
variable {P : Program} {X : Sc} {w0 w : World} {Ω : Own} {tm : Array Value} {σ : St}

/-! ### Slots -/
theorem not_mem_of_memN {s : Nat} {xs : List Nat} (h : memN s xs = false) : s ∉ xs := fun hm => by rw [memN_self hm] at h; cases h
theorem get_dropL {α : Type} {ks : List Nat} : ∀ {l : List (Nat × α)} {s : Nat} {v : α}, get (dropL ks l) s = some v → get l s = some v ∧ memN s ks = false
  | [], s, v, h => by simp [dropL, get] at h
  | (k, u) :: l, s, v, h => by
    simp only [dropL] at h
    split at h
    · rename_i hm
      obtain ⟨h1, h2⟩ := get_dropL h
      have hne : k ≠ s := fun e => by subst e; rw [hm] at h2; cases h2
      exact ⟨by simp only [get, if_neg hne]; exact h1, h2⟩
    · rename_i hm
      simp only [get] at h ⊢
      split at h
      · rename_i e; subst e; rw [if_pos rfl]; exact ⟨h, by simpa using hm⟩
      · rename_i e; rw [if_neg e]; exact get_dropL h
theorem inv_tm {tm' : Array Value} {ks : List Nat} (h : Inv X w0 Ω w tm' σ) (hs : tm'.size = tm.size) (hk : ∀ k, k ∉ ks → tm'.getD k undef = tm.getD k undef) : Inv X w0 Ω w tm { σ with fr := dropL ks σ.fr } where
  kept := h.kept
  ownB := h.ownB
  ownA := h.ownA
  bnd := h.bnd
  uniq := h.uniq
  limB := h.limB
  slot s v hv := by
    obtain ⟨h1, h2⟩ := get_dropL hv
    obtain ⟨g1, g2⟩ := h.slot s v h1
    exact ⟨hs ▸ g1, by rw [← hk s (not_mem_of_memN h2)]; exact g2⟩
  tok := h.tok
  old := h.old
  out := h.out
theorem inv_params : ∀ (ps : List Nat) (as : List V) (xs : List Value) {tm : Array Value} {σ : St}, Inv X w0 Ω w tm σ → DenL Ω w as xs → as.length = ps.length → (∀ p ∈ ps, p < tm.size) →
    Inv X w0 Ω w ((ps.zip xs).foldl (fun tm (p : Nat × Value) => tm.setIfInBounds p.1 p.2) tm) { σ with fr := putA ps as σ.fr } ∧ ((ps.zip xs).foldl (fun tm (p : Nat × Value) => tm.setIfInBounds p.1 p.2) tm).size = tm.size ∧
      ∀ k, k ∉ ps → ((ps.zip xs).foldl (fun tm (p : Nat × Value) => tm.setIfInBounds p.1 p.2) tm).getD k undef = tm.getD k undef
  | [], as, xs, tm, σ, h, hd, hl, hp => by
    cases as with
    | nil => exact ⟨h, rfl, fun _ _ => rfl⟩
    | cons _ _ => simp at hl
  | p :: ps, as, xs, tm, σ, h, hd, hl, hp => by
    cases as with
    | nil => simp at hl
    | cons v as =>
      simp only [DenL] at hd
      obtain ⟨x, ys, rfl, h2, h3⟩ := hd
      simp only [List.length_cons, Nat.add_right_cancel_iff] at hl
      have h1 := h.put (hp p (by simp)) (DenS.of h2)
      obtain ⟨g1, g2, g3⟩ := inv_params ps as ys h1 h3 hl (fun q hq => by rw [Array.size_setIfInBounds]; exact hp q (by simp [hq]))
      simp only [List.zip_cons_cons, List.foldl_cons, putA]
      refine ⟨g1, g2.trans (Array.size_setIfInBounds ..), fun k hk => ?_⟩
      simp only [List.mem_cons, not_or] at hk
      rw [g3 k hk.2]
      exact getD_set_other (fun e => hk.1 e.symm)
theorem Inv.rcd {l : Nat} {o : Obj} (h : Inv X w0 Ω w tm σ) (hl : Ω.o l = .out) (hs : w0.heap.size ≤ l) (hj : X.j σ.tr Ω (w.putObj l o)) : Inv X w0 Ω (w.putObj l o) tm σ :=
  h.other (tr' := σ.tr) ⟨h.kept.os, h.kept.tape, h.kept.output, by rw [World.putObj_size]; exact h.kept.size, fun b hb hX => by
      rw [World.putObj_heap_other (by omega)]; exact h.kept.block b hb hX⟩ (by simp)
    (fun b hm => World.putObj_heap_other fun e => by subst e; exact (mine_ne hm).1 hl) (fun b off hf _ => putObj_cell fun e => by subst e; exact hf.elim (fun hf => Own.frozp_ne hf hl) (fun hf => by rw [hf] at hl; cases hl)) hj
/-- A plain scope does not mind the record. -/
theorem Plain.rcd {Xc : Sc} {we ws w' : World} {Ω1 Ω' : Own} {l : Nat} {o : Obj} (S : JS Xc w0 Ω1 we ws l) {σ' : St} {tm' : Array Value} (h : Inv Xc w0 Ω' w' tm' σ') (hl : Ω'.o l = .out) : Inv Xc w0 Ω' (w'.putObj l o) tm' σ' := by
  have htr := S.plain.1 _ _ _ h.out
  refine h.rcd hl S.sz ?_
  have hj := h.out
  rw [htr] at hj ⊢
  exact S.plain.2 none Ω1 we Ω' Ω' w' _ S.hj hj ⟨rfl, rfl, rfl, by simp, fun b hb => World.putObj_heap_other (by rw [S.hl] at hb; omega), fun _ _ => ⟨rfl, rfl⟩, fun _ h => h, fun b hb => by simpa using h.bnd b hb, rfl⟩

mutual
theorem Den.itmC {Ω' : Own} {w' : World} (h : ExtM Ω Ω' w w') : ∀ (vs : List V) (xs : List Value), (vs.all V.pm) = true → DenL Ω w vs xs → DenL Ω' w' vs xs
  | [], _, _, hd => by simpa [DenL] using hd
  | v :: vs, xs, hp, hd => by
    simp only [List.all_cons, Bool.and_eq_true] at hp
    simp only [DenL] at hd
    obtain ⟨x, ys, rfl, h2, h3⟩ := hd
    exact DenL.cons (Den.extM h v x hp.1 h2) (Den.itmC h vs ys hp.2 h3)
end
theorem Den.itm {Ω' : Own} {w' : World} (h : ExtM Ω Ω' w w') {v : V} {x : Value} (hp : (v.cells.all V.pm) = true) (hd : Den Ω w v x) : Den Ω' w' v x := by
  have one : v.cells = [v] → Den Ω' w' v x := fun e => Den.extM h v x (by rw [e] at hp; simpa using hp) hd
  cases v <;> first
    | exact one rfl
    | (simp only [Den, V.cells] at hd hp ⊢
       obtain ⟨xs, h1, h2⟩ := hd
       exact ⟨xs, h1, Den.itmC h _ _ hp h2⟩)
theorem DenL.itm {Ω' : Own} {w' : World} (h : ExtM Ω Ω' w w') : ∀ {vs : List V} {xs : List Value}, (vs.all fun v => v.cells.all V.pm) = true → DenL Ω w vs xs → DenL Ω' w' vs xs
  | [], _, _, hd => by simpa [DenL] using hd
  | v :: vs, xs, hp, hd => by
    simp only [List.all_cons, Bool.and_eq_true] at hp
    simp only [DenL] at hd
    obtain ⟨x, ys, rfl, h2, h3⟩ := hd
    exact DenL.cons (Den.itm h hp.1 h2) (DenL.itm h (by simpa using hp.2) h3)
end

/-! ### A round -/
def stOf (k : Nat) : Ex → Option (Nat × Ex)
  | .normal => none
  | e => some (k, e)
theorem jump_stOf (k : Nat) (e : Ex) : jumpOf (stOf k e) = jumpOf (some (0, e)) := by cases e <;> rfl
section
variable {P : Program} {call : Nat → List V → Option V} {N : Nat} {Xc : Sc} {w0 we ws w : World} {Ω1 Ωi Ωo : Own} {tm : Array Value} {σ1 σo : St} {l b : Nat} {r0 : Loop} {t : List (List V)}
theorem round_ok {asg body : Code} {lx ly : LCode} {ps wr : List Nat} {T : List (List V)} {ro0 : Option Nat} (hx : CodeOk P call N asg lx) (hy : CodeOk P call N body ly) (ox : onceC lx = []) (oy : onceC ly = []) (sc : ScOk P Xc w0 T ro0)
    (hwr : wr = ps ++ (dstsC lx ++ dstsC ly)) (hsz : ∀ d ∈ wr, d < tm.size) (S : JS Xc w0 Ω1 we ws l) (hr0 : r0.tmps = tm ∧ r0.params.toList = ps ∧ r0.assign = asg ∧ r0.body = body)
    (h : JAt Xc w0 Ω1 ws tm (roundE (evC call N lx) (evC call N ly) ps wr) σ1 l b r0 (loopC lx ++ loopC ly) t Ωi w Ωo σo none) {as : List V} {xs : List Value} (hd : DenL Ωi w as xs) (hp : (as.all fun v => v.cells.all V.pm) = true)
    {e2 : Ex} {σ2 : St} (hF : roundE (evC call N lx) (evC call N ly) ps wr σo as = some (e2, σ2)) :
    ∃ fn tmps asg' body', (Instr.yield l xs.toArray).run P w = .ok (.round l fn tmps asg' body') w ∧ ∀ ro n, RoundIn (wideR ro) n P l fn tmps asg' body' w fun e w4 => e = .returned (.bool (jumpOf (some (0, e2))).isNone) ∧
      (∃ Ωo', JAt Xc w0 Ω1 ws tm (roundE (evC call N lx) (evC call N ly) ps wr) σ1 l b r0 (loopC lx ++ loopC ly) (t ++ [as]) Ωi w4 Ωo' σ2 (stOf t.length e2)) ∧ w.heap.size ≤ w4.heap.size ∧
      (∀ k, Ωi.mine k → w4.heap[k]? = w.heap[k]?) ∧ ∀ k off, (Ωi.frozp k ∨ Ωi.o k = .frg) → off < Ωi.lim k → w4.cell? ⟨k, off, none⟩ = w.cell? ⟨k, off, none⟩ := by
  have hF0 := hF
  unfold roundE at hF
  split at hF
  case isFalse => cases hF
  rename_i hlen
  split at hF
  case h_2 => cases hF
  rename_i σa hA
  split at hF
  case h_2 => cases hF
  rename_i e2' σb hB
  simp only [Option.some.injEq, Prod.mk.injEq] at hF
  obtain ⟨rfl, rfl⟩ := hF
  obtain ⟨q1, q2, q3, q4⟩ := hr0
  have hxl : xs.length = ps.length := by rw [hd.length, hlen]
  have hrun := run_yield (P := P) (args := xs.toArray) h.rcd (by
    show xs.toArray.size = r0.params.size
    rw [List.size_toArray, hxl, ← q2, Array.length_toList])
  refine ⟨_, _, _, _, hrun, fun ro n => ?_⟩
  have htm : (r0.params.zip xs.toArray).foldl (fun tmps (p : Nat × Value) => tmps.setIfInBounds p.1 p.2) r0.tmps = (ps.zip xs).foldl (fun tm (p : Nat × Value) => tm.setIfInBounds p.1 p.2) tm := by
    rw [← Array.foldl_toList, Array.toList_zip, q1, q2]
  simp only at htm ⊢
  -- the state at the start of the round
  have hlt0 : l < ws.heap.size := by rw [S.hws]; exact Nat.lt_succ_self l
  have hlw : l < w.heap.size := Nat.lt_of_lt_of_le hlt0 h.kept.size
  have hmg := h.merge S
  have hlo : (Ωo.mg Ωi ws.heap.size).o l = .out := by rw [(mg_lt hlt0).1]; exact h.d1
  have htr := h.trn S
  have hdm : DenL (Ωo.mg Ωi ws.heap.size) w as xs := by
    refine DenL.itm ⟨fun k hf => ?_, fun k hf => ?_, fun _ _ _ _ => rfl⟩ hp hd
    · by_cases hk : ws.heap.size ≤ k
      · exact .inl (mg_frz hk hf).1
      · have hk := Nat.lt_of_not_le hk
        rw [froz_same (mg_lt hk).1]
        refine (h.a2 k ?_).1
        rcases itOwn_or Ω1 l b k with e | ⟨_, e⟩
        · exact absurd ((h.a1 k hk).1.trans e) (Own.froz_ne hf)
        · exact e
    · by_cases hk : ws.heap.size ≤ k
      · rw [(mg_frz hk hf).2]; exact Nat.le_refl _
      · have hk := Nat.lt_of_not_le hk
        rw [(mg_lt hk).2, (h.a1 k hk).2]
        refine (h.a2 k ?_).2
        rcases itOwn_or Ω1 l b k with e | ⟨_, e⟩
        · exact absurd ((h.a1 k hk).1.trans e) (Own.froz_ne hf)
        · exact e
  have hps : ∀ p ∈ ps, p < tm.size := fun p hm => hsz p (by rw [hwr]; simp [hm])
  obtain ⟨i1, i2, i3⟩ := inv_params ps as xs (inv_tm (ks := wr) hmg.rb rfl (fun _ _ => rfl)) hdm hlen hps
  rw [← htm] at i1 i2 i3
  refine roundIn_of_wpIn (F := wideR ro) trivial ?_
  show Code.wpIn (wideR (some l)) n P r0.assign _ _ w
  rw [q3, q4]
  have sc1 := sc.round S.plain hlo h.rcd (Ω := Ωo.mg Ωi ws.heap.size) (w := w)
  have hi0 : Inv ((Xc.rb (Ωo.mg Ωi ws.heap.size) w).df []) w (Ωo.mg Ωi ws.heap.size) w _ _ := i1.sc rfl rfl rfl (fun hj => ⟨hj, fun r hr => by cases hr⟩)
  have trA : σa.tr = none := (evC_tr lx hA).none (by simpa using htr)
  have trB : σb.tr = none := (evC_tr ly hB).none trA
  refine hx sc1 (.inl (S.plain.rb _ _)) (M := []) (df := []) List.nodup_nil (fun r hr => by cases hr) rfl hA (fun l hl => by rw [trA] at hl; cases hl) hi0 (fun d hd => by
    show d < Array.size _
    rw [i2]; exact hsz d (by rw [hwr]; simp [hd])) (by rw [ox]; intro d hd; cases hd) ⟨by rw [ox]; exact List.nodup_nil, by rw [ox]; intro d hd; cases hd⟩ ?_
  intro a1 w1 Ωa M1 A1
  have hM1 : M1 = [] := by
    rcases A1.same with e | ⟨_, e⟩
    · exact e
    · cases e
  subst hM1
  have inv1 : Inv (Xc.rb (Ωo.mg Ωi ws.heap.size) w) w Ωa w1 a1.tmps σa := A1.inv.sc rfl rfl rfl (fun hj => hj.1)
  have st1 : Stp (Ωo.mg Ωi ws.heap.size) Ωa w w1 := inv1.out.2
  have nml : ¬ (Ωo.mg Ωi ws.heap.size).mine l := fun hm => (mine_ne hm).1 hlo
  have rec1 : w1.heap[l]? = w.heap[l]? := st1.s.block l hlw nml
  have hla : Ωa.o l = .out := by rw [(st1.s.same l hlw nml).1]; exact hlo
  have invA : Inv Xc w0 Ωa w1 a1.tmps σa := hmg.unrb inv1
  rw [h.rcd] at rec1
  refine ⟨_, run_beginRound rec1 rfl, ?_⟩
  have hlw1 : l < w1.heap.size := (Array.getElem?_eq_some_iff.1 rec1).1
  have invA' := Plain.rcd (o := .loop { r0 with state := .busy, pending := jumpOf none }) S invA hla
  have rec2 := World.putObj_heap_same (w := w1) (o := .loop { r0 with state := .busy, pending := jumpOf none }) hlw1
  have sc2 := sc.round S.plain hla rec2 (Ω := Ωa)
  have hi2 := invA'.rb.sc (X' := (Xc.rb Ωa (w1.putObj l (.loop { r0 with state := .busy, pending := jumpOf none }))).df []) rfl rfl rfl (fun hj => ⟨hj, fun r hr => by cases hr⟩)
  refine hy sc2 (.inl (S.plain.rb _ _)) (M := []) (df := []) List.nodup_nil (fun r hr => by cases hr) A1.defers hB (fun l hl => by rw [trB] at hl; cases hl) hi2 (fun d hd => by
    rw [A1.size]
    show d < Array.size _
    rw [i2]; exact hsz d (by rw [hwr]; simp [hd])) (by rw [oy]; intro d hd; cases hd) ⟨by rw [oy]; exact List.nodup_nil, by rw [oy]; intro d hd; cases hd⟩ ?_
  intro a2 w3 Ωb M2 A2
  have hM2 : M2 = [] := by
    rcases A2.same with e | ⟨_, e⟩
    · exact e
    · cases e
  subst hM2
  have inv2 := A2.inv.sc (X' := Xc.rb Ωa (w1.putObj l (.loop { r0 with state := .busy, pending := jumpOf none }))) rfl rfl rfl (fun hj => hj.1)
  have st2 := inv2.out.2
  have nml2 : ¬ Ωa.mine l := fun hm => (mine_ne hm).1 hla
  have hlw2 : l < (w1.putObj l (.loop { r0 with state := .busy, pending := jumpOf none })).heap.size := by simpa using hlw1
  have rec3 := st2.s.block l hlw2 nml2
  rw [rec2] at rec3
  have hlb : Ωb.o l = .out := by rw [(st2.s.same l hlw2 nml2).1]; exact hla
  have invB : Inv Xc w0 Ωb w3 a2.tmps σb := invA'.unrb inv2
  -- what is kept of the slots
  have hsize : a2.tmps.size = tm.size := A2.size.trans (A1.size.trans i2)
  have hkeep : ∀ k, k ∉ wr → a2.tmps.getD k undef = tm.getD k undef := fun k hk => by
    rw [hwr] at hk
    simp only [List.mem_append, not_or] at hk
    rw [A2.keep k hk.2.2, A1.keep k hk.2.1]
    exact i3 k hk.1
  have invT := inv_tm (ks := wr) invB hsize hkeep
  -- the end of the round
  have fin : ∀ (j : Option Code), j = jumpOf (some (0, e2')) → ∃ v w', (Instr.endRound l j).run P w3 = .ok v w' ∧ (Ending.returned v = .returned (.bool (jumpOf (some (0, e2'))).isNone) ∧
      (∃ Ωo', JAt Xc w0 Ω1 ws tm (roundE (evC call N lx) (evC call N ly) ps wr) σ1 l b r0 (loopC lx ++ loopC ly) (t ++ [as]) Ωi w' Ωo' { σb with fr := dropL wr σb.fr } (stOf t.length e2')) ∧ w.heap.size ≤ w'.heap.size ∧
      (∀ k, Ωi.mine k → w'.heap[k]? = w.heap[k]?) ∧ ∀ k off, (Ωi.frozp k ∨ Ωi.o k = .frg) → off < Ωi.lim k → w'.cell? ⟨k, off, none⟩ = w.cell? ⟨k, off, none⟩) := by
    intro j hj
    subst hj
    refine ⟨_, _, run_endRound _ rec3, rfl, ?_⟩
    generalize hw4 : w3.putObj l _ = w4
    have s3 : StpX l Ωb Ωb w3 w4 := hw4 ▸ StpX.put hlb
    have sx : StpX l (Ωo.mg Ωi ws.heap.size) Ωb w w4 := (st1.toX l).trans ((StpX.put hla).trans ((st2.toX l).trans s3))
    have nmi : ∀ k, ws.heap.size ≤ k → Ωi.o k ≠ .out → ¬ (Ωo.mg Ωi ws.heap.size).mine k := fun k hk hne hm => by
      rcases h.b1 k hk hne with e | ⟨e, _⟩
      · exact (mine_ne (h.mgMine hm)).1 e
      · exact (mine_ne (h.mgMine hm)).2 e
    have hnl : ∀ k, ws.heap.size ≤ k → k ≠ l := fun k hk e => by rw [S.hws] at hk; omega
    have kge : ∀ k, Ωi.mine k → ws.heap.size ≤ k := fun k hm => Nat.le_of_not_lt fun hlt => h.nm hlt hm
    refine ⟨⟨Ωb, ?_⟩, sx.size, fun k hm => sx.block k (h.c1 k (mine_ne hm).1) (nmi k (kge k hm) (mine_ne hm).1) (hnl k (kge k hm)), fun k off hf hl => ?_⟩
    · refine ⟨?_, ?_, ?_, h.a1, fun k hf => ?_, fun k hk hne => ?_, fun k hk => Nat.lt_of_lt_of_le (h.c1 k hk) sx.size, hlb, fun k hk hm => ?_, h.yl, ?_, fun d hf hd => ?_⟩
      · rw [foldR_snoc t 0 σ1 σo as h.fold, hF0, Nat.zero_add]
        cases e2' <;> rfl
      · rw [← hw4]; exact Plain.rcd S invT hlb
      · rw [← hw4, jump_stOf]
        exact World.putObj_heap_same (Array.getElem?_eq_some_iff.1 rec3).1
      · obtain ⟨g1, g2⟩ := h.a2 k hf
        obtain ⟨k1, k2⟩ := h.mgFroz g1
        exact ⟨sx.m.froz k k1, Nat.le_trans g2 (Nat.le_trans k2 (sx.m.lim k k1))⟩
      · obtain ⟨g1, g2⟩ := sx.same k (h.c1 k hne) (nmi k hk hne)
        rw [g1, g2]
        rcases h.mg k with ⟨k1, k2⟩ | ⟨_, hf, k1, k2, _⟩
        · rw [k1, k2]; exact h.b1 k hk hne
        · exact .inr ⟨k1, hf, by rw [k2]; exact Nat.le_refl _⟩
      · exact h.e1 k hk (h.mgMine (sx.mine hm (Nat.lt_of_lt_of_le hk h.kept.size)))
      · refine ⟨sx.os.trans h.kept.os, sx.tape.trans h.kept.tape, sx.output.trans h.kept.output, Nat.le_trans h.kept.size sx.size, fun k hk hxk => ?_⟩
        rw [sx.block k (Nat.lt_of_lt_of_le hk h.kept.size) (fun hm => hxk (.inl (h.e1 k hk (h.mgMine hm)))) (fun e => hxk (.inr e))]
        exact h.kept.block k hk hxk
      · simp only [List.mem_append, not_or] at hd
        have f0 := h.fresh d hf (by simp only [List.mem_append, not_or]; exact hd)
        have f1 : Fresh (Ωo.mg Ωi ws.heap.size) d := ⟨fun k hk => f0.1 k (h.mgBack hk (by simp)).1, fun k u p e hk => f0.2 k u p e (h.mgBack hk (by simp)).1⟩
        have f2 := A1.fresh d f1 (by rw [ox]; exact hd.1)
        exact A2.fresh d f2 (by rw [oy]; exact hd.2)
    · by_cases hk : ws.heap.size ≤ k
      · have hne : Ωi.o k ≠ .out := hf.elim Own.frozp_ne (fun e => by rw [e]; simp)
        exact World.cell?_of_block (sx.block k (h.c1 k hne) (nmi k hk hne) (hnl k hk))
      · have hk := Nat.lt_of_not_le hk
        obtain ⟨g1, g2⟩ := h.a1 k hk
        have hf1 : Ω1.froz k := by
          rcases itOwn_or Ω1 l b k with e | ⟨_, e⟩
          · exact absurd (g1.trans e) (hf.elim Own.frozp_ne (fun e => by rw [e]; simp))
          · exact e
        obtain ⟨g3, g4⟩ := h.a2 k hf1
        obtain ⟨k1, k2⟩ := h.mgFroz g3
        exact sx.m.cell k off k1 (by rw [g2] at hl; omega)
  cases e2' with
  | normal => exact fin none rfl
  | exit id => exact fin (some (.exit id)) rfl
  | ret => exact fin (some .ret) rfl

/-! ### The statement -/
theorem enterLoop_inner {l1 : Nat} {r : Loop} (h : w.heap[l1]? = some (.loop r)) (fn : FuncId) (tmps : Array Value) (ps : Array Tmp) (assign body : Code) :
    (Instr.enterLoop fn tmps ps assign body (some l1)).run P w = .ok (w.heap.size, []) (w.alloc (.loop { state := .ready, pending := none, fn, tmps, params := ps, assign, body, defers := r.defers })) := by
  unfold Instr.enterLoop
  simp only [Sem.run_bind, run_getLoop h, run_newObj_alloc, Result.andThen, Sem.run_pure]
theorem below_alloc (w : World) (o : Obj) : Below w.heap.size w (w.alloc o) := ⟨rfl, rfl, rfl, by simp, fun _ hb => heap_alloc_lt w o hb⟩
theorem rng_core (hcall : CallsOk P call) {g : Operand} {g' : Opd} {ps : Array Tmp} {asg body : Code} {lx ly : LCode} (hx : CodeOk P call N asg lx) (hy : CodeOk P call N body ly) (ox : onceC lx = []) (oy : onceC ly = [])
    {X : Sc} {w0 : World} {T : List (List V)} {ro : Option Nat} {n : Nat} {Ω : Own} {w : World} {a : Act} {σ σ' : St} {ex : Ex} {Q : Exit → Act → World → Prop} {M : List Nat} {df : List Deferred} {f : Nat} {ts : List Nat} {pre post : List V} {xs1 xs2 : List Value}
    (sc : ScOk P X w0 T ro) (hMn : M.Nodup) (hMl : ∀ r ∈ M, w0.heap.size ≤ r) (hdf : a.defers = marks M ++ df) (h : Inv (X.df M) w0 Ω w a.tmps σ) (htr : σ.tr = none)
    (hev : rngE (roundE (evC call N lx) (evC call N ly) ps.toList (ps.toList ++ (dstsC lx ++ dstsC ly))) (fun a => call f (pre ++ .fn (.y a) [] :: post)) { σ with fr := dropL (ps.toList ++ (dstsC lx ++ dstsC ly)) σ.fr, tk := protT ts σ.tk } = some (ex, σ'))
    (hf : a.eval g = .func (.func f) xs1.toArray xs2.toArray) (hxs1 : DenL (Ω.prot ts) w pre xs1) (hxs2 : DenL (Ω.prot ts) w post xs2) (hpure1 : pureL pre = true) (hpure2 : pureL post = true) (hcs1 : (pre.all fun v => v.cells.all V.pm) = true) (hcs2 : (post.all fun v => v.cells.all V.pm) = true)
    (hdst : ∀ d ∈ dstsC (.rng g' ps.toList (ps.toList ++ (dstsC lx ++ dstsC ly)) lx ly), d < a.tmps.size)
    (hK : NextC X w0 ro Ω a M df σ' (dstsC (.rng g' ps.toList (ps.toList ++ (dstsC lx ++ dstsC ly)) lx ly)) (onceC (.rng g' ps.toList (ps.toList ++ (dstsC lx ++ dstsC ly)) lx ly) ++ loopC (.rng g' ps.toList (ps.toList ++ (dstsC lx ++ dstsC ly)) lx ly)) (Q ex.out)) :
    (Code.rangeFunc g ps asg body).wpIn (wideR ro) n P Q a w := by
  obtain ⟨b, T', hit, hfold⟩ := rngE_spec hev
  have hp : Plain X := by
    rcases sc.k with hp | hn
    · exact hp
    · have := h.out.1
      rw [htr] at this
      exact (hn Ω w this).elim
  have h1 := inv_tm (ks := ps.toList ++ (dstsC lx ++ dstsC ly)) (h.prot ts) rfl (fun _ _ => rfl)
  -- the function that is ranged over
  obtain ⟨R, hR, hRT⟩ : ∃ R, call f (pre ++ .fn (.y b) [] :: post) = some R ∧ itemsOf (some R) = some T' := by
    cases hc : call f (pre ++ .fn (.y b) [] :: post) with
    | none => rw [hc] at hit; cases hit
    | some R => rw [hc] at hit; exact ⟨R, rfl, hit⟩
  obtain ⟨hent, hok⟩ := hcall f _ R hR
  have hitok := hok.2.1 b pre post rfl
  -- the loop is entered
  generalize hσ1 : ({ σ with fr := dropL (ps.toList ++ (dstsC lx ++ dstsC ly)) σ.fr, tk := protT ts σ.tk } : St) = σ1 at hfold
  have h1 : Inv (X.df M) w0 (Ω.prot ts) w a.tmps σ1 := hσ1 ▸ h1
  have htr1 : σ1.tr = none := by rw [← hσ1]; exact htr
  obtain ⟨we, mk, dfr, M', hent1, hmk, hMn', hMl', hMs, hinv, hbe⟩ : ∃ (we : World) (mk : List Deferred) (dfr : Nat) (M' : List Nat), (∀ fn, (Instr.enterLoop fn a.tmps ps asg body ro).run P w = .ok (we.heap.size, mk)
        (we.alloc (.loop { state := .ready, pending := none, fn, tmps := a.tmps, params := ps, assign := asg, body := body, defers := dfr }))) ∧ mk ++ a.defers = marks M' ++ df ∧ M'.Nodup ∧ (∀ r ∈ M', w0.heap.size ≤ r) ∧ (M' = M ∨ (Plain X ∧ ro = none)) ∧
        Inv (X.df M') w0 (Ω.prot ts) we a.tmps σ1 ∧ Below w.heap.size w we := by
    cases ro with
    | none =>
      refine ⟨w.alloc (.deferred (some [])), [mark w.heap.size], w.heap.size, w.heap.size :: M, fun fn => ?_, ?_, ?_, fun r hr => ?_, .inr ⟨hp, rfl⟩, ?_, below_alloc _ _⟩
      · rw [run_enterLoop_outer, World.size_alloc]; rfl
      · rw [hdf]; rfl
      · refine List.nodup_cons.2 ⟨fun hm => ?_, hMn⟩
        have := (Array.getElem?_eq_some_iff.1 (h1.out.2 _ hm).2).1
        exact absurd this (Nat.lt_irrefl _)
      · rcases List.mem_cons.1 hr with rfl | hr
        · exact h1.kept.size
        · exact hMl r hr
      · have i1 := inv_below h1 (below_alloc w (.deferred (some [])))
        refine i1.sc rfl rfl rfl fun hj => ⟨hj.1, fun r hr => ?_⟩
        rcases List.mem_cons.1 hr with rfl | hr
        · exact ⟨fun hm => absurd (h1.bnd _ (mine_ne hm).1) (Nat.lt_irrefl _), World.alloc_heap_new w _⟩
        · exact hj.2 r hr
    | some l1 =>
      obtain ⟨r1, r2, r, r3⟩ := sc.r l1 rfl
      have hh := h.kept.block l1 r1 r2
      rw [r3] at hh
      exact ⟨w, [], r.defers, M, fun fn => enterLoop_inner hh fn _ _ _ _, by rw [hdf]; rfl, hMn, hMl, .inl rfl, h1, Go.RowKit.Below.refl _ _⟩
  refine wpIn_rangeFunc fun fn _ => ?_
  have hent2 := hent1 fn
  generalize hr0 : ({ state := .ready, pending := none, fn, tmps := a.tmps, params := ps, assign := asg, body := body, defers := dfr } : Loop) = r0 at hent2
  have hinvs := inv_below hinv (below_alloc we (.loop r0))
  have S : JS (X.df M') w0 (Ω.prot ts) we (we.alloc (.loop r0)) we.heap.size := by
    have hj := hinv.out
    rw [htr1] at hj
    exact ⟨hp.df M', rfl, by simp, hj, out_size hinv, hinv.kept.size, hinv.bnd⟩
  have hlt : ∀ k, (Ω.prot ts).o k ≠ .out → k < (we.alloc (.loop r0)).heap.size := fun k hk => by rw [S.hws]; exact Nat.lt_succ_of_lt (S.bnd k hk)
  have J0 : JAt (X.df M') w0 (Ω.prot ts) (we.alloc (.loop r0)) a.tmps (roundE (evC call N lx) (evC call N ly) ps.toList (ps.toList ++ (dstsC lx ++ dstsC ly))) σ1 we.heap.size b r0 (loopC lx ++ loopC ly) [] (itOwn (Ω.prot ts) we.heap.size b) (we.alloc (.loop r0)) (Ω.prot ts) σ1 none := by
    refine ⟨rfl, hinvs, ?_, fun _ _ => ⟨rfl, rfl⟩, fun k hk => ⟨hk, Nat.le_refl _⟩, fun k hk hne => ?_, fun k hk => ?_, S.lo, fun _ _ h => h, rfl, Kept.refl _ _, fun d hd _ => hd⟩
    · rw [World.alloc_heap_new, ← hr0]; rfl
    · rcases itOwn_or (Ω.prot ts) we.heap.size b k with e | ⟨_, e⟩
      · exact absurd e hne
      · exact absurd (hlt k (Own.froz_ne e)) (Nat.not_lt_of_le hk)
    · rcases itOwn_or (Ω.prot ts) we.heap.size b k with e | ⟨_, e⟩
      · exact absurd e hk
      · exact hlt k (Own.froz_ne e)
  have hm : ExtM (Ω.prot ts) (itOwn (Ω.prot ts) we.heap.size b) w (we.alloc (.loop r0)) := by
    refine ⟨fun k hk => .inl ?_, fun _ _ => Nat.le_refl _, fun k off hk _ => ?_⟩
    · rcases itOwn_or (Ω.prot ts) we.heap.size b k with e | ⟨e, _⟩
      · simp only [itOwn, froz_iff.1 hk, if_true] at e; cases e
      · exact e
    · have hk1 := h1.bnd k (Own.froz_ne hk)
      refine World.cell?_of_block ?_
      rw [heap_alloc_lt we _ (Nat.lt_of_lt_of_le hk1 hbe.size), hbe.block k hk1]
  have hY : YieldOk P (itSc (X.df M') w0 (Ω.prot ts) (we.alloc (.loop r0)) a.tmps (roundE (evC call N lx) (evC call N ly) ps.toList (ps.toList ++ (dstsC lx ++ dstsC ly))) σ1 we.heap.size b r0 (loopC lx ++ loopC ly)) (we.alloc (.loop r0)) T' := by
    refine ⟨fun Ωi wi hj => (by obtain ⟨t, _, _, _, _, _, e, _⟩ := hj; cases e), fun ro' n' b' l' tr as ys Ωi wi hj hyl hd hpm hpre => ?_⟩
    obtain ⟨Ωo, σo, st, J⟩ := itSc_at S hj
    have hlb := J.yl
    rw [hyl] at hlb
    injection hlb with hlb
    injection hlb with e1 e2
    subst e1; subst e2
    obtain ⟨σo', e2, σ2, k1, k2, k3⟩ := hfold.at hpre
    have hfo := J.fold
    rw [k1] at hfo
    injection hfo with hfo
    injection hfo with e3 e4
    subst e3; subst e4
    have scd : ScOk P (X.df M') w0 T ro := ⟨sc.y.df (.inl hp), .inl (hp.df M'), sc.r⟩
    obtain ⟨fn', tmps', asg', body', q1, q2⟩ := round_ok hx hy ox oy scd rfl (fun d hd => hdst d (by simpa [dstsC] using hd)) S (by rw [← hr0]; exact ⟨rfl, rfl, rfl, rfl⟩) J hd hpm k2
    refine ⟨fn', tmps', asg', body', q1, RoundIn.mono (q2 ro' n') fun e w4 he => ?_⟩
    obtain ⟨g1, ⟨Ωo', g2⟩, g3, g4, g5⟩ := he
    exact ⟨by rw [k3]; exact g1, itSc_of g2, g2.kept, g3, g4, g5⟩
  have hC := hitok T' hRT _ (itOwn (Ω.prot ts) we.heap.size b) (we.alloc (.loop r0)) we.heap.size xs1 xs2 (base_itOwn hlt) rfl hpure1 hpure2 (DenL.itm hm hcs1 hxs1) (DenL.itm hm hcs2 hxs2) rfl rfl (itSc_of J0) (fun _ _ hj => (by obtain ⟨t, _, _, _, _, _, e, _⟩ := hj; cases e)) hY
  refine ⟨we.heap.size, mk, we.alloc (.loop r0), { target := .fn (.func f) xs2.toArray, args := xs1.toArray ++ #[Value.func (.yield we.heap.size) #[] #[]] }, we.alloc (.loop r0), f, _, we.alloc (.loop r0), hent2, ?_, fun _ _ => trivial, ?_, fun h => by simp [wideR, Fence.wide] at h, CallsIn.mono (callsIn_wideR hC) fun e w1 he => ?_⟩
  · simp only [resolve, hf, Deferred.ofValue, Sem.run_pure]
    congr 2
    apply Array.ext'; simp [Act.eval]
  · simp only [invoke, run_callFunc hent]
    congr 2
    apply Array.ext'; simp
  · obtain ⟨x, Ωi, rfl, hj⟩ := he
    obtain ⟨Ωo, σo, st, J⟩ := itSc_at S hj
    obtain ⟨st', hf1, hf2⟩ := hfold.fold
    have hfo := J.fold
    rw [hf1] at hfo
    injection hfo with hfo
    injection hfo with e3 e4
    subst e3; subst e4
    have hend := run_endLoop (P := P) J.rcd (by simp only; split <;> simp)
    refine ⟨jumpOf st', w1.putObj we.heap.size (.loop { r0 with state := .exhausted, pending := jumpOf st' }), hend, ?_⟩
    have hfin := Plain.rcd (o := .loop { r0 with state := .exhausted, pending := jumpOf st' }) S J.inv J.d1
    have hnext := hK { a with defers := mk ++ a.defers } _ Ωo M' ⟨rfl, hmk, hMn', hMl', hMs, fun _ _ => rfl, hfin, fun d hd hds => J.fresh d ⟨fun k hk => hd.1 k (prot_box hk), fun k u p e hk => by
      obtain ⟨q, hq, _⟩ := prot_arr hk
      exact hd.2 k u q e hq⟩ (by simpa [onceC, loopC] using hds)⟩
    revert hnext
    generalize jumpOf st' = j at hf2
    subst hf2
    intro hnext
    cases ex with
    | normal => exact hnext
    | exit id => exact wpIn_exit hnext
    | ret => exact wpIn_ret hnext
theorem rng_sound (hcall : CallsOk P call) {g : Operand} {g' : Opd} {ps : Array Tmp} {asg body : Code} {lx ly : LCode} (hg : opdC g = some g') (hx : CodeOk P call N asg lx) (hy : CodeOk P call N body ly) (ox : onceC lx = []) (oy : onceC ly = []) :
    CodeOk P call N (.rangeFunc g ps asg body) (.rng g' ps.toList (ps.toList ++ (dstsC lx ++ dstsC ly)) lx ly) := by
  intro X w0 T ro n Ω w a σ σ' ex Q M df sc hpl hMn hMl hdf hev hT h hdst hfr hon hK
  simp only [evC] at hev
  split at hev
  · rename_i f caps htr hop
    split at hev
    case h_2 => cases hev
    rename_i cs ts hfrz
    split at hev
    case isFalse => cases hev
    rename_i hcs
    have hden := opd_sound h hg hop
    simp only [Den, Fk.Is] at hden
    obtain ⟨xs, hf, hxs⟩ := hden
    obtain ⟨hxs1, hpure, _⟩ := DenL.frzE (ps := ts) caps cs ts xs hfrz (fun t ht => memN_self ht) hxs
    exact rng_core hcall hx hy ox oy sc hMn hMl hdf h htr (pre := []) (post := cs) (xs1 := []) hev hf DenL.nil hxs1 rfl hpure rfl hcs hdst hK
  · rename_i f caps htr hop
    split at hev
    case h_2 => cases hev
    rename_i cs ts hfrz
    split at hev
    case isFalse => cases hev
    rename_i hcs
    have hden := opd_sound h hg hop
    simp only [Den, Fk.Is] at hden
    obtain ⟨xs, hf, hxs⟩ := hden
    obtain ⟨hxs1, hpure, _⟩ := DenL.frzE (ps := ts) caps cs ts xs hfrz (fun t ht => memN_self ht) hxs
    exact rng_core hcall hx hy ox oy sc hMn hMl hdf h htr (pre := cs) (post := []) (xs2 := []) hev hf hxs1 DenL.nil hpure rfl hcs rfl hdst hK
  · cases hev
end
end Go.Lo

/- Control. -/
namespace Go.Lo
section
variable {P : Program} {call : Nat → List V → Option V}

theorem once_loop : ∀ (c : Code) {kp : Nat → List Nat} {lc : LCode}, codeC P kp true c = some lc → onceC lc = []
  | c, kp, lc, h => by
    induction c generalizing lc with
    | region id ops draw =>
      simp only [codeC] at h
      unfold regC at h
      generalize (if draw = true then Region.before ops else #[]) = b at h
      simp only at h
      split at h
      · split at h
        · split at h
          · rename_i hl _
            simp only [Option.some.injEq] at h; subst h; simp [onceC]
          · cases h
        · simp only [Option.some.injEq] at h; subst h; rfl
      · cases h
    | seq a b iha ihb =>
      simp only [codeC] at h
      split at h
      · rename_i x y hx hy
        simp only [Option.some.injEq] at h; subst h
        simp [onceC, iha _ hx, ihb _ hy]
      · cases h
    | cond c a b iha ihb =>
      simp only [codeC] at h
      split at h
      · rename_i c' x y hc hx hy
        simp only [Option.some.injEq] at h; subst h
        simp [onceC, iha _ hx, ihb _ hy]
      · cases h
    | block id a iha =>
      simp only [codeC] at h
      split at h
      · rename_i x hx
        simp only [Option.some.injEq] at h; subst h
        simp [onceC, iha _ hx]
      · cases h
    | loop a iha =>
      simp only [codeC] at h
      split at h
      · simp only [Option.some.injEq] at h; subst h; rfl
      · cases h
    | rangeFunc g ps a b iha ihb =>
      simp only [codeC] at h
      split at h
      · simp only [Option.some.injEq] at h; subst h; rfl
      · cases h
    | _ => simp only [codeC, Option.some.injEq] at h; subst h; rfl
theorem least {R : Nat → Prop} (h : ∃ k, R k) : ∃ k, R k ∧ ∀ j, R j → k ≤ j := by
  obtain ⟨k, hk⟩ := h
  induction k using Nat.strongRecOn with
  | _ k ih =>
    by_cases hj : ∃ j, j < k ∧ R j
    · obtain ⟨j, hlt, hr⟩ := hj
      exact ih j hlt hr
    · refine ⟨k, hk, fun j hr => ?_⟩
      apply Decidable.byContradiction
      intro hlt
      exact hj ⟨j, by omega, hr⟩
/-- Behind nothing. -/
theorem Arr.here {X : Sc} {w0 w : World} {ro : Option Nat} {Ω : Own} {a : Act} {M : List Nat} {df : List Deferred} {σ : St} {ks ds : List Nat} (hn : M.Nodup) (hl : ∀ r ∈ M, w0.heap.size ≤ r) (hd : a.defers = marks M ++ df) (h : Inv (X.df M) w0 Ω w a.tmps σ) :
    Arr X w0 ro Ω a M df σ ks ds a w Ω M := ⟨rfl, hd, hn, hl, .inl rfl, fun _ _ => rfl, h, fun _ hf _ => hf⟩
/-- One behind the other. -/
theorem Arr.trans {X : Sc} {w0 w1 w2 : World} {ro : Option Nat} {Ω Ω1 Ω2 : Own} {a a1 a2 : Act} {M M1 M2 : List Nat} {df : List Deferred} {σ1 σ2 : St} {ks1 ds1 ks2 ds2 ks ds : List Nat} (h : Arr X w0 ro Ω a M df σ1 ks1 ds1 a1 w1 Ω1 M1) (k : Arr X w0 ro Ω1 a1 M1 df σ2 ks2 ds2 a2 w2 Ω2 M2)
    (hk : ∀ s, s ∉ ks → s ∉ ks1 ∧ s ∉ ks2) (hd : ∀ s, s ∉ ds → s ∉ ds1 ∧ s ∉ ds2) : Arr X w0 ro Ω a M df σ2 ks ds a2 w2 Ω2 M2 := by
  refine ⟨k.size.trans h.size, k.defers, k.nodup, k.low, ?_, fun s hs => (k.keep s (hk s hs).2).trans (h.keep s (hk s hs).1), k.inv, fun d hf hds => k.fresh d (h.fresh d hf (hd d hds).1) (hd d hds).2⟩
  rcases k.same with e | e
  · rw [e]; exact h.same
  · exact .inr e
theorem Arr.mono {X : Sc} {w0 w1 : World} {ro : Option Nat} {Ω Ω1 : Own} {a a1 : Act} {M M1 : List Nat} {df : List Deferred} {σ1 : St} {ks1 ds1 ks ds : List Nat} (h : Arr X w0 ro Ω a M df σ1 ks1 ds1 a1 w1 Ω1 M1)
    (hk : ∀ s, s ∉ ks → s ∉ ks1) (hd : ∀ s, s ∉ ds → s ∉ ds1) : Arr X w0 ro Ω a M df σ1 ks ds a1 w1 Ω1 M1 :=
  ⟨h.size, h.defers, h.nodup, h.low, h.same, fun s hs => h.keep s (hk s hs), h.inv, fun d hf hds => h.fresh d hf (hd d hds)⟩
theorem Arr.pl {X : Sc} {w0 w1 : World} {ro : Option Nat} {Ω Ω1 : Own} {a a1 : Act} {M M1 : List Nat} {df : List Deferred} {σ1 : St} {ks1 ds1 : List Nat} (h : Arr X w0 ro Ω a M df σ1 ks1 ds1 a1 w1 Ω1 M1) (hp : Plain X ∨ M = []) : Plain X ∨ M1 = [] := by
  rcases h.same with e | e
  · rw [e]; exact hp
  · exact .inl e.1
theorem code_sound (hcall : CallsOk P call) (hmix : P.follows .mixedOrders = true) {N : Nat} {kp : Nat → List Nat} : ∀ (c : Code) {lp : Bool} {lc : LCode}, codeC P kp lp c = some lc → CodeOk P call N c lc := by
  intro c
  induction c with
  | skip =>
    intro lp lc hc X w0 T ro n Ω w a σ σ' ex Q M df sc hpl hMn hMl hdf hev hT h hdst hfr hon hK
    simp only [codeC, Option.some.injEq] at hc; subst hc
    simp only [evC, Option.some.injEq, Prod.mk.injEq] at hev
    obtain ⟨rfl, rfl⟩ := hev
    exact wpIn_skip (hK a w Ω M (.here hMn hMl hdf h))
  | exit id =>
    intro lp lc hc X w0 T ro n Ω w a σ σ' ex Q M df sc hpl hMn hMl hdf hev hT h hdst hfr hon hK
    simp only [codeC, Option.some.injEq] at hc; subst hc
    simp only [evC, Option.some.injEq, Prod.mk.injEq] at hev
    obtain ⟨rfl, rfl⟩ := hev
    exact wpIn_exit (hK a w Ω M (.here hMn hMl hdf h))
  | ret =>
    intro lp lc hc X w0 T ro n Ω w a σ σ' ex Q M df sc hpl hMn hMl hdf hev hT h hdst hfr hon hK
    simp only [codeC, Option.some.injEq] at hc; subst hc
    simp only [evC, Option.some.injEq, Prod.mk.injEq] at hev
    obtain ⟨rfl, rfl⟩ := hev
    exact wpIn_ret (hK a w Ω M (.here hMn hMl hdf h))
  | region id ops draw =>
    intro lp lc hc X w0 T ro n Ω w a σ σ' ex Q M df sc hpl hMn hMl hdf hev hT h hdst hfr hon hK
    simp only [codeC] at hc
    refine region_sound (sc.y.df hpl) hT hcall hmix hc h hev hdst hfr (fun hex => ?_)
    subst hex
    intro a' w' Ω' hsz hdf' htm hinv hfresh
    exact hK a' w' Ω' M ⟨hsz, hdf'.trans hdf, hMn, hMl, .inl rfl, htm, hinv, hfresh⟩
  | seq x y ihx ihy =>
    intro lp lc hc X w0 T ro n Ω w a σ σ' ex Q M df sc hpl hMn hMl hdf hev hT h hdst hfr hon hK
    simp only [codeC] at hc
    split at hc
    · rename_i lx ly hx hy
      simp only [Option.some.injEq] at hc; subst hc
      obtain ⟨hon1, hon2⟩ := hon
      simp only [onceC, loopC, dstsC, List.mem_append] at hon1 hon2 hdst hfr hK
      rw [List.nodup_append] at hon1
      have honx : Once lx := ⟨hon1.1, fun d hd hl => hon2 d (.inl hd) (.inl hl)⟩
      have hony : Once ly := ⟨hon1.2.1, fun d hd hl => hon2 d (.inr hd) (.inr hl)⟩
      simp only [evC] at hev
      refine wpIn_seq ?_
      split at hev
      · rename_i σ1 h1
        refine ihx hx sc hpl hMn hMl hdf h1 ((evC_tr ly hev).upTo hT) h (fun d hd => hdst d (.inl hd)) (fun d hd => hfr d (.inl hd)) honx ?_
        intro a' w' Ω' M' A
        refine ihy hy sc (A.pl hpl) A.nodup A.low A.defers hev hT A.inv (fun d hd => by rw [A.size]; exact hdst d (.inr hd)) (fun d hd => A.fresh d (hfr d (.inr hd)) (fun hm => ?_)) hony ?_
        · rcases List.mem_append.1 hm with hm | hm
          · exact hon1.2.2 d hm d hd rfl
          · exact hon2 d (.inr hd) (.inl hm)
        · intro a'' w'' Ω'' M'' B
          refine hK a'' w'' Ω'' M'' (A.trans B (fun s hs => ?_) (fun s hs => ?_))
          · simp only [List.mem_append, not_or] at hs; exact hs
          · simp only [List.mem_append, not_or] at hs ⊢; exact ⟨⟨hs.1.1, hs.2.1⟩, ⟨hs.1.2, hs.2.2⟩⟩
      · rename_i hne
        refine ihx hx sc hpl hMn hMl hdf hev hT h (fun d hd => hdst d (.inl hd)) (fun d hd => hfr d (.inl hd)) honx ?_
        intro a' w' Ω' M' A
        have := hK a' w' Ω' M' (A.mono (fun s hs => by simp only [List.mem_append, not_or] at hs; exact hs.1) (fun s hs => by
          simp only [List.mem_append, not_or] at hs ⊢
          exact ⟨hs.1.1, hs.2.1⟩))
        cases ex with
        | normal => exact (hne _ hev).elim
        | exit id => exact this
        | ret => exact this
    · cases hc
  | cond c x y ihx ihy =>
    intro lp lc hc X w0 T ro n Ω w a σ σ' ex Q M df sc hpl hMn hMl hdf hev hT h hdst hfr hon hK
    simp only [codeC] at hc
    split at hc
    · rename_i c' lx ly hcc hx hy
      simp only [Option.some.injEq] at hc; subst hc
      obtain ⟨hon1, hon2⟩ := hon
      simp only [onceC, loopC, dstsC, List.mem_append] at hon1 hon2 hdst hfr hK
      rw [List.nodup_append] at hon1
      simp only [evC] at hev
      split at hev
      · rename_i t ht
        have hd := opd_sound h hcc ht
        simp only [Den] at hd
        refine wpIn_cond hd ?_
        cases t with
        | true =>
          simp only [if_true] at hev ⊢
          refine ihx hx sc hpl hMn hMl hdf hev hT h (fun d hd => hdst d (.inl hd)) (fun d hd => hfr d (.inl hd)) ⟨hon1.1, fun d hd hl => hon2 d (.inl hd) (.inl hl)⟩ ?_
          intro a' w' Ω' M' A
          exact hK a' w' Ω' M' (A.mono (fun s hs => by simp only [List.mem_append, not_or] at hs; exact hs.1) (fun s hs => by
            simp only [List.mem_append, not_or] at hs ⊢; exact ⟨hs.1.1, hs.2.1⟩))
        | false =>
          simp only [Bool.false_eq_true, if_false] at hev ⊢
          refine ihy hy sc hpl hMn hMl hdf hev hT h (fun d hd => hdst d (.inr hd)) (fun d hd => hfr d (.inr hd)) ⟨hon1.2.1, fun d hd hl => hon2 d (.inr hd) (.inr hl)⟩ ?_
          intro a' w' Ω' M' A
          exact hK a' w' Ω' M' (A.mono (fun s hs => by simp only [List.mem_append, not_or] at hs; exact hs.2) (fun s hs => by
            simp only [List.mem_append, not_or] at hs ⊢; exact ⟨hs.1.2, hs.2.2⟩))
      · cases hev
    · cases hc
  | block id x ih =>
    intro lp lc hc X w0 T ro n Ω w a σ σ' ex Q M df sc hpl hMn hMl hdf hev hT h hdst hfr hon hK
    simp only [codeC] at hc
    split at hc
    · rename_i lx hx
      simp only [Option.some.injEq] at hc; subst hc
      simp only [evC] at hev
      refine wpIn_block ?_
      split at hev
      · rename_i j σ1 h1
        split at hev
        · rename_i hj
          simp only [Option.some.injEq, Prod.mk.injEq] at hev
          obtain ⟨rfl, rfl⟩ := hev
          refine ih hx sc hpl hMn hMl hdf h1 hT h hdst hfr hon ?_
          intro a' w' Ω' M' A
          simp only [Ex.out, Exit.inBlock, if_pos hj]
          exact hK a' w' Ω' M' A
        · rename_i hj
          simp only [Option.some.injEq, Prod.mk.injEq] at hev
          obtain ⟨rfl, rfl⟩ := hev
          refine ih hx sc hpl hMn hMl hdf h1 hT h hdst hfr hon ?_
          intro a' w' Ω' M' A
          simp only [Ex.out, Exit.inBlock, if_neg hj]
          exact hK a' w' Ω' M' A
      · rename_i hne
        refine ih hx sc hpl hMn hMl hdf hev hT h hdst hfr hon ?_
        intro a' w' Ω' M' A
        have := hK a' w' Ω' M' A
        cases ex with
        | normal => exact this
        | exit id => exact (hne _ _ hev).elim
        | ret => exact this
    · cases hc
  | loop x ih =>
    intro lp lc hc X w0 T ro n Ω w a σ σ' ex Q M df sc hpl hMn hMl hdf hev hT h hdst hfr hon hK
    simp only [codeC] at hc
    split at hc
    · rename_i lx hx
      simp only [Option.some.injEq] at hc; subst hc
      simp only [evC] at hev
      have honce := once_loop x hx
      simp only [onceC, loopC, dstsC, List.nil_append] at hdst hK
      -- what holds before a round, with so many rounds at most
      let R : Nat → Act → World → Prop := fun k a1 w1 => ∃ Ω1 σ1 M1, Arr X w0 ro Ω a M df σ1 (dstsC lx) (loopC lx) a1 w1 Ω1 M1 ∧ iter (evC call N lx) k σ1 = some (ex, σ')
      let μ : Act → World → Nat := fun a1 w1 => open Classical in if hk : ∃ k, R k a1 w1 then Classical.choose (least hk) else 0
      have hμ : ∀ k a1 w1, R k a1 w1 → R (μ a1 w1) a1 w1 ∧ μ a1 w1 ≤ k := by
        intro k a1 w1 hk
        have hex : ∃ k, R k a1 w1 := ⟨k, hk⟩
        have hs := Classical.choose_spec (least hex)
        simp only [μ, dif_pos hex]
        exact ⟨hs.1, hs.2 k hk⟩
      refine wpIn_loop (fun a1 w1 => ∃ k, R k a1 w1) μ ⟨N, Ω, σ, M, .here hMn hMl hdf h, hev⟩ ?_
      rintro a1 w1 ⟨k, hk⟩
      obtain ⟨⟨Ω1, σ1, M1, A, hit⟩, _⟩ := hμ k a1 w1 hk
      generalize hm : μ a1 w1 = m at hit
      cases m with
      | zero => simp [iter] at hit
      | succ m =>
        simp only [iter] at hit
        split at hit
        · rename_i σ2 h2
          refine ih hx sc (A.pl hpl) A.nodup A.low A.defers h2 ((iter_tr (fun _ _ _ h => evC_tr lx h) hit).upTo hT) A.inv (fun d hd => by rw [A.size]; exact hdst d hd) (fun d hd => by rw [honce] at hd; cases hd) ⟨by rw [honce]; exact List.nodup_nil, fun d hd => by rw [honce] at hd; cases hd⟩ ?_
          intro a' w' Ω' M' B
          have hR : R m a' w' := ⟨Ω', σ2, M', A.trans B (fun s hs => ⟨hs, hs⟩) (fun s hs => ⟨hs, by rw [honce, List.nil_append]; exact hs⟩), hit⟩
          refine ⟨⟨m, hR⟩, ?_⟩
          have := (hμ m a' w' hR).2
          omega
        · rename_i hne
          refine ih hx sc (A.pl hpl) A.nodup A.low A.defers hit hT A.inv (fun d hd => by rw [A.size]; exact hdst d hd) (fun d hd => by rw [honce] at hd; cases hd) ⟨by rw [honce]; exact List.nodup_nil, fun d hd => by rw [honce] at hd; cases hd⟩ ?_
          intro a' w' Ω' M' B
          have := hK a' w' Ω' M' (A.trans B (fun s hs => ⟨hs, hs⟩) (fun s hs => ⟨hs, by rw [honce, List.nil_append]; exact hs⟩))
          cases ex with
          | normal => exact (hne _ hit).elim
          | exit id => exact this
          | ret => exact this
    · cases hc
  | rangeFunc g ps x y ihx ihy =>
    intro lp lc hc
    simp only [codeC] at hc
    split at hc
    · rename_i g' lx ly hg hx hy
      simp only [Option.some.injEq] at hc; subst hc
      exact rng_sound hcall hg (ihx hx) (ihy hy) (once_loop x hx) (once_loop y hy)
    · cases hc
  | _ =>
    intro lp lc hc X w0 T ro n Ω w a σ σ' ex Q M df sc hpl hMn hMl hdf hev hT h hdst hfr hon hK
    simp only [codeC, Option.some.injEq] at hc; subst hc
    simp only [evC] at hev
    cases hev
end
end Go.Lo

/- Function bodies. -/
namespace Go.Lo
open Go.RowKit (Below)
section
variable {P : Program} {X : Sc} {w0 w : World} {Ω : Own} {call : Nat → List V → Option V} {σ : St}

theorem loadAt_var {t : TypeId} {ad : Addr} : (Instr.loadAt t (.pointer (some ad))).run P w = (loadVar t ad).run P w := by
  simp [Instr.loadAt, Instr.sureAddr]
def readRV (tm : Array Value) : ResultVar → Sem Value
  | .tmp t => pure (tm.getD t undef)
  | .cell a t => do loadVar t (← asAddr (tm.getD a undef))
theorem run_results {fn : Func} {tm : Array Value} {xs : List Value} (h : (fn.results.toList.mapM (readRV tm)).run P w = .ok xs w) : (results fn tm).run P w = .ok (if h : xs.length = 1 then xs[0] else .tuple xs.toArray) w := by
  change (do
    let vs ← fn.results.mapM (readRV tm)
    pure (if h : vs.size = 1 then vs[0] else Value.tuple vs) : Sem Value).run P w = _
  rw [Array.mapM_eq_mapM_toList, Sem.run_bind, Sem.run_map, h]
  simp only [Result.andThen_ok]
  rfl
/-- The results, read. -/
theorem rvs_sound {tm : Array Value} (h : Inv X w0 Ω w tm σ) : ∀ {rs : List ResultVar} {ls : List RV} {vs : List V}, rvsC P rs = some ls → rvs σ.fr ls = some vs →
    ∃ xs, (rs.mapM (readRV tm)).run P w = .ok xs w ∧ DenL Ω w vs xs
  | [], ls, vs, hc, hv => by
    simp only [rvsC, Option.some.injEq] at hc; subst hc
    simp only [rvs, Option.some.injEq] at hv; subst hv
    exact ⟨[], by simp, DenL.nil⟩
  | r :: rs, ls, vs, hc, hv => by
    simp only [rvsC] at hc
    split at hc
    · rename_i x xs hx hxs
      simp only [Option.some.injEq] at hc; subst hc
      cases r with
      | tmp t =>
        simp only [rvC, Option.some.injEq] at hx; subst hx
        simp only [rvs] at hv
        split at hv
        · rename_i v vs' h1 h2
          simp only [Option.some.injEq] at hv; subst hv
          obtain ⟨ys, g1, g2⟩ := rvs_sound h hxs h2
          have hd := opd_sound (a := { tmps := tm, defers := [] }) h (x := .tmp t) (y := .t t) rfl h1
          refine ⟨tm.getD t undef :: ys, ?_, DenL.cons hd g2⟩
          simp only [List.mapM_cons, readRV, Sem.run_bind, Sem.run_pure, Result.andThen_ok, g1]
        · cases hv
      | cell ad t =>
        simp only [rvC] at hx
        split at hx
        · rename_i n hn
          simp only [Option.some.injEq] at hx; subst hx
          simp only [rvs] at hv
          split at hv
          · rename_i cs vs' h1 h2
            split at hv
            · rename_i v hp
              simp only [Option.some.injEq] at hv; subst hv
              obtain ⟨ys, g1, g2⟩ := rvs_sound h hxs h2
              obtain ⟨_, hs⟩ := h.slot ad _ h1
              simp only [DenS] at hs
              obtain ⟨b, zs, T, e1, e2, e3, e4, e5⟩ := hs
              obtain ⟨y, k1, k2⟩ := load_cells (P := P) (base := 0) (off := 0) (b := b) hn e4 (fun j z hj => by
                rw [Nat.zero_add, cell_of_row w b j _ T (0, 0) e3]
                simpa using hj) hp
              rw [loadAt_var] at k1
              refine ⟨y :: ys, ?_, DenL.cons k2 g2⟩
              simp only [Nat.add_zero] at k1
              simp only [List.mapM_cons, readRV, Sem.run_bind, Sem.run_pure, Result.andThen_ok, g1, e1, asAddr, k1]
            · cases hv
          · cases hv
        · cases hx
    · cases hc
end
end Go.Lo

/- What a function gives back. -/
namespace Go.Lo
section
variable {w : World} {Ω Ω1 : Own} {tk : List (Nat × Nat × Bool)}

def posN (t : Nat) : List Nat → Option Nat
  | [] => none
  | x :: xs => if x = t then some 0 else (posN t xs).map (· + 1)
theorem posN_get : ∀ {l : List Nat} {t k : Nat}, posN t l = some k → l[k]? = some t
  | x :: xs, t, k, h => by
    simp only [posN] at h
    split at h
    · rename_i e; injection h with h; subst h; subst e; rfl
    · cases hp : posN t xs with
      | none => rw [hp] at h; cases h
      | some j =>
        rw [hp] at h
        simp only [Option.map_some, Option.some.injEq] at h; subst h
        simpa using posN_get hp
theorem posN_of : ∀ {l : List Nat} {t k : Nat}, l.Nodup → l[k]? = some t → posN t l = some k
  | x :: xs, t, 0, hn, h => by simp only [List.getElem?_cons_zero, Option.some.injEq] at h; simp [posN, h]
  | x :: xs, t, k + 1, hn, h => by
    simp only [List.getElem?_cons_succ] at h
    have hne : x ≠ t := fun e => (List.nodup_cons.1 hn).1 (e ▸ List.mem_of_getElem? h)
    simp only [posN, if_neg hne, posN_of (List.nodup_cons.1 hn).2 h, Option.map_some]
/-- The own map for the caller. 'U': the arrays that are given with their ownership. -/
def Own.fin (Ω B : Own) (n0 : Nat) (U : List Nat) : Own where
  o b := if b < n0 then B.o b else match Ω.o b with
    | .arr t p => (match posN t U with
      | some k => .arr k p
      | none => .frz)
    | .frz => .frz
    | _ => .out
  lim b := if b < n0 then B.lim b else Ω.lim b
  cur k := match U[k]? with
    | some t => Ω.cur t
    | none => none
  tsz k := match U[k]? with
    | some t => Ω.tsz t
    | none => 0
/-- Threading: what was listed stays listed; nothing is listed twice. -/
structure Lists (us us' : List Nat × List Nat) : Prop where
  pre : us.1 <+: us'.1
  sub : ∀ t ∈ us.2, t ∈ us'.2
  nodup : us.1.Nodup → us'.1.Nodup
  apart : (∀ t ∈ us.1, t ∉ us.2) → ∀ t ∈ us'.1, t ∉ us'.2
theorem Lists.refl (us : List Nat × List Nat) : Lists us us := ⟨List.prefix_refl _, fun _ h => h, fun h => h, fun h => h⟩
theorem Lists.trans {a b c : List Nat × List Nat} (h : Lists a b) (k : Lists b c) : Lists a c :=
  ⟨h.pre.trans k.pre, fun t ht => k.sub t (h.sub t ht), fun x => k.nodup (h.nodup x), fun x => k.apart (h.apart x)⟩
theorem Lists.dum {us gs : List Nat} (h : dumOk us gs = true) : Lists (us, gs) (us ++ [dumT us.length], gs) := by
  unfold dumOk at h
  simp only [Bool.and_eq_true, Bool.not_eq_true'] at h
  refine ⟨List.prefix_append _ _, fun _ h => h, fun hn => ?_, fun ha s hs => ?_⟩
  · rw [List.nodup_append]
    refine ⟨hn, by simp, fun a ha b hb e => ?_⟩
    rw [List.mem_singleton] at hb
    subst hb; subst e
    exact not_mem_of_memN h.1 ha
  · rcases List.mem_append.1 hs with hs | hs
    · exact ha s hs
    · rw [List.mem_singleton] at hs; subst hs
      exact not_mem_of_memN h.2
mutual
theorem fin_lists : ∀ (v v' : V) (us us' : List Nat × List Nat), v.fin tk us = some (v', us') → Lists us us'
  | .bool _, v', us, us', h => by simp only [V.fin, Option.some.injEq, Prod.mk.injEq] at h; rw [← h.2]; exact Lists.refl us
  | .int _ _, v', us, us', h => by simp only [V.fin, Option.some.injEq, Prod.mk.injEq] at h; rw [← h.2]; exact Lists.refl us
  | .nil, v', (us, gs), us', h => by
    simp only [V.fin] at h
    split at h
    · rename_i hd
      simp only [Option.some.injEq, Prod.mk.injEq] at h
      rw [← h.2]
      exact Lists.dum hd
    · cases h
  | .sl none _ _, v', (us, gs), us', h => by
    simp only [V.fin] at h
    split at h
    · rename_i hd
      simp only [Option.some.injEq, Prod.mk.injEq] at h
      rw [← h.2]
      exact Lists.dum hd
    · cases h
  | .sl (some t) sz es, v', (us, gs), us', h => by
    simp only [V.fin] at h
    split at h
    · cases h
    · rename_i hu
      have hu : t ∉ us := not_mem_of_memN (by simpa using hu)
      split at h
      · rename_i hc
        simp only [Option.some.injEq, Prod.mk.injEq] at h
        rw [← h.2]
        refine ⟨List.prefix_append _ _, fun _ h => h, fun hn => ?_, fun ha s hs => ?_⟩
        · rw [List.nodup_append]
          refine ⟨hn, by simp, fun a ha b hb e => ?_⟩
          rw [List.mem_singleton] at hb
          subst hb; subst e
          exact hu ha
        · rcases List.mem_append.1 hs with hs | hs
          · exact ha s hs
          · rw [List.mem_singleton] at hs; subst hs
            exact not_mem_of_memN hc.2
      · split at h
        · rename_i hd
          simp only [Option.some.injEq, Prod.mk.injEq] at h
          rw [← h.2]
          refine Lists.trans (b := (us, t :: gs)) ⟨List.prefix_refl _, fun s hs => List.mem_cons_of_mem _ hs, fun hn => hn, fun ha s hs => ?_⟩ (Lists.dum hd)
          intro hm
          rcases List.mem_cons.1 hm with rfl | hm
          · exact hu hs
          · exact ha s hs hm
        · cases h
  | .agg cs, v', us, us', h => by
    simp only [V.fin] at h
    split at h
    · rename_i cs' us2 h2
      simp only [Option.some.injEq, Prod.mk.injEq] at h
      rw [← h.2]
      exact finL_lists cs cs' us us2 h2
    · cases h
  | .und, v', us, us', h => by simp [V.fin] at h
  | .dead, v', us, us', h => by simp [V.fin] at h
  | .tup _, v', us, us', h => by simp [V.fin] at h
  | .gref _, v', us, us', h => by simp only [V.fin, Option.some.injEq, Prod.mk.injEq] at h; rw [← h.2]; exact Lists.refl us
  | .np, v', us, us', h => by simp only [V.fin, Option.some.injEq, Prod.mk.injEq] at h; rw [← h.2]; exact Lists.refl us
  | .bag _ _, v', us, us', h => by simp [V.fin] at h
  | .fn (.f f) cs, v', us, us', h => by
    simp only [V.fin] at h
    split at h
    · simp only [Option.some.injEq, Prod.mk.injEq] at h; rw [← h.2]; exact Lists.refl us
    · cases h
  | .fn (.m _) _, v', us, us', h => by simp [V.fin] at h
  | .fn (.y _) _, v', us, us', h => by simp [V.fin] at h
  | .ref _ _, v', us, us', h => by simp [V.fin] at h
  | .cref _, v', us, us', h => by simp [V.fin] at h
  | .eref _ _ _ _ _, v', us, us', h => by simp [V.fin] at h
  | .box _, v', us, us', h => by simp [V.fin] at h
  | .mbox _, v', us, us', h => by simp [V.fin] at h
  | .mref _, v', us, us', h => by simp [V.fin] at h
theorem finL_lists : ∀ (vs vs' : List V) (us us' : List Nat × List Nat), finL tk vs us = some (vs', us') → Lists us us'
  | [], vs', us, us', h => by simp only [finL, Option.some.injEq, Prod.mk.injEq] at h; rw [← h.2]; exact Lists.refl us
  | v :: vs, vs', us, us', h => by
    simp only [finL] at h
    split at h
    · rename_i v' us1 h1
      split at h
      · rename_i vs2 us2 h2
        simp only [Option.some.injEq, Prod.mk.injEq] at h
        rw [← h.2]
        exact (fin_lists v v' us us1 h1).trans (finL_lists vs vs2 us1 us2 h2)
      · cases h
    · cases h
end
/-- What must be known of the two own maps. -/
structure FinOk (Ω Ω1 : Own) (w : World) (U G : List Nat) : Prop where
  ext : ExtM Ω Ω1 w w
  lim : ∀ b t p, Ω.o b = .arr t p → Ω.lim b = Ω1.lim b
  own : ∀ b t p k, Ω.o b = .arr t p → U[k]? = some t → Ω1.o b = .arr k p ∧ Ω1.tsz k = Ω.tsz t ∧ Ω1.cur k = Ω.cur t
  give : ∀ b t p, Ω.o b = .arr t p → t ∈ G → Ω1.froz b
mutual
theorem Den.fin {U G : List Nat} (hf : FinOk Ω Ω1 w U G) : ∀ (v v' : V) (us us' : List Nat × List Nat) (x : Value), v.fin tk us = some (v', us') → us'.1 <+: U → (∀ t ∈ us'.2, t ∈ G) → Den Ω w v x → Den Ω1 w v' x
  | .bool _, v', us, us', x, h, _, _, hd => by simp only [V.fin, Option.some.injEq, Prod.mk.injEq] at h; rw [← h.1]; exact hd
  | .int _ _, v', us, us', x, h, _, _, hd => by simp only [V.fin, Option.some.injEq, Prod.mk.injEq] at h; rw [← h.1]; exact hd
  | .nil, v', (us, gs), us', x, h, _, _, hd => by
    simp only [V.fin] at h
    split at h
    · simp only [Option.some.injEq, Prod.mk.injEq] at h; rw [← h.1]; exact hd
    · cases h
  | .sl none sz es, v', (us, gs), us', x, h, _, _, hd => by
    simp only [V.fin] at h
    split at h
    · simp only [Option.some.injEq, Prod.mk.injEq] at h; rw [← h.1]
      exact Den.extM hf.ext _ _ rfl hd
    · cases h
  | .sl (some t) sz es, v', (us, gs), us', x, h, hp, hg, hd => by
    simp only [V.fin] at h
    simp only [Den] at hd
    obtain ⟨b, cap, p, h1, h2, h3, h4, h5⟩ := hd
    have hE : DenE Ω1 w es sz b 0 := DenE.extM hf.ext es sz b 0 (Nat.le_of_eq (hf.lim b t p h2)) (fun _ _ => rfl) h5
    split at h
    · cases h
    · split at h
      · simp only [Option.some.injEq, Prod.mk.injEq] at h
        obtain ⟨rfl, rfl⟩ := h
        have hk : U[us.length]? = some t := by
          obtain ⟨r, rfl⟩ := hp
          simp
        obtain ⟨g1, g2, g3⟩ := hf.own b t p us.length h2 hk
        simp only [Den]
        exact ⟨b, cap, p, h1, g1, by rw [g2]; exact h3, by rw [g3]; exact h4, hE⟩
      · split at h
        · simp only [Option.some.injEq, Prod.mk.injEq] at h
          obtain ⟨rfl, rfl⟩ := h
          simp only [Den]
          exact .inr ⟨b, 0, cap, h1, hf.give b t p h2 (hg t (by simp)), hE⟩
        · cases h
  | .agg cs, v', us, us', x, h, hp, hg, hd => by
    simp only [V.fin] at h
    split at h
    · rename_i cs' us2 h2
      simp only [Option.some.injEq, Prod.mk.injEq] at h
      obtain ⟨rfl, rfl⟩ := h
      simp only [Den] at hd ⊢
      obtain ⟨xs, h3, h4⟩ := hd
      exact ⟨xs, h3, DenL.fin hf cs cs' us us2 xs h2 hp hg h4⟩
    · cases h
  | .und, v', us, us', x, h, _, _, _ => by simp [V.fin] at h
  | .dead, v', us, us', x, h, _, _, _ => by simp [V.fin] at h
  | .tup _, v', us, us', x, h, _, _, _ => by simp [V.fin] at h
  | .gref cs, v', us, us', x, h, _, _, hd => by
    simp only [V.fin, Option.some.injEq, Prod.mk.injEq] at h; rw [← h.1]
    exact Den.extM hf.ext _ _ rfl hd
  | .np, v', us, us', x, h, _, _, hd => by simp only [V.fin, Option.some.injEq, Prod.mk.injEq] at h; rw [← h.1]; exact hd
  | .bag _ _, v', us, us', x, h, _, _, _ => by simp [V.fin] at h
  | .fn (.f f) cs, v', us, us', x, h, _, _, hd => by
    simp only [V.fin] at h
    split at h
    · rename_i hp
      simp only [Option.some.injEq, Prod.mk.injEq] at h; rw [← h.1]
      simp only [Den] at hd ⊢
      obtain ⟨xs, h1, h2⟩ := hd
      exact ⟨xs, h1, DenL.extMa hf.ext cs xs hp h2⟩
    · cases h
  | .fn (.m _) _, v', us, us', x, h, _, _, _ => by simp [V.fin] at h
  | .fn (.y _) _, v', us, us', x, h, _, _, _ => by simp [V.fin] at h
  | .ref _ _, v', us, us', x, h, _, _, _ => by simp [V.fin] at h
  | .cref _, v', us, us', x, h, _, _, _ => by simp [V.fin] at h
  | .eref _ _ _ _ _, v', us, us', x, h, _, _, _ => by simp [V.fin] at h
  | .box _, v', us, us', x, h, _, _, _ => by simp [V.fin] at h
  | .mbox _, v', us, us', x, h, _, _, _ => by simp [V.fin] at h
  | .mref _, v', us, us', x, h, _, _, _ => by simp [V.fin] at h
theorem DenL.fin {U G : List Nat} (hf : FinOk Ω Ω1 w U G) : ∀ (vs vs' : List V) (us us' : List Nat × List Nat) (xs : List Value), finL tk vs us = some (vs', us') → us'.1 <+: U → (∀ t ∈ us'.2, t ∈ G) → DenL Ω w vs xs → DenL Ω1 w vs' xs
  | [], vs', us, us', xs, h, _, _, hd => by
    simp only [finL, Option.some.injEq, Prod.mk.injEq] at h; rw [← h.1]
    simpa [DenL] using hd
  | v :: vs, vs', us, us', xs, h, hp, hg, hd => by
    simp only [finL] at h
    split at h
    · rename_i v' us1 h1
      split at h
      · rename_i vs2 us2 h2
        simp only [Option.some.injEq, Prod.mk.injEq] at h
        obtain ⟨rfl, rfl⟩ := h
        simp only [DenL] at hd
        obtain ⟨x, ys, rfl, h3, h4⟩ := hd
        have hl := finL_lists vs vs2 us1 us2 h2
        exact DenL.cons (Den.fin hf v v' us us1 x h1 (hl.pre.trans hp) (fun t ht => hg t (hl.sub t ht)) h3) (DenL.fin hf vs vs2 us1 us2 ys h2 hp hg h4)
      · cases h
    · cases h
end
mutual
/-- The arrays of what is given back. -/
theorem fin_tks {U : List Nat} : ∀ (v v' : V) (us us' : List Nat × List Nat), v.fin tk us = some (v', us') → us'.1 <+: U → ∀ k n, (k, n) ∈ v'.tks → ∃ t, U[k]? = some t ∧ get tk t = some (n, true)
  | .bool _, v', us, us', h, _, k, n, hk => by simp only [V.fin, Option.some.injEq, Prod.mk.injEq] at h; rw [← h.1] at hk; simp [V.tks] at hk
  | .int _ _, v', us, us', h, _, k, n, hk => by simp only [V.fin, Option.some.injEq, Prod.mk.injEq] at h; rw [← h.1] at hk; simp [V.tks] at hk
  | .nil, v', (us, gs), us', h, _, k, n, hk => by
    simp only [V.fin] at h
    split at h
    · simp only [Option.some.injEq, Prod.mk.injEq] at h; rw [← h.1] at hk; simp [V.tks] at hk
    · cases h
  | .sl none _ _, v', (us, gs), us', h, _, k, n, hk => by
    simp only [V.fin] at h
    split at h
    · simp only [Option.some.injEq, Prod.mk.injEq] at h; rw [← h.1] at hk; simp [V.tks] at hk
    · cases h
  | .sl (some t) sz es, v', (us, gs), us', h, hp, k, n, hk => by
    simp only [V.fin] at h
    split at h
    · cases h
    · split at h
      · rename_i hc
        simp only [Option.some.injEq, Prod.mk.injEq] at h
        obtain ⟨rfl, rfl⟩ := h
        simp only [V.tks, List.mem_singleton, Prod.mk.injEq] at hk
        obtain ⟨rfl, rfl⟩ := hk
        obtain ⟨r, rfl⟩ := hp
        exact ⟨t, by simp, hc.1⟩
      · split at h
        · simp only [Option.some.injEq, Prod.mk.injEq] at h
          obtain ⟨rfl, rfl⟩ := h
          simp [V.tks] at hk
        · cases h
  | .agg cs, v', us, us', h, hp, k, n, hk => by
    simp only [V.fin] at h
    split at h
    · rename_i cs' us2 h2
      simp only [Option.some.injEq, Prod.mk.injEq] at h
      obtain ⟨rfl, rfl⟩ := h
      exact finL_tks cs cs' us us2 h2 hp k n (by simpa [V.tks] using hk)
    · cases h
  | .und, v', us, us', h, _, _, _, _ => by simp [V.fin] at h
  | .dead, v', us, us', h, _, _, _, _ => by simp [V.fin] at h
  | .tup _, v', us, us', h, _, _, _, _ => by simp [V.fin] at h
  | .gref _, v', us, us', h, _, k, n, hk => by simp only [V.fin, Option.some.injEq, Prod.mk.injEq] at h; rw [← h.1] at hk; simp [V.tks] at hk
  | .np, v', us, us', h, _, k, n, hk => by simp only [V.fin, Option.some.injEq, Prod.mk.injEq] at h; rw [← h.1] at hk; simp [V.tks] at hk
  | .bag _ _, v', us, us', h, _, _, _, _ => by simp [V.fin] at h
  | .fn (.f f) cs, v', us, us', h, _, k, n, hk => by
    simp only [V.fin] at h
    split at h
    · simp only [Option.some.injEq, Prod.mk.injEq] at h; rw [← h.1] at hk; simp [V.tks] at hk
    · cases h
  | .fn (.m _) _, v', us, us', h, _, _, _, _ => by simp [V.fin] at h
  | .fn (.y _) _, v', us, us', h, _, _, _, _ => by simp [V.fin] at h
  | .ref _ _, v', us, us', h, _, _, _, _ => by simp [V.fin] at h
  | .cref _, v', us, us', h, _, _, _, _ => by simp [V.fin] at h
  | .eref _ _ _ _ _, v', us, us', h, _, _, _, _ => by simp [V.fin] at h
  | .box _, v', us, us', h, _, _, _, _ => by simp [V.fin] at h
  | .mbox _, v', us, us', h, _, _, _, _ => by simp [V.fin] at h
  | .mref _, v', us, us', h, _, _, _, _ => by simp [V.fin] at h
theorem finL_tks {U : List Nat} : ∀ (vs vs' : List V) (us us' : List Nat × List Nat), finL tk vs us = some (vs', us') → us'.1 <+: U → ∀ k n, (k, n) ∈ tksL vs' → ∃ t, U[k]? = some t ∧ get tk t = some (n, true)
  | [], vs', us, us', h, _, k, n, hk => by
    simp only [finL, Option.some.injEq, Prod.mk.injEq] at h; rw [← h.1] at hk
    simp [tksL] at hk
  | v :: vs, vs', us, us', h, hp, k, n, hk => by
    simp only [finL] at h
    split at h
    · rename_i v' us1 h1
      split at h
      · rename_i vs2 us2 h2
        simp only [Option.some.injEq, Prod.mk.injEq] at h
        obtain ⟨rfl, rfl⟩ := h
        simp only [tksL, List.mem_append] at hk
        rcases hk with hk | hk
        · exact fin_tks v v' us us1 h1 ((finL_lists vs vs2 us1 us2 h2).pre.trans hp) k n hk
        · exact finL_tks vs vs2 us1 us2 h2 hp k n hk
      · cases h
    · cases h
end
end
end Go.Lo

/- Functions. -/
namespace Go.Lo
open Go.RowKit (Below)
section
variable {P : Program} {X : Sc} {w0 w : World} {Ω Ω0 : Own} {call : Nat → List V → Option V} {σ : St} {tm : Array Value}

/-- A walk that may turn nothing that was there. -/
def scOf (Ω0 : Own) : Sc where
  x _ := False
  o := Ω0.o
  lim := Ω0.lim
  j tr Ω _ := tr = none ∧ Ω.yl = none
  st h s := ⟨h.1, s.yl.trans h.2⟩
theorem plain_scOf (Ω0 : Own) : Plain (scOf Ω0) := ⟨fun _ _ _ h => h.1, fun _ _ _ _ _ _ _ _ h g => ⟨h.1, g.yl.trans h.2⟩⟩
/-- The marks are taken. -/
structure Taken (M : List Nat) (w w' : World) : Prop where
  os : w'.os = w.os
  tape : w'.tape = w.tape
  output : w'.output = w.output
  size : w'.heap.size = w.heap.size
  block : ∀ b, b ∉ M → w'.heap[b]? = w.heap[b]?
  gone : ∀ b, b ∈ M → w'.heap[b]? = some (.deferred none)
theorem leaves_marks {P : Program} {F : Fence} {n : Nat} {fn : Func} {tmps : Array Value} {R : Ending → World → Prop} : ∀ (M : List Nat) (w : World), M.Nodup → (∀ r ∈ M, w.heap[r]? = some (.deferred (some []))) →
    (∀ w', Taken M w w' → LeavesIn F n P fn tmps R [] .returning w') → LeavesInM F n P fn tmps R (marks M) .returning w
  | [], w, _, _, h => h w ⟨rfl, rfl, rfl, rfl, fun _ _ => rfl, fun _ hb => by cases hb⟩
  | r :: M, w, hn, hM, h => by
    obtain ⟨h1, h2⟩ := List.nodup_cons.1 hn
    refine ⟨by simp, .inl ⟨r, w.putObj r (.deferred none), rfl, run_takeDeferred (hM r (by simp)), ?_⟩⟩
    have hlt := (Array.getElem?_eq_some_iff.1 (hM r (by simp))).1
    refine leaves_marks M _ h2 (fun s hs => ?_) fun w' t => h w' ⟨t.os, t.tape, t.output, t.size.trans World.putObj_size, fun b hb => ?_, fun b hb => ?_⟩
    · rw [World.putObj_heap_other (fun e => h1 (by subst e; exact hs))]; exact hM s (by simp [hs])
    · simp only [List.mem_cons, not_or] at hb
      rw [t.block b hb.2, World.putObj_heap_other hb.1]
    · by_cases hs : b ∈ M
      · exact t.gone b hs
      · rcases List.mem_cons.1 hb with rfl | hb
        · rw [t.block b hs, World.putObj_heap_same hlt]
        · exact absurd hb hs
theorem inv_taken {M : List Nat} {w' : World} {Ωs : Own} {ws : World} (hp : Plain X) (hs : X.j none Ωs ws) (hws : ∀ r ∈ M, ws.heap.size ≤ r) (h : Inv (X.df M) w0 Ω w tm σ) (hl : ∀ r ∈ M, w0.heap.size ≤ r) (t : Taken M w w') : Inv X w0 Ω w' tm σ := by
  have h0 : Inv X w0 Ω w tm σ := h.sc rfl rfl rfl fun hj => hj.1
  have htr := hp.1 _ _ _ h0.out
  have key : ∀ b off, w'.cell? ⟨b, off, none⟩ = w.cell? ⟨b, off, none⟩ := fun b off => by
    by_cases hb : b ∈ M
    · unfold World.cell?
      rw [t.gone b hb, (h.out.2 b hb).2]
    · exact World.cell?_of_block (t.block b hb)
  refine h0.other (tr' := σ.tr) ⟨t.os.trans h0.kept.os, t.tape.trans h0.kept.tape, t.output.trans h0.kept.output, by rw [t.size]; exact h0.kept.size, fun b hb hX => ?_⟩ (Nat.le_of_eq t.size.symm) (fun b hm => t.block b fun hb => (h.out.2 b hb).1 hm) (fun b off _ _ => key b off) ?_
  · rw [t.block b (fun hm => absurd (hl b hm) (Nat.not_le_of_lt hb))]; exact h0.kept.block b hb hX
  · have hj := h0.out
    rw [htr] at hj ⊢
    exact hp.2 none Ωs ws Ω Ω w w' hs hj ⟨t.os, t.tape, t.output, Nat.le_of_eq t.size.symm, fun b hb => t.block b (fun hm => absurd (hws b hm) (Nat.not_le_of_lt hb)), fun _ _ => ⟨rfl, rfl⟩, fun _ h => h, fun b hb => by rw [t.size]; exact h0.bnd b hb, rfl⟩
theorem itemsL_tups : ∀ (l : List (List V)), itemsL (tupsL l) = some l
  | [] => rfl
  | x :: l => by simp only [tupsL, itemsL, itemsL_tups l]
theorem pure_ranged : ∀ {args : List V}, pureL args = true → ranged args = false
  | [], _ => rfl
  | v :: vs, h => by
    simp only [pureL] at h
    split at h
    · rename_i hv
      have ih := pure_ranged h
      cases v <;> first | exact ih | skip
      rename_i f cs
      cases f with
      | f n => exact ih
      | m n => exact ih
      | y b => simp [V.pure] at hv
    · cases h
theorem ranged_mid {y : Nat} {post : List V} : ∀ {pre : List V}, ranged (pre ++ .fn (.y y) [] :: post) = true
  | [] => rfl
  | v :: vs => by
    have ih := ranged_mid (y := y) (post := post) (pre := vs)
    cases v <;> first | exact ih | skip
    rename_i f cs
    cases f with
    | f n => exact ih
    | m n => exact ih
    | y b => rfl
theorem finOk (h : Inv (scOf Ω0) w0 Ω w tm σ) {U G : List Nat} (hU : U.Nodup) (ha : ∀ t ∈ U, t ∉ G) : FinOk Ω (Ω.fin Ω0 w0.heap.size U) w U G := by
  have new : ∀ b t p, Ω.o b = .arr t p → ¬ b < w0.heap.size := fun b t p hb hlt => h.oldArr hlt (fun x => x) t p hb
  refine ⟨⟨fun b hb => ?_, fun b hb => ?_, fun _ _ _ _ => rfl⟩, fun b t p hb => ?_, fun b t p k hb hk => ?_, fun b t p hb hg => ?_⟩
  · by_cases hlt : b < w0.heap.size
    · have := (h.old b hlt (fun x => x)).1
      rcases hb with hb | ⟨t, hb⟩
      · exact .inl (by simp only [Own.fin, if_pos hlt]; rw [← hb, this]; rfl)
      · exact (new b t true hb hlt).elim
    · rcases hb with hb | ⟨t, hb⟩
      · exact .inl (by simp only [Own.fin, if_neg hlt, hb])
      · cases hp : posN t U with
        | none => exact .inl (by simp only [Own.fin, if_neg hlt, hb, hp])
        | some k => exact .inr ⟨k, by simp only [Own.fin, if_neg hlt, hb, hp]⟩
  · by_cases hlt : b < w0.heap.size
    · have := (h.old b hlt (fun x => x)).2
      simp only [Own.fin, if_pos hlt]
      rw [this]; exact Nat.le_refl _
    · simp only [Own.fin, if_neg hlt]; exact Nat.le_refl _
  · simp only [Own.fin, if_neg (new b t p hb)]
  · refine ⟨by simp only [Own.fin, if_neg (new b t p hb), hb, posN_of hU hk], by simp only [Own.fin, hk], by simp only [Own.fin, hk]⟩
  · cases hp : posN t U with
    | none => exact .inl (by simp only [Own.fin, if_neg (new b t p hb), hb, hp])
    | some k => exact (ha t (List.mem_of_getElem? (posN_get hp)) hg).elim
theorem fin_tok (h : Inv (scOf Ω0) w0 Ω w tm σ) (hb0 : Base Ω0 w0) {U : List Nat} (hU : U.Nodup) {k n t : Nat} (hk : U[k]? = some t) (ht : get σ.tk t = some (n, true)) : TokOk (Ω.fin Ω0 w0.heap.size U) w k n true := by
  obtain ⟨c, q, T, xs, g1, ⟨p, g2⟩, g3, g4, g5, g6, g7, g8⟩ := h.tok t n true ht
  have hc : ¬ c < w0.heap.size := fun hlt => h.oldArr hlt (fun x => x) t p g2
  refine ⟨c, q, T, xs, by simp only [Own.fin, hk, g1], ⟨p, by simp only [Own.fin, if_neg hc, g2, posN_of hU hk]⟩, g3, by simp only [Own.fin, hk]; exact g4, g5, by simp only [Own.fin, if_neg hc, hk]; exact g6, by simp only [Own.fin, hk]; exact g7, fun _ b p' hb => ?_⟩
  simp only [Own.fin] at hb
  split at hb
  · rcases hb0.o b with e | e | e | e <;> rw [e] at hb <;> cases hb
  · split at hb
    · rename_i t' p2 h2
      split at hb
      · rename_i k' hp
        injection hb with e1 e2
        subst e1; subst e2
        have := posN_get hp
        rw [hk] at this
        injection this with this; subst this
        exact g8 rfl b _ h2
      · cases hb
    · cases hb
    · cases hb
theorem one_tks {vs : List V} {k n : Nat} (h : (k, n) ∈ (one vs).tks) : (k, n) ∈ tksL vs := by
  unfold one at h
  split at h
  · simpa [tksL] using h
  · simpa [V.tks] using h
theorem one_den {vs : List V} {xs : List Value} (h : DenL Ω w vs xs) : Den Ω w (one vs) (if h : xs.length = 1 then xs[0] else .tuple xs.toArray) := by
  unfold one
  split
  · rename_i v
    simp only [DenL] at h
    obtain ⟨x, ys, rfl, h1, rfl⟩ := h
    simpa using h1
  · rename_i hne
    have hl := h.length
    have : ¬ xs.length = 1 := fun e => by
      rw [hl] at e
      obtain ⟨v, rfl⟩ := List.length_eq_one_iff.1 e
      exact hne v rfl
    rw [dif_neg this]
    simp only [Den]
    exact ⟨xs, rfl, h⟩
theorem params_get : ∀ {vs : List V} {k s : Nat} {v : V}, get (params k vs) s = some v → ∃ j, s = k + j ∧ vs[j]? = some v
  | [], k, s, v, h => by simp [params, get] at h
  | u :: vs, k, s, v, h => by
    simp only [params, get] at h
    split at h
    · rename_i e
      injection h with h; subst h; subst e
      exact ⟨0, rfl, rfl⟩
    · obtain ⟨j, e, hj⟩ := params_get h
      exact ⟨j + 1, by omega, by simpa using hj⟩
theorem deadL_get : ∀ {l : List Nat} {s : Nat} {v : V}, get (deadL l) s = some v → s ∈ l ∧ v = .dead
  | [], s, v, h => by simp [deadL, get] at h
  | k :: l, s, v, h => by
    simp only [deadL, get] at h
    split at h
    · rename_i e
      injection h with h; subst h; subst e
      exact ⟨by simp, rfl⟩
    · obtain ⟨h1, h2⟩ := deadL_get h
      exact ⟨by simp [h1], h2⟩
theorem get_append {α : Type} : ∀ {a b : List (Nat × α)} {s : Nat} {v : α}, get (a ++ b) s = some v → get a s = some v ∨ get b s = some v
  | [], b, s, v, h => .inr h
  | (k, u) :: a, b, s, v, h => by
    simp only [List.cons_append, get] at h ⊢
    split at h
    · rename_i e; rw [if_pos e]; exact .inl h
    · rename_i e; rw [if_neg e]; exact get_append h
theorem inv_start (X : Sc) {tr0 : Option (List (List V))} (ho : X.o = Ω0.o) (hlm : X.lim = Ω0.lim) (hj : X.j tr0 Ω0 w) (hb : Base Ω0 w) {args : List V} {xs : List Value} (hd : DenL Ω0 w args xs) (n : Nat) {sl : List Nat} (hsl : ∀ s ∈ sl, s < xs.length + n) :
    Inv X w Ω0 w (xs.toArray ++ Array.replicate n undef) { fr := params 0 args ++ deadL sl, tk := [], tr := tr0 } where
  kept := Kept.refl _ _
  ownB b s h := by rcases hb.o b with e | e | e | e <;> rw [e] at h <;> cases h
  ownA b t p h := by rcases hb.o b with e | e | e | e <;> rw [e] at h <;> cases h
  bnd := hb.bnd
  uniq b b' s h := by rcases hb.o b with e | e | e | e <;> rw [e] at h <;> cases h
  limB b s h := by rcases hb.o b with e | e | e | e <;> rw [e] at h <;> cases h
  slot s v hs := by
    rcases get_append hs with hs | hs
    case inr =>
      obtain ⟨h1, rfl⟩ := deadL_get hs
      exact ⟨by simp only [Array.size_append, List.size_toArray, Array.size_replicate]; exact hsl s h1, by simp [DenS, Den]⟩
    obtain ⟨j, e, hj⟩ := params_get hs
    rw [Nat.zero_add] at e; subst e
    obtain ⟨x, hx, hv⟩ := hd.get hj
    have hlt := (List.getElem?_eq_some_iff.1 hx).1
    refine ⟨by simp only [Array.size_append, List.size_toArray]; omega, DenS.of ?_⟩
    have : (xs.toArray ++ Array.replicate n undef).getD s undef = x := by
      rw [Array.getD_eq_getD_getElem?, Array.getElem?_append_left (by simpa using hlt)]
      simp [hx]
    rw [this]; exact hv
  tok t n wr h := by simp [get] at h
  old _ _ _ := by rw [ho, hlm]; exact ⟨rfl, rfl⟩
  out := hj
theorem fresh_start (hb : Base Ω0 w) (d : Nat) : Fresh Ω0 d := by
  refine ⟨fun b h => ?_, fun b t p _ h => ?_⟩ <;> rcases hb.o b with e | e | e | e <;> rw [e] at h <;> cases h
/-! ### Boxes that are given away -/
def Own.giv (Ω : Own) (w : World) (bs : List Nat) : Own where
  o b := match Ω.o b with
    | .box s => if memN s bs = true then .frz else .box s
    | x => x
  lim b := match Ω.o b with
    | .box s => if memN s bs = true then blkSize w b else Ω.lim b
    | _ => Ω.lim b
  cur := Ω.cur
  tsz := Ω.tsz
  yl := Ω.yl
theorem giv_box {w : World} {bs : List Nat} {b s : Nat} (h : (Ω.giv w bs).o b = .box s) : Ω.o b = .box s ∧ memN s bs = false := by
  simp only [Own.giv] at h
  cases ho : Ω.o b <;> rw [ho] at h <;> simp only [reduceCtorEq] at h
  rename_i u
  split at h
  · cases h
  · rename_i hm
    injection h with h; subst h
    exact ⟨rfl, by simpa using hm⟩
theorem giv_arr {w : World} {bs : List Nat} {b t : Nat} {p : Bool} (h : (Ω.giv w bs).o b = .arr t p) : Ω.o b = .arr t p := by
  simp only [Own.giv] at h
  cases ho : Ω.o b <;> rw [ho] at h <;> simp only [reduceCtorEq] at h
  · split at h <;> cases h
  · exact h
theorem giv_same {w : World} {bs : List Nat} {b : Nat} (h : ∀ s, Ω.o b ≠ .box s) : (Ω.giv w bs).o b = Ω.o b ∧ (Ω.giv w bs).lim b = Ω.lim b := by
  simp only [Own.giv]
  cases ho : Ω.o b <;> simp_all
theorem giv_ne {w : World} {bs : List Nat} {b : Nat} (h : (Ω.giv w bs).o b ≠ .out) : Ω.o b ≠ .out := by
  intro e
  exact h (by rw [(giv_same (by intro s; rw [e]; simp)).1, e])
theorem giv_extM {w : World} {bs : List Nat} : ExtM Ω (Ω.giv w bs) w w := by
  have key : ∀ b, Ω.froz b → ∀ s, Ω.o b ≠ .box s := fun b hb s e => by
    rcases hb with hb | ⟨t, hb⟩ <;> rw [e] at hb <;> cases hb
  refine ⟨fun b hb => ?_, fun b hb => Nat.le_of_eq (giv_same (key b hb)).2.symm, fun _ _ _ _ => rfl⟩
  unfold Own.froz
  rw [(giv_same (key b hb)).1]
  exact hb
theorem Inv.giv {X : Sc} (h : Inv X w0 Ω w tm σ) (bs : List Nat) : Inv X w0 (Ω.giv w bs) w tm { fr := [], tk := σ.tk, tr := σ.tr } where
  kept := h.kept
  ownB b s hb := h.ownB b s (giv_box hb).1
  ownA b t p hb := h.ownA b t p (giv_arr hb)
  bnd b hb := h.bnd b (giv_ne hb)
  uniq b b' s hb hb' := h.uniq b b' s (giv_box hb).1 (giv_box hb').1
  limB b s hb := by
    obtain ⟨h1, h2⟩ := giv_box hb
    simp only [Own.giv, h1, h2, Bool.false_eq_true, if_false]
    exact h.limB b s h1
  slot s v hs := by simp [get] at hs
  tok t n wr ht := by
    obtain ⟨c, k, T, xs, g1, ⟨p, g2⟩, g3, g4, g5, g6, g7, g8⟩ := h.tok t n wr ht
    have hc := giv_same (Ω := Ω) (w := w) (bs := bs) (b := c) (by intro s; rw [g2]; simp)
    exact ⟨c, k, T, xs, g1, ⟨p, by rw [hc.1, g2]⟩, g3, g4, g5, by rw [hc.2]; exact g6, g7, fun hw b q hb => g8 hw b q (giv_arr hb)⟩
  old b hb hX := by
    obtain ⟨h1, h2⟩ := giv_same (Ω := Ω) (w := w) (bs := bs) (b := b) (h.oldBox hb hX)
    rw [h1, h2]
    exact h.old b hb hX
  out := X.st h.out ⟨⟨rfl, rfl, rfl, Nat.le_refl _, fun _ _ _ => rfl, fun b _ hm => giv_same fun s hs => hm (.inl ⟨s, hs⟩)⟩, giv_extM, fun b hb => h.bnd b (giv_ne hb), rfl, h.bnd⟩
/-- What stands behind a gift. -/
abbrev Own.gift (Ω : Own) (w : World) (bs ts : List Nat) : Own := (Ω.giv w bs).prot ts
theorem gift_extM {w : World} {bs ts : List Nat} : ExtM Ω (Ω.gift w bs ts) w w := by
  have e := ext_prot (Ω.giv w bs) w ts
  exact ⟨fun b hb => e.froz b (giv_extM.froz b hb), fun b hb => giv_extM.lim b hb, fun _ _ _ _ => rfl⟩
theorem gift_extP {w : World} {bs ts : List Nat} : ExtM (Ω.prot ts) (Ω.gift w bs ts) w w := by
  refine ⟨fun b hb => ?_, fun b hb => ?_, fun _ _ _ _ => rfl⟩
  · rcases hb with hb | ⟨t, hb⟩
    · have : Ω.o b = .frz := by
        simp only [Own.prot] at hb
        cases ho : Ω.o b <;> rw [ho] at hb <;> simp at hb
      exact .inl (by rw [prot_other (by intro t p; rw [(giv_same (by intro s; rw [this]; simp)).1, this]; simp), (giv_same (by intro s; rw [this]; simp)).1, this])
    · obtain ⟨q, hq, e⟩ := prot_arr hb
      have hg := (giv_same (Ω := Ω) (w := w) (bs := bs) (b := b) (by intro s; rw [hq]; simp)).1
      exact .inr ⟨t, by simp only [Own.prot, hg, hq]; rw [e]⟩
  · have hn : ∀ s, Ω.o b ≠ .box s := fun s e => by
      rcases hb with hb | ⟨t, hb⟩ <;> simp only [Own.prot, e] at hb <;> cases hb
    exact Nat.le_of_eq (giv_same hn).2.symm
mutual
theorem Den.plainR {bs ts : List Nat} : ∀ (v : V) (x : Value), v.plainR = true → Den Ω w v x → Den (Ω.gift w bs ts) w v x
  | .bool _, _, _, hd => hd
  | .int _ _, _, _, hd => hd
  | .nil, _, _, hd => hd
  | .np, _, _, hd => hd
  | .gref cs, _, _, hd => Den.extM gift_extM _ _ rfl hd
  | .sl none sz es, _, _, hd => Den.extM gift_extM _ _ rfl hd
  | .sl (some t) sz es, x, _, hd => by
    simp only [Den] at hd ⊢
    obtain ⟨b, cap, p, h1, h2, h3, h4, h5⟩ := hd
    have hg := giv_same (Ω := Ω) (w := w) (bs := bs) (b := b) (by intro s; rw [h2]; simp)
    exact ⟨b, cap, p || memN t ts, h1, by simp only [Own.prot, hg.1, h2], h3, h4, DenE.extM gift_extM es sz b 0 (Nat.le_of_eq hg.2.symm) (fun _ _ => rfl) h5⟩
  | .agg cs, x, hp, hd => by
    simp only [Den] at hd ⊢
    obtain ⟨xs, h1, h2⟩ := hd
    exact ⟨xs, h1, DenL.plainR cs xs (by simpa [V.plainR] using hp) h2⟩
  | .und, _, hp, _ => by simp [V.plainR] at hp
  | .dead, _, hp, _ => by simp [V.plainR] at hp
  | .tup _, _, hp, _ => by simp [V.plainR] at hp
  | .fn _ _, _, hp, _ => by simp [V.plainR] at hp
  | .bag _ _, _, hp, _ => by simp [V.plainR] at hp
  | .ref _ _, _, hp, _ => by simp [V.plainR] at hp
  | .cref _, _, hp, _ => by simp [V.plainR] at hp
  | .eref _ _ _ _ _, _, hp, _ => by simp [V.plainR] at hp
  | .box _, _, hp, _ => by simp [V.plainR] at hp
  | .mbox _, _, hp, _ => by simp [V.plainR] at hp
  | .mref _, _, hp, _ => by simp [V.plainR] at hp
theorem DenL.plainR {bs ts : List Nat} : ∀ (vs : List V) (xs : List Value), plainRL vs = true → DenL Ω w vs xs → DenL (Ω.gift w bs ts) w vs xs
  | [], _, _, hd => by simpa [DenL] using hd
  | v :: vs, xs, hp, hd => by
    simp only [DenL] at hd
    simp only [plainRL, Bool.and_eq_true] at hp
    obtain ⟨x, ys, rfl, h2, h3⟩ := hd
    exact DenL.cons (Den.plainR v x hp.1 h2) (DenL.plainR vs ys hp.2 h3)
end
theorem frzE_cells {bs ts : List Nat} {b : Nat} {T : TypeId} {zs : Array Value} (hz : w.heap[b]? = some (.cells zs T (0, 0))) (hlim : (Ω.gift w bs ts).lim b = zs.size) : ∀ (cs cs' : List V) (us : List Nat) (xs : List Value) (i : Nat), frzEL cs = some (cs', us) → (∀ t ∈ us, memN t ts = true) → cs'.all V.pm = true → DenL Ω w cs xs → (∀ v ∈ cs, v.cellOk = true ∨ v = .dead) → (∀ j x, xs[j]? = some x → zs[i + j]? = some x) →
    DenC (Ω.gift w bs ts) w cs' b i
  | [], cs', us, xs, i, hf, _, _, _, _, _ => by
    simp only [frzEL, Option.some.injEq, Prod.mk.injEq] at hf
    rw [← hf.1]; simp [DenC]
  | v :: vs, cs', us, xs, i, hf, hu, hp, hd, hc, hx => by
    simp only [frzEL] at hf
    split at hf
    · rename_i v' u1 ws u2 hv hvs
      simp only [Option.some.injEq, Prod.mk.injEq] at hf; obtain ⟨rfl, rfl⟩ := hf
      simp only [DenL] at hd
      obtain ⟨x, ys, rfl, h2, h3⟩ := hd
      simp only [List.all_cons, Bool.and_eq_true] at hp
      obtain ⟨g1, g2, g3⟩ := Den.frzE (ps := ts) v v' u1 x hv (fun t ht => hu t (by simp [ht])) h2
      have hx0 := hx 0 x rfl
      rw [Nat.add_zero] at hx0
      have hlt : i < zs.size := (Array.getElem?_eq_some_iff.1 hx0).1
      have hck : v.cellOk = true := by
        rcases hc v (by simp) with h | rfl
        · exact h
        · simp [V.frzE] at hv
      simp only [DenC]
      refine ⟨⟨x, by rw [hlim]; exact hlt, ?_, g2, g3 hck, Den.extM gift_extP v' x hp.1 g1⟩, frzE_cells hz hlim vs ws u2 ys (i + 1) hvs (fun t ht => hu t (by simp [ht])) hp.2 h3 (fun v hv => hc v (by simp [hv])) (fun j y hy => ?_)⟩
      · rw [cell_of_row w b i _ T (0, 0) hz]; exact hx0
      · have := hx (j + 1) y (by simpa using hy)
        rw [show i + 1 + j = i + (j + 1) by omega]; exact this
    · cases hf
theorem DenC.drop' {Ω : Own} : ∀ (n : Nat) {cs : List V} {b off : Nat}, DenC Ω w cs b off → DenC Ω w (cs.drop n) b (off + n)
  | 0, cs, b, off, h => h
  | n + 1, [], b, off, h => by simp [DenC]
  | n + 1, v :: vs, b, off, h => by
    simp only [DenC] at h
    have := DenC.drop' n h.2
    rw [List.drop_succ_cons, show off + (n + 1) = off + 1 + n by omega]
    exact this
theorem givB_den {X : Sc} (h : Inv X w0 Ω w tm σ) {bs ts : List Nat} {s off : Nat} {v' : V} {a b : List Nat} {x : Value} (hg : givB (bxOf σ.fr []) s off = some (v', a, b)) (ha : ∀ s ∈ a, memN s bs = true) (hb : ∀ t ∈ b, memN t ts = true) (hd : Den Ω w (.ref s off) x) : Den (Ω.gift w bs ts) w v' x ∧ v'.pm = true := by
  unfold givB at hg
  split at hg
  case isFalse => cases hg
  rename_i hlt
  split at hg
  · rename_i cs hcs
    split at hg
    · rename_i cs' us hus
      split at hg
      · rename_i hpm
        simp only [Option.some.injEq, Prod.mk.injEq] at hg
        obtain ⟨rfl, rfl, rfl⟩ := hg
        refine ⟨?_, rfl⟩
        have hfr : get σ.fr s = some (.box cs) := (bxOf_get hlt hcs).1
        obtain ⟨_, hs⟩ := h.slot s _ hfr
        simp only [DenS] at hs
        obtain ⟨c, xs, T, _, h2, h3, h4, h5⟩ := hs
        simp only [Den] at hd ⊢
        obtain ⟨c', h6, h7⟩ := hd
        have := h.uniq c c' s h2 h7
        subst this
        have hms := ha s (by simp)
        have ho : (Ω.giv w bs).o c = .frz := by simp only [Own.giv, h2, hms, if_true]
        have hl : (Ω.gift w bs ts).lim c = xs.toArray.size := by
          show (Ω.giv w bs).lim c = _
          simp only [Own.giv, h2, hms, if_true, blkSize, h3]
        refine ⟨c, off, h6, .inl (by rw [prot_other (by intro t p; rw [ho]; simp), ho]), ?_, ?_⟩
        · rw [List.all_eq_true] at hpm ⊢; exact fun x hx => hpm x (List.mem_of_mem_drop hx)
        · have := frzE_cells (bs := bs) (ts := ts) h3 hl cs cs' us xs 0 hus hb hpm h4 h5 (fun j x hj => by rw [Nat.zero_add]; simpa using hj)
          have := DenC.drop' off this
          rwa [Nat.zero_add] at this
      · cases hg
    · cases hg
  · cases hg
theorem givC_den {X : Sc} (h : Inv X w0 Ω w tm σ) {bs ts : List Nat} : ∀ (vs vs' : List V) (a b : List Nat) (xs : List Value), givC (bxOf σ.fr []) vs = some (vs', a, b) → (∀ s ∈ a, memN s bs = true) → (∀ t ∈ b, memN t ts = true) → DenL Ω w vs xs → DenL (Ω.gift w bs ts) w vs' xs := by
  intro vs
  induction vs with
  | nil =>
    intro vs' a b xs hg _ _ hd
    simp only [givC, Option.some.injEq, Prod.mk.injEq] at hg
    rw [← hg.1]
    simpa [DenL] using hd
  | cons v vs ih =>
    intro vs' a b xs hg ha hb hd
    simp only [DenL] at hd
    obtain ⟨x, ys, rfl, h2, h3⟩ := hd
    have other : (match givC (bxOf σ.fr []) vs with
        | some (vs', c, d) => if v.pm = true then some (v :: vs', c, d) else none
        | none => none) = some (vs', a, b) → DenL (Ω.gift w bs ts) w vs' (x :: ys) := fun hg => by
      split at hg
      · rename_i ws c d hr
        split at hg
        · rename_i hp
          simp only [Option.some.injEq, Prod.mk.injEq] at hg
          obtain ⟨rfl, rfl, rfl⟩ := hg
          exact DenL.cons (Den.extM gift_extM _ _ hp h2) (ih _ _ _ ys hr ha hb h3)
        · cases hg
      · cases hg
    cases v with
    | ref s off =>
      simp only [givC] at hg
      split at hg
      · rename_i v' a1 b1 ws c d h1 hr
        simp only [Option.some.injEq, Prod.mk.injEq] at hg
        obtain ⟨rfl, rfl, rfl⟩ := hg
        exact DenL.cons (givB_den h h1 (fun s hs => ha s (by simp [hs])) (fun t ht => hb t (by simp [ht])) h2).1 (ih _ _ _ ys hr (fun s hs => ha s (by simp [hs])) (fun t ht => hb t (by simp [ht])) h3)
      · cases hg
    | _ => exact other hg
theorem giv_den {X : Sc} (h : Inv X w0 Ω w tm σ) {bs ts : List Nat} {v v' : V} {a b : List Nat} {x : Value} (hg : v.giv (bxOf σ.fr []) = some (v', a, b)) (ha : ∀ s ∈ a, memN s bs = true) (hb : ∀ t ∈ b, memN t ts = true) (hd : Den Ω w v x) : Den (Ω.gift w bs ts) w v' x := by
  have other : (if v.plainR = true then some (v, ([] : List Nat), ([] : List Nat)) else none) = some (v', a, b) → Den (Ω.gift w bs ts) w v' x := fun hg => by
    split at hg
    · rename_i hp
      simp only [Option.some.injEq, Prod.mk.injEq] at hg
      rw [← hg.1]
      exact Den.plainR v x hp hd
    · cases hg
  cases v with
  | ref s off => exact (givB_den h hg ha hb hd).1
  | fn f caps =>
    cases f with
    | f n =>
      simp only [V.giv] at hg
      split at hg
      · rename_i cs c d hr
        simp only [Option.some.injEq, Prod.mk.injEq] at hg
        obtain ⟨rfl, rfl, rfl⟩ := hg
        simp only [Den] at hd ⊢
        obtain ⟨xs, h1, h2⟩ := hd
        exact ⟨xs, h1, givC_den h caps cs _ _ xs hr ha hb h2⟩
      · cases hg
    | m n => exact other hg
    | y n => exact other hg
  | _ => exact other hg
theorem givL_den {X : Sc} (h : Inv X w0 Ω w tm σ) {bs ts : List Nat} : ∀ (vs vs' : List V) (a b : List Nat) (xs : List Value), givL (bxOf σ.fr []) vs = some (vs', a, b) → (∀ s ∈ a, memN s bs = true) → (∀ t ∈ b, memN t ts = true) → DenL Ω w vs xs → DenL (Ω.gift w bs ts) w vs' xs
  | [], vs', a, b, xs, hg, _, _, hd => by
    simp only [givL, Option.some.injEq, Prod.mk.injEq] at hg
    rw [← hg.1]
    simpa [DenL] using hd
  | v :: vs, vs', a, b, xs, hg, ha, hb, hd => by
    simp only [givL] at hg
    split at hg
    · rename_i v' a1 b1 ws c d h1 hr
      simp only [Option.some.injEq, Prod.mk.injEq] at hg
      obtain ⟨rfl, rfl, rfl⟩ := hg
      simp only [DenL] at hd
      obtain ⟨x, ys, rfl, h2, h3⟩ := hd
      exact DenL.cons (giv_den h h1 (fun s hs => ha s (by simp [hs])) (fun t ht => hb t (by simp [ht])) h2) (givL_den h vs ws c d ys hr (fun s hs => ha s (by simp [hs])) (fun t ht => hb t (by simp [ht])) h3)
    · cases hg
/-! ### Functions that are handed a box -/
theorem pure_ioArg : ∀ {args : List V}, pureL args = true → ioArg args = false
  | [], _ => rfl
  | v :: vs, h => by
    cases v <;> first | rfl | (simp [pureL, V.pure] at h)
theorem pure_ioTk : ∀ {args : List V}, pureL args = true → ioTk args = []
  | [], _ => rfl
  | v :: vs, h => by
    cases v <;> first | rfl | (simp [pureL, V.pure] at h)
theorem pure_ioArg' {v : V} {vs us : List V} (h : pureL (v :: vs) = true) : ioArg (v :: vs ++ us) = false := by
  cases v <;> first | rfl | (simp [pureL, V.pure] at h)
theorem pure_ioTk' {v : V} {vs us : List V} (h : pureL (v :: vs) = true) : ioTk (v :: vs ++ us) = [] := by
  cases v <;> first | rfl | (simp [pureL, V.pure] at h)
/-- A walk that may turn the box that was handed. -/
def scIo (Ω0 : Own) : Sc where
  x := Ω0.mine
  o := Ω0.o
  lim := Ω0.lim
  j tr Ω _ := tr = none ∧ Ω.yl = none
  st h s := ⟨h.1, s.yl.trans h.2⟩
theorem plain_scIo (Ω0 : Own) : Plain (scIo Ω0) := ⟨fun _ _ _ h => h.1, fun _ _ _ _ _ _ _ _ h g => ⟨h.1, g.yl.trans h.2⟩⟩
theorem get0 (x : Value) (ys : List Value) (n : Nat) : ((x :: ys).toArray ++ Array.replicate n undef).getD 0 undef = x := by
  rw [Array.getD_eq_getD_getElem?, Array.getElem?_append_left (by simp)]
  simp
theorem inv_startIo {b : Nat} {cs rest : List V} {xs ys : List Value} {T : TypeId} (hb : BaseIo Ω0 w b) (hd : DenL Ω0 w cs xs) (hh : w.heap[b]? = some (.cells xs.toArray T (0, 0))) (hio : ioL cs = true) (ht : ∀ k n, (k, n) ∈ tksL cs → TokOk Ω0 w k n true) (hr : DenL Ω0 w rest ys) (n : Nat) :
    Inv (scIo Ω0) w Ω0 w ((Value.pointer (some ⟨b, 0, none⟩) :: ys).toArray ++ Array.replicate n undef) { fr := params 0 (.box cs :: rest) ++ deadL [], tk := ioTk (.box cs :: rest), tr := none } where
  kept := Kept.refl _ _
  ownB c s h := .inr (.inl ⟨s, h⟩)
  ownA c t p h := .inr (.inr ⟨t, p, h⟩)
  bnd := hb.bnd
  uniq c c' s h h' := by
    have key : ∀ c, Ω0.o c = .box s → c = b := fun c h => by
      rcases hb.o c with e | e | e | e | e | ⟨_, _, e⟩ <;> rw [e] at h <;> try (cases h; done)
      injection h with h; subst h; exact hb.box c e
    rw [key c h, key c' h']
  limB c s h := by
    rcases hb.o c with e | e | e | e | e | ⟨_, _, e⟩ <;> rw [e] at h <;> try (cases h; done)
    rw [hb.box c e]; exact hb.limB
  slot s v hs := by
    rcases get_append hs with hs | hs
    case inr => simp [deadL, get] at hs
    obtain ⟨j, e, hj⟩ := params_get hs
    rw [Nat.zero_add] at e
    cases e
    cases s with
    | zero =>
      simp only [List.getElem?_cons_zero, Option.some.injEq] at hj; subst hj
      refine ⟨by simp; omega, ?_⟩
      simp only [DenS]
      refine ⟨b, xs, T, get0 _ _ _, hb.here, hh, hd, fun v hv => .inl ?_⟩
      unfold ioL at hio
      simp only [Bool.and_eq_true] at hio
      have := List.all_eq_true.1 hio.1 v hv
      cases v <;> simp only [V.ioV, V.pm, Bool.false_eq_true] at this <;> rfl
    | succ j =>
      simp only [List.getElem?_cons_succ] at hj
      obtain ⟨x, hx, hv⟩ := hr.get hj
      have hlt := (List.getElem?_eq_some_iff.1 hx).1
      refine ⟨by simp only [Array.size_append, List.size_toArray, List.length_cons]; omega, DenS.of ?_⟩
      have : ((Value.pointer (some ⟨b, 0, none⟩) :: ys).toArray ++ Array.replicate n undef).getD (j + 1) undef = x := by
        rw [Array.getD_eq_getD_getElem?, Array.getElem?_append_left (by simp; omega)]
        simp [hx]
      rw [this]; exact hv
  tok t m wr h := by
    rcases get_addT _ _ t m wr h with ⟨e1, e2⟩ | e1
    · subst e2; exact ht t m e1
    · simp [get] at e1
  old _ _ _ := ⟨rfl, rfl⟩
  out := ⟨rfl, hb.yl⟩
/-- Who owns what behind it. -/
def Own.finI (Ω : Own) (b0 : Nat) (U : List Nat) : Own where
  o b := match Ω.o b with
    | .box _ => if b = b0 then .box 0 else .out
    | .arr t p => (match posN t U with
      | some k => .arr k p
      | none => .frz)
    | x => x
  lim := Ω.lim
  cur k := match U[k]? with
    | some t => Ω.cur t
    | none => none
  tsz k := match U[k]? with
    | some t => Ω.tsz t
    | none => 0
theorem finI_ok {b0 : Nat} {U G : List Nat} (hU : U.Nodup) (ha : ∀ t ∈ U, t ∉ G) : FinOk Ω (Ω.finI b0 U) w U G := by
  refine ⟨⟨fun b hb => ?_, fun b hb => Nat.le_refl _, fun _ _ _ _ => rfl⟩, fun b t p hb => rfl, fun b t p k hb hk => ?_, fun b t p hb hg => ?_⟩
  · rcases hb with hb | ⟨t, hb⟩
    · exact .inl (by simp only [Own.finI, hb])
    · cases hp : posN t U with
      | none => exact .inl (by simp only [Own.finI, hb, hp])
      | some k => exact .inr ⟨k, by simp only [Own.finI, hb, hp]⟩
  · exact ⟨by simp only [Own.finI, hb, posN_of hU hk], by simp only [Own.finI, hk], by simp only [Own.finI, hk]⟩
  · cases hp : posN t U with
    | none => exact .inl (by simp only [Own.finI, hb, hp])
    | some k => exact (ha t (List.mem_of_getElem? (posN_get hp)) hg).elim
theorem finI_tok {X : Sc} (h : Inv X w0 Ω w tm σ) {b0 : Nat} {U : List Nat} (hU : U.Nodup) {k n t : Nat} (hk : U[k]? = some t) (ht : get σ.tk t = some (n, true)) : TokOk (Ω.finI b0 U) w k n true := by
  obtain ⟨c, q, T, xs, g1, ⟨p, g2⟩, g3, g4, g5, g6, g7, g8⟩ := h.tok t n true ht
  refine ⟨c, q, T, xs, by simp only [Own.finI, hk, g1], ⟨p, by simp only [Own.finI, g2, posN_of hU hk]⟩, g3, by simp only [Own.finI, hk]; exact g4, g5, by simp only [Own.finI, hk]; exact g6, by simp only [Own.finI, hk]; exact g7, fun _ b p' hb => ?_⟩
  simp only [Own.finI] at hb
  split at hb
  · split at hb <;> cases hb
  · rename_i t' p2 h2
    split at hb
    · rename_i k' hp
      injection hb with e1 e2
      subst e1; subst e2
      have := posN_get hp
      rw [hk] at this
      injection this with this; subst this
      exact g8 rfl b _ h2
    · cases hb
  · rename_i hne
    exact absurd hb (hne _ _)
/-- A function does what its compiled form does. -/
theorem fun_sound (hmix : P.follows .mixedOrders = true) (hcall : CallsOk P call) {f : Nat} {fn : Func} (hf : P.funcs[f]? = some fn) (hn : fn.name ≠ "runtime.NumGoroutine") {kp : List (Nat × List Nat)} {lf : LFun} (hc : funC P kp fn = some lf)
    {N : Nat} {args : List V} {R : V} (hev : evBody call N lf args = some R) : Enters P f ∧ CallOk P f args R := by
  unfold funC at hc
  split at hc
  case h_2 => cases hc
  rename_i c hbody
  refine ⟨⟨fn, c, hf, hn, hbody⟩, ?_⟩
  split at hc
  case h_2 => cases hc
  rename_i b rs hb hrs
  split at hc
  case isFalse => cases hc
  rename_i hchk
  obtain ⟨k1, k2, k3, k4, k5⟩ := hchk
  simp only [Option.some.injEq] at hc; subst hc
  unfold evBody at hev
  simp only at hev
  split at hev
  case isFalse => cases hev
  rename_i hlen
  obtain ⟨hlen, hior⟩ := hlen
  obtain ⟨ex, σ', hex, hevc, hres⟩ : ∃ ex σ', (ex = Ex.normal ∨ ex = Ex.ret) ∧ evC call N b { fr := params 0 args ++ deadL [], tk := ioTk args, tr := if ranged args = true then some [] else none } = some (ex, σ') ∧ (if ioArg args = true then finIo (dstsC b) rs σ' else finish (ranged args) rs σ') = some R := by
    split at hev
    · rename_i σ' h1; exact ⟨_, σ', .inl rfl, h1, hev⟩
    · rename_i σ' h1; exact ⟨_, σ', .inr rfl, h1, hev⟩
    · cases hev
  -- a walk through the body
  have walk : ∀ {X : Sc} {T : List (List V)} {Ω0 : Own} {w : World} {xs : List Value} {R' : Ending → World → Prop}, xs.length = fn.params.size + fn.nfree → (∀ n, Inv X w Ω0 w (xs.toArray ++ Array.replicate n undef) { fr := params 0 args ++ deadL [], tk := ioTk args, tr := if ranged args = true then some [] else none }) → (∀ d ∈ onceC b, Fresh Ω0 d) → ScOk P X w T none → UpTo T σ' →
      (∀ a' w' Ω' M', Arr X w none Ω0 { tmps := xs.toArray ++ Array.replicate (fn.ntmps - xs.toArray.size) undef, defers := [] } [] [] σ' (dstsC b) (onceC b ++ loopC b) a' w' Ω' M' → LeavesInM Fence.wide 0 P fn a'.tmps R' a'.defers .returning w') → Calls P f xs.toArray w R' := by
    intro X T Ω0 w xs R' hxl hinv0 hfr0 sc hT hK
    have hsz : (xs.toArray ++ Array.replicate (fn.ntmps - xs.toArray.size) undef).size = fn.ntmps := by
      simp only [Array.size_append, List.size_toArray, Array.size_replicate]; omega
    have hinv := hinv0 (fn.ntmps - xs.toArray.size)
    refine callsIn_wide.1 (callsIn_of_wp_marks (n := 0) hf hbody trivial ?_)
    refine code_sound hcall hmix c hb sc (.inr rfl) (M := []) (df := []) List.nodup_nil (fun r hr => by cases hr) rfl hevc hT (hinv.sc rfl rfl rfl fun hj => ⟨hj, fun r hr => by cases hr⟩) (fun d hdd => ?_) hfr0 ⟨distinct_nodup k2, fun d hd hl => ?_⟩ ?_
    · show d < Array.size _
      rw [hsz]
      have := List.all_eq_true.1 k1 d hdd
      simpa using this
    · have := List.all_eq_true.1 k3 d hd
      simp only [Bool.and_eq_true, Bool.not_eq_true'] at this
      exact not_mem_of_memN this.1 hl
    · intro a' w' Ω' M' A
      have := hK a' w' Ω' M' A
      rcases hex with rfl | rfl <;> exact this
  refine ⟨fun hpure Ω0 w xs hbase hd => ?_, fun y pre post hargs T hRT X Ω w l xs zs hbase hyl hp1 hp2 hd1 hd2 ho hlm hj hnn hY => ?_, fun cs rest hargs hio hrest Ω0 w b0 xs ys T hbase hd hheap htok hdr => ?_⟩
  · -- called
    rw [pure_ranged hpure, pure_ioTk hpure] at hevc walk
    rw [pure_ranged hpure, pure_ioArg hpure] at hres
    simp only [Bool.false_eq_true, if_false] at hres hevc walk
    have hbase' : Base { Ω0 with yl := none } w := ⟨hbase.o, hbase.bnd⟩
    have hxp : ExtP Ω0 { Ω0 with yl := none } w w := ⟨fun _ h => h, fun _ h => .inr h, fun _ _ => Nat.le_refl _, fun _ _ _ _ => rfl, fun _ h => ⟨h, Nat.le_refl _, fun _ _ => rfl⟩⟩
    have hd' : DenL { Ω0 with yl := none } w args xs := DenL.extP hxp args xs hpure hd
    have trn : σ'.tr = none := (evC_tr b hevc).none rfl
    refine walk (X := scOf { Ω0 with yl := none }) (T := []) (Ω0 := { Ω0 with yl := none }) (by rw [hd'.length, hlen]) (fun n => inv_start (Ω0 := { Ω0 with yl := none }) (scOf { Ω0 with yl := none }) rfl rfl ⟨rfl, rfl⟩ hbase' hd' n (sl := []) (fun s hs => by cases hs)) (fun d _ => fresh_start hbase' d) ⟨⟨fun _ _ h => h.2, fun _ _ _ _ _ _ _ _ _ h => (by have := h.1; cases this)⟩, .inl (plain_scOf _), fun _ h => by cases h⟩ (fun l hl => by rw [trn] at hl; cases hl) ?_
    intro a' w' Ω' M' A
    rw [A.defers, List.append_nil]
    refine leaves_marks M' w' A.nodup (fun r hr => (A.inv.out.2 r hr).2) fun w'' ht => ?_
    have hi : Inv (scOf { Ω0 with yl := none }) w Ω' w'' a'.tmps σ' := inv_taken (plain_scOf _) (Ωs := { Ω0 with yl := none }) (ws := w) ⟨rfl, rfl⟩ A.low A.inv A.low ht
    unfold finish result at hres
    simp only [Bool.false_eq_true, if_false] at hres
    split at hres
    case h_2 => cases hres
    rename_i vs hvs
    split at hres
    case h_2 => cases hres
    rename_i vs1 bs ts hgiv
    split at hres
    case h_2 => cases hres
    rename_i vs' us hfin
    injection hres with hres; subst hres
    obtain ⟨ys, r1, r2⟩ := rvs_sound (P := P) hi hrs hvs
    have r2 := givL_den hi (bs := bs) (ts := ts) vs vs1 bs ts ys hgiv (fun s hs => memN_self hs) (fun t ht => memN_self ht) r2
    have hi := (hi.giv bs).prot ts
    have r2 : DenL ((Ω'.giv w'' bs).prot ts) w'' vs1 ys := r2
    generalize hOg : (Ω'.giv w'' bs).prot ts = Ωg at hi r2
    obtain ⟨U, G⟩ := us
    have hl := finL_lists vs1 vs' ([], []) (U, G) hfin
    have hU : U.Nodup := hl.nodup List.nodup_nil
    have ha : ∀ t ∈ U, t ∉ G := hl.apart (fun t h => by cases h)
    have hok := finOk hi hU ha
    have hden := DenL.fin hok vs1 vs' ([], []) (U, G) ys hfin (List.prefix_refl _) (fun _ h => h) r2
    refine ⟨_, run_results r1, _, Ωg.fin { Ω0 with yl := none } w.heap.size U, rfl, ?_, one_den hden, ?_⟩
    · exact ⟨hi.kept.os, hi.kept.tape, hi.kept.output, hi.kept.size, fun k hk => hi.kept.block k hk (fun x => x)⟩
    · refine ⟨fun b hlt => ⟨by simp only [Own.fin, if_pos hlt], by simp only [Own.fin, if_pos hlt]⟩, fun b hne => ?_, fun k n hk => ?_⟩
      · by_cases hlt : b < w.heap.size
        · exact Nat.lt_of_lt_of_le hlt hi.kept.size
        · refine hi.bnd b (fun e => hne ?_)
          simp only [Own.fin, if_neg hlt, e]
      · obtain ⟨t, q1, q2⟩ := finL_tks vs1 vs' ([], []) (U, G) hfin (List.prefix_refl _) k n (one_tks hk)
        exact fin_tok hi hbase' hU q1 q2
  · -- ranged over
    subst hargs
    have hrg : ranged (pre ++ V.fn (.y y) [] :: post) = true := ranged_mid
    obtain ⟨hi1, hi2⟩ : ioArg (pre ++ V.fn (.y y) [] :: post) = false ∧ ioTk (pre ++ V.fn (.y y) [] :: post) = [] := by
      cases pre with
      | nil => exact ⟨rfl, rfl⟩
      | cons v vs => exact ⟨pure_ioArg' hp1, pure_ioTk' hp1⟩
    rw [hrg, hi2] at hevc walk
    rw [hrg, hi1] at hres
    simp only [if_true] at hevc walk
    simp only [Bool.false_eq_true, if_false] at hres
    unfold finish at hres
    simp only [if_true] at hres
    split at hres
    case isFalse => cases hres
    rename_i hre
    split at hres
    case h_2 => cases hres
    rename_i tr htr
    injection hres with hres; subst hres
    simp only [itemsOf, itemsL_tups, Option.some.injEq] at hRT
    subst hRT
    have hd' : DenL Ω w (pre ++ V.fn (.y y) [] :: post) (xs ++ Value.func (.yield l) #[] #[] :: zs) := hd1.append (DenL.cons (by simp only [Den, DenL, Fk.Is]; exact ⟨[], ⟨l, hyl, rfl⟩, rfl⟩) hd2)
    refine walk (X := X) (T := tr) (by rw [hd'.length, hlen]) (fun n => inv_start X ho hlm hj hbase hd' n (sl := []) (fun s hs => by cases hs)) (fun d _ => fresh_start hbase d) ⟨hY, .inr hnn, fun _ h => by cases h⟩ (fun l' hl' => by rw [htr] at hl'; injection hl' with hl'; subst hl'; exact List.prefix_refl _) ?_
    intro a' w' Ω' M' A
    have hM : M' = [] := by
      rcases A.same with e | e
      · exact e
      · have := e.1.1 _ _ _ hj; cases this
    subst hM
    rw [A.defers]
    have hi : Inv X w Ω' w' a'.tmps σ' := A.inv.sc rfl rfl rfl fun hj => hj.1
    have hrs0 : rs = [] := List.isEmpty_iff.1 hre
    obtain ⟨ys, r1, r2⟩ := rvs_sound (P := P) hi hrs (vs := []) (by rw [hrs0]; rfl)
    have hj' := hi.out
    rw [htr] at hj'
    exact ⟨_, run_results r1, _, Ω', rfl, hj'⟩
  · -- handed a box
    subst hargs
    have hia : ioArg (V.box cs :: rest) = true := rfl
    have hrg := hior hia
    rw [hrg] at hevc walk
    rw [hia] at hres
    simp only [Bool.false_eq_true, if_false, if_true] at hres hevc walk
    unfold finIo at hres
    split at hres
    case isFalse => cases hres
    rename_i hrs0
    split at hres
    case h_2 => cases hres
    rename_i cs1 hg0
    split at hres
    case h_2 => cases hres
    rename_i cs' us hfin
    simp only [Option.some.injEq] at hres; subst hres
    have trn : σ'.tr = none := (evC_tr b hevc).none rfl
    have hnp : 1 ≤ fn.params.size + fn.nfree := by rw [← hlen]; simp
    refine walk (X := scIo Ω0) (T := []) (by rw [List.length_cons, hdr.length, ← hlen, List.length_cons]) (fun n => inv_startIo hbase hd hheap hio htok hdr n) (fun d hdd => ?_) ⟨⟨fun _ _ h => h.2, fun _ _ _ _ _ _ _ _ _ h => (by have := h.1; cases this)⟩, .inl (plain_scIo _), fun _ h => by cases h⟩ (fun l hl => by rw [trn] at hl; cases hl) ?_
    · have hge := List.all_eq_true.1 k3 d hdd
      simp only [Bool.and_eq_true, decide_eq_true_eq] at hge
      refine ⟨fun c e => ?_, fun c t p e1 e => ?_⟩
      · rcases hbase.o c with q | q | q | q | q | ⟨_, _, q⟩ <;> rw [q] at e <;> try (cases e; done)
        injection e with e; omega
      · rcases hbase.o c with q | q | q | q | q | ⟨k, hk, q⟩ <;> rw [q] at e <;> try (cases e; done)
        injection e with e; omega
    intro a' w' Ω' M' A
    rw [A.defers, List.append_nil]
    refine leaves_marks M' w' A.nodup (fun r hr => (A.inv.out.2 r hr).2) fun w'' ht => ?_
    have hi : Inv (scIo Ω0) w Ω' w'' a'.tmps σ' := inv_taken (plain_scIo _) (Ωs := Ω0) (ws := w) ⟨rfl, hbase.yl⟩ A.low A.inv A.low ht
    have hrs1 : rs = [] := List.isEmpty_iff.1 hrs0.1
    obtain ⟨zs, r1, r2⟩ := rvs_sound (P := P) hi hrs (vs := []) (by rw [hrs1]; rfl)
    simp only [DenL] at r2
    subst r2
    obtain ⟨_, hs0⟩ := hi.slot 0 _ hg0
    simp only [DenS] at hs0
    obtain ⟨c0, xs1, T1, e1, e2, e3, e4, e5⟩ := hs0
    have hkeep := A.keep 0 (not_mem_of_memN hrs0.2)
    rw [e1] at hkeep
    have : b0 = c0 := by
      have hk2 := hkeep.trans (get0 _ _ _)
      injection hk2 with hk2
      injection hk2 with hk2
      injection hk2 with hk2
      exact hk2.symm
    subst this
    obtain ⟨U, G⟩ := us
    have hl := finL_lists cs1 cs' ([], []) (U, G) hfin
    have hU : U.Nodup := hl.nodup List.nodup_nil
    have ha : ∀ t ∈ U, t ∉ G := hl.apart (fun t h => by cases h)
    have hok := finI_ok (Ω := Ω') (w := w'') (b0 := b0) hU ha
    have hden := DenL.fin hok cs1 cs' ([], []) (U, G) xs1 hfin (List.prefix_refl _) (fun _ h => h) e4
    refine ⟨_, run_results r1, _, Ω'.finI b0 U, xs1, T1, cs', .tup [], rfl, rfl, hi.kept, ?_, hden, e3, by simp only [Own.finI, e2, if_true], fun c hlt hm => ?_, fun c hne => hi.bnd c fun e => hne (by simp only [Own.finI, e]), fun k n hk => ?_⟩
    · simp only [Den, DenL]
      exact ⟨[], rfl, rfl⟩
    · obtain ⟨q1, q2⟩ := hi.old c hlt hm
      refine ⟨?_, q2⟩
      simp only [Own.finI, q1]
      show (match Ω0.o c with | .box _ => _ | .arr t p => _ | x => x) = Ω0.o c
      cases ho : Ω0.o c with
      | box s => exact (hm (.inl ⟨s, ho⟩)).elim
      | arr t p => exact (hm (.inr ⟨t, p, ho⟩)).elim
      | _ => rfl
    · obtain ⟨t, q1, q2⟩ := finL_tks cs1 cs' ([], []) (U, G) hfin (List.prefix_refl _) k n hk
      exact finI_tok hi hU q1 q2
end
end Go.Lo
