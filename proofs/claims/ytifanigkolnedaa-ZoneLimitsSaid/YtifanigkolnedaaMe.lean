/- What a function gives back. -/
import Derived.Test.YtifanigkolnedaaMd
namespace Go.Lo
section
variable {w : World} {Ω Ω1 : Own} {tk : List (Nat × Nat × Bool)}

def posN (t : Nat) : List Nat → Option Nat
  | [] => none
  | x :: xs => if x = t then some 0 else (posN t xs).map (· + 1)
theorem posN_get : ∀ {l : List Nat} {t k : Nat}, posN t l = some k → l[k]? = some t
  | x :: xs, t, k, h => by
    simp only [posN] at h
    split at h
    · rename_i e; injection h with h; subst h; subst e; rfl
    · cases hp : posN t xs with
      | none => rw [hp] at h; cases h
      | some j =>
        rw [hp] at h
        simp only [Option.map_some, Option.some.injEq] at h; subst h
        simpa using posN_get hp
theorem posN_of : ∀ {l : List Nat} {t k : Nat}, l.Nodup → l[k]? = some t → posN t l = some k
  | x :: xs, t, 0, hn, h => by simp only [List.getElem?_cons_zero, Option.some.injEq] at h; simp [posN, h]
  | x :: xs, t, k + 1, hn, h => by
    simp only [List.getElem?_cons_succ] at h
    have hne : x ≠ t := fun e => (List.nodup_cons.1 hn).1 (e ▸ List.mem_of_getElem? h)
    simp only [posN, if_neg hne, posN_of (List.nodup_cons.1 hn).2 h, Option.map_some]
/-- The own map for the caller. 'U': the arrays that are given with their ownership. -/
def Own.fin (Ω B : Own) (n0 : Nat) (U : List Nat) : Own where
  o b := if b < n0 then B.o b else match Ω.o b with
    | .arr t p => (match posN t U with
      | some k => .arr k p
      | none => .frz)
    | .frz => .frz
    | _ => .out
  lim b := if b < n0 then B.lim b else Ω.lim b
  cur k := match U[k]? with
    | some t => Ω.cur t
    | none => none
  tsz k := match U[k]? with
    | some t => Ω.tsz t
    | none => 0
/-- Threading: what was listed stays listed; nothing is listed twice. -/
structure Lists (us us' : List Nat × List Nat) : Prop where
  pre : us.1 <+: us'.1
  sub : ∀ t ∈ us.2, t ∈ us'.2
  nodup : us.1.Nodup → us'.1.Nodup
  apart : (∀ t ∈ us.1, t ∉ us.2) → ∀ t ∈ us'.1, t ∉ us'.2
theorem Lists.refl (us : List Nat × List Nat) : Lists us us := ⟨List.prefix_refl _, fun _ h => h, fun h => h, fun h => h⟩
theorem Lists.trans {a b c : List Nat × List Nat} (h : Lists a b) (k : Lists b c) : Lists a c :=
  ⟨h.pre.trans k.pre, fun t ht => k.sub t (h.sub t ht), fun x => k.nodup (h.nodup x), fun x => k.apart (h.apart x)⟩
mutual
theorem fin_lists : ∀ (v v' : V) (us us' : List Nat × List Nat), v.fin tk us = some (v', us') → Lists us us'
  | .bool _, v', us, us', h => by simp only [V.fin, Option.some.injEq, Prod.mk.injEq] at h; rw [← h.2]; exact Lists.refl us
  | .int _ _, v', us, us', h => by simp only [V.fin, Option.some.injEq, Prod.mk.injEq] at h; rw [← h.2]; exact Lists.refl us
  | .nil, v', us, us', h => by simp only [V.fin, Option.some.injEq, Prod.mk.injEq] at h; rw [← h.2]; exact Lists.refl us
  | .sl none _ _, v', us, us', h => by simp only [V.fin, Option.some.injEq, Prod.mk.injEq] at h; rw [← h.2]; exact Lists.refl us
  | .sl (some t) sz es, v', (us, gs), us', h => by
    simp only [V.fin] at h
    split at h
    · cases h
    · rename_i hu
      have hu : t ∉ us := not_mem_of_memN (by simpa using hu)
      split at h
      · rename_i hc
        simp only [Option.some.injEq, Prod.mk.injEq] at h
        rw [← h.2]
        refine ⟨List.prefix_append _ _, fun _ h => h, fun hn => ?_, fun ha s hs => ?_⟩
        · rw [List.nodup_append]
          refine ⟨hn, by simp, fun a ha b hb e => ?_⟩
          rw [List.mem_singleton] at hb
          subst hb; subst e
          exact hu ha
        · rcases List.mem_append.1 hs with hs | hs
          · exact ha s hs
          · rw [List.mem_singleton] at hs; subst hs
            exact not_mem_of_memN hc.2
      · simp only [Option.some.injEq, Prod.mk.injEq] at h
        rw [← h.2]
        refine ⟨List.prefix_refl _, fun s hs => List.mem_cons_of_mem _ hs, fun hn => hn, fun ha s hs => ?_⟩
        intro hm
        rcases List.mem_cons.1 hm with rfl | hm
        · exact hu hs
        · exact ha s hs hm
  | .agg cs, v', us, us', h => by
    simp only [V.fin] at h
    split at h
    · rename_i cs' us2 h2
      simp only [Option.some.injEq, Prod.mk.injEq] at h
      rw [← h.2]
      exact finL_lists cs cs' us us2 h2
    · cases h
  | .und, v', us, us', h => by simp [V.fin] at h
  | .dead, v', us, us', h => by simp [V.fin] at h
  | .tup _, v', us, us', h => by simp [V.fin] at h
  | .fn _ _, v', us, us', h => by simp [V.fin] at h
  | .ref _ _, v', us, us', h => by simp [V.fin] at h
  | .cref _, v', us, us', h => by simp [V.fin] at h
  | .eref _ _ _ _ _, v', us, us', h => by simp [V.fin] at h
  | .box _, v', us, us', h => by simp [V.fin] at h
theorem finL_lists : ∀ (vs vs' : List V) (us us' : List Nat × List Nat), finL tk vs us = some (vs', us') → Lists us us'
  | [], vs', us, us', h => by simp only [finL, Option.some.injEq, Prod.mk.injEq] at h; rw [← h.2]; exact Lists.refl us
  | v :: vs, vs', us, us', h => by
    simp only [finL] at h
    split at h
    · rename_i v' us1 h1
      split at h
      · rename_i vs2 us2 h2
        simp only [Option.some.injEq, Prod.mk.injEq] at h
        rw [← h.2]
        exact (fin_lists v v' us us1 h1).trans (finL_lists vs vs2 us1 us2 h2)
      · cases h
    · cases h
end
/-- What must be known of the two own maps. -/
structure FinOk (Ω Ω1 : Own) (w : World) (U G : List Nat) : Prop where
  ext : ExtM Ω Ω1 w w
  lim : ∀ b t p, Ω.o b = .arr t p → Ω.lim b = Ω1.lim b
  own : ∀ b t p k, Ω.o b = .arr t p → U[k]? = some t → Ω1.o b = .arr k p ∧ Ω1.tsz k = Ω.tsz t ∧ Ω1.cur k = Ω.cur t
  give : ∀ b t p, Ω.o b = .arr t p → t ∈ G → Ω1.froz b
mutual
theorem Den.fin {U G : List Nat} (hf : FinOk Ω Ω1 w U G) : ∀ (v v' : V) (us us' : List Nat × List Nat) (x : Value), v.fin tk us = some (v', us') → us'.1 <+: U → (∀ t ∈ us'.2, t ∈ G) → Den Ω w v x → Den Ω1 w v' x
  | .bool _, v', us, us', x, h, _, _, hd => by simp only [V.fin, Option.some.injEq, Prod.mk.injEq] at h; rw [← h.1]; exact hd
  | .int _ _, v', us, us', x, h, _, _, hd => by simp only [V.fin, Option.some.injEq, Prod.mk.injEq] at h; rw [← h.1]; exact hd
  | .nil, v', us, us', x, h, _, _, hd => by simp only [V.fin, Option.some.injEq, Prod.mk.injEq] at h; rw [← h.1]; exact hd
  | .sl none sz es, v', us, us', x, h, _, _, hd => by
    simp only [V.fin, Option.some.injEq, Prod.mk.injEq] at h; rw [← h.1]
    exact Den.extM hf.ext _ _ rfl hd
  | .sl (some t) sz es, v', (us, gs), us', x, h, hp, hg, hd => by
    simp only [V.fin] at h
    simp only [Den] at hd
    obtain ⟨b, cap, p, h1, h2, h3, h4, h5⟩ := hd
    have hE : DenE Ω1 w es sz b 0 := DenE.extM hf.ext es sz b 0 (Nat.le_of_eq (hf.lim b t p h2)) (fun _ _ => rfl) h5
    split at h
    · cases h
    · split at h
      · simp only [Option.some.injEq, Prod.mk.injEq] at h
        obtain ⟨rfl, rfl⟩ := h
        have hk : U[us.length]? = some t := by
          obtain ⟨r, rfl⟩ := hp
          simp
        obtain ⟨g1, g2, g3⟩ := hf.own b t p us.length h2 hk
        simp only [Den]
        exact ⟨b, cap, p, h1, g1, by rw [g2]; exact h3, by rw [g3]; exact h4, hE⟩
      · simp only [Option.some.injEq, Prod.mk.injEq] at h
        obtain ⟨rfl, rfl⟩ := h
        simp only [Den]
        exact .inr ⟨b, 0, cap, h1, hf.give b t p h2 (hg t (by simp)), hE⟩
  | .agg cs, v', us, us', x, h, hp, hg, hd => by
    simp only [V.fin] at h
    split at h
    · rename_i cs' us2 h2
      simp only [Option.some.injEq, Prod.mk.injEq] at h
      obtain ⟨rfl, rfl⟩ := h
      simp only [Den] at hd ⊢
      obtain ⟨xs, h3, h4⟩ := hd
      exact ⟨xs, h3, DenL.fin hf cs cs' us us2 xs h2 hp hg h4⟩
    · cases h
  | .und, v', us, us', x, h, _, _, _ => by simp [V.fin] at h
  | .dead, v', us, us', x, h, _, _, _ => by simp [V.fin] at h
  | .tup _, v', us, us', x, h, _, _, _ => by simp [V.fin] at h
  | .fn _ _, v', us, us', x, h, _, _, _ => by simp [V.fin] at h
  | .ref _ _, v', us, us', x, h, _, _, _ => by simp [V.fin] at h
  | .cref _, v', us, us', x, h, _, _, _ => by simp [V.fin] at h
  | .eref _ _ _ _ _, v', us, us', x, h, _, _, _ => by simp [V.fin] at h
  | .box _, v', us, us', x, h, _, _, _ => by simp [V.fin] at h
theorem DenL.fin {U G : List Nat} (hf : FinOk Ω Ω1 w U G) : ∀ (vs vs' : List V) (us us' : List Nat × List Nat) (xs : List Value), finL tk vs us = some (vs', us') → us'.1 <+: U → (∀ t ∈ us'.2, t ∈ G) → DenL Ω w vs xs → DenL Ω1 w vs' xs
  | [], vs', us, us', xs, h, _, _, hd => by
    simp only [finL, Option.some.injEq, Prod.mk.injEq] at h; rw [← h.1]
    simpa [DenL] using hd
  | v :: vs, vs', us, us', xs, h, hp, hg, hd => by
    simp only [finL] at h
    split at h
    · rename_i v' us1 h1
      split at h
      · rename_i vs2 us2 h2
        simp only [Option.some.injEq, Prod.mk.injEq] at h
        obtain ⟨rfl, rfl⟩ := h
        simp only [DenL] at hd
        obtain ⟨x, ys, rfl, h3, h4⟩ := hd
        have hl := finL_lists vs vs2 us1 us2 h2
        exact DenL.cons (Den.fin hf v v' us us1 x h1 (hl.pre.trans hp) (fun t ht => hg t (hl.sub t ht)) h3) (DenL.fin hf vs vs2 us1 us2 ys h2 hp hg h4)
      · cases h
    · cases h
end
mutual
/-- The arrays of what is given back. -/
theorem fin_tks {U : List Nat} : ∀ (v v' : V) (us us' : List Nat × List Nat), v.fin tk us = some (v', us') → us'.1 <+: U → ∀ k n, (k, n) ∈ v'.tks → ∃ t, U[k]? = some t ∧ get tk t = some (n, true)
  | .bool _, v', us, us', h, _, k, n, hk => by simp only [V.fin, Option.some.injEq, Prod.mk.injEq] at h; rw [← h.1] at hk; simp [V.tks] at hk
  | .int _ _, v', us, us', h, _, k, n, hk => by simp only [V.fin, Option.some.injEq, Prod.mk.injEq] at h; rw [← h.1] at hk; simp [V.tks] at hk
  | .nil, v', us, us', h, _, k, n, hk => by simp only [V.fin, Option.some.injEq, Prod.mk.injEq] at h; rw [← h.1] at hk; simp [V.tks] at hk
  | .sl none _ _, v', us, us', h, _, k, n, hk => by simp only [V.fin, Option.some.injEq, Prod.mk.injEq] at h; rw [← h.1] at hk; simp [V.tks] at hk
  | .sl (some t) sz es, v', (us, gs), us', h, hp, k, n, hk => by
    simp only [V.fin] at h
    split at h
    · cases h
    · split at h
      · rename_i hc
        simp only [Option.some.injEq, Prod.mk.injEq] at h
        obtain ⟨rfl, rfl⟩ := h
        simp only [V.tks, List.mem_singleton, Prod.mk.injEq] at hk
        obtain ⟨rfl, rfl⟩ := hk
        obtain ⟨r, rfl⟩ := hp
        exact ⟨t, by simp, hc.1⟩
      · simp only [Option.some.injEq, Prod.mk.injEq] at h
        obtain ⟨rfl, rfl⟩ := h
        simp [V.tks] at hk
  | .agg cs, v', us, us', h, hp, k, n, hk => by
    simp only [V.fin] at h
    split at h
    · rename_i cs' us2 h2
      simp only [Option.some.injEq, Prod.mk.injEq] at h
      obtain ⟨rfl, rfl⟩ := h
      exact finL_tks cs cs' us us2 h2 hp k n (by simpa [V.tks] using hk)
    · cases h
  | .und, v', us, us', h, _, _, _, _ => by simp [V.fin] at h
  | .dead, v', us, us', h, _, _, _, _ => by simp [V.fin] at h
  | .tup _, v', us, us', h, _, _, _, _ => by simp [V.fin] at h
  | .fn _ _, v', us, us', h, _, _, _, _ => by simp [V.fin] at h
  | .ref _ _, v', us, us', h, _, _, _, _ => by simp [V.fin] at h
  | .cref _, v', us, us', h, _, _, _, _ => by simp [V.fin] at h
  | .eref _ _ _ _ _, v', us, us', h, _, _, _, _ => by simp [V.fin] at h
  | .box _, v', us, us', h, _, _, _, _ => by simp [V.fin] at h
theorem finL_tks {U : List Nat} : ∀ (vs vs' : List V) (us us' : List Nat × List Nat), finL tk vs us = some (vs', us') → us'.1 <+: U → ∀ k n, (k, n) ∈ tksL vs' → ∃ t, U[k]? = some t ∧ get tk t = some (n, true)
  | [], vs', us, us', h, _, k, n, hk => by
    simp only [finL, Option.some.injEq, Prod.mk.injEq] at h; rw [← h.1] at hk
    simp [tksL] at hk
  | v :: vs, vs', us, us', h, hp, k, n, hk => by
    simp only [finL] at h
    split at h
    · rename_i v' us1 h1
      split at h
      · rename_i vs2 us2 h2
        simp only [Option.some.injEq, Prod.mk.injEq] at h
        obtain ⟨rfl, rfl⟩ := h
        simp only [tksL, List.mem_append] at hk
        rcases hk with hk | hk
        · exact fin_tks v v' us us1 h1 ((finL_lists vs vs2 us1 us2 h2).pre.trans hp) k n hk
        · exact finL_tks vs vs2 us1 us2 h2 hp k n hk
      · cases h
    · cases h
end
end
end Go.Lo
