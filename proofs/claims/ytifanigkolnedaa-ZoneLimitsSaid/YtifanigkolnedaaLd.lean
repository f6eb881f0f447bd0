/- Lists, and what stays true when the world goes on. -/
import Derived.Test.YtifanigkolnedaaLc
namespace Go.Lo

section lists
variable {α : Type}
theorem get_put_same (l : List (Nat × α)) (s : Nat) (v : α) : get (put l s v) s = some v := by
  induction l with
  | nil => simp [put, get]
  | cons p t ih =>
    obtain ⟨k, u⟩ := p
    simp only [put]
    split
    · simp [get]
    · split
      · simp [get]
      · rename_i h _; simp [get, h, ih]
theorem get_put_other (l : List (Nat × α)) (s : Nat) (v : α) (s' : Nat) (h : s ≠ s') : get (put l s v) s' = get l s' := by
  induction l with
  | nil => simp [put, get, h]
  | cons p t ih =>
    obtain ⟨k, u⟩ := p
    simp only [put]
    split
    · rename_i hk; subst hk; simp [get, h]
    · split
      · simp [get, h]
      · simp only [get]; split
        · rfl
        · exact ih
theorem get_put (l : List (Nat × α)) (s : Nat) (v : α) (s' : Nat) : get (put l s v) s' = if s = s' then some v else get l s' := by
  split
  · rename_i h; subst h; exact get_put_same ..
  · rename_i h; exact get_put_other _ _ _ _ h
theorem memN_iff (s : Nat) (l : List Nat) : memN s l = true ↔ s ∈ l := by
  induction l with
  | nil => simp [memN]
  | cons k t ih =>
    simp only [memN, List.mem_cons]
    split
    · rename_i h; simp [h]
    · rename_i h; rw [ih]; exact ⟨fun x => .inr x, fun x => x.resolve_left (fun e => h e.symm)⟩
theorem get_keepL {n : Nat} {ks : List Nat} {l : List (Nat × α)} {s : Nat} {v : α} (h : get (keepL n ks l) s = some v) : get l s = some v := by
  induction l with
  | nil => simp [keepL, get] at h
  | cons p t ih =>
    obtain ⟨k, u⟩ := p
    have key : ∀ l', l' = (k, u) :: keepL n ks t ∨ l' = keepL n ks t ∧ ¬ (k < n) ∧ memN k ks ≠ true → get l' s = some v → get ((k, u) :: t) s = some v := by
      rintro l' (rfl | ⟨rfl, hk1, hk2⟩) h'
      · simp only [get] at h' ⊢
        split
        · rename_i hk; rw [if_pos hk] at h'; exact h'
        · rename_i hk; rw [if_neg hk] at h'; exact ih h'
      · have := ih h'
        simp only [get]
        split
        · rename_i hks
          subst hks
          exfalso
          have hno : ∀ l : List (Nat × α), get (keepL n ks l) k = none := by
            intro l
            induction l with
            | nil => rfl
            | cons q r ihr =>
              obtain ⟨k', u'⟩ := q
              simp only [keepL]
              split
              · rename_i hlt
                simp only [get]; split
                · rename_i e; subst e; exact absurd hlt hk1
                · exact ihr
              · split
                · rename_i hm
                  simp only [get]; split
                  · rename_i e; subst e; exact absurd hm hk2
                  · exact ihr
                · exact ihr
          rw [hno t] at h'; cases h'
        · exact this
    simp only [keepL] at h
    split at h
    · exact key _ (.inl rfl) h
    · split at h
      · exact key _ (.inl rfl) h
      · rename_i h1 h2; exact key _ (.inr ⟨rfl, h1, h2⟩) h
end lists

theorem get_prepF {ds : List Nat} {l : List (Nat × V)} {s : Nat} {v : V} (h : get (prepF ds l) s = some v) : memN s ds = false ∧ ∃ u, get l s = some u ∧ v = u.prep ds := by
  induction l with
  | nil => simp [prepF, get] at h
  | cons p t ih =>
    obtain ⟨k, u⟩ := p
    simp only [prepF] at h
    split at h
    · rename_i hk
      obtain ⟨h1, u', h2, h3⟩ := ih h
      refine ⟨h1, u', ?_, h3⟩
      simp only [get]
      split
      · rename_i e; subst e; rw [hk] at h1; cases h1
      · exact h2
    · rename_i hk
      simp only [get] at h ⊢
      split at h
      · rename_i e; subst e
        simp only [if_true]
        injection h with h
        exact ⟨by simpa using hk, u, rfl, h.symm⟩
      · rename_i e; rw [if_neg e]; exact ih h
theorem get_estF {t n i : Nat} {e : List V} {l : List (Nat × V)} {s : Nat} {v : V} (h : get (estF t n i e l) s = some v) : ∃ u, get l s = some u ∧ v = V.est t n i e u := by
  induction l with
  | nil => simp [estF, get] at h
  | cons p r ih =>
    obtain ⟨k, u⟩ := p
    simp only [estF, get] at h ⊢
    split at h
    · injection h with h; rename_i hk; rw [if_pos hk]; exact ⟨u, rfl, h.symm⟩
    · rename_i hk; rw [if_neg hk]; exact ih h
theorem get_prepT {ds : List Nat} {l : List (Nat × Nat × Bool)} {t : Nat} {x : Nat × Bool} (h : get (prepT ds l) t = some x) : memN (t / 100) ds = false ∧ get l t = some x := by
  induction l with
  | nil => simp [prepT, get] at h
  | cons p r ih =>
    obtain ⟨k, u⟩ := p
    simp only [prepT] at h
    split at h
    · rename_i hk
      obtain ⟨h1, h2⟩ := ih h
      refine ⟨h1, ?_⟩
      simp only [get]
      split
      · rename_i e; subst e; rw [hk] at h1; cases h1
      · exact h2
    · rename_i hk
      simp only [get] at h ⊢
      split at h
      · rename_i e; subst e; simp only [if_true]; exact ⟨by simpa using hk, h⟩
      · rename_i e; rw [if_neg e]; exact ih h
theorem get_protT (ps : List Nat) (l : List (Nat × Nat × Bool)) (t : Nat) : get (protT ps l) t = (get l t).map (fun x => if memN t ps = true then (x.1, false) else x) := by
  induction l with
  | nil => rfl
  | cons p r ih =>
    obtain ⟨k, n, w⟩ := p
    simp only [protT]
    split
    · rename_i hk
      simp only [get]
      split
      · rename_i e; subst e; simp [hk]
      · exact ih
    · rename_i hk
      simp only [get]
      split
      · rename_i e; subst e; simp [hk]
      · exact ih
theorem get_protAll (l : List (Nat × Nat × Bool)) (t : Nat) : get (protAll l) t = (get l t).map (fun x => (x.1, false)) := by
  induction l with
  | nil => rfl
  | cons p r ih =>
    obtain ⟨k, n, w⟩ := p
    simp only [protAll, get]
    split
    · rfl
    · exact ih
theorem get_lenT (t m : Nat) (l : List (Nat × Nat × Bool)) (u : Nat) : get (lenT t m l) u = if u = t then (get l u).map (fun x => (m, x.2)) else get l u := by
  induction l with
  | nil => simp [lenT, get]
  | cons p r ih =>
    obtain ⟨k, n, w⟩ := p
    simp only [lenT]
    split
    · rename_i hk
      subst hk
      simp only [get]
      split
      · rename_i e; subst e; simp
      · rename_i e; rw [if_neg (fun x => e x.symm)]
    · rename_i hk
      simp only [get]
      split
      · rename_i e; subst e; rw [if_neg hk]
      · exact ih

/-- The world goes on: what was settled stays. -/
structure Ext (Ω Ω' : Own) (w w' : World) : Prop where
  froz : ∀ b, Ω.froz b → Ω'.froz b
  frzb : ∀ b, Ω.o b = .frzb → Ω'.frozp b
  arr : ∀ b t p, Ω.o b = .arr t p → ∃ p', Ω'.o b = .arr t p'
  box : ∀ b s, Ω.o b = .box s → Ω'.o b = .box s
  lim : ∀ b, Ω.o b ≠ .out → Ω.lim b ≤ Ω'.lim b
  cell : ∀ b off, Ω.o b ≠ .out → off < Ω.lim b → w'.cell? ⟨b, off, none⟩ = w.cell? ⟨b, off, none⟩
  tsz : ∀ b t p, Ω.o b = .arr t p → Ω'.tsz t = Ω.tsz t
  cur : ∀ b t p c k n, Ω.o b = .arr t p → Ω'.cur t = some (c, k, n) → ∃ c0 k0 n0, Ω.cur t = some (c0, k0, n0) ∧ ((c0 = c ∧ k0 = k ∧ n0 = n) ∨ n0 < n)
  yl : Ω'.yl = Ω.yl

theorem Own.froz_ne {Ω : Own} {b : Nat} (h : Ω.froz b) : Ω.o b ≠ .out := by
  rcases h with h | ⟨t, h⟩ <;> simp [h]
theorem Own.frozp_ne {Ω : Own} {b : Nat} (h : Ω.frozp b) : Ω.o b ≠ .out := by
  rcases h with h | h
  · exact Own.froz_ne h
  · simp [h]
theorem Ext.frozp {Ω Ω' : Own} {w w' : World} (h : Ext Ω Ω' w w') {b : Nat} (hb : Ω.frozp b) : Ω'.frozp b := by
  rcases hb with hb | hb
  · exact .inl (h.froz b hb)
  · exact h.frzb b hb

mutual
theorem Den.ext {Ω Ω' : Own} {w w' : World} (h : Ext Ω Ω' w w') : ∀ (v : V) (x : Value), Den Ω w v x → Den Ω' w' v x
  | .und, _, hd => hd
  | .dead, _, _ => trivial
  | .bool _, _, hd => hd
  | .int _ _, _, hd => hd
  | .agg cs, x, hd => by
    simp only [Den] at hd ⊢
    obtain ⟨xs, h1, h2⟩ := hd
    exact ⟨xs, h1, DenL.ext h cs xs h2⟩
  | .tup cs, x, hd => by
    simp only [Den] at hd ⊢
    obtain ⟨xs, h1, h2⟩ := hd
    exact ⟨xs, h1, DenL.ext h cs xs h2⟩
  | .nil, _, hd => hd
  | .sl none sz es, x, hd => by
    simp only [Den] at hd ⊢
    rcases hd with hd | ⟨b, off, cap, h1, h2, h3⟩
    · exact .inl hd
    · exact .inr ⟨b, off, cap, h1, h.froz b h2, DenE.ext h es sz b off (Own.froz_ne h2) h3⟩
  | .sl (some t) sz es, x, hd => by
    simp only [Den] at hd ⊢
    obtain ⟨b, cap, p, h1, h2, h3, h4, h5⟩ := hd
    obtain ⟨p', h2'⟩ := h.arr b t p h2
    refine ⟨b, cap, p', h1, h2', ?_, ?_, DenE.ext h es sz b 0 (by rw [h2]; simp) h5⟩
    · rw [h3, h.tsz b t p h2]
    · intro c k n hc
      obtain ⟨c0, k0, n0, hc0, hor⟩ := h.cur b t p c k n h2 hc
      have := h4 c0 k0 n0 hc0
      rcases hor with ⟨rfl, rfl, rfl⟩ | hlt
      · exact this
      · exact ⟨by omega, fun e => by omega⟩
  | .fn f cs, x, hd => by
    simp only [Den] at hd ⊢
    obtain ⟨xs, hg, h2⟩ := hd
    exact ⟨xs, by rw [h.yl]; exact hg, DenL.ext h cs xs h2⟩
  | .ref s off, x, hd => by
    simp only [Den] at hd ⊢
    obtain ⟨b, h1, h2⟩ := hd
    exact ⟨b, h1, h.box b s h2⟩
  | .cref cs, x, hd => by
    simp only [Den] at hd ⊢
    obtain ⟨b, off, h1, h2, h3⟩ := hd
    exact ⟨b, off, h1, h.frozp h2, DenC.ext h cs b off (Own.frozp_ne h2) h3⟩
  | .eref t n i off cs, x, hd => by
    simp only [Den] at hd ⊢
    obtain ⟨b, p, h1, h2, h3, h4, h5, h5', h6⟩ := hd
    obtain ⟨p', h2'⟩ := h.arr b t p h2
    have hz := h.tsz b t p h2
    refine ⟨b, p', by rw [hz]; exact h1, h2', h3, ?_, by rw [hz]; exact h5, h5', by rw [hz]; exact DenC.ext h cs b _ (by rw [h2]; simp) h6⟩
    intro c k m hc
    obtain ⟨c0, k0, n0, hc0, hor⟩ := h.cur b t p c k m h2 hc
    have := h4 c0 k0 n0 hc0
    rcases hor with ⟨rfl, rfl, rfl⟩ | hlt
    · exact this
    · exact ⟨by omega, fun e => by omega⟩
  | .box _, _, hd => hd
theorem DenL.ext {Ω Ω' : Own} {w w' : World} (h : Ext Ω Ω' w w') : ∀ (vs : List V) (xs : List Value), DenL Ω w vs xs → DenL Ω' w' vs xs
  | [], _, hd => hd
  | v :: vs, xs, hd => by
    simp only [DenL] at hd ⊢
    obtain ⟨x, ys, h1, h2, h3⟩ := hd
    exact ⟨x, ys, h1, Den.ext h v x h2, DenL.ext h vs ys h3⟩
theorem DenC.ext {Ω Ω' : Own} {w w' : World} (h : Ext Ω Ω' w w') : ∀ (vs : List V) (b off : Nat), Ω.o b ≠ .out → DenC Ω w vs b off → DenC Ω' w' vs b off
  | [], _, _, _, _ => trivial
  | v :: vs, b, off, hb, hd => by
    simp only [DenC] at hd ⊢
    obtain ⟨⟨x, h1, h2, h3, h4, h5⟩, h6⟩ := hd
    refine ⟨⟨x, Nat.lt_of_lt_of_le h1 (h.lim b hb), (h.cell b off hb h1).trans h2, h3, h4, Den.ext h v x h5⟩, DenC.ext h vs b (off + 1) hb h6⟩
theorem DenE.ext {Ω Ω' : Own} {w w' : World} (h : Ext Ω Ω' w w') : ∀ (es : List (List V)) (sz b off : Nat), Ω.o b ≠ .out → DenE Ω w es sz b off → DenE Ω' w' es sz b off
  | [], _, _, _, _, _ => trivial
  | cs :: es, sz, b, off, hb, hd => by
    simp only [DenE] at hd ⊢
    exact ⟨hd.1, hd.2.1, DenC.ext h cs b off hb hd.2.2.1, DenE.ext h es sz b (off + sz) hb hd.2.2.2⟩
end
end Go.Lo
