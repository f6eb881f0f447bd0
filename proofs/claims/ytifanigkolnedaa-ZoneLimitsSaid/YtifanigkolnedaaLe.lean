/- More of the relation: pure values, parts, freezing. -/
import Derived.Test.YtifanigkolnedaaLd
namespace Go.Lo

/-! ### Pure values alone -/
structure ExtP (Ω Ω' : Own) (w w' : World) : Prop where
  froz : ∀ b, Ω.froz b → Ω'.froz b
  frzb : ∀ b, Ω.o b = .frzb → Ω'.frozp b
  lim : ∀ b, Ω.frozp b → Ω.lim b ≤ Ω'.lim b
  cell : ∀ b off, Ω.frozp b → off < Ω.lim b → w'.cell? ⟨b, off, none⟩ = w.cell? ⟨b, off, none⟩
theorem ExtP.frozp {Ω Ω' : Own} {w w' : World} (h : ExtP Ω Ω' w w') {b : Nat} (hb : Ω.frozp b) : Ω'.frozp b := by
  rcases hb with hb | hb
  · exact .inl (h.froz b hb)
  · exact h.frzb b hb
theorem Ext.toP {Ω Ω' : Own} {w w' : World} (h : Ext Ω Ω' w w') : ExtP Ω Ω' w w' :=
  ⟨h.froz, h.frzb, fun b hb => h.lim b (Own.frozp_ne hb), fun b off hb => h.cell b off (Own.frozp_ne hb)⟩

mutual
theorem Den.extP {Ω Ω' : Own} {w w' : World} (h : ExtP Ω Ω' w w') : ∀ (v : V) (x : Value), v.pure = true → Den Ω w v x → Den Ω' w' v x
  | .und, _, hp, _ => by simp [V.pure] at hp
  | .dead, _, _, _ => trivial
  | .bool _, _, _, hd => hd
  | .int _ _, _, _, hd => hd
  | .agg cs, x, hp, hd => by
    simp only [Den] at hd ⊢
    obtain ⟨xs, h1, h2⟩ := hd
    exact ⟨xs, h1, DenL.extP h cs xs (by simpa [V.pure] using hp) h2⟩
  | .tup cs, x, hp, hd => by simp [V.pure] at hp
  | .nil, _, _, hd => hd
  | .sl none sz es, x, _, hd => by
    simp only [Den] at hd ⊢
    rcases hd with hd | ⟨b, off, cap, h1, h2, h3⟩
    · exact .inl hd
    · exact .inr ⟨b, off, cap, h1, h.froz b h2, DenE.extP h es sz b off (h.lim b (.inl h2)) (fun o => h.cell b o (.inl h2)) h3⟩
  | .sl (some t) sz es, x, hp, hd => by simp [V.pure] at hp
  | .fn (.f n) cs, x, hp, hd => by
    simp only [Den] at hd ⊢
    obtain ⟨xs, hg, h2⟩ := hd
    exact ⟨xs, hg, DenL.extP h cs xs (by simpa [V.pure] using hp) h2⟩
  | .fn (.m n) cs, x, hp, hd => by
    simp only [Den] at hd ⊢
    obtain ⟨xs, hg, h2⟩ := hd
    exact ⟨xs, hg, DenL.extP h cs xs (by simpa [V.pure] using hp) h2⟩
  | .fn (.y _) cs, x, hp, hd => by simp [V.pure] at hp
  | .ref s off, x, hp, hd => by simp [V.pure] at hp
  | .cref cs, x, _, hd => by
    simp only [Den] at hd ⊢
    obtain ⟨b, off, h1, h2, h3⟩ := hd
    exact ⟨b, off, h1, h.frozp h2, DenC.extP h cs b off (h.lim b h2) (fun o => h.cell b o h2) h3⟩
  | .eref t n i off cs, x, hp, hd => by simp [V.pure] at hp
  | .box _, _, hp, hd => by simp [V.pure] at hp
theorem DenL.extP {Ω Ω' : Own} {w w' : World} (h : ExtP Ω Ω' w w') : ∀ (vs : List V) (xs : List Value), pureL vs = true → DenL Ω w vs xs → DenL Ω' w' vs xs
  | [], _, _, hd => hd
  | v :: vs, xs, hp, hd => by
    simp only [DenL] at hd ⊢
    simp only [pureL] at hp
    split at hp
    · rename_i hv
      obtain ⟨x, ys, h1, h2, h3⟩ := hd
      exact ⟨x, ys, h1, Den.extP h v x hv h2, DenL.extP h vs ys hp h3⟩
    · cases hp
theorem DenC.extP {Ω Ω' : Own} {w w' : World} (h : ExtP Ω Ω' w w') : ∀ (vs : List V) (b off : Nat), Ω.lim b ≤ Ω'.lim b → (∀ o, o < Ω.lim b → w'.cell? ⟨b, o, none⟩ = w.cell? ⟨b, o, none⟩) → DenC Ω w vs b off → DenC Ω' w' vs b off
  | [], _, _, _, _, _ => trivial
  | v :: vs, b, off, hb, hc, hd => by
    simp only [DenC] at hd ⊢
    obtain ⟨⟨x, h1, h2, h3, h4, h5⟩, h6⟩ := hd
    exact ⟨⟨x, Nat.lt_of_lt_of_le h1 hb, (hc off h1).trans h2, h3, h4, Den.extP h v x h3 h5⟩, DenC.extP h vs b (off + 1) hb hc h6⟩
theorem DenE.extP {Ω Ω' : Own} {w w' : World} (h : ExtP Ω Ω' w w') : ∀ (es : List (List V)) (sz b off : Nat), Ω.lim b ≤ Ω'.lim b → (∀ o, o < Ω.lim b → w'.cell? ⟨b, o, none⟩ = w.cell? ⟨b, o, none⟩) → DenE Ω w es sz b off → DenE Ω' w' es sz b off
  | [], _, _, _, _, _, _ => trivial
  | cs :: es, sz, b, off, hb, hc, hd => by
    simp only [DenE] at hd ⊢
    exact ⟨hd.1, hd.2.1, DenC.extP h cs b off hb hc hd.2.2.1, DenE.extP h es sz b (off + sz) hb hc hd.2.2.2⟩
end

/-! ### What lies in arrays -/
structure ExtM (Ω Ω' : Own) (w w' : World) : Prop where
  froz : ∀ b, Ω.froz b → Ω'.froz b
  lim : ∀ b, Ω.froz b → Ω.lim b ≤ Ω'.lim b
  cell : ∀ b off, Ω.froz b → off < Ω.lim b → w'.cell? ⟨b, off, none⟩ = w.cell? ⟨b, off, none⟩
mutual
theorem Den.extM {Ω Ω' : Own} {w w' : World} (h : ExtM Ω Ω' w w') : ∀ (v : V) (x : Value), v.pm = true → Den Ω w v x → Den Ω' w' v x
  | .und, _, hp, _ => by simp [V.pm] at hp
  | .dead, _, _, _ => trivial
  | .bool _, _, _, hd => hd
  | .int _ _, _, _, hd => hd
  | .agg cs, x, hp, hd => by simp [V.pm] at hp
  | .tup cs, x, hp, hd => by simp [V.pm] at hp
  | .nil, _, _, hd => hd
  | .sl none sz es, x, _, hd => by
    simp only [Den] at hd ⊢
    rcases hd with hd | ⟨b, off, cap, h1, h2, h3⟩
    · exact .inl hd
    · exact .inr ⟨b, off, cap, h1, h.froz b h2, DenE.extM h es sz b off (h.lim b h2) (fun o => h.cell b o h2) h3⟩
  | .sl (some t) sz es, x, hp, hd => by simp [V.pm] at hp
  | .fn f cs, x, hp, hd => by
    cases f with
    | y a => simp [V.pm] at hp
    | m a => simp [V.pm] at hp
    | f n => cases cs with
      | nil => simp only [Den, DenL] at hd ⊢; exact hd
      | cons c cs => simp [V.pm] at hp
  | .ref s off, x, hp, hd => by simp [V.pm] at hp
  | .cref cs, x, hp, hd => by simp [V.pm] at hp
  | .eref t n i off cs, x, hp, hd => by simp [V.pm] at hp
  | .box _, _, hp, hd => by simp [V.pm] at hp
theorem DenC.extM {Ω Ω' : Own} {w w' : World} (h : ExtM Ω Ω' w w') : ∀ (vs : List V) (b off : Nat), Ω.lim b ≤ Ω'.lim b → (∀ o, o < Ω.lim b → w'.cell? ⟨b, o, none⟩ = w.cell? ⟨b, o, none⟩) → vs.all V.pm = true → DenC Ω w vs b off → DenC Ω' w' vs b off
  | [], _, _, _, _, _, _ => trivial
  | v :: vs, b, off, hb, hc, hp, hd => by
    simp only [DenC] at hd ⊢
    simp only [List.all_cons, Bool.and_eq_true] at hp
    obtain ⟨⟨x, h1, h2, h3, h4, h5⟩, h6⟩ := hd
    exact ⟨⟨x, Nat.lt_of_lt_of_le h1 hb, (hc off h1).trans h2, h3, h4, Den.extM h v x hp.1 h5⟩, DenC.extM h vs b (off + 1) hb hc hp.2 h6⟩
theorem DenE.extM {Ω Ω' : Own} {w w' : World} (h : ExtM Ω Ω' w w') : ∀ (es : List (List V)) (sz b off : Nat), Ω.lim b ≤ Ω'.lim b → (∀ o, o < Ω.lim b → w'.cell? ⟨b, o, none⟩ = w.cell? ⟨b, o, none⟩) → DenE Ω w es sz b off → DenE Ω' w' es sz b off
  | [], _, _, _, _, _, _ => trivial
  | cs :: es, sz, b, off, hb, hc, hd => by
    simp only [DenE] at hd ⊢
    exact ⟨hd.1, hd.2.1, DenC.extM h cs b off hb hc hd.2.1 hd.2.2.1, DenE.extM h es sz b (off + sz) hb hc hd.2.2.2⟩
end
/-- Numbers and truth values say the same everywhere. -/
theorem DenC.flat {Ω Ω' : Own} {w w' : World} : ∀ (vs : List V) (b off : Nat), Ω.lim b ≤ Ω'.lim b → (∀ o, o < Ω.lim b → w'.cell? ⟨b, o, none⟩ = w.cell? ⟨b, o, none⟩) → vs.all V.flat = true → DenC Ω w vs b off → DenC Ω' w' vs b off
  | [], _, _, _, _, _, _ => trivial
  | v :: vs, b, off, hb, hc, hp, hd => by
    simp only [DenC] at hd ⊢
    simp only [List.all_cons, Bool.and_eq_true] at hp
    obtain ⟨⟨x, h1, h2, h3, h4, h5⟩, h6⟩ := hd
    refine ⟨⟨x, Nat.lt_of_lt_of_le h1 hb, (hc off h1).trans h2, h3, h4, ?_⟩, DenC.flat vs b (off + 1) hb hc hp.2 h6⟩
    cases v <;> first | exact h5 | (simp [V.flat] at hp)
theorem DenE.flat {Ω Ω' : Own} {w w' : World} : ∀ (es : List (List V)) (sz b off : Nat), Ω.lim b ≤ Ω'.lim b → (∀ o, o < Ω.lim b → w'.cell? ⟨b, o, none⟩ = w.cell? ⟨b, o, none⟩) → flatE es = true → DenE Ω w es sz b off → DenE Ω' w' es sz b off
  | [], _, _, _, _, _, _, _ => trivial
  | cs :: es, sz, b, off, hb, hc, hp, hd => by
    simp only [DenE] at hd ⊢
    simp only [flatE, List.all_cons, Bool.and_eq_true] at hp
    exact ⟨hd.1, hd.2.1, DenC.flat cs b off hb hc hp.1 hd.2.2.1, DenE.flat es sz b (off + sz) hb hc hp.2 hd.2.2.2⟩

/-! ### Parts -/
section parts
variable {Ω : Own} {w : World}
theorem DenL.length : ∀ {vs : List V} {xs : List Value}, DenL Ω w vs xs → xs.length = vs.length
  | [], xs, h => by simp only [DenL] at h; simp [h]
  | v :: vs, xs, h => by
    simp only [DenL] at h
    obtain ⟨x, ys, rfl, _, h3⟩ := h
    simp [DenL.length h3]
theorem DenL.get : ∀ {vs : List V} {xs : List Value}, DenL Ω w vs xs → ∀ {i : Nat} {v : V}, vs[i]? = some v → ∃ x, xs[i]? = some x ∧ Den Ω w v x
  | [], _, _, i, v, hi => by simp at hi
  | u :: vs, xs, h, i, v, hi => by
    simp only [DenL] at h
    obtain ⟨x, ys, rfl, h2, h3⟩ := h
    cases i with
    | zero => simp at hi; subst hi; exact ⟨x, rfl, h2⟩
    | succ i => simp at hi ⊢; exact DenL.get h3 hi
theorem DenL.append : ∀ {vs us : List V} {xs ys : List Value}, DenL Ω w vs xs → DenL Ω w us ys → DenL Ω w (vs ++ us) (xs ++ ys)
  | [], us, xs, ys, h, h' => by simp only [DenL] at h; subst h; simpa using h'
  | v :: vs, us, xs, ys, h, h' => by
    simp only [DenL] at h
    obtain ⟨x, zs, rfl, h2, h3⟩ := h
    simp only [List.cons_append, DenL]
    exact ⟨x, zs ++ ys, rfl, h2, DenL.append h3 h'⟩
theorem DenL.drop : ∀ {vs : List V} {xs : List Value}, DenL Ω w vs xs → ∀ n, DenL Ω w (vs.drop n) (xs.drop n)
  | [], xs, h, n => by simp only [DenL] at h; subst h; simp [DenL]
  | v :: vs, xs, h, n => by
    cases n with
    | zero => simpa using h
    | succ n =>
      simp only [DenL] at h
      obtain ⟨x, ys, rfl, _, h3⟩ := h
      simpa using DenL.drop h3 n
theorem DenL.take : ∀ {vs : List V} {xs : List Value}, DenL Ω w vs xs → ∀ n, DenL Ω w (vs.take n) (xs.take n)
  | [], xs, h, n => by simp only [DenL] at h; subst h; simp [DenL]
  | v :: vs, xs, h, n => by
    cases n with
    | zero => simp [DenL]
    | succ n =>
      simp only [DenL] at h
      obtain ⟨x, ys, rfl, h2, h3⟩ := h
      simp only [List.take_succ_cons, DenL]
      exact ⟨x, _, rfl, h2, DenL.take h3 n⟩
theorem DenL.cons {v : V} {vs : List V} {x : Value} {xs : List Value} (h : Den Ω w v x) (h' : DenL Ω w vs xs) : DenL Ω w (v :: vs) (x :: xs) := by
  simp only [DenL]; exact ⟨x, xs, rfl, h, h'⟩
theorem DenL.nil : DenL Ω w [] [] := by simp [DenL]
theorem DenC.get : ∀ {vs : List V} {b off : Nat}, DenC Ω w vs b off → ∀ {i : Nat} {v : V}, vs[i]? = some v → ∃ x, off + i < Ω.lim b ∧ w.cell? ⟨b, off + i, none⟩ = some x ∧ v.pure = true ∧ v.cellOk = true ∧ Den Ω w v x
  | [], _, _, _, i, v, hi => by simp at hi
  | u :: vs, b, off, h, i, v, hi => by
    simp only [DenC] at h
    cases i with
    | zero => simp at hi; subst hi; exact h.1
    | succ i =>
      simp at hi
      obtain ⟨x, h1⟩ := DenC.get h.2 hi
      refine ⟨x, ?_⟩
      rw [show off + (i + 1) = off + 1 + i by omega]
      exact h1
theorem DenC.drop : ∀ {vs : List V} {b off : Nat}, DenC Ω w vs b off → ∀ n, DenC Ω w (vs.drop n) b (off + n)
  | [], b, off, h, n => by simp [DenC]
  | v :: vs, b, off, h, n => by
    cases n with
    | zero => simpa using h
    | succ n =>
      simp only [DenC] at h
      have := DenC.drop h.2 n
      simpa [Nat.add_assoc, Nat.add_comm 1 n] using this
theorem DenC.take : ∀ {vs : List V} {b off : Nat}, DenC Ω w vs b off → ∀ n, DenC Ω w (vs.take n) b off
  | [], b, off, h, n => by simp [DenC]
  | v :: vs, b, off, h, n => by
    cases n with
    | zero => simp [DenC]
    | succ n =>
      simp only [DenC, List.take_succ_cons] at h ⊢
      exact ⟨h.1, DenC.take h.2 n⟩
theorem DenE.get : ∀ {es : List (List V)} {sz b off : Nat}, DenE Ω w es sz b off → ∀ {i : Nat} {cs : List V}, es[i]? = some cs → cs.length = sz ∧ cs.all V.pm = true ∧ DenC Ω w cs b (off + i * sz)
  | [], _, _, _, _, i, v, hi => by simp at hi
  | u :: es, sz, b, off, h, i, cs, hi => by
    simp only [DenE] at h
    cases i with
    | zero => simp only [List.getElem?_cons_zero, Option.some.injEq] at hi; subst hi; rw [Nat.zero_mul]; exact ⟨h.1, h.2.1, h.2.2.1⟩
    | succ i =>
      simp at hi
      have := DenE.get h.2.2.2 hi
      rw [show off + (i + 1) * sz = off + sz + i * sz by rw [Nat.add_mul]; omega]
      exact this
theorem DenE.drop : ∀ {es : List (List V)} {sz b off : Nat}, DenE Ω w es sz b off → ∀ n, DenE Ω w (es.drop n) sz b (off + n * sz)
  | [], sz, b, off, h, n => by simp [DenE]
  | cs :: es, sz, b, off, h, n => by
    cases n with
    | zero => simpa using h
    | succ n =>
      simp only [DenE] at h
      have := DenE.drop h.2.2.2 n
      rw [show off + (n + 1) * sz = off + sz + n * sz by rw [Nat.add_mul]; omega]
      simpa using this
theorem DenE.take : ∀ {es : List (List V)} {sz b off : Nat}, DenE Ω w es sz b off → ∀ n, DenE Ω w (es.take n) sz b off
  | [], sz, b, off, h, n => by simp [DenE]
  | cs :: es, sz, b, off, h, n => by
    cases n with
    | zero => simp [DenE]
    | succ n =>
      simp only [DenE, List.take_succ_cons] at h ⊢
      exact ⟨h.1, h.2.1, h.2.2.1, DenE.take h.2.2.2 n⟩
theorem DenE.append : ∀ {es fs : List (List V)} {sz b off : Nat}, DenE Ω w es sz b off → DenE Ω w fs sz b (off + es.length * sz) → DenE Ω w (es ++ fs) sz b off
  | [], fs, sz, b, off, h, h' => by simpa using h'
  | cs :: es, fs, sz, b, off, h, h' => by
    simp only [DenE, List.cons_append] at h ⊢
    refine ⟨h.1, h.2.1, h.2.2.1, DenE.append h.2.2.2 ?_⟩
    rw [show off + sz + es.length * sz = off + (cs :: es).length * sz by simp [Nat.add_mul]; omega]
    exact h'
/-- The cells of a row of elements, one behind the other. -/
theorem DenE.cells : ∀ {es : List (List V)} {sz b off : Nat}, DenE Ω w es sz b off → DenC Ω w es.flatten b off
  | [], sz, b, off, h => by simp [DenC]
  | cs :: es, sz, b, off, h => by
    simp only [DenE] at h
    simp only [List.flatten_cons]
    have h2 := DenE.cells h.2.2.2
    have key : ∀ (cs : List V) (off : Nat) (us : List V), DenC Ω w cs b off → DenC Ω w us b (off + cs.length) → DenC Ω w (cs ++ us) b off := by
      intro cs
      induction cs with
      | nil => intro off us _ h'; simpa using h'
      | cons c cs ih =>
        intro off us h h'
        simp only [DenC, List.cons_append] at h ⊢
        exact ⟨h.1, ih (off + 1) us h.2 (by simpa [Nat.add_assoc, Nat.add_comm 1] using h')⟩
    exact key cs off _ h.2.2.1 (by rw [h.1]; exact h2)
theorem DenE.length_flatten : ∀ {es : List (List V)} {sz b off : Nat}, DenE Ω w es sz b off → es.flatten.length = es.length * sz
  | [], sz, b, off, h => by simp
  | cs :: es, sz, b, off, h => by
    simp only [DenE] at h
    simp [DenE.length_flatten h.2.2.2, h.1, Nat.add_mul]; omega
/-- Cells in memory are the values that are loaded. -/
theorem DenC.vals : ∀ {vs : List V} {b off : Nat}, DenC Ω w vs b off → ∃ xs : List Value, DenL Ω w vs xs ∧ ∀ j x, xs[j]? = some x → w.cell? ⟨b, off + j, none⟩ = some x
  | [], _, _, _ => ⟨[], DenL.nil, by simp⟩
  | v :: vs, b, off, h => by
    simp only [DenC] at h
    obtain ⟨⟨x, _, h2, _, _, h5⟩, h6⟩ := h
    obtain ⟨xs, g1, g2⟩ := DenC.vals h6
    refine ⟨x :: xs, DenL.cons h5 g1, fun j y hj => ?_⟩
    cases j with
    | zero => simp at hj; subst hj; exact h2
    | succ j => simp at hj; rw [show off + (j + 1) = off + 1 + j by omega]; exact g2 j y hj
end parts

/-! ### Freezing for a call -/
def blkSize (w : World) (b : Nat) : Nat := match w.heap[b]? with
  | some (.cells c _ _) => c.size
  | _ => 0
def cOwn (Ω : Own) (w : World) : Own where
  o b := match Ω.o b with
    | .frz => .frz
    | .arr _ _ => .frz
    | .box _ => .frzb
    | .frzb => .frzb
    | .out => .out
  lim b := match Ω.o b with
    | .box _ => blkSize w b
    | _ => Ω.lim b
  cur _ := none
  tsz _ := 0
theorem cOwn_froz {Ω : Own} {w : World} {b : Nat} (h : Ω.froz b) : (cOwn Ω w).froz b := by
  rcases h with h | ⟨t, h⟩ <;> exact .inl (by simp [cOwn, h])
theorem cOwn_arr {Ω : Own} {w : World} {b t : Nat} {p : Bool} (h : Ω.o b = .arr t p) : (cOwn Ω w).froz b := .inl (by simp [cOwn, h])
theorem cOwn_lim {Ω : Own} {w : World} {b : Nat} (h : ∀ s, Ω.o b ≠ .box s) : (cOwn Ω w).lim b = Ω.lim b := by
  cases hb : Ω.o b <;> simp only [cOwn, hb]
  exact absurd hb (h _)
theorem cOwn_extP (Ω : Own) (w : World) : ExtP Ω (cOwn Ω w) w w where
  froz _ h := cOwn_froz h
  frzb b h := .inr (by simp [cOwn, h])
  lim b h := Nat.le_of_eq (cOwn_lim (fun s hs => by
    rcases h with (h | ⟨t, h⟩) | h <;> rw [hs] at h <;> cases h)).symm
  cell _ _ _ _ := rfl

theorem pureL_drop : ∀ (vs : List V) (n : Nat), pureL vs = true → pureL (vs.drop n) = true
  | [], n, _ => by simp [pureL]
  | v :: vs, 0, h => by simpa using h
  | v :: vs, n + 1, h => by
    simp only [pureL] at h
    split at h
    · simpa using pureL_drop vs n h
    · cases h

/-- What a reader of boxes says is so. -/
def RdOk (Ω : Own) (w : World) (rd : Nat → Option (List V)) : Prop :=
  ∀ s cs b, rd s = some cs → Ω.o b = .box s → DenC (cOwn Ω w) w cs b 0
mutual
theorem Den.frz {Ω : Own} {w : World} {rd : Nat → Option (List V)} (hrd : RdOk Ω w rd) : ∀ (v v' : V) (x : Value), v.frz rd = some v' → Den Ω w v x → Den (cOwn Ω w) w v' x ∧ v'.pure = true ∧ (v.cellOk = true → v'.cellOk = true)
  | .und, v', x, hf, hd => by simp [V.frz] at hf
  | .dead, v', x, hf, hd => by simp [V.frz] at hf
  | .bool _, v', x, hf, hd => by simp only [V.frz] at hf; injection hf with hf; subst hf; exact ⟨hd, rfl, fun _ => rfl⟩
  | .int _ _, v', x, hf, hd => by simp only [V.frz] at hf; injection hf with hf; subst hf; exact ⟨hd, rfl, fun _ => rfl⟩
  | .agg cs, v', x, hf, hd => by
    simp only [V.frz] at hf
    split at hf
    · rename_i cs' hcs
      injection hf with hf; subst hf
      simp only [Den] at hd ⊢
      obtain ⟨xs, h1, h2⟩ := hd
      obtain ⟨g1, g2⟩ := DenL.frz hrd cs cs' xs hcs h2
      exact ⟨⟨xs, h1, g1⟩, by simpa [V.pure] using g2, fun h => by simp [V.cellOk] at h⟩
    · cases hf
  | .tup cs, v', x, hf, hd => by simp [V.frz] at hf
  | .nil, v', x, hf, hd => by simp only [V.frz] at hf; injection hf with hf; subst hf; exact ⟨hd, rfl, fun _ => rfl⟩
  | .sl none sz es, v', x, hf, hd => by
    simp only [V.frz] at hf; injection hf with hf; subst hf
    exact ⟨Den.extP (cOwn_extP Ω w) _ _ rfl hd, rfl, fun _ => rfl⟩
  | .sl (some t) sz es, v', x, hf, hd => by
    simp only [V.frz] at hf; injection hf with hf; subst hf
    refine ⟨?_, rfl, fun _ => rfl⟩
    simp only [Den] at hd ⊢
    obtain ⟨b, cap, p, h1, h2, h3, _, h5⟩ := hd
    exact .inr ⟨b, 0, cap, h1, cOwn_arr h2, DenE.extP (cOwn_extP Ω w) es sz b 0 (Nat.le_of_eq (cOwn_lim (by intro s hs; rw [h2] at hs; cases hs)).symm) (fun _ _ => rfl) h5⟩
  | .fn (.f n) cs, v', x, hf, hd => by
    simp only [V.frz] at hf
    split at hf
    · rename_i cs' hcs
      injection hf with hf; subst hf
      simp only [Den] at hd ⊢
      obtain ⟨xs, hg, h2⟩ := hd
      obtain ⟨g1, g2⟩ := DenL.frz hrd cs cs' xs hcs h2
      exact ⟨⟨xs, hg, g1⟩, by simpa [V.pure] using g2, fun _ => rfl⟩
    · cases hf
  | .fn (.m n) cs, v', x, hf, hd => by
    simp only [V.frz] at hf
    split at hf
    · rename_i cs' hcs
      injection hf with hf; subst hf
      simp only [Den] at hd ⊢
      obtain ⟨xs, hg, h2⟩ := hd
      obtain ⟨g1, g2⟩ := DenL.frz hrd cs cs' xs hcs h2
      exact ⟨⟨xs, hg, g1⟩, by simpa [V.pure] using g2, fun _ => rfl⟩
    · cases hf
  | .fn (.y _) cs, v', x, hf, hd => by simp [V.frz] at hf
  | .ref s off, v', x, hf, hd => by
    simp only [V.frz] at hf
    split at hf
    · rename_i cs hcs
      injection hf with hf; subst hf
      simp only [Den] at hd ⊢
      obtain ⟨b, h1, h2⟩ := hd
      have h3 := hrd s cs b hcs h2
      exact ⟨⟨b, off, h1, .inr (by simp [cOwn, h2]), by simpa using h3.drop off⟩, rfl, fun _ => rfl⟩
    · cases hf
  | .cref cs, v', x, hf, hd => by
    simp only [V.frz] at hf; injection hf with hf; subst hf
    exact ⟨Den.extP (cOwn_extP Ω w) _ _ rfl hd, rfl, fun _ => rfl⟩
  | .eref t n i off cs, v', x, hf, hd => by simp [V.frz] at hf
  | .box _, v', x, hf, hd => by simp [V.frz] at hf
theorem DenL.frz {Ω : Own} {w : World} {rd : Nat → Option (List V)} (hrd : RdOk Ω w rd) : ∀ (vs vs' : List V) (xs : List Value), frzL rd vs = some vs' → DenL Ω w vs xs → DenL (cOwn Ω w) w vs' xs ∧ pureL vs' = true
  | [], vs', xs, hf, hd => by
    simp only [frzL] at hf; injection hf with hf; subst hf
    simp only [DenL] at hd ⊢
    exact ⟨hd, rfl⟩
  | v :: vs, vs', xs, hf, hd => by
    simp only [frzL] at hf
    split at hf
    · rename_i v' us hv hus
      injection hf with hf; subst hf
      simp only [DenL] at hd
      obtain ⟨x, ys, rfl, h2, h3⟩ := hd
      obtain ⟨g1, g2, _⟩ := Den.frz hrd v v' x hv h2
      obtain ⟨k1, k2⟩ := DenL.frz hrd vs us ys hus h3
      exact ⟨DenL.cons g1 k1, by simp [pureL, g2, k2]⟩
    · cases hf
end
end Go.Lo
