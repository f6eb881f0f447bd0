/- Elements that are written; slots that are made anew. -/
import Derived.Test.YtifanigkolnedaaLh
namespace Go.Lo
section
variable {X : Sc} {w0 w w' : World} {Ω Ω' : Own} {tm : Array Value} {σ : St}

/-! ### An element is written -/
/-- Of the settled cells only those of the element i of block c have turned. -/
structure EstW (Ω : Own) (w w' : World) (t c n i sz : Nat) (e : List V) : Prop where
  cur : ∃ k, Ω.cur t = some (c, k, n)
  own : ∀ b p, Ω.o b = .arr t p → p = false
  tsz : Ω.tsz t = sz
  len : e.length = sz
  pm : e.all V.pm = true
  new : DenC Ω w' e c (i * sz)
  oth : ∀ b off, Ω.o b ≠ .out → (b ≠ c ∨ off < i * sz ∨ i * sz + sz ≤ off) → w'.cell? ⟨b, off, none⟩ = w.cell? ⟨b, off, none⟩
  isC : ∃ p, Ω.o c = .arr t p
theorem EstW.ne {t c n i sz : Nat} {e : List V} (h : EstW Ω w w' t c n i sz e) {b : Nat} (hb : Ω.frozp b) : b ≠ c := by
  intro x
  subst x
  obtain ⟨p, hp⟩ := h.isC
  have := h.own b p hp
  subst this
  rcases hb with (hb | ⟨u, hb⟩) | hb <;> rw [hp] at hb <;> cases hb
theorem EstW.extP {t c n i sz : Nat} {e : List V} (h : EstW Ω w w' t c n i sz e) : ExtP Ω Ω w w' :=
  ⟨fun _ h => h, fun _ h => .inr h, fun _ _ => Nat.le_refl _, fun b off hb _ => h.oth b off (Own.frozp_ne hb) (.inl (h.ne hb))⟩
/-- Elements that are not touched. -/
theorem DenE.apart {b sz : Nat} (hx : ExtP Ω Ω w w') : ∀ {es : List (List V)} {off : Nat}, (∀ o, off ≤ o → o < off + es.length * sz → w'.cell? ⟨b, o, none⟩ = w.cell? ⟨b, o, none⟩) → DenE Ω w es sz b off → DenE Ω w' es sz b off
  | [], _, _, _ => by simp [DenE]
  | cs :: es, off, hc, hd => by
    simp only [DenE] at hd ⊢
    have hlen : (cs :: es).length * sz = sz + es.length * sz := by simp [Nat.add_mul]; omega
    refine ⟨hd.1, hd.2.1, ?_, DenE.apart hx (fun o h1 h2 => hc o (by omega) (by omega)) hd.2.2.2⟩
    have key : ∀ (vs : List V) (o : Nat), off ≤ o → o + vs.length ≤ off + sz → DenC Ω w vs b o → DenC Ω w' vs b o := by
      intro vs
      induction vs with
      | nil => intro _ _ _ _; simp [DenC]
      | cons v vs ih =>
        intro o h1 h2 h
        simp only [DenC] at h ⊢
        simp only [List.length_cons] at h2
        obtain ⟨⟨x, g1, g2, g3, g4, g5⟩, g6⟩ := h
        exact ⟨⟨x, g1, (hc o (by omega) (by omega)).trans g2, g3, g4, Den.extP hx v x g3 g5⟩, ih (o + 1) (by omega) (by omega) g6⟩
    exact key cs off (Nat.le_refl _) (by rw [hd.1]; exact Nat.le_refl _) hd.2.2.1
theorem DenE.setE {b sz : Nat} (hx : ExtP Ω Ω w w') {e : List V} (hl : e.length = sz) (hp : e.all V.pm = true) : ∀ {es : List (List V)} {off i : Nat}, i < es.length →
    (∀ o, off ≤ o → (o < off + i * sz ∨ off + i * sz + sz ≤ o) → w'.cell? ⟨b, o, none⟩ = w.cell? ⟨b, o, none⟩) → DenC Ω w' e b (off + i * sz) → DenE Ω w es sz b off → DenE Ω w' (es.set i e) sz b off
  | [], _, _, hi, _, _, _ => by simp at hi
  | cs :: es, off, 0, _, hc, he, hd => by
    simp only [DenE] at hd
    simp only [List.set_cons_zero, DenE]
    simp only [Nat.zero_mul, Nat.add_zero] at he hc
    exact ⟨hl, hp, he, DenE.apart hx (fun o h1 _ => hc o (by omega) (.inr h1)) hd.2.2.2⟩
  | cs :: es, off, i + 1, hi, hc, he, hd => by
    simp only [DenE] at hd
    simp only [List.set_cons_succ, DenE]
    have e1 : (i + 1) * sz = sz + i * sz := by rw [Nat.add_mul]; omega
    rw [e1] at hc he
    have hone : DenE Ω w [cs] sz b off := by simp only [DenE]; exact ⟨hd.1, hd.2.1, hd.2.2.1, trivial⟩
    have h1 := DenE.apart hx (es := [cs]) (off := off) (fun o h1 h2 => hc o h1 (.inl (by simp at h2; omega))) hone
    simp only [DenE] at h1
    refine ⟨h1.1, h1.2.1, h1.2.2.1, DenE.setE hx hl hp (by simpa using hi) (fun o g1 g2 => hc o (by omega) (by omega)) (by rw [show off + sz + i * sz = off + (sz + i * sz) by omega]; exact he) hd.2.2.2⟩
mutual
theorem Den.estD {t c n i sz : Nat} {e : List V} (h : EstW Ω w w' t c n i sz e) (hi : i < n) : ∀ (v : V) (x : Value), Den Ω w v x → Den Ω w' (V.est t n i e v) x
  | .und, _, hd => hd
  | .dead, _, _ => trivial
  | .bool _, _, hd => hd
  | .int _ _, _, hd => hd
  | .agg cs, x, hd => by
    simp only [Den, V.est] at hd ⊢
    obtain ⟨xs, h1, h2⟩ := hd
    exact ⟨xs, h1, DenL.estD h hi cs xs h2⟩
  | .tup cs, x, hd => by
    simp only [Den, V.est] at hd ⊢
    obtain ⟨xs, h1, h2⟩ := hd
    exact ⟨xs, h1, DenL.estD h hi cs xs h2⟩
  | .nil, _, hd => hd
  | .sl none sz es, x, hd => Den.extP h.extP _ _ rfl hd
  | .sl (some u) sz' es, x, hd => by
    simp only [V.est]
    obtain ⟨k, hcur⟩ := h.cur
    split
    · rename_i hu
      subst hu
      split
      · rename_i hn
        simp only [Den] at hd ⊢
        obtain ⟨b, cap, p, h1, h2, h3, h4, h5⟩ := hd
        have hb := (h4 c k n hcur)
        obtain ⟨rfl, rfl⟩ := hb.2 hn
        refine ⟨b, cap, p, by rw [List.length_set]; exact h1, h2, h3, by rw [List.length_set]; exact h4, ?_⟩
        have hs : sz' = sz := by rw [h3, h.tsz]
        subst hs
        exact DenE.setE h.extP h.len h.pm (by omega) (fun o _ ho => h.oth b o (by rw [h2]; simp) (.inr (by simpa using ho))) (by simpa using h.new) h5
      · simp only [Den]
    · rename_i hu
      simp only [Den] at hd ⊢
      obtain ⟨b, cap, p, h1, h2, h3, h4, h5⟩ := hd
      obtain ⟨q, hq⟩ := h.isC
      have hne : b ≠ c := fun x => by subst x; rw [h2] at hq; injection hq with hq; exact hu hq
      exact ⟨b, cap, p, h1, h2, h3, h4, DenE.extP h.extP es sz' b 0 (Nat.le_refl _) (fun o _ => h.oth b o (by rw [h2]; simp) (.inl hne)) h5⟩
  | .fn f cs, x, hd => by
    simp only [Den, V.est] at hd ⊢
    obtain ⟨xs, hg, h2⟩ := hd
    exact ⟨xs, hg, DenL.estD h hi cs xs h2⟩
  | .ref s off, x, hd => hd
  | .cref cs, x, hd => Den.extP h.extP _ _ rfl hd
  | .eref u m j off cs, x, hd => by
    simp only [V.est]
    split
    · simp only [Den]
    · rename_i hu
      simp only [Den] at hd ⊢
      obtain ⟨b, p, h1, h2, h3, h4, h5, h5', h6⟩ := hd
      obtain ⟨q, hq⟩ := h.isC
      have hne : b ≠ c := fun x => by subst x; rw [h2] at hq; injection hq with hq; exact hu hq
      exact ⟨b, p, h1, h2, h3, h4, h5, h5', DenC.extP h.extP cs b _ (Nat.le_refl _) (fun o _ => h.oth b o (by rw [h2]; simp) (.inl hne)) h6⟩
  | .box _, _, hd => by simp only [Den] at hd
theorem DenL.estD {t c n i sz : Nat} {e : List V} (h : EstW Ω w w' t c n i sz e) (hi : i < n) : ∀ (vs : List V) (xs : List Value), DenL Ω w vs xs → DenL Ω w' (estL t n i e vs) xs
  | [], _, hd => by simp only [DenL] at hd; subst hd; simp [DenL, estL]
  | v :: vs, xs, hd => by
    simp only [DenL, estL] at hd ⊢
    obtain ⟨x, ys, h1, h2, h3⟩ := hd
    exact ⟨x, ys, h1, Den.estD h hi v x h2, DenL.estD h hi vs ys h3⟩
end
theorem est_cell1 {t n i : Nat} {e : List V} : ∀ (v : V), v.cellOk = true → (V.est t n i e v).cellOk = true ∨ V.est t n i e v = .dead
  | .bool _, _ => .inl rfl
  | .int _ _, _ => .inl rfl
  | .nil, _ => .inl rfl
  | .sl none _ _, _ => .inl rfl
  | .sl (some u) sz es, _ => by
    simp only [V.est]
    split
    · split
      · exact .inl rfl
      · exact .inr rfl
    · exact .inl rfl
  | .fn _ _, _ => .inl rfl
  | .ref _ _, _ => .inl rfl
  | .cref _, _ => .inl rfl
  | .eref u m j off cs, _ => by
    simp only [V.est]
    split
    · exact .inr rfl
    · exact .inl rfl
  | .und, h => by simp [V.cellOk] at h
  | .dead, h => by simp [V.cellOk] at h
  | .agg _, h => by simp [V.cellOk] at h
  | .tup _, h => by simp [V.cellOk] at h
  | .box _, h => by simp [V.cellOk] at h
theorem est_cellOk {t n i : Nat} {e : List V} : ∀ {vs : List V}, (∀ v ∈ vs, v.cellOk = true ∨ v = .dead) → ∀ v ∈ estL t n i e vs, v.cellOk = true ∨ v = .dead
  | [], _, v, hv => by simp [estL] at hv
  | u :: vs, h, v, hv => by
    simp only [estL, List.mem_cons] at hv
    rcases hv with rfl | hv
    · rcases h u (by simp) with hu | rfl
      · exact est_cell1 u hu
      · exact .inr rfl
    · exact est_cellOk (fun v hv => h v (by simp [hv])) v hv

theorem Inv.est (h : Inv X w0 Ω w tm σ) {t c n i sz : Nat} {e : List V} (hw : EstW Ω w w' t c n i sz e) (hi : i < n) (hk : Kept X.x w0 w') (hs : w.heap.size ≤ w'.heap.size)
    (hb : ∀ b, b ≠ c → w'.heap[b]? = w.heap[b]?) (hc : ∀ xs T, w.heap[c]? = some (.cells xs T (0, 0)) → ∃ ys, w'.heap[c]? = some (.cells ys T (0, 0)) ∧ ys.size = xs.size) :
    Inv X w0 Ω w' tm { σ with fr := estF t n i e σ.fr } where
  kept := hk
  ownB := h.ownB
  ownA := h.ownA
  bnd b hb := Nat.lt_of_lt_of_le (h.bnd b hb) hs
  uniq := h.uniq
  limB := h.limB
  old := h.old
  out := X.st h.out ⟨⟨hk.os.trans h.kept.os.symm, hk.tape.trans h.kept.tape.symm, hk.output.trans h.kept.output.symm, hs, fun b _ hm => hb b (fun e => hm (by
    obtain ⟨p, hp⟩ := hw.isC
    exact e ▸ .inr ⟨t, p, hp⟩)), fun _ _ _ => ⟨rfl, rfl⟩⟩, ⟨fun _ h => h, fun _ _ => Nat.le_refl _, fun b off hb hl => hw.extP.cell b off (.inl hb) hl⟩, fun b hb => Nat.lt_of_lt_of_le (h.bnd b hb) hs, rfl, h.bnd⟩
  slot s v hv := by
    obtain ⟨u, hu, rfl⟩ := get_estF hv
    obtain ⟨h1, h2⟩ := h.slot s u hu
    refine ⟨h1, ?_⟩
    cases u <;> first
      | exact DenS.of (Den.estD hw hi _ _ h2)
      | (simp only [DenS, V.est] at h2 ⊢
         obtain ⟨b, xs, T, g1, g2, g3, g4, g5⟩ := h2
         obtain ⟨p, hp⟩ := hw.isC
         have hne : b ≠ c := fun x => by subst x; rw [g2] at hp; cases hp
         exact ⟨b, xs, T, g1, g2, by rw [hb b hne]; exact g3, DenL.estD hw hi _ _ g4, est_cellOk g5⟩)
  tok u l wr hu := by
    obtain ⟨c2, k2, T2, xs2, q1, q2, q3, q4, q5⟩ := h.tok u l wr hu
    by_cases hcc : c2 = c
    · subst hcc
      obtain ⟨ys, g1, g2⟩ := hc xs2 T2 q3
      exact ⟨c2, k2, T2, ys, q1, q2, g1, by rw [g2]; exact q4, q5⟩
    · exact ⟨c2, k2, T2, xs2, q1, q2, by rw [hb c2 hcc]; exact q3, q4, q5⟩

/-! ### Slots that are made anew -/
def Own.prep (Ω : Own) (ds : List Nat) : Own :=
  { Ω with o := fun b => match Ω.o b with
    | .box s => if memN s ds = true then .out else .box s
    | .arr t p => if memN (t / 100) ds = true then .frz else .arr t p
    | x => x }
theorem prep_frz {ds : List Nat} {b : Nat} (h : Ω.o b = .frz) : (Ω.prep ds).o b = .frz := by simp [Own.prep, h]
theorem prep_frzb {ds : List Nat} {b : Nat} (h : Ω.o b = .frzb) : (Ω.prep ds).o b = .frzb := by simp [Own.prep, h]
theorem prep_box {ds : List Nat} {b s : Nat} (h : (Ω.prep ds).o b = .box s) : Ω.o b = .box s ∧ memN s ds = false := by
  simp only [Own.prep] at h
  cases hb : Ω.o b <;> rw [hb] at h <;> simp only at h <;> try (cases h; done)
  · split at h
    · cases h
    · rename_i hm; injection h with h; subst h; exact ⟨rfl, by simpa using hm⟩
  · split at h <;> cases h
theorem prep_arr {ds : List Nat} {b t : Nat} {p : Bool} (h : (Ω.prep ds).o b = .arr t p) : Ω.o b = .arr t p ∧ memN (t / 100) ds = false := by
  simp only [Own.prep] at h
  cases hb : Ω.o b <;> rw [hb] at h <;> simp only at h <;> try (cases h; done)
  · split at h <;> cases h
  · split at h
    · cases h
    · rename_i hm; injection h with h1 h2; subst h1; subst h2; exact ⟨rfl, by simpa using hm⟩
theorem prep_ne {ds : List Nat} {b : Nat} (h : (Ω.prep ds).o b ≠ .out) : Ω.o b ≠ .out := by
  intro e; exact h (by simp [Own.prep, e])
theorem prep_froz {ds : List Nat} {b : Nat} (h : Ω.froz b) : (Ω.prep ds).froz b := by
  rcases h with h | ⟨t, h⟩
  · exact .inl (prep_frz h)
  · by_cases hm : memN (t / 100) ds = true
    · exact .inl (by simp [Own.prep, h, hm])
    · exact .inr ⟨t, by simp [Own.prep, h, hm]⟩
theorem prep_extP (ds : List Nat) : ExtP Ω (Ω.prep ds) w w :=
  ⟨fun _ h => prep_froz h, fun _ h => .inr (prep_frzb h), fun _ _ => Nat.le_refl _, fun _ _ _ _ => rfl⟩
mutual
theorem Den.prepD {ds : List Nat} : ∀ (v : V) (x : Value), Den Ω w v x → Den (Ω.prep ds) w (v.prep ds) x
  | .und, _, hd => hd
  | .dead, _, _ => trivial
  | .bool _, _, hd => hd
  | .int _ _, _, hd => hd
  | .agg cs, x, hd => by
    simp only [Den, V.prep] at hd ⊢
    obtain ⟨xs, h1, h2⟩ := hd
    exact ⟨xs, h1, DenL.prepD cs xs h2⟩
  | .tup cs, x, hd => by
    simp only [Den, V.prep] at hd ⊢
    obtain ⟨xs, h1, h2⟩ := hd
    exact ⟨xs, h1, DenL.prepD cs xs h2⟩
  | .nil, _, hd => hd
  | .sl none sz es, x, hd => Den.extP (prep_extP ds) _ _ rfl hd
  | .sl (some t) sz es, x, hd => by
    simp only [V.prep]
    simp only [Den] at hd
    obtain ⟨b, cap, p, h1, h2, h3, h4, h5⟩ := hd
    split
    · rename_i hm
      simp only [Den]
      exact .inr ⟨b, 0, cap, h1, .inl (by simp [Own.prep, h2, hm]), DenE.extP (prep_extP ds) es sz b 0 (Nat.le_refl _) (fun _ _ => rfl) h5⟩
    · rename_i hm
      simp only [Den]
      exact ⟨b, cap, p, h1, by simp [Own.prep, h2, hm], h3, h4, DenE.extP (prep_extP ds) es sz b 0 (Nat.le_refl _) (fun _ _ => rfl) h5⟩
  | .fn f cs, x, hd => by
    simp only [Den, V.prep] at hd ⊢
    obtain ⟨xs, hg, h2⟩ := hd
    exact ⟨xs, hg, DenL.prepD cs xs h2⟩
  | .ref s off, x, hd => by
    simp only [V.prep]
    split
    · trivial
    · rename_i hm
      simp only [Den] at hd ⊢
      obtain ⟨b, h1, h2⟩ := hd
      exact ⟨b, h1, by simp [Own.prep, h2, hm]⟩
  | .cref cs, x, hd => Den.extP (prep_extP ds) _ _ rfl hd
  | .eref t n i off cs, x, hd => by
    simp only [V.prep]
    split
    · trivial
    · rename_i hm
      simp only [Den] at hd ⊢
      obtain ⟨b, p, h1, h2, h3, h4, h5, h5', h6⟩ := hd
      exact ⟨b, p, h1, by simp [Own.prep, h2, hm], h3, h4, h5, h5', DenC.extP (prep_extP ds) cs b _ (Nat.le_refl _) (fun _ _ => rfl) h6⟩
  | .box _, _, hd => by simp only [Den] at hd
theorem DenL.prepD {ds : List Nat} : ∀ (vs : List V) (xs : List Value), DenL Ω w vs xs → DenL (Ω.prep ds) w (prepL ds vs) xs
  | [], _, hd => by simp only [DenL] at hd; subst hd; simp [DenL, prepL]
  | v :: vs, xs, hd => by
    simp only [DenL, prepL] at hd ⊢
    obtain ⟨x, ys, h1, h2, h3⟩ := hd
    exact ⟨x, ys, h1, Den.prepD v x h2, DenL.prepD vs ys h3⟩
end
theorem prep_cell1 {ds : List Nat} : ∀ (v : V), v.cellOk = true → (v.prep ds).cellOk = true ∨ v.prep ds = .dead
  | .bool _, _ => .inl rfl
  | .int _ _, _ => .inl rfl
  | .nil, _ => .inl rfl
  | .sl none _ _, _ => .inl rfl
  | .sl (some u) sz es, _ => by
    simp only [V.prep]
    split <;> exact .inl rfl
  | .fn _ _, _ => .inl rfl
  | .ref _ _, _ => by
    simp only [V.prep]
    split
    · exact .inr rfl
    · exact .inl rfl
  | .cref _, _ => .inl rfl
  | .eref u m j off cs, _ => by
    simp only [V.prep]
    split
    · exact .inr rfl
    · exact .inl rfl
  | .und, h => by simp [V.cellOk] at h
  | .dead, h => by simp [V.cellOk] at h
  | .agg _, h => by simp [V.cellOk] at h
  | .tup _, h => by simp [V.cellOk] at h
  | .box _, h => by simp [V.cellOk] at h
theorem prep_cellOk {ds : List Nat} : ∀ {vs : List V}, (∀ v ∈ vs, v.cellOk = true ∨ v = .dead) → ∀ v ∈ prepL ds vs, v.cellOk = true ∨ v = .dead
  | [], _, v, hv => by simp [prepL] at hv
  | u :: vs, h, v, hv => by
    simp only [prepL, List.mem_cons] at hv
    rcases hv with rfl | hv
    · rcases h u (by simp) with hu | rfl
      · exact prep_cell1 u hu
      · exact .inr rfl
    · exact prep_cellOk (fun v hv => h v (by simp [hv])) v hv
theorem Inv.prep (h : Inv X w0 Ω w tm σ) (ds : List Nat) : Inv X w0 (Ω.prep ds) w tm { σ with fr := prepF ds σ.fr, tk := prepT ds σ.tk } where
  kept := h.kept
  ownB b s hb := h.ownB b s (prep_box hb).1
  ownA b t p hb := h.ownA b t p (prep_arr hb).1
  bnd b hb := h.bnd b (prep_ne hb)
  uniq b b' s hb hb' := h.uniq b b' s (prep_box hb).1 (prep_box hb').1
  limB b s hb := h.limB b s (prep_box hb).1
  old b hb hX := by
    have h1 := h.old b hb hX
    refine ⟨?_, h1.2⟩
    rw [← h1.1]
    simp only [Own.prep]
    cases hb' : Ω.o b with
    | box s => exact (h.oldBox hb hX s hb').elim
    | arr t p => exact (h.oldArr hb hX t p hb').elim
    | _ => rfl
  out := X.st h.out ⟨⟨rfl, rfl, rfl, Nat.le_refl _, fun _ _ _ => rfl, fun b _ hm => ⟨by
    simp only [Own.prep]
    split
    · rename_i s hs; exact (hm (.inl ⟨s, hs⟩)).elim
    · rename_i t p hp; exact (hm (.inr ⟨t, p, hp⟩)).elim
    · rfl, rfl⟩⟩, ⟨fun _ hb => prep_froz hb, fun _ _ => Nat.le_refl _, fun _ _ _ _ => rfl⟩, fun b hb => h.bnd b (prep_ne hb), rfl, h.bnd⟩
  slot s v hv := by
    obtain ⟨hm, u, hu, rfl⟩ := get_prepF hv
    obtain ⟨h1, h2⟩ := h.slot s u hu
    refine ⟨h1, ?_⟩
    cases u <;> first
      | exact DenS.of (Den.prepD _ _ h2)
      | (simp only [DenS, V.prep] at h2 ⊢
         obtain ⟨b, xs, T, g1, g2, g3, g4, g5⟩ := h2
         exact ⟨b, xs, T, g1, by simp [Own.prep, g2, hm], g3, DenL.prepD _ _ g4, prep_cellOk g5⟩)
  tok t n wr ht := by
    obtain ⟨hm, ht⟩ := get_prepT ht
    obtain ⟨c, k, T, xs, g1, ⟨p, g2⟩, g3, g4, g5, g6, g7, g8⟩ := h.tok t n wr ht
    exact ⟨c, k, T, xs, g1, ⟨p, by simp [Own.prep, g2, hm]⟩, g3, g4, g5, g6, g7, fun hw b q hb => g8 hw b q (prep_arr hb).1⟩
theorem fresh_prep {ds : List Nat} {d : Nat} (hd : memN d ds = true) : Fresh (Ω.prep ds) d := by
  refine ⟨fun b hb => ?_, fun b t p e hb => ?_⟩
  · have := (prep_box hb).2; rw [hd] at this; cases this
  · have := (prep_arr hb).2; rw [e, hd] at this; cases this

/-! ### An array is cut short -/
def Own.trunc (Ω : Own) (t c k n : Nat) : Own :=
  { Ω with lim := fun b => if b = c then n * Ω.tsz t else Ω.lim b, cur := fun u => if u = t then some (c, k, n) else Ω.cur u }
theorem trunc_extP {t c k n : Nat} (hc : ∃ p, Ω.o c = .arr t p) (hp : ∀ b p, Ω.o b = .arr t p → p = false) : ExtP Ω (Ω.trunc t c k n) w w := by
  have hne : ∀ b, Ω.frozp b → b ≠ c := by
    intro b hb e
    subst e
    obtain ⟨p, h1⟩ := hc
    have := hp b p h1
    subst this
    rcases hb with (hb | ⟨u, hb⟩) | hb <;> rw [h1] at hb <;> cases hb
  exact ⟨fun _ h => h, fun _ h => .inr h, fun b hb => by simp only [Own.trunc, if_neg (hne b hb)]; exact Nat.le_refl _, fun _ _ _ _ => rfl⟩
mutual
theorem Den.killD {t c k n : Nat} (hc : ∃ p, Ω.o c = .arr t p) (hp : ∀ b p, Ω.o b = .arr t p → p = false) : ∀ (v : V) (x : Value), Den Ω w v x → Den (Ω.trunc t c k n) w (v.kill t) x
  | .und, _, hd => hd
  | .dead, _, _ => trivial
  | .bool _, _, hd => hd
  | .int _ _, _, hd => hd
  | .agg cs, x, hd => by
    simp only [Den, V.kill] at hd ⊢
    obtain ⟨xs, h1, h2⟩ := hd
    exact ⟨xs, h1, DenL.killD hc hp cs xs h2⟩
  | .tup cs, x, hd => by
    simp only [Den, V.kill] at hd ⊢
    obtain ⟨xs, h1, h2⟩ := hd
    exact ⟨xs, h1, DenL.killD hc hp cs xs h2⟩
  | .nil, _, hd => hd
  | .sl none sz es, x, hd => Den.extP (trunc_extP hc hp) _ _ rfl hd
  | .sl (some u) sz es, x, hd => by
    simp only [V.kill]
    split
    · trivial
    · rename_i hm
      simp only [Den] at hd ⊢
      obtain ⟨b, cap, p, h1, h2, h3, h4, h5⟩ := hd
      have hbc : b ≠ c := fun e => by
        subst e
        obtain ⟨q, h6⟩ := hc
        rw [h2] at h6
        injection h6 with h6; exact hm h6
      refine ⟨b, cap, p, h1, h2, h3, by simp only [Own.trunc, if_neg hm]; exact h4, DenE.extP (trunc_extP hc hp) es sz b 0 ?_ (fun _ _ => rfl) h5⟩
      simp only [Own.trunc, if_neg hbc]; exact Nat.le_refl _
  | .fn f cs, x, hd => by
    simp only [Den, V.kill] at hd ⊢
    obtain ⟨xs, hg, h2⟩ := hd
    exact ⟨xs, hg, DenL.killD hc hp cs xs h2⟩
  | .ref s off, x, hd => by
    simp only [Den, V.kill] at hd ⊢
    exact hd
  | .cref cs, x, hd => Den.extP (trunc_extP hc hp) _ _ rfl hd
  | .eref u m i off cs, x, hd => by
    simp only [V.kill]
    split
    · trivial
    · rename_i hm
      simp only [Den] at hd ⊢
      obtain ⟨b, p, h1, h2, h3, h4, h5, h5', h6⟩ := hd
      have hbc : b ≠ c := fun e => by
        subst e
        obtain ⟨q, h7⟩ := hc
        rw [h2] at h7
        injection h7 with h7; exact hm h7
      refine ⟨b, p, h1, h2, h3, by simp only [Own.trunc, if_neg hm]; exact h4, h5, h5', DenC.extP (trunc_extP hc hp) cs b _ ?_ (fun _ _ => rfl) h6⟩
      simp only [Own.trunc, if_neg hbc]; exact Nat.le_refl _
  | .box _, _, hd => by simp only [Den] at hd
theorem DenL.killD {t c k n : Nat} (hc : ∃ p, Ω.o c = .arr t p) (hp : ∀ b p, Ω.o b = .arr t p → p = false) : ∀ (vs : List V) (xs : List Value), DenL Ω w vs xs → DenL (Ω.trunc t c k n) w (killL t vs) xs
  | [], _, hd => by simp only [DenL] at hd; subst hd; simp [DenL, killL]
  | v :: vs, xs, hd => by
    simp only [DenL, killL] at hd ⊢
    obtain ⟨x, ys, h1, h2, h3⟩ := hd
    exact ⟨x, ys, h1, Den.killD hc hp v x h2, DenL.killD hc hp vs ys h3⟩
end
theorem get_killF {t : Nat} : ∀ {l : List (Nat × V)} {s : Nat} {v : V}, get (killF t l) s = some v → ∃ u, get l s = some u ∧ v = u.kill t
  | [], s, v, h => by simp [killF, get] at h
  | (k, u) :: l, s, v, h => by
    simp only [killF, get] at h ⊢
    split at h
    · rename_i e; rw [if_pos e]; injection h with h; exact ⟨u, rfl, h.symm⟩
    · rename_i e; rw [if_neg e]; exact get_killF h
theorem kill_cell1 {t : Nat} : ∀ (v : V), v.cellOk = true → (v.kill t).cellOk = true ∨ v.kill t = .dead
  | .bool _, _ => .inl rfl
  | .int _ _, _ => .inl rfl
  | .nil, _ => .inl rfl
  | .sl none _ _, _ => .inl rfl
  | .sl (some u) sz es, _ => by
    simp only [V.kill]
    split
    · exact .inr rfl
    · exact .inl rfl
  | .fn _ _, _ => .inl rfl
  | .ref _ _, _ => .inl rfl
  | .cref _, _ => .inl rfl
  | .eref u m j off cs, _ => by
    simp only [V.kill]
    split
    · exact .inr rfl
    · exact .inl rfl
  | .und, h => by simp [V.cellOk] at h
  | .dead, h => by simp [V.cellOk] at h
  | .agg _, h => by simp [V.cellOk] at h
  | .tup _, h => by simp [V.cellOk] at h
  | .box _, h => by simp [V.cellOk] at h
theorem kill_cellOk {t : Nat} : ∀ {vs : List V}, (∀ v ∈ vs, v.cellOk = true ∨ v = .dead) → ∀ v ∈ killL t vs, v.cellOk = true ∨ v = .dead
  | [], _, v, hv => by simp [killL] at hv
  | u :: vs, h, v, hv => by
    simp only [killL, List.mem_cons] at hv
    rcases hv with rfl | hv
    · rcases h u (by simp) with hu | rfl
      · exact kill_cell1 u hu
      · exact .inr rfl
    · exact kill_cellOk (fun v hv => h v (by simp [hv])) v hv
theorem Inv.trunc (h : Inv X w0 Ω w tm σ) {t n m c k : Nat} (ht : get σ.tk t = some (n, true)) (hm : m ≤ n) (hcur : Ω.cur t = some (c, k, n)) : Inv X w0 (Ω.trunc t c k m) w tm { σ with fr := killF t σ.fr, tk := lenT t m σ.tk } := by
  obtain ⟨c0, k0, T, xs, g1, ⟨p, g2⟩, g3, g4, g5, g6, g7, g8⟩ := h.tok t n true ht
  rw [hcur] at g1
  simp only [Option.some.injEq, Prod.mk.injEq] at g1
  obtain ⟨rfl, rfl, _⟩ := g1
  have hc : ∃ p, Ω.o c = .arr t p := ⟨p, g2⟩
  exact {
    kept := h.kept
    ownB := h.ownB
    ownA := h.ownA
    bnd := h.bnd
    uniq := h.uniq
    limB := fun b s hb => by
      have hne : b ≠ c := fun e => by subst e; have hb : Ω.o b = .box s := hb; rw [g2] at hb; cases hb
      simp only [Own.trunc, if_neg hne]; exact h.limB b s hb
    old := fun b hb hX => by
      have hne : b ≠ c := fun e => by subst e; exact h.oldArr hb hX t p g2
      simp only [Own.trunc, if_neg hne]; exact h.old b hb hX
    out := X.st h.out ⟨⟨rfl, rfl, rfl, Nat.le_refl _, fun _ _ _ => rfl, fun b _ hm => ⟨rfl, by
      simp only [Own.trunc]; exact if_neg (fun e => hm (by subst e; exact .inr ⟨t, p, g2⟩))⟩⟩, ⟨fun _ hb => hb, fun b hb => (trunc_extP (w := w) hc (g8 rfl)).lim b (.inl hb), fun _ _ _ _ => rfl⟩, h.bnd, rfl, h.bnd⟩
    slot := fun s v hv => by
      obtain ⟨u, hu, rfl⟩ := get_killF hv
      obtain ⟨h1, h2⟩ := h.slot s u hu
      refine ⟨h1, ?_⟩
      cases u <;> first
        | exact DenS.of (Den.killD hc (g8 rfl) _ _ h2)
        | (simp only [DenS, V.kill] at h2 ⊢
           obtain ⟨b, ys, T', q1, q2, q3, q4, q5⟩ := h2
           exact ⟨b, ys, T', q1, q2, q3, DenL.killD hc (g8 rfl) _ _ q4, kill_cellOk q5⟩)
    tok := fun u l wr hu => by
      rw [get_lenT] at hu
      split at hu
      · rename_i e; subst e
        rw [ht] at hu
        simp only [Option.map_some, Option.some.injEq, Prod.mk.injEq] at hu
        obtain ⟨rfl, rfl⟩ := hu
        exact ⟨c, k, T, xs, by simp [Own.trunc], ⟨p, g2⟩, g3, g4, by omega, by simp [Own.trunc], g7, g8⟩
      · rename_i e
        obtain ⟨c2, k2, T2, xs2, q1, ⟨p2, q2⟩, q3, q4, q5, q6, q7, q8⟩ := h.tok u l wr hu
        have hne : c2 ≠ c := fun x => by subst x; rw [g2] at q2; injection q2 with q2; exact e q2.symm
        exact ⟨c2, k2, T2, xs2, by simp only [Own.trunc, if_neg e]; exact q1, ⟨p2, q2⟩, q3, q4, q5, by simp only [Own.trunc, if_neg hne]; exact q6, q7, q8⟩ }
/-- What is left of it. -/
theorem Den.cut (h : Inv X w0 Ω w tm σ) {t n m c k sz : Nat} (ht : get σ.tk t = some (n, true)) (hm : m ≤ n) (hcur : Ω.cur t = some (c, k, n)) (hsz : sz = Ω.tsz t) {es : List (List V)} (hn : es.length = n) (hE : DenE Ω w es sz c 0) :
    Den (Ω.trunc t c k m) w (.sl (some t) sz (es.take m)) (.slice (some ⟨c, 0, none⟩) m k) := by
  obtain ⟨c0, k0, T, xs, g1, ⟨p, g2⟩, g3, g4, g5, g6, g7, g8⟩ := h.tok t n true ht
  rw [hcur] at g1
  simp only [Option.some.injEq, Prod.mk.injEq] at g1
  obtain ⟨rfl, rfl, _⟩ := g1
  have hl : (es.take m).length = m := by rw [List.length_take]; omega
  have hT := hE.take m
  obtain ⟨ys, k1, k2⟩ := hT.cells.vals
  have hpm : ∀ cs ∈ es.take m, cs.length = sz ∧ cs.all V.pm = true := fun cs hcs => by
    obtain ⟨i, hi⟩ := List.getElem?_of_mem hcs
    obtain ⟨r1, r2, _⟩ := hT.get hi
    exact ⟨r1, r2⟩
  have hyl : ys.length = m * sz := by rw [k1.length, hT.length_flatten, hl]
  simp only [Den]
  refine ⟨c, k - m, p, by rw [hl]; congr 1; omega, g2, hsz, fun c' k' n' hc' => ?_, ?_⟩
  · simp only [Own.trunc, if_true, Option.some.injEq, Prod.mk.injEq] at hc'
    obtain ⟨rfl, rfl, rfl⟩ := hc'
    exact ⟨by omega, fun _ => ⟨rfl, by omega⟩⟩
  · refine rowE (ys := ys) ?_ hpm (fun j y hj => ⟨?_, k2 j y hj⟩)
    · have key : ∀ (vs : List V) (us : List Value), (∀ v ∈ vs, v.pm = true) → DenL Ω w vs us → DenL (Ω.trunc t c k m) w vs us := by
        intro vs
        induction vs with
        | nil => intro us _ h; simpa [DenL] using h
        | cons v vs ih =>
          intro us hp h
          simp only [DenL] at h
          obtain ⟨x, us', rfl, q2, q3⟩ := h
          exact DenL.cons (Den.extP (trunc_extP ⟨p, g2⟩ (g8 rfl)) v x (V.pm_pure (hp v (by simp))).1 q2) (ih us' (fun v hv => hp v (by simp [hv])) q3)
      refine key _ _ (fun v hv => ?_) k1
      obtain ⟨cs, hcs, hvc⟩ := List.mem_flatten.1 hv
      exact List.all_eq_true.1 (hpm cs hcs).2 v hvc
    · have := (List.getElem?_eq_some_iff.1 hj).1
      simp only [Own.trunc, if_true]
      rw [hyl, hsz] at this
      omega
end
end Go.Lo
