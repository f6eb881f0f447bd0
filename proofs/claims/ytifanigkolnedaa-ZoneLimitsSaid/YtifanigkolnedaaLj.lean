/- Results of calls. -/
import Derived.Test.YtifanigkolnedaaLi
namespace Go.Lo
open Go.RowKit (Below)

/-- What is known of an own map at the start of a call: nothing may be written. -/
structure Base (Ω : Own) (w : World) : Prop where
  o : ∀ b, Ω.o b = .out ∨ Ω.o b = .frz ∨ Ω.o b = .frzb
  bnd : ∀ b, Ω.o b ≠ .out → b < w.heap.size
/-- What is known of the own map behind it. -/
structure ResOk (Ω Ω1 : Own) (w w1 : World) (R : V) : Prop where
  old : ∀ b, b < w.heap.size → Ω1.o b = Ω.o b ∧ Ω1.lim b = Ω.lim b
  bnd : ∀ b, Ω1.o b ≠ .out → b < w1.heap.size
  toks : ∀ k n, (k, n) ∈ R.tks → TokOk Ω1 w1 k n true
section
variable {X : Sc} {w0 w w1 : World} {Ω Ω1 : Own} {tm : Array Value} {σ : St}

theorem base_cOwn (h : Inv X w0 Ω w tm σ) : Base (cOwn Ω w) w := by
  constructor
  · intro b
    simp only [cOwn]
    cases hb : Ω.o b <;> simp
  · intro b hb
    refine h.bnd b (fun e => hb ?_)
    simp [cOwn, e]

def Own.res (Ω Ω1 : Own) (n d : Nat) (al : Bool) : Own where
  o b := if b < n then (match Ω.o b with
      | .arr t p => .arr t (p || al)
      | x => x)
    else match Ω1.o b with
      | .arr k p => if k < 100 then .arr (d * 100 + k) p else .frz
      | .frz => .frz
      | _ => .out
  lim b := if b < n then Ω.lim b else Ω1.lim b
  cur t := if t / 100 = d then Ω1.cur (t % 100) else Ω.cur t
  tsz t := if t / 100 = d then Ω1.tsz (t % 100) else Ω.tsz t
  yl := Ω.yl

theorem res_old {n d b : Nat} {al : Bool} (hb : b < n) : (Ω.res Ω1 n d al).o b = (match Ω.o b with
      | .arr t p => .arr t (p || al)
      | x => x) := by simp [Own.res, hb]
theorem res_box {n d b s : Nat} {al : Bool} (h : (Ω.res Ω1 n d al).o b = .box s) : b < n ∧ Ω.o b = .box s := by
  simp only [Own.res] at h
  split at h
  · rename_i hb
    refine ⟨hb, ?_⟩
    split at h
    · cases h
    · exact h
  · split at h
    · split at h <;> cases h
    · cases h
    · cases h
theorem res_arr {n d b t : Nat} {p al : Bool} (h : (Ω.res Ω1 n d al).o b = .arr t p) :
    (b < n ∧ ∃ q, Ω.o b = .arr t q ∧ p = (q || al)) ∨ (n ≤ b ∧ ∃ k, k < 100 ∧ t = d * 100 + k ∧ Ω1.o b = .arr k p) := by
  simp only [Own.res] at h
  split at h
  · rename_i hb
    refine .inl ⟨hb, ?_⟩
    split at h
    · rename_i u q hu
      injection h with h1 h2
      subst h1
      exact ⟨q, hu, h2.symm⟩
    · rename_i hne
      exact absurd h (hne _ _)
  · rename_i hb
    refine .inr ⟨Nat.le_of_not_lt hb, ?_⟩
    split at h
    · rename_i k q hk
      split at h
      · rename_i hk1
        injection h with h1 h2
        subst h2
        exact ⟨k, hk1, h1.symm, hk⟩
      · cases h
    · cases h
    · cases h
theorem res_ne {n d b : Nat} {al : Bool} (hb : b < n) (h : (Ω.res Ω1 n d al).o b ≠ .out) : Ω.o b ≠ .out := by
  intro e
  exact h (by rw [res_old hb, e])
theorem res_ne' {n d b : Nat} {al : Bool} (hb : ¬ b < n) (h : (Ω.res Ω1 n d al).o b ≠ .out) : Ω1.o b ≠ .out := by
  intro e
  exact h (by simp [Own.res, hb, e])

theorem goes_res (h : Inv X w0 Ω w tm σ) {d : Nat} (hf : ∀ b t p, t / 100 = d → Ω.o b ≠ .arr t p) (al : Bool) (hb : Below w.heap.size w w1) (hbnd : ∀ b, Ω1.o b ≠ .out → b < w1.heap.size) :
    Goes X w0 Ω (Ω.res Ω1 w.heap.size d al) w w1 := by
  have hcell : ∀ b off, b < w.heap.size → w1.cell? ⟨b, off, none⟩ = w.cell? ⟨b, off, none⟩ := fun b off hlt => hb.cell (p := ⟨b, off, none⟩) hlt
  constructor
  · constructor
    · intro b hfz
      have hlt := h.bnd b (Own.froz_ne hfz)
      rcases hfz with hfz | ⟨t, hfz⟩
      · exact .inl (by rw [res_old hlt, hfz])
      · exact .inr ⟨t, by rw [res_old hlt, hfz]; rfl⟩
    · intro b hfz
      have hlt := h.bnd b (by simp [hfz])
      exact .inr (by rw [res_old hlt, hfz])
    · intro b t p hfz
      have hlt := h.bnd b (by simp [hfz])
      exact ⟨p || al, by rw [res_old hlt, hfz]⟩
    · intro b s hfz
      have hlt := h.bnd b (by simp [hfz])
      rw [res_old hlt, hfz]
    · intro b hne
      have hlt := h.bnd b hne
      simp [Own.res, hlt]
    · intro b off hne _
      exact hcell b off (h.bnd b hne)
    · intro b t p hfz
      have : t / 100 ≠ d := fun e => hf b t p e hfz
      simp [Own.res, this]
    · intro b t p c k n hfz hc
      have : t / 100 ≠ d := fun e => hf b t p e hfz
      simp only [Own.res, if_neg this] at hc
      exact ⟨c, k, n, hc, .inl ⟨rfl, rfl, rfl⟩⟩
    · rfl
  · exact h.kept.trans ⟨hb.os, hb.tape, hb.output, hb.size, fun b hlt _ => hb.block b hlt⟩
  · intro b s hs
    obtain ⟨h1, h2⟩ := res_box hs
    exact h.ownB b s h2
  · intro b t p hp
    rcases res_arr hp with ⟨h1, q, h2, _⟩ | ⟨h1, _⟩
    · exact h.ownA b t q h2
    · exact .inl (Nat.le_trans h.kept.size h1)
  · intro b hne
    by_cases hlt : b < w.heap.size
    · exact Nat.lt_of_lt_of_le hlt hb.size
    · exact hbnd b (res_ne' hlt hne)
  · intro b b' s h1 h2
    exact h.uniq b b' s (res_box h1).2 (res_box h2).2
  · intro b s hs
    obtain ⟨h1, h2⟩ := res_box hs
    simp only [Own.res, if_pos h1]
    exact h.limB b s h2
  · intro b hlt hX
    have hlt' := Nat.lt_of_lt_of_le hlt h.kept.size
    have h1 := h.old b hlt hX
    refine ⟨?_, by simp only [Own.res, if_pos hlt']; exact h1.2⟩
    rw [res_old hlt', ← h1.1]
    cases hb' : Ω.o b with
    | arr t p => exact (h.oldArr hlt hX t p hb').elim
    | _ => rfl
  · refine ⟨hb.os, hb.tape, hb.output, hb.size, fun b hlt _ => hb.block b hlt, fun b hlt hm => ?_⟩
    refine ⟨?_, by simp only [Own.res, if_pos hlt]⟩
    rw [res_old hlt]
    split
    · rename_i t p hp; exact (hm (.inr ⟨t, p, hp⟩)).elim
    · rfl
  · intro b s T xs hs hh
    rw [hb.block b (h.bnd b (by simp [hs]))]
    exact hh

theorem get_addT : ∀ (l : List (Nat × Nat)) (tk : List (Nat × Nat × Bool)) (t n : Nat) (wr : Bool), get (addT l tk) t = some (n, wr) → ((t, n) ∈ l ∧ wr = true) ∨ (get tk t = some (n, wr))
  | [], tk, t, n, wr, h => .inr h
  | (u, m) :: r, tk, t, n, wr, h => by
    simp only [addT] at h
    rcases get_addT r _ t n wr h with ⟨h1, h2⟩ | h1
    · exact .inl ⟨by simp [h1], h2⟩
    · rw [get_put] at h1
      split at h1
      · rename_i e; subst e
        injection h1 with h1
        injection h1 with h1 h2
        subst h1; subst h2
        exact .inl ⟨by simp, rfl⟩
      · exact .inr h1
mutual
theorem rn_tks {d : Nat} : ∀ (v : V) {t n : Nat}, (t, n) ∈ (v.rn d).tks → ∃ k, t = d * 100 + k ∧ (k, n) ∈ v.tks
  | .agg cs, t, n, h => by simp only [V.rn, V.tks] at h ⊢; exact rnL_tks cs h
  | .tup cs, t, n, h => by simp only [V.rn, V.tks] at h ⊢; exact rnL_tks cs h
  | .sl (some k) sz es, t, n, h => by
    simp only [V.rn, V.tks, List.mem_singleton, Prod.mk.injEq] at h ⊢
    exact ⟨k, h.1, rfl, h.2⟩
  | .sl none _ _, _, _, h => by simp [V.rn, V.tks] at h
  | .und, _, _, h => by simp [V.rn, V.tks] at h
  | .dead, _, _, h => by simp [V.rn, V.tks] at h
  | .bool _, _, _, h => by simp [V.rn, V.tks] at h
  | .int _ _, _, _, h => by simp [V.rn, V.tks] at h
  | .nil, _, _, h => by simp [V.rn, V.tks] at h
  | .fn _ _, _, _, h => by simp [V.rn, V.tks] at h
  | .ref _ _, _, _, h => by simp [V.rn, V.tks] at h
  | .cref _, _, _, h => by simp [V.rn, V.tks] at h
  | .eref _ _ _ _ _, _, _, h => by simp [V.rn, V.tks] at h
  | .box _, _, _, h => by simp [V.rn, V.tks] at h
theorem rnL_tks {d : Nat} : ∀ (vs : List V) {t n : Nat}, (t, n) ∈ tksL (rnL d vs) → ∃ k, t = d * 100 + k ∧ (k, n) ∈ tksL vs
  | [], _, _, h => by simp [rnL, tksL] at h
  | v :: vs, t, n, h => by
    simp only [rnL, tksL, List.mem_append] at h ⊢
    rcases h with h | h
    · obtain ⟨k, h1, h2⟩ := rn_tks v h
      exact ⟨k, h1, .inl h2⟩
    · obtain ⟨k, h1, h2⟩ := rnL_tks vs h
      exact ⟨k, h1, .inr h2⟩
end
theorem res_tok {d : Nat} (hf : ∀ b t p, t / 100 = d → Ω.o b ≠ .arr t p) {al : Bool} (hold : ∀ b, b < w.heap.size → Ω1.o b = (cOwn Ω w).o b)
    {k n : Nat} (hk : k < 100) (ht : TokOk Ω1 w1 k n true) : TokOk (Ω.res Ω1 w.heap.size d al) w1 (d * 100 + k) n true := by
  obtain ⟨c, cap, T, xs, g1, ⟨p, g2⟩, g3, g4, g5, g6, g7, g8⟩ := ht
  have hd1 : (d * 100 + k) / 100 = d := by omega
  have hd2 : (d * 100 + k) % 100 = k := by omega
  have hc : ¬ c < w.heap.size := by
    intro hlt
    have := hold c hlt
    rw [g2] at this
    simp only [cOwn] at this
    cases ho : Ω.o c <;> rw [ho] at this <;> simp at this
  have ho : (Ω.res Ω1 w.heap.size d al).o c = .arr (d * 100 + k) p := by simp [Own.res, hc, g2, hk]
  refine ⟨c, cap, T, xs, by simp [Own.res, hd1, hd2, g1], ⟨p, ho⟩, g3, by simp only [Own.res, hd1, hd2, if_true]; exact g4, g5, by simp only [Own.res, hd1, hd2, if_true, if_neg hc]; exact g6, by simp only [Own.res, hd1, hd2, if_true]; exact g7, fun _ b q hbq => ?_⟩
  rcases res_arr hbq with ⟨h1, q', h2, _⟩ | ⟨h1, k', hk', h2, h3⟩
  · exact absurd h2 (hf b _ q' hd1)
  · have : k' = k := by omega
    subst this
    exact g8 rfl b q h3
theorem res_tok_old (h : Inv X w0 Ω w tm σ) {d : Nat} (hf : ∀ b t p, t / 100 = d → Ω.o b ≠ .arr t p) {al : Bool} (hb : Below w.heap.size w w1)
    {t n : Nat} {wr wr' : Bool} (ht : TokOk Ω w t n wr) (hw : wr' = true → wr = true ∧ al = false) : TokOk (Ω.res Ω1 w.heap.size d al) w1 t n wr' := by
  obtain ⟨c, cap, T, xs, g1, ⟨p, g2⟩, g3, g4, g5, g6, g7, g8⟩ := ht
  have hd : t / 100 ≠ d := fun e => hf c t p e g2
  have hc := h.bnd c (by simp [g2])
  refine ⟨c, cap, T, xs, by simp only [Own.res, if_neg hd]; exact g1, ⟨p || al, by rw [res_old hc, g2]⟩, by rw [hb.block c hc]; exact g3, by simp only [Own.res, if_neg hd]; exact g4, g5, by simp only [Own.res, if_neg hd, if_pos hc]; exact g6, by simp only [Own.res, if_neg hd]; exact g7, fun hw' b q hbq => ?_⟩
  obtain ⟨hw1, hw2⟩ := hw hw'
  rcases res_arr hbq with ⟨h1, q', h2, h3⟩ | ⟨h1, k', hk', h2, h3⟩
  · rw [h3, g8 hw1 b q' h2, hw2]; rfl
  · exact absurd (by omega) hd

theorem res_extM {d : Nat} (hold : ∀ b, b < w.heap.size → Ω1.o b = (cOwn Ω w).o b ∧ Ω1.lim b = (cOwn Ω w).lim b) : ExtM Ω1 (Ω.res Ω1 w.heap.size d true) w1 w1 := by
  have key : ∀ b, Ω1.froz b → b < w.heap.size → Ω.o b = .frz ∨ ∃ t p, Ω.o b = .arr t p := by
    intro b hb hlt
    unfold Own.froz at hb
    rw [(hold b hlt).1] at hb
    simp only [cOwn] at hb
    cases ho : Ω.o b <;> rw [ho] at hb <;> simp at hb
    · exact .inl rfl
    · exact .inr ⟨_, _, rfl⟩
  refine ⟨fun b hb => ?_, fun b hb => ?_, fun _ _ _ _ => rfl⟩
  · by_cases hlt : b < w.heap.size
    · rcases key b hb hlt with ho | ⟨t, p, ho⟩
      · exact .inl (by rw [res_old hlt, ho])
      · exact .inr ⟨t, by rw [res_old hlt, ho]; simp⟩
    · rcases hb with hb | ⟨t, hb⟩
      · exact .inl (by simp [Own.res, hlt, hb])
      · by_cases hk : t < 100
        · exact .inr ⟨d * 100 + t, by simp [Own.res, hlt, hb, hk]⟩
        · exact .inl (by simp [Own.res, hlt, hb, hk])
  · by_cases hlt : b < w.heap.size
    · simp only [Own.res, if_pos hlt]
      rw [(hold b hlt).2]
      refine Nat.le_of_eq (cOwn_lim (fun s hs => ?_))
      rcases key b hb hlt with ho | ⟨t, p, ho⟩ <;> rw [hs] at ho <;> cases ho
    · simp [Own.res, hlt]
mutual
theorem Den.res {d : Nat} {al : Bool} (hold : ∀ b, b < w.heap.size → Ω1.o b = (cOwn Ω w).o b ∧ Ω1.lim b = (cOwn Ω w).lim b) :
    ∀ (v : V) (x : Value), v.pureR = true → (al = true ∨ v.al = false) → (∀ k n, (k, n) ∈ v.tks → k < 100) → Den Ω1 w1 v x → Den (Ω.res Ω1 w.heap.size d al) w1 (v.rn d) x
  | .bool _, _, _, _, _, hd => hd
  | .int _ _, _, _, _, _, hd => hd
  | .nil, _, _, _, _, hd => hd
  | .agg cs, x, hp, ha, hk, hd => by
    simp only [Den, V.rn] at hd ⊢
    obtain ⟨xs, h1, h2⟩ := hd
    exact ⟨xs, h1, DenL.res hold cs xs (by simpa [V.pureR] using hp) (by simpa [V.al] using ha) (by simpa [V.tks] using hk) h2⟩
  | .tup cs, x, hp, ha, hk, hd => by
    simp only [Den, V.rn] at hd ⊢
    obtain ⟨xs, h1, h2⟩ := hd
    exact ⟨xs, h1, DenL.res hold cs xs (by simpa [V.pureR] using hp) (by simpa [V.al] using ha) (by simpa [V.tks] using hk) h2⟩
  | .sl none sz es, x, hp, ha, hk, hd => by
    have ha : al = true := ha.resolve_right (by simp [V.al])
    subst ha
    exact Den.extM (res_extM hold) _ _ rfl hd
  | .sl (some k) sz es, x, hp, ha, hk, hd => by
    have hk1 := hk k es.length (by simp [V.tks])
    simp only [Den, V.rn] at hd ⊢
    obtain ⟨b, cap, p, h1, h2, h3, h4, h5⟩ := hd
    have hd1 : (d * 100 + k) / 100 = d := by omega
    have hd2 : (d * 100 + k) % 100 = k := by omega
    have hc : ¬ b < w.heap.size := by
      intro hlt
      have := (hold b hlt).1
      rw [h2] at this
      simp only [cOwn] at this
      cases ho : Ω.o b <;> rw [ho] at this <;> simp at this
    refine ⟨b, cap, p, h1, by simp [Own.res, hc, h2, hk1], by simp only [Own.res, hd1, hd2, if_true]; exact h3, by simp only [Own.res, hd1, hd2, if_true]; exact h4, ?_⟩
    have hl : Ω1.lim b ≤ (Ω.res Ω1 w.heap.size d al).lim b := by simp [Own.res, hc]
    rcases ha with ha | ha
    · subst ha
      exact DenE.extM (res_extM hold) es sz b 0 hl (fun _ _ => rfl) h5
    · exact DenE.flat es sz b 0 hl (fun _ _ => rfl) (by simpa [V.al] using ha) h5
  | .und, _, hp, _, _, _ => by simp [V.pureR] at hp
  | .dead, _, hp, _, _, _ => by simp [V.pureR] at hp
  | .fn _ _, _, hp, _, _, _ => by simp [V.pureR] at hp
  | .ref _ _, _, hp, _, _, _ => by simp [V.pureR] at hp
  | .cref _, _, hp, _, _, _ => by simp [V.pureR] at hp
  | .eref _ _ _ _ _, _, hp, _, _, _ => by simp [V.pureR] at hp
  | .box _, _, hp, _, _, _ => by simp [V.pureR] at hp
theorem DenL.res {d : Nat} {al : Bool} (hold : ∀ b, b < w.heap.size → Ω1.o b = (cOwn Ω w).o b ∧ Ω1.lim b = (cOwn Ω w).lim b) :
    ∀ (vs : List V) (xs : List Value), pureRL vs = true → (al = true ∨ alL vs = false) → (∀ k n, (k, n) ∈ tksL vs → k < 100) → DenL Ω1 w1 vs xs → DenL (Ω.res Ω1 w.heap.size d al) w1 (rnL d vs) xs
  | [], xs, _, _, _, hd => by simp only [DenL] at hd; subst hd; simp [rnL, DenL]
  | v :: vs, xs, hp, ha, hk, hd => by
    simp only [DenL] at hd
    obtain ⟨x, ys, rfl, h2, h3⟩ := hd
    simp only [pureRL] at hp
    split at hp
    · rename_i hv
      have ha1 : al = true ∨ v.al = false := by
        rcases ha with ha | ha
        · exact .inl ha
        · simp only [alL] at ha
          split at ha
          · cases ha
          · rename_i hq; exact .inr (by simpa using hq)
      have ha2 : al = true ∨ alL vs = false := by
        rcases ha with ha | ha
        · exact .inl ha
        · simp only [alL] at ha
          split at ha
          · cases ha
          · exact .inr ha
      simp only [rnL]
      exact DenL.cons (Den.res hold v x hv ha1 (fun k n hk' => hk k n (by simp [tksL, hk'])) h2) (DenL.res hold vs ys hp ha2 (fun k n hk' => hk k n (by simp [tksL, hk'])) h3)
    · cases hp
end
theorem Inv.res (h : Inv X w0 Ω w tm σ) {d : Nat} (hf : ∀ b t p, t / 100 = d → Ω.o b ≠ .arr t p) {al : Bool} {R : V} {x : Value} (hb : Below w.heap.size w w1) (hr : ResOk (cOwn Ω w) Ω1 w w1 R)
    (hd : Den Ω1 w1 R x) (hp : R.pureR = true) (hal : al = true ∨ R.al = false) (hk : ∀ k n, (k, n) ∈ R.tks → k < 100) :
    Inv X w0 (Ω.res Ω1 w.heap.size d al) w1 tm { σ with tk := addT (R.rn d).tks (if al = true then protAll σ.tk else σ.tk) } ∧ Den (Ω.res Ω1 w.heap.size d al) w1 (R.rn d) x := by
  refine ⟨h.goes (goes_res h hf al hb hr.bnd) (fun t n wr ht => ?_), Den.res hr.old R x hp hal hk hd⟩
  rcases get_addT _ _ t n wr ht with ⟨h1, h2⟩ | h1
  · subst h2
    obtain ⟨k, rfl, hk2⟩ := rn_tks R h1
    exact res_tok hf (fun b hlt => (hr.old b hlt).1) (hk k n hk2) (hr.toks k n hk2)
  · split at h1
    · rename_i ha
      rw [get_protAll] at h1
      cases hg : get σ.tk t with
      | none => rw [hg] at h1; cases h1
      | some y =>
        rw [hg] at h1
        simp only [Option.map_some, Option.some.injEq, Prod.mk.injEq] at h1
        obtain ⟨h1, h2⟩ := h1
        subst h1; subst h2
        exact res_tok_old h hf hb (h.tok t _ _ hg) (fun x => by cases x)
    · rename_i ha
      exact res_tok_old h hf hb (h.tok t n wr h1) (fun x => ⟨x, by simpa using ha⟩)
mutual
/-- A result that owns nothing and shares nothing. -/
theorem Den.bare {Ω' : Own} {w' : World} : ∀ (v : V) (x : Value), v.pureR = true → v.tks = [] → v.al = false → Den Ω1 w1 v x → Den Ω' w' v x
  | .bool _, _, _, _, _, hd => hd
  | .int _ _, _, _, _, _, hd => hd
  | .nil, _, _, _, _, hd => hd
  | .agg cs, x, hp, ht, ha, hd => by
    simp only [Den] at hd ⊢
    obtain ⟨xs, h1, h2⟩ := hd
    exact ⟨xs, h1, DenL.bare cs xs (by simpa [V.pureR] using hp) (by simpa [V.tks] using ht) (by simpa [V.al] using ha) h2⟩
  | .tup cs, x, hp, ht, ha, hd => by
    simp only [Den] at hd ⊢
    obtain ⟨xs, h1, h2⟩ := hd
    exact ⟨xs, h1, DenL.bare cs xs (by simpa [V.pureR] using hp) (by simpa [V.tks] using ht) (by simpa [V.al] using ha) h2⟩
  | .sl none _ _, _, _, _, ha, _ => by simp [V.al] at ha
  | .sl (some k) _ _, _, _, ht, _, _ => by simp [V.tks] at ht
  | .und, _, hp, _, _, _ => by simp [V.pureR] at hp
  | .dead, _, hp, _, _, _ => by simp [V.pureR] at hp
  | .fn _ _, _, hp, _, _, _ => by simp [V.pureR] at hp
  | .ref _ _, _, hp, _, _, _ => by simp [V.pureR] at hp
  | .cref _, _, hp, _, _, _ => by simp [V.pureR] at hp
  | .eref _ _ _ _ _, _, hp, _, _, _ => by simp [V.pureR] at hp
  | .box _, _, hp, _, _, _ => by simp [V.pureR] at hp
theorem DenL.bare {Ω' : Own} {w' : World} : ∀ (vs : List V) (xs : List Value), pureRL vs = true → tksL vs = [] → alL vs = false → DenL Ω1 w1 vs xs → DenL Ω' w' vs xs
  | [], xs, _, _, _, hd => by simpa [DenL] using hd
  | v :: vs, xs, hp, ht, ha, hd => by
    simp only [DenL] at hd
    obtain ⟨x, ys, rfl, h2, h3⟩ := hd
    simp only [pureRL] at hp
    simp only [tksL, List.append_eq_nil_iff] at ht
    simp only [alL] at ha
    split at hp
    · rename_i hv
      split at ha
      · cases ha
      · rename_i hva
        exact DenL.cons (Den.bare v x hv ht.1 (by simpa using hva) h2) (DenL.bare vs ys hp ht.2 ha h3)
    · cases hp
end
end
end Go.Lo
