/- Arrays: new ones, protected ones; boxes that are written. -/
import Derived.Test.YtifanigkolnedaaLf
namespace Go.Lo
section
variable {X : Sc} {w0 w w' : World} {Ω Ω' : Own} {tm : Array Value} {σ : St}

/-- Elements lie in memory as a row of values says. -/
theorem rowC {b : Nat} : ∀ {cs : List V} {ys : List Value} {off : Nat}, DenL Ω w cs ys → (∀ v ∈ cs, v.pure = true ∧ v.cellOk = true) →
    (∀ j y, ys[j]? = some y → off + j < Ω.lim b ∧ w.cell? ⟨b, off + j, none⟩ = some y) → DenC Ω w cs b off
  | [], _, _, _, _, _ => by simp [DenC]
  | v :: cs, ys, off, hd, hp, hc => by
    simp only [DenL] at hd
    obtain ⟨x, zs, rfl, h2, h3⟩ := hd
    obtain ⟨g1, g2⟩ := hc 0 x rfl
    simp only [DenC]
    refine ⟨⟨x, by simpa using g1, by simpa using g2, (hp v (by simp)).1, (hp v (by simp)).2, h2⟩, rowC h3 (fun u hu => hp u (by simp [hu])) (fun j y hj => ?_)⟩
    have := hc (j + 1) y (by simpa using hj)
    rwa [show off + (j + 1) = off + 1 + j by omega] at this
theorem rowE {b sz : Nat} : ∀ {es : List (List V)} {ys : List Value} {off : Nat}, DenL Ω w es.flatten ys → (∀ cs ∈ es, cs.length = sz ∧ cs.all V.pm = true) →
    (∀ j y, ys[j]? = some y → off + j < Ω.lim b ∧ w.cell? ⟨b, off + j, none⟩ = some y) → DenE Ω w es sz b off
  | [], _, _, _, _, _ => by simp [DenE]
  | cs :: es, ys, off, hd, hp, hc => by
    simp only [List.flatten_cons] at hd
    have hl : cs.length = sz := (hp cs (by simp)).1
    have hd1 := hd.take cs.length
    have hd2 := hd.drop cs.length
    rw [List.take_left] at hd1
    rw [List.drop_left] at hd2
    simp only [DenE]
    refine ⟨hl, (hp cs (by simp)).2, rowC hd1 (fun v hv => V.pm_pure (List.all_eq_true.1 (hp cs (by simp)).2 v hv)) (fun j y hj => ?_), rowE hd2 (fun u hu => hp u (by simp [hu])) (fun j y hj => ?_)⟩
    · rw [List.getElem?_take] at hj
      split at hj
      · exact hc j y hj
      · cases hj
    · rw [List.getElem?_drop] at hj
      have := hc _ y hj
      rwa [hl, show off + (sz + j) = off + sz + j by omega] at this

theorem goes_mkArr (h : Inv X w0 Ω w tm σ) (t k n sz : Nat) (hf : ∀ b p, Ω.o b ≠ .arr t p) (c : Array Value) (T : TypeId) :
    Goes X w0 Ω (Ω.mkArr w.heap.size t k n sz) w (w.alloc (.cells c T)) := by
  have hout := out_size h
  have hold : ∀ b, Ω.o b ≠ .out → b ≠ w.heap.size := fun b hb e => hb (e ▸ hout)
  have ho : ∀ b, Ω.o b ≠ .out → (Ω.mkArr w.heap.size t k n sz).o b = Ω.o b := fun b hb => by simp [Own.mkArr, hold b hb]
  have hl : ∀ b, Ω.o b ≠ .out → (Ω.mkArr w.heap.size t k n sz).lim b = Ω.lim b := fun b hb => by simp [Own.mkArr, hold b hb]
  constructor
  · constructor
    · intro b hb
      have hne := Own.froz_ne hb
      unfold Own.froz at hb ⊢
      rw [ho b hne]; exact hb
    · intro b hb; exact .inr (by rw [ho b (by simp [hb])]; exact hb)
    · intro b u p hb; exact ⟨p, by rw [ho b (by simp [hb])]; exact hb⟩
    · intro b s hb; rw [ho b (by simp [hb])]; exact hb
    · intro b hb; rw [hl b hb]; exact Nat.le_refl _
    · intro b off hb _; exact World.cell?_of_block (heap_alloc_lt w _ (h.bnd b hb))
    · intro b u p hb
      have hu : u ≠ t := fun e => hf b p (e ▸ hb)
      simp [Own.mkArr, hu]
    · intro b u p c k n hb hc
      have hu : u ≠ t := fun e => hf b p (e ▸ hb)
      simp only [Own.mkArr, if_neg hu] at hc
      exact ⟨c, k, n, hc, .inl ⟨rfl, rfl, rfl⟩⟩
    · rfl
  · exact kept_alloc h.kept _
  · intro b s hb
    by_cases e : b = w.heap.size
    · subst e; exact .inl h.kept.size
    · simp only [Own.mkArr, if_neg e] at hb; exact h.ownB b s hb
  · intro b u p hb
    by_cases e : b = w.heap.size
    · subst e; exact .inl h.kept.size
    · simp only [Own.mkArr, if_neg e] at hb; exact h.ownA b u p hb
  · intro b hb
    by_cases e : b = w.heap.size
    · subst e; simp
    · simp only [Own.mkArr, if_neg e] at hb
      have := h.bnd b hb
      simp only [World.size_alloc]; omega
  · intro b b' s hb hb'
    by_cases e : b = w.heap.size
    · simp [Own.mkArr, e] at hb
    · by_cases e' : b' = w.heap.size
      · simp [Own.mkArr, e'] at hb'
      · simp only [Own.mkArr, if_neg e, if_neg e'] at hb hb'
        exact h.uniq b b' s hb hb'
  · intro b s hb
    by_cases e : b = w.heap.size
    · simp [Own.mkArr, e] at hb
    · simp only [Own.mkArr, if_neg e] at hb ⊢; exact h.limB b s hb
  · intro b hb hX
    simp only [Own.mkArr, if_neg (h.newNe hb)]
    exact h.old b hb hX
  · refine ⟨rfl, rfl, rfl, by simp, fun b hb _ => heap_alloc_lt w _ hb, fun b hb _ => ?_⟩
    simp only [Own.mkArr, if_neg (Nat.ne_of_lt hb), and_self]
  · intro b s T' xs hb hh
    rw [heap_alloc_lt w _ (h.bnd b (by simp [hb]))]; exact hh

/-- A new array. -/
theorem Inv.mkArr (h : Inv X w0 Ω w tm σ) {t k n sz : Nat} (hf : ∀ b p, Ω.o b ≠ .arr t p) (c : Array Value) (T : TypeId) (hc : c.size = k * sz) (hn : n ≤ k) (hsz : 0 < sz)
    {es : List (List V)} (hes : es.length = n) {ys : List Value} (hd : DenL Ω w es.flatten ys) (hp : ∀ cs ∈ es, cs.length = sz ∧ cs.all V.pm = true)
    (hy : ∀ (j : Nat) (y : Value), ys[j]? = some y → c[j]? = some y) :
    Inv X w0 (Ω.mkArr w.heap.size t k n sz) (w.alloc (.cells c T)) tm { σ with tk := Lo.put σ.tk t (n, true) } ∧
      Den (Ω.mkArr w.heap.size t k n sz) (w.alloc (.cells c T)) (.sl (some t) sz es) (.slice (some ⟨w.heap.size, 0, none⟩) n k) := by
  have g := goes_mkArr h t k n sz hf c T
  refine ⟨h.goes g (tk' := Lo.put σ.tk t (n, true)) (fun u m wr hu => ?_), ?_⟩
  · rw [get_put] at hu
    split at hu
    · rename_i e; subst e
      injection hu with hu
      injection hu with h1 h2
      subst h1; subst h2
      refine ⟨w.heap.size, k, T, c, by simp [Own.mkArr], ⟨false, by simp [Own.mkArr]⟩, heap_alloc_new w _, by simpa [Own.mkArr] using hc, hn, by simp [Own.mkArr], by simpa [Own.mkArr] using hsz, fun _ b p hb => ?_⟩
      simp only [Own.mkArr] at hb
      split at hb
      · injection hb with _ hb; exact hb.symm
      · exact absurd hb (hf b p)
    · rename_i e
      have e' : u ≠ t := fun x => e x.symm
      exact (h.tok u m wr hu).old h (out_size h) (by simp [Own.mkArr, e']) (by simp [Own.mkArr, e']) (fun c hc => by simp [Own.mkArr, hc]) (fun p => by simp [Own.mkArr]; exact fun x => absurd x.symm e') (fun c hc => by simp [Own.mkArr, hc]) (fun c hc => heap_alloc_lt w _ hc)
  · simp only [Den]
    refine ⟨w.heap.size, k - n, false, by rw [hes]; congr 1; omega, by simp [Own.mkArr], by simp [Own.mkArr], ?_, ?_⟩
    · intro c' k' n' hcur
      simp only [Own.mkArr, if_true, Option.some.injEq, Prod.mk.injEq] at hcur
      obtain ⟨h1, h2, h3⟩ := hcur
      exact ⟨by omega, fun _ => ⟨h1, by omega⟩⟩
    · refine rowE (DenL.ext g.ext _ _ hd) hp (fun j y hj => ?_)
      have hy' := hy j y hj
      have hlen : j < es.flatten.length := by
        have := (List.getElem?_eq_some_iff.1 hj).1
        rw [hd.length] at this; exact this
      have hfl : es.flatten.length = n * sz := by
        rw [List.length_flatten]
        have : es.map List.length = List.replicate es.length sz := by
          apply List.ext_getElem (by simp)
          intro i h1 h2
          simp only [List.getElem_map, List.getElem_replicate]
          exact (hp _ (List.getElem_mem _)).1
        rw [this, hes, List.sum_replicate_nat]
      refine ⟨by simp [Own.mkArr]; omega, ?_⟩
      simp only [Nat.zero_add, World.cell?_alloc_new]
      exact hy'

/-! ### Protection -/
def Own.prot (Ω : Own) (ps : List Nat) : Own :=
  { Ω with o := fun b => match Ω.o b with | .arr t p => .arr t (p || memN t ps) | x => x }
theorem prot_arr {Ω : Own} {ps : List Nat} {b t : Nat} {p : Bool} (h : (Ω.prot ps).o b = .arr t p) : ∃ q, Ω.o b = .arr t q ∧ p = (q || memN t ps) := by
  simp only [Own.prot] at h
  split at h
  · rename_i u q hb
    injection h with h1 h2
    subst h1
    exact ⟨q, hb, h2.symm⟩
  · rename_i hb
    exact absurd h (hb _ _)
theorem prot_other {Ω : Own} {ps : List Nat} {b : Nat} (h : ∀ t p, Ω.o b ≠ .arr t p) : (Ω.prot ps).o b = Ω.o b := by
  simp only [Own.prot]
theorem prot_box {Ω : Own} {ps : List Nat} {b s : Nat} (h : (Ω.prot ps).o b = .box s) : Ω.o b = .box s := by
  simp only [Own.prot] at h
  cases hb : Ω.o b <;> rw [hb] at h <;> simp only at h <;> first | exact h | cases h
theorem prot_ne {Ω : Own} {ps : List Nat} {b : Nat} (h : (Ω.prot ps).o b ≠ .out) : Ω.o b ≠ .out := by
  intro e
  exact h (by rw [prot_other (by intro t p; rw [e]; simp), e])
theorem ext_prot (Ω : Own) (w : World) (ps : List Nat) : Ext Ω (Ω.prot ps) w w := by
  constructor
  · intro b hb
    rcases hb with hb | ⟨t, hb⟩
    · exact .inl (by rw [prot_other (by intro t p; rw [hb]; simp), hb])
    · exact .inr ⟨t, by simp [Own.prot, hb]⟩
  · intro b hb; exact .inr (by rw [prot_other (by intro t p; rw [hb]; simp), hb])
  · intro b t p hb; exact ⟨p || memN t ps, by simp only [Own.prot, hb]⟩
  · intro b s hb; rw [prot_other (by intro t p; rw [hb]; simp), hb]
  · intro b _; exact Nat.le_refl _
  · intro b off _ _; rfl
  · intro b t p _; rfl
  · intro b t p c k n _ hc; exact ⟨c, k, n, hc, .inl ⟨rfl, rfl, rfl⟩⟩
  · rfl
theorem goes_prot (h : Inv X w0 Ω w tm σ) (ps : List Nat) : Goes X w0 Ω (Ω.prot ps) w w where
  ext := ext_prot Ω w ps
  kept := h.kept
  ownB b s hb := h.ownB b s (prot_box hb)
  ownA b t p hb := by obtain ⟨q, hq, _⟩ := prot_arr hb; exact h.ownA b t q hq
  bnd b hb := h.bnd b (prot_ne hb)
  uniq b b' s hb hb' := h.uniq b b' s (prot_box hb) (prot_box hb')
  limB b s hb := h.limB b s (prot_box hb)
  old b hb hX := by rw [prot_other (h.oldArr hb hX)]; exact h.old b hb hX
  stp := ⟨rfl, rfl, rfl, Nat.le_refl _, fun _ _ _ => rfl, fun b _ hm => ⟨prot_other fun t p hb => hm (.inr ⟨t, p, hb⟩), rfl⟩⟩
  boxes _ _ _ _ _ h := h
theorem TokOk.prot {ps : List Nat} {t n : Nat} {wr wr' : Bool} (ht : TokOk Ω w t n wr) (h1 : wr' = true → wr = true ∧ memN t ps = false) : TokOk (Ω.prot ps) w t n wr' := by
  obtain ⟨c, k, T, xs, g1, ⟨p, g2⟩, g3, g4, g5, g6, g7, g8⟩ := ht
  refine ⟨c, k, T, xs, g1, ⟨p || memN t ps, by simp only [Own.prot, g2]⟩, g3, g4, g5, g6, g7, fun hw b q hb => ?_⟩
  obtain ⟨q', hq, rfl⟩ := prot_arr hb
  obtain ⟨k1, k2⟩ := h1 hw
  simp [g8 k1 b q' hq, k2]
theorem Inv.prot (h : Inv X w0 Ω w tm σ) (ps : List Nat) : Inv X w0 (Ω.prot ps) w tm { σ with tk := protT ps σ.tk } :=
  h.goes (goes_prot h ps) (fun t n wr ht => by
    rw [get_protT] at ht
    cases hg : get σ.tk t with
    | none => rw [hg] at ht; cases ht
    | some x =>
      obtain ⟨m, wr0⟩ := x
      rw [hg] at ht
      simp only [Option.map_some, Option.some.injEq] at ht
      split at ht
      · injection ht with e1 e2; subst e1; subst e2
        exact (h.tok t _ _ hg).prot (fun x => by cases x)
      · rename_i hm
        injection ht with e1 e2; subst e1; subst e2
        exact (h.tok t _ _ hg).prot (fun x => ⟨x, by simpa using hm⟩))
/-- A view of an array that is protected now. -/
theorem Den.view {ps : List Nat} {t sz : Nat} {es : List (List V)} {x : Value} (hp : memN t ps = true) (hd : Den Ω w (.sl (some t) sz es) x) : Den (Ω.prot ps) w (.sl none sz es) x := by
  simp only [Den] at hd ⊢
  obtain ⟨b, cap, p, h1, h2, h3, _, h5⟩ := hd
  refine .inr ⟨b, 0, cap, h1, .inr ⟨t, by simp [Own.prot, h2, hp]⟩, DenE.ext (ext_prot Ω w ps) es sz b 0 (by rw [h2]; simp) h5⟩

mutual
/-- A value that becomes a part of an array. -/
theorem Den.frzE {ps : List Nat} : ∀ (v v' : V) (ts : List Nat) (x : Value), v.frzE = some (v', ts) → (∀ t ∈ ts, memN t ps = true) → Den Ω w v x → Den (Ω.prot ps) w v' x ∧ v'.pure = true ∧ (v.cellOk = true → v'.cellOk = true)
  | .und, v', ts, x, hf, _, _ => by simp [V.frzE] at hf
  | .dead, v', ts, x, hf, _, _ => by simp [V.frzE] at hf
  | .bool _, v', ts, x, hf, _, hd => by simp only [V.frzE, Option.some.injEq, Prod.mk.injEq] at hf; obtain ⟨rfl, rfl⟩ := hf; exact ⟨hd, rfl, fun _ => rfl⟩
  | .int _ _, v', ts, x, hf, _, hd => by simp only [V.frzE, Option.some.injEq, Prod.mk.injEq] at hf; obtain ⟨rfl, rfl⟩ := hf; exact ⟨hd, rfl, fun _ => rfl⟩
  | .nil, v', ts, x, hf, _, hd => by simp only [V.frzE, Option.some.injEq, Prod.mk.injEq] at hf; obtain ⟨rfl, rfl⟩ := hf; exact ⟨hd, rfl, fun _ => rfl⟩
  | .sl none sz es, v', ts, x, hf, _, hd => by
    simp only [V.frzE, Option.some.injEq, Prod.mk.injEq] at hf; obtain ⟨rfl, rfl⟩ := hf
    exact ⟨Den.ext (ext_prot Ω w ps) _ _ hd, rfl, fun _ => rfl⟩
  | .sl (some t) sz es, v', ts, x, hf, hp, hd => by
    simp only [V.frzE, Option.some.injEq, Prod.mk.injEq] at hf; obtain ⟨rfl, rfl⟩ := hf
    exact ⟨hd.view (hp t (by simp)), rfl, fun _ => rfl⟩
  | .agg cs, v', ts, x, hf, hp, hd => by
    simp only [V.frzE] at hf
    split at hf
    · rename_i cs' us hcs
      simp only [Option.some.injEq, Prod.mk.injEq] at hf; obtain ⟨rfl, rfl⟩ := hf
      simp only [Den] at hd ⊢
      obtain ⟨xs, h1, h2⟩ := hd
      obtain ⟨g1, g2, _⟩ := DenL.frzE cs cs' _ xs hcs hp h2
      exact ⟨⟨xs, h1, g1⟩, by simpa [V.pure] using g2, fun h => by simp [V.cellOk] at h⟩
    · cases hf
  | .tup _, v', ts, x, hf, _, _ => by simp [V.frzE] at hf
  | .fn _ _, v', ts, x, hf, _, _ => by simp [V.frzE] at hf
  | .ref _ _, v', ts, x, hf, _, _ => by simp [V.frzE] at hf
  | .cref _, v', ts, x, hf, _, _ => by simp [V.frzE] at hf
  | .eref _ _ _ _ _, v', ts, x, hf, _, _ => by simp [V.frzE] at hf
  | .box _, v', ts, x, hf, _, _ => by simp [V.frzE] at hf
theorem DenL.frzE {ps : List Nat} : ∀ (vs vs' : List V) (ts : List Nat) (xs : List Value), frzEL vs = some (vs', ts) → (∀ t ∈ ts, memN t ps = true) → DenL Ω w vs xs →
    DenL (Ω.prot ps) w vs' xs ∧ pureL vs' = true ∧ vs'.length = vs.length
  | [], vs', ts, xs, hf, _, hd => by
    simp only [frzEL, Option.some.injEq, Prod.mk.injEq] at hf; obtain ⟨rfl, rfl⟩ := hf
    simp only [DenL] at hd
    subst hd
    exact ⟨DenL.nil, rfl, rfl⟩
  | v :: vs, vs', ts, xs, hf, hp, hd => by
    simp only [frzEL] at hf
    split at hf
    · rename_i v' us ws zs hv hvs
      simp only [Option.some.injEq, Prod.mk.injEq] at hf; obtain ⟨rfl, rfl⟩ := hf
      simp only [DenL] at hd
      obtain ⟨x, ys, rfl, h2, h3⟩ := hd
      obtain ⟨g1, g2, _⟩ := Den.frzE v v' us x hv (fun t ht => hp t (by simp [ht])) h2
      obtain ⟨k1, k2, k3⟩ := DenL.frzE vs ws zs ys hvs (fun t ht => hp t (by simp [ht])) h3
      exact ⟨DenL.cons g1 k1, by simp [pureL, g2, k2], by simp [k3]⟩
    · cases hf
end

/-! ### A box is written -/
theorem Inv.sto (h : Inv X w0 Ω w tm σ) {s b : Nat} {old : Array Value} {T : TypeId} (hb : Ω.o b = .box s) (hh : w.heap[b]? = some (.cells old T (0, 0)))
    {xs : List Value} {cs cs0 : List V} (hs : get σ.fr s = some (.box cs0)) (hd : DenL Ω w cs xs) (hk : ∀ v ∈ cs, v.cellOk = true ∨ v = .dead) :
    Inv X w0 Ω (w.setRow b xs.toArray) tm { σ with fr := Lo.put σ.fr s (.box cs) } := by
  have hlim := h.limB b s hb
  have hx : Ext Ω Ω w (w.setRow b xs.toArray) :=
    ⟨fun _ h => h, fun _ h => .inr h, fun _ _ p h => ⟨p, h⟩, fun _ _ h => h, fun _ _ => Nat.le_refl _, fun c off hc ho => by
      refine cell_setRow_other w b _ ⟨c, off, none⟩ (fun e => ?_)
      simp only at e; subst e; rw [hlim] at ho; omega, fun _ _ _ _ => rfl, fun _ _ _ c k n _ h => ⟨c, k, n, h, .inl ⟨rfl, rfl, rfl⟩⟩, rfl⟩
  have hsize : (w.setRow b xs.toArray).heap.size = w.heap.size := by simp [World.setRow]
  constructor
  · refine ⟨h.kept.os, h.kept.tape, h.kept.output, by rw [hsize]; exact h.kept.size, fun c hc hX => ?_⟩
    by_cases e : c = b
    · subst e
      rcases h.ownB c s hb with h1 | h1
      · exact absurd hc (Nat.not_lt_of_le h1)
      · exact absurd h1 hX
    · rw [setRow_other w b c _ e]; exact h.kept.block c hc hX
  · exact h.ownB
  · exact h.ownA
  · intro c hc; rw [hsize]; exact h.bnd c hc
  · exact h.uniq
  · exact h.limB
  · intro s' v hs'
    rw [get_put] at hs'
    split at hs'
    · rename_i e; subst e
      injection hs' with hs'; subst hs'
      obtain ⟨h1, h2⟩ := h.slot s _ hs
      refine ⟨h1, ?_⟩
      simp only [DenS] at h2 ⊢
      obtain ⟨b', xs', T', e1, e2, e3, _⟩ := h2
      have := h.uniq b b' s hb e2
      subst this
      exact ⟨b, xs, T, e1, hb, setRow_heap w b old _ T _ hh, DenL.ext hx _ _ hd, hk⟩
    · rename_i e
      obtain ⟨h1, h2⟩ := h.slot s' v hs'
      refine ⟨h1, ?_⟩
      cases v <;> first
        | exact Den.ext hx _ _ h2
        | (simp only [DenS] at h2 ⊢
           obtain ⟨b', xs', T', e1, e2, e3, e4, e5⟩ := h2
           have hne : b' ≠ b := fun x => by subst x; rw [hb] at e2; injection e2 with e2; exact e e2
           exact ⟨b', xs', T', e1, e2, by rw [setRow_other w b b' _ hne]; exact e3, DenL.ext hx _ _ e4, e5⟩)
  · intro t n wr ht
    obtain ⟨c, k, T', ys, g1, ⟨p, g2⟩, g3, g4⟩ := h.tok t n wr ht
    have hne : c ≠ b := fun x => by subst x; rw [hb] at g2; cases g2
    exact ⟨c, k, T', ys, g1, ⟨p, g2⟩, by rw [setRow_other w b c _ hne]; exact g3, g4⟩
  · exact h.old
  · refine X.st h.out ⟨⟨rfl, rfl, rfl, Nat.le_of_eq hsize.symm, fun c hc hm => setRow_other w b c _ (fun e => hm (e ▸ .inl ⟨s, hb⟩)), fun _ _ _ => ⟨rfl, rfl⟩⟩, ⟨fun _ h => h, fun _ _ => Nat.le_refl _, fun c off hc _ => ?_⟩, fun c hc => by rw [hsize]; exact h.bnd c hc, rfl, h.bnd⟩
    have hne : c ≠ b := fun e => by subst e; rcases hc with hc | ⟨t, hc⟩ <;> rw [hb] at hc <;> cases hc
    exact World.cell?_of_block (setRow_other w b c _ hne)
end
end Go.Lo
