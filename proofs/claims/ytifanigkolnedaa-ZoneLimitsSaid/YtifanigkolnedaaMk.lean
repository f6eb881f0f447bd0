/- Ranges over functions: what a piece of code comes to; what an iterator and the body promise each other. -/
import Derived.Test.YtifanigkolnedaaMj
namespace Go.Lo
section
variable {P : Program} {X : Sc} {w0 : World} {call : Nat → List V → Option V}

/-! ### Code -/
def Ex.out : Ex → Exit
  | .normal => .normal
  | .exit id => .exit id
  | .ret => .ret
/-- Behind a piece of code. -/
structure Arr (X : Sc) (w0 : World) (ro : Option Nat) (Ω : Own) (a : Act) (M : List Nat) (df : List Deferred) (σ' : St) (ks ds : List Nat) (a' : Act) (w' : World) (Ω' : Own) (M' : List Nat) : Prop where
  size : a'.tmps.size = a.tmps.size
  defers : a'.defers = marks M' ++ df
  nodup : M'.Nodup
  low : ∀ r ∈ M', w0.heap.size ≤ r
  same : M' = M ∨ (Plain X ∧ ro = none)
  keep : ∀ k, k ∉ ks → a'.tmps.getD k undef = a.tmps.getD k undef
  inv : Inv (X.df M') w0 Ω' w' a'.tmps σ'
  fresh : ∀ d, Fresh Ω d → d ∉ ds → Fresh Ω' d
/-- What follows a piece of code. -/
def NextC (X : Sc) (w0 : World) (ro : Option Nat) (Ω : Own) (a : Act) (M : List Nat) (df : List Deferred) (σ' : St) (ks ds : List Nat) (K : Act → World → Prop) : Prop :=
  ∀ a' w' Ω' M', Arr X w0 ro Ω a M df σ' ks ds a' w' Ω' M' → K a' w'
/-- What is made once is made in one place. -/
def Once (lc : LCode) : Prop := (onceC lc).Nodup ∧ ∀ d ∈ onceC lc, d ∉ loopC lc
/-- A piece of code does what its compiled form does. -/
def CodeOk (P : Program) (call : Nat → List V → Option V) (N : Nat) (c : Code) (lc : LCode) : Prop :=
  ∀ {X : Sc} {w0 : World} {T : List (List V)} {ro : Option Nat} {n : Nat} {Ω : Own} {w : World} {a : Act} {σ σ' : St} {ex : Ex} {Q : Exit → Act → World → Prop} {M : List Nat} {df : List Deferred},
    ScOk P X w0 T ro → (Plain X ∨ M = []) → M.Nodup → (∀ r ∈ M, w0.heap.size ≤ r) → a.defers = marks M ++ df → evC call N lc σ = some (ex, σ') → UpTo T σ' → Inv (X.df M) w0 Ω w a.tmps σ → (∀ d ∈ dstsC lc, d < a.tmps.size) →
    (∀ d ∈ onceC lc, Fresh Ω d) → Once lc → NextC X w0 ro Ω a M df σ' (dstsC lc) (onceC lc ++ loopC lc) (Q ex.out) → c.wpIn (wideR ro) n P Q a w
end

/-! ### What was yielded grows -/
section
variable {call : Nat → List V → Option V}
theorem iter_tr {f : St → Option (Ex × St)} (h : ∀ σ ex σ', f σ = some (ex, σ') → TrLe σ σ') : ∀ {n : Nat} {σ : St} {ex : Ex} {σ' : St}, iter f n σ = some (ex, σ') → TrLe σ σ'
  | 0, _, _, _, hs => by simp [iter] at hs
  | n + 1, σ, ex, σ', hs => by
    simp only [iter] at hs
    split at hs
    · rename_i σ1 h1
      exact (h _ _ _ h1).trans (iter_tr h hs)
    · exact h _ _ _ hs
theorem roundE_tr {evA evB : St → Option (Ex × St)} (hA : ∀ σ ex σ', evA σ = some (ex, σ') → TrLe σ σ') (hB : ∀ σ ex σ', evB σ = some (ex, σ') → TrLe σ σ') {ps wr : List Nat} {σ : St} {as : List V} {ex : Ex} {σ' : St}
    (h : roundE evA evB ps wr σ as = some (ex, σ')) : TrLe σ σ' := by
  unfold roundE at h
  split at h
  · split at h
    · rename_i σ1 h1
      split at h
      · rename_i e2 σ2 h2
        simp only [Option.some.injEq, Prod.mk.injEq] at h
        obtain ⟨rfl, rfl⟩ := h
        have k1 := hA _ _ _ h1
        have k1 : TrLe σ σ1 := k1
        have k2 := k1.trans (hB _ _ _ h2)
        exact k2
      · cases h
    · cases h
  · cases h
theorem foldR_tr {f : St → List V → Option (Ex × St)} (h : ∀ σ as ex σ', f σ as = some (ex, σ') → TrLe σ σ') : ∀ {t : List (List V)} {k : Nat} {σ : St} {st : Option (Nat × Ex)} {σ' : St}, foldR f k σ t = some (st, σ') → TrLe σ σ'
  | [], _, _, _, _, hs => by
    simp only [foldR, Option.some.injEq, Prod.mk.injEq] at hs
    obtain ⟨_, rfl⟩ := hs
    exact .refl _
  | x :: t, k, σ, st, σ', hs => by
    simp only [foldR] at hs
    split at hs
    · rename_i σ1 h1
      exact (h _ _ _ _ h1).trans (foldR_tr h hs)
    · rename_i e σ1 _ h1
      simp only [Option.some.injEq, Prod.mk.injEq] at hs
      obtain ⟨_, rfl⟩ := hs
      exact h _ _ _ _ h1
    · cases hs
theorem rngE_spec {f : St → List V → Option (Ex × St)} {it : Nat → Option V} {σ : St} {ex : Ex} {σ' : St} (h : rngE f it σ = some (ex, σ')) : ∃ b T, itemsOf (it b) = some T ∧ FoldOk f σ T b ex σ' := by
  unfold rngE at h
  split at h
  · cases h
  · rename_i items hi
    split at h
    · rename_i σ1 h1
      simp only [Option.some.injEq, Prod.mk.injEq] at h
      obtain ⟨rfl, rfl⟩ := h
      exact ⟨0, items, hi, .all h1⟩
    · rename_i k _ _ h1
      split at h
      · cases h
      · rename_i items' hi'
        split at h
        · rename_i k' ex' σ1 h2
          split at h
          · rename_i hc
            obtain ⟨rfl, hl⟩ := hc
            simp only [Option.some.injEq, Prod.mk.injEq] at h
            obtain ⟨rfl, rfl⟩ := h
            exact ⟨k' + 1, items', hi', .stop hl h2⟩
          · cases h
        · cases h
    · cases h
theorem evC_tr {N : Nat} : ∀ (lc : LCode) {σ : St} {ex : Ex} {σ' : St}, evC call N lc σ = some (ex, σ') → TrLe σ σ' := by
  intro lc
  induction lc with
  | skip => intro σ ex σ' h; simp only [evC, Option.some.injEq, Prod.mk.injEq] at h; obtain ⟨_, rfl⟩ := h; exact .refl _
  | exit id => intro σ ex σ' h; simp only [evC, Option.some.injEq, Prod.mk.injEq] at h; obtain ⟨_, rfl⟩ := h; exact .refl _
  | ret => intro σ ex σ' h; simp only [evC, Option.some.injEq, Prod.mk.injEq] at h; obtain ⟨_, rfl⟩ := h; exact .refl _
  | bad => intro σ ex σ' h; simp only [evC] at h; cases h
  | reg lp ds pp ops kn kp =>
    intro σ ex σ' h
    simp only [evC] at h
    split at h
    · rename_i σ1 h1
      simp only [Option.some.injEq, Prod.mk.injEq] at h
      obtain ⟨_, rfl⟩ := h
      have k0 : TrLe σ (prep lp pp σ) := .of (prep_tr _ _ _)
      have k2 : TrLe σ σ1 := k0.trans (stepL_tr h1)
      exact k2
    · cases h
  | seq a b iha ihb =>
    intro σ ex σ' h
    simp only [evC] at h
    split at h
    · rename_i σ1 h1; exact (iha h1).trans (ihb h)
    · exact iha h
  | cond c a b iha ihb =>
    intro σ ex σ' h
    simp only [evC] at h
    split at h
    · split at h
      · exact iha h
      · exact ihb h
    · cases h
  | block id a ih =>
    intro σ ex σ' h
    simp only [evC] at h
    split at h
    · rename_i j σ1 h1
      split at h <;> simp only [Option.some.injEq, Prod.mk.injEq] at h <;> obtain ⟨_, rfl⟩ := h <;> exact ih h1
    · exact ih h
  | loop a ih => intro σ ex σ' h; simp only [evC] at h; exact iter_tr (fun _ _ _ h => ih h) h
  | rng g ps wr a b iha ihb =>
    intro σ ex σ' h
    have key : ∀ {it : Nat → Option V} {τ : St}, τ.tr = σ.tr → rngE (roundE (evC call N a) (evC call N b) ps wr) it τ = some (ex, σ') → TrLe σ σ' := fun e h => by
      obtain ⟨k, T, _, hf⟩ := rngE_spec h
      obtain ⟨st, hf, _⟩ := hf.fold
      have := foldR_tr (fun _ _ _ _ h => roundE_tr (fun _ _ _ h => iha h) (fun _ _ _ h => ihb h) h) hf
      exact TrLe.trans (.of e) this
    simp only [evC] at h
    split at h
    · split at h
      · split at h
        · exact key (by rfl) h
        · cases h
      · cases h
    · split at h
      · split at h
        · exact key (by rfl) h
        · cases h
      · cases h
    · cases h
end

/-! ### What the iterator may know, and what the body learns -/
def frzB : OwnK → Bool
  | .frz => true
  | .arr _ true => true
  | _ => false
theorem froz_iff {Ω : Own} {b : Nat} : Ω.froz b ↔ frzB (Ω.o b) = true := by
  unfold Own.froz
  cases h : Ω.o b with
  | arr t p => cases p <;> simp [frzB]
  | _ => simp [frzB]
def itOwn (Ω : Own) (l b : Nat) : Own where
  o k := if frzB (Ω.o k) = true then .frz else .out
  lim := Ω.lim
  cur _ := none
  tsz _ := 0
  yl := some (l, b)
theorem itOwn_or (Ω : Own) (l b k : Nat) : (itOwn Ω l b).o k = .out ∨ ((itOwn Ω l b).o k = .frz ∧ Ω.froz k) := by
  simp only [itOwn]
  split
  · rename_i h; exact .inr ⟨rfl, froz_iff.2 h⟩
  · exact .inl rfl
theorem base_itOwn {Ω : Own} {w : World} {l b : Nat} (hb : ∀ k, Ω.o k ≠ .out → k < w.heap.size) : Base (itOwn Ω l b) w := by
  refine ⟨fun k => ?_, fun k hk => ?_⟩
  · rcases itOwn_or Ω l b k with h | ⟨h, _⟩ <;> simp [h]
  · rcases itOwn_or Ω l b k with h | ⟨_, h⟩
    · exact absurd h hk
    · exact hb k (Own.froz_ne h)
/-- What the iterator has frozen is frozen for the body. -/
def Own.mg (Ωo Ωi : Own) (n : Nat) : Own :=
  { Ωo with o := fun k => if n ≤ k ∧ frzB (Ωi.o k) = true then .frz else Ωo.o k, lim := fun k => if n ≤ k ∧ frzB (Ωi.o k) = true then Ωi.lim k else Ωo.lim k }

/-- While an iterator is at work: what was so at the start. -/
structure JS (Xc : Sc) (w0 : World) (Ω1 : Own) (we ws : World) (l : Nat) : Prop where
  plain : Plain Xc
  hl : we.heap.size = l
  hws : ws.heap.size = l + 1
  hj : Xc.j none Ω1 we
  lo : Ω1.o l = .out
  sz : w0.heap.size ≤ l
  bnd : ∀ k, Ω1.o k ≠ .out → k < l
/-- And what is so now. -/
structure JAt (Xc : Sc) (w0 : World) (Ω1 : Own) (ws : World) (tm : Array Value) (F : St → List V → Option (Ex × St)) (σ1 : St) (l b : Nat) (r0 : Loop) (ks : List Nat) (t : List (List V)) (Ωi : Own) (w : World) (Ωo : Own) (σo : St) (st : Option (Nat × Ex)) : Prop where
  fold : foldR F 0 σ1 t = some (st, σo)
  inv : Inv Xc w0 Ωo w tm σo
  rcd : w.heap[l]? = some (.loop { r0 with state := if (jumpOf st).isNone then .ready else .done, pending := jumpOf st })
  a1 : ∀ k, k < ws.heap.size → Ωi.o k = (itOwn Ω1 l b).o k ∧ Ωi.lim k = Ω1.lim k
  a2 : ∀ k, Ω1.froz k → Ωo.froz k ∧ Ω1.lim k ≤ Ωo.lim k
  b1 : ∀ k, ws.heap.size ≤ k → Ωi.o k ≠ .out → Ωo.o k = .out ∨ (Ωo.o k = .frz ∧ Ωi.froz k ∧ Ωo.lim k ≤ Ωi.lim k)
  c1 : ∀ k, Ωi.o k ≠ .out → k < w.heap.size
  d1 : Ωo.o l = .out
  e1 : ∀ k, k < ws.heap.size → Ωo.mine k → Ω1.mine k
  yl : Ωi.yl = some (l, b)
  kept : Kept (fun k => Ω1.mine k ∨ k = l) ws w
  fresh : ∀ d, Fresh Ω1 d → d ∉ ks → Fresh Ωo d
section
variable {Xc : Sc} {w0 we ws w w' : World} {Ω1 Ωi Ωi' Ωo : Own} {tm : Array Value} {F : St → List V → Option (Ex × St)} {σ1 σo : St} {l b : Nat} {r0 : Loop} {ks : List Nat} {t : List (List V)} {st : Option (Nat × Ex)}

theorem mine_ne {Ω : Own} {k : Nat} (h : Ω.mine k) : Ω.o k ≠ .out ∧ Ω.o k ≠ .frz := by
  rcases h with ⟨s, hs⟩ | ⟨t, p, hp⟩
  · rw [hs]; exact ⟨by simp, by simp⟩
  · rw [hp]; exact ⟨by simp, by simp⟩
theorem JAt.nm (h : JAt Xc w0 Ω1 ws tm F σ1 l b r0 ks t Ωi w Ωo σo st) {k : Nat} (hk : k < ws.heap.size) : ¬ Ωi.mine k := fun hm => by
  obtain ⟨g1, g2⟩ := mine_ne hm
  rw [(h.a1 k hk).1] at g1 g2
  rcases itOwn_or Ω1 l b k with e | ⟨e, _⟩
  · exact g1 e
  · exact g2 e
theorem JAt.trn (S : JS Xc w0 Ω1 we ws l) (h : JAt Xc w0 Ω1 ws tm F σ1 l b r0 ks t Ωi w Ωo σo st) : σo.tr = none := S.plain.1 _ _ _ h.inv.out
/-- The iterator goes on. -/
theorem JAt.step (S : JS Xc w0 Ω1 we ws l) (h : JAt Xc w0 Ω1 ws tm F σ1 l b r0 ks t Ωi w Ωo σo st) (s : Stp Ωi Ωi' w w') : JAt Xc w0 Ω1 ws tm F σ1 l b r0 ks t Ωi' w' Ωo σo st := by
  have hsz := h.kept.size
  have hlw : l < ws.heap.size := by rw [S.hws]; exact Nat.lt_succ_self l
  have blk : ∀ k, k < ws.heap.size → w'.heap[k]? = w.heap[k]? := fun k hk => s.s.block k (Nat.lt_of_lt_of_le hk hsz) (h.nm hk)
  have frzo : ∀ k, Ωi.mine k → Ωo.o k = .out ∨ (Ωo.o k = .frz ∧ Ωi.froz k ∧ Ωo.lim k ≤ Ωi.lim k) := fun k hm => h.b1 k (Nat.le_of_not_lt fun hlt => h.nm hlt hm) (mine_ne hm).1
  have hblk : ∀ k, Ωo.mine k → w'.heap[k]? = w.heap[k]? := fun k hm => by
    refine s.s.block k (h.inv.bnd k (mine_ne hm).1) fun hi => ?_
    rcases frzo k hi with e | ⟨e, _⟩
    · exact (mine_ne hm).1 e
    · exact (mine_ne hm).2 e
  have hcell : ∀ k off, Ωo.o k ≠ .out → off < Ωo.lim k → w'.cell? ⟨k, off, none⟩ = w.cell? ⟨k, off, none⟩ := fun k off hne hl => by
    by_cases hm : Ωi.mine k
    · rcases frzo k hm with e | ⟨_, f, g⟩
      · exact absurd e hne
      · exact s.m.cell k off f (Nat.lt_of_lt_of_le hl g)
    · exact World.cell?_of_block (s.s.block k (h.inv.bnd k hne) hm)
  have htr := h.trn S
  have hlt0 : ∀ k, k < w0.heap.size → k < ws.heap.size := fun k hk => by have := S.sz; have := S.hws; omega
  refine ⟨h.fold, ?_, by rw [blk l hlw]; exact h.rcd, fun k hk => ?_, h.a2, fun k hk hne => ?_, s.bnd, h.d1, h.e1, s.yl.trans h.yl, ?_, h.fresh⟩
  · refine h.inv.other (tr' := σo.tr) ⟨s.s.os.trans h.inv.kept.os, s.s.tape.trans h.inv.kept.tape, s.s.output.trans h.inv.kept.output, Nat.le_trans h.inv.kept.size s.s.size, fun k hk hX => by
      rw [blk k (hlt0 k hk)]; exact h.inv.kept.block k hk hX⟩ s.s.size hblk (fun k off hf hl => hcell k off (Own.frozp_ne hf) hl) ?_
    have hj := h.inv.out
    rw [htr] at hj ⊢
    exact S.plain.2 none Ω1 we Ωo Ωo w w' S.hj hj ⟨s.s.os, s.s.tape, s.s.output, s.s.size, fun k hk => blk k (by rw [S.hl] at hk; have := S.hws; omega), fun _ _ => ⟨rfl, rfl⟩, fun _ h => h, fun k hk => Nat.lt_of_lt_of_le (h.inv.bnd k hk) s.s.size, rfl⟩
  · obtain ⟨a1, a2⟩ := s.s.same k (Nat.lt_of_lt_of_le hk hsz) (h.nm hk)
    obtain ⟨b1, b2⟩ := h.a1 k hk
    exact ⟨a1.trans b1, a2.trans b2⟩
  · by_cases hlt : k < w.heap.size
    · by_cases hm : Ωi.mine k
      · rcases frzo k hm with e | ⟨e, f, g⟩
        · exact .inl e
        · exact .inr ⟨e, s.m.froz k f, Nat.le_trans g (s.m.lim k f)⟩
      · rw [(s.s.same k hlt hm).1] at hne
        rcases h.b1 k hk hne with e | ⟨e, f, g⟩
        · exact .inl e
        · exact .inr ⟨e, s.m.froz k f, Nat.le_trans g (s.m.lim k f)⟩
    · refine .inl (Classical.byContradiction fun e => hlt (h.inv.bnd k e))
  · exact ⟨s.s.os.trans h.kept.os, s.s.tape.trans h.kept.tape, s.s.output.trans h.kept.output, Nat.le_trans hsz s.s.size, fun k hk hx => by rw [blk k hk]; exact h.kept.block k hk hx⟩
/-- The scope of the iterator. -/
def itSc (Xc : Sc) (w0 : World) (Ω1 : Own) (ws : World) (tm : Array Value) (F : St → List V → Option (Ex × St)) (σ1 : St) (l b : Nat) (r0 : Loop) (ks : List Nat) : Sc where
  x k := Ω1.mine k ∨ k = l
  o := (itOwn Ω1 l b).o
  lim := Ω1.lim
  j tr Ω w := ∃ t Ωa wa Ωo σo st, tr = some t ∧ JAt Xc w0 Ω1 ws tm F σ1 l b r0 ks t Ωa wa Ωo σo st ∧ Stp Ωa Ω wa w
  st h s := by
    obtain ⟨t, Ωa, wa, Ωo, σo, st, h1, h2, h3⟩ := h
    exact ⟨t, Ωa, wa, Ωo, σo, st, h1, h2, h3.trans s⟩
theorem itSc_at (S : JS Xc w0 Ω1 we ws l) (h : (itSc Xc w0 Ω1 ws tm F σ1 l b r0 ks).j (some t) Ωi w) : ∃ Ωo σo st, JAt Xc w0 Ω1 ws tm F σ1 l b r0 ks t Ωi w Ωo σo st := by
  obtain ⟨t', Ωa, wa, Ωo, σo, st, h1, h2, h3⟩ := h
  injection h1 with h1; subst h1
  exact ⟨Ωo, σo, st, h2.step S h3⟩
theorem itSc_of (h : JAt Xc w0 Ω1 ws tm F σ1 l b r0 ks t Ωi w Ωo σo st) : (itSc Xc w0 Ω1 ws tm F σ1 l b r0 ks).j (some t) Ωi w :=
  ⟨t, Ωi, w, Ωo, σo, st, rfl, h, Stp.refl h.c1⟩
theorem mg_lt {n k : Nat} (h : k < n) : (Ωo.mg Ωi n).o k = Ωo.o k ∧ (Ωo.mg Ωi n).lim k = Ωo.lim k := by
  simp only [Own.mg, if_neg (fun (x : n ≤ k ∧ frzB (Ωi.o k) = true) => absurd x.1 (Nat.not_le_of_lt h)), and_self]
theorem mg_frz {n k : Nat} (h : n ≤ k) (hf : Ωi.froz k) : (Ωo.mg Ωi n).o k = .frz ∧ (Ωo.mg Ωi n).lim k = Ωi.lim k := by
  simp only [Own.mg, if_pos (And.intro h (froz_iff.1 hf)), and_self]
theorem mg_not {n k : Nat} (hf : ¬ Ωi.froz k) : (Ωo.mg Ωi n).o k = Ωo.o k ∧ (Ωo.mg Ωi n).lim k = Ωo.lim k := by
  simp only [Own.mg, if_neg (fun (x : n ≤ k ∧ frzB (Ωi.o k) = true) => hf (froz_iff.2 x.2)), and_self]
/-- Either way. -/
theorem JAt.mg (h : JAt Xc w0 Ω1 ws tm F σ1 l b r0 ks t Ωi w Ωo σo st) (k : Nat) : ((Ωo.mg Ωi ws.heap.size).o k = Ωo.o k ∧ (Ωo.mg Ωi ws.heap.size).lim k = Ωo.lim k) ∨
    (ws.heap.size ≤ k ∧ Ωi.froz k ∧ (Ωo.mg Ωi ws.heap.size).o k = .frz ∧ (Ωo.mg Ωi ws.heap.size).lim k = Ωi.lim k ∧ (Ωo.o k = .out ∨ (Ωo.o k = .frz ∧ Ωo.lim k ≤ Ωi.lim k))) := by
  by_cases hk : ws.heap.size ≤ k
  · by_cases hf : Ωi.froz k
    · obtain ⟨g1, g2⟩ := mg_frz (Ωo := Ωo) hk hf
      refine .inr ⟨hk, hf, g1, g2, ?_⟩
      rcases h.b1 k hk (Own.froz_ne hf) with e | ⟨e, _, g⟩
      · exact .inl e
      · exact .inr ⟨e, g⟩
    · exact .inl (mg_not hf)
  · exact .inl (mg_lt (Nat.lt_of_not_le hk))
theorem JAt.mgBack (h : JAt Xc w0 Ω1 ws tm F σ1 l b r0 ks t Ωi w Ωo σo st) {k : Nat} {o : OwnK} (ho : (Ωo.mg Ωi ws.heap.size).o k = o) (hne : o ≠ .frz) : Ωo.o k = o ∧ (Ωo.mg Ωi ws.heap.size).lim k = Ωo.lim k := by
  rcases h.mg k with ⟨g1, g2⟩ | ⟨_, _, g, _⟩
  · exact ⟨by rw [← g1]; exact ho, g2⟩
  · rw [g] at ho; exact absurd ho.symm hne
theorem JAt.mgOut (h : JAt Xc w0 Ω1 ws tm F σ1 l b r0 ks t Ωi w Ωo σo st) {k : Nat} {o : OwnK} (ho : Ωo.o k = o) (h1 : o ≠ .out) (h2 : o ≠ .frz) : (Ωo.mg Ωi ws.heap.size).o k = o ∧ (Ωo.mg Ωi ws.heap.size).lim k = Ωo.lim k := by
  rcases h.mg k with ⟨g1, g2⟩ | ⟨_, _, _, _, g | ⟨g, _⟩⟩
  · exact ⟨by rw [g1]; exact ho, g2⟩
  · rw [ho] at g; exact absurd g h1
  · rw [ho] at g; exact absurd g h2
theorem JAt.mgMine (h : JAt Xc w0 Ω1 ws tm F σ1 l b r0 ks t Ωi w Ωo σo st) {k : Nat} (hm : (Ωo.mg Ωi ws.heap.size).mine k) : Ωo.mine k := by
  rcases hm with ⟨s, hs⟩ | ⟨t, p, hp⟩
  · exact .inl ⟨s, (h.mgBack hs (by simp)).1⟩
  · exact .inr ⟨t, p, (h.mgBack hp (by simp)).1⟩
theorem JAt.mgFroz (h : JAt Xc w0 Ω1 ws tm F σ1 l b r0 ks t Ωi w Ωo σo st) {k : Nat} (hf : Ωo.froz k) : (Ωo.mg Ωi ws.heap.size).froz k ∧ Ωo.lim k ≤ (Ωo.mg Ωi ws.heap.size).lim k := by
  rcases h.mg k with ⟨g1, g2⟩ | ⟨_, _, g, g', g3⟩
  · exact ⟨(froz_same g1).2 hf, Nat.le_of_eq g2.symm⟩
  · refine ⟨.inl g, ?_⟩
    rw [g']
    rcases g3 with e | ⟨_, e⟩
    · exact absurd e (Own.froz_ne hf)
    · exact e
/-- The body learns what the iterator has frozen. -/
theorem JAt.merge (S : JS Xc w0 Ω1 we ws l) (h : JAt Xc w0 Ω1 ws tm F σ1 l b r0 ks t Ωi w Ωo σo st) : Inv Xc w0 (Ωo.mg Ωi ws.heap.size) w tm σo := by
  have hlt0 : ∀ k, k < w0.heap.size → k < ws.heap.size := fun k hk => by have := S.sz; have := S.hws; omega
  have hbnd : ∀ k, (Ωo.mg Ωi ws.heap.size).o k ≠ .out → k < w.heap.size := fun k hk => by
    rcases h.mg k with ⟨g1, _⟩ | ⟨_, hf, _⟩
    · exact h.inv.bnd k (by rw [← g1]; exact hk)
    · exact h.c1 k (Own.froz_ne hf)
  have hx : Ext Ωo (Ωo.mg Ωi ws.heap.size) w w := by
    refine ⟨fun k hk => (h.mgFroz hk).1, fun k hk => .inr (h.mgOut hk (by simp) (by simp)).1, fun k u p hk => ⟨p, (h.mgOut hk (by simp) (by simp)).1⟩, fun k s hk => (h.mgOut hk (by simp) (by simp)).1, fun k hk => ?_, fun _ _ _ _ => rfl, fun _ _ _ _ => rfl, fun _ _ _ c k n _ hc => ⟨c, k, n, hc, .inl ⟨rfl, rfl, rfl⟩⟩, rfl⟩
    rcases h.mg k with ⟨_, g2⟩ | ⟨_, _, _, g', g3⟩
    · exact Nat.le_of_eq g2.symm
    · rw [g']
      rcases g3 with e | ⟨_, e⟩
      · exact absurd e hk
      · exact e
  have htr := h.trn S
  refine ⟨h.inv.kept, fun k s hk => h.inv.ownB k s (h.mgBack hk (by simp)).1, fun k u p hk => h.inv.ownA k u p (h.mgBack hk (by simp)).1, hbnd, fun k k' s hk hk' => h.inv.uniq k k' s (h.mgBack hk (by simp)).1 (h.mgBack hk' (by simp)).1, fun k s hk => ?_,
    fun s v hs => ?_, fun u n wr hu => ?_, fun k hk hX => ?_, ?_⟩
  · obtain ⟨g1, g2⟩ := h.mgBack hk (by simp)
    rw [g2]; exact h.inv.limB k s g1
  · obtain ⟨g1, g2⟩ := h.inv.slot s v hs
    exact ⟨g1, g2.ext hx fun _ _ _ _ _ hh => hh⟩
  · obtain ⟨c, k, T, xs, g1, ⟨p, g2⟩, g3, g4, g5, g6, g7, g8⟩ := h.inv.tok u n wr hu
    obtain ⟨q1, q2⟩ := h.mgOut g2 (by simp) (by simp)
    exact ⟨c, k, T, xs, g1, ⟨p, q1⟩, g3, g4, g5, by rw [q2]; exact g6, g7, fun hw b q hb => g8 hw b q (h.mgBack hb (by simp)).1⟩
  · rw [(mg_lt (hlt0 k hk)).1, (mg_lt (hlt0 k hk)).2]; exact h.inv.old k hk hX
  · have hj := h.inv.out
    rw [htr] at hj ⊢
    refine S.plain.2 none Ω1 we Ωo _ w w S.hj hj ⟨rfl, rfl, rfl, Nat.le_refl _, fun _ _ => rfl, fun k hk => mg_lt ?_, fun k hm => h.mgMine hm, hbnd, rfl⟩
    rw [S.hl] at hk; have := S.hws; omega
end
end Go.Lo
