/- The invariant between a logical state and a real frame and world, and the effects that keep it. -/
import Derived.Test.YtifanigkolnedaaLe
import Derived.Laws.CopyRow
import Derived.Deep.MidRow
import Derived.Deep.Draws
namespace Go.Lo

/-- Nothing that was there has turned, but for blocks of X. -/
structure Kept (X : Nat → Prop) (w0 w : World) : Prop where
  os : w.os = w0.os
  tape : w.tape = w0.tape
  output : w.output = w0.output
  size : w0.heap.size ≤ w.heap.size
  block : ∀ b, b < w0.heap.size → ¬ X b → w.heap[b]? = w0.heap[b]?
theorem Kept.refl (X : Nat → Prop) (w : World) : Kept X w w := ⟨rfl, rfl, rfl, Nat.le_refl _, fun _ _ _ => rfl⟩
theorem Kept.trans {X : Nat → Prop} {a b c : World} (h : Kept X a b) (k : Kept X b c) : Kept X a c :=
  ⟨k.os.trans h.os, k.tape.trans h.tape, k.output.trans h.output, Nat.le_trans h.size k.size, fun i hi hx => (k.block i (Nat.lt_of_lt_of_le hi h.size) hx).trans (h.block i hi hx)⟩
theorem Kept.mono {X Y : Nat → Prop} {a b : World} (h : Kept X a b) (hs : ∀ i, i < a.heap.size → X i → Y i) : Kept Y a b :=
  ⟨h.os, h.tape, h.output, h.size, fun i hi hx => h.block i hi (fun hX => hx (hs i hi hX))⟩

/-- The blocks that a frame may turn. -/
def Own.mine (Ω : Own) (b : Nat) : Prop := (∃ s, Ω.o b = .box s) ∨ ∃ t p, Ω.o b = .arr t p
/-- A step that turns nothing but one's own blocks. -/
structure Stp0 (Ω Ω' : Own) (w w' : World) : Prop where
  os : w'.os = w.os
  tape : w'.tape = w.tape
  output : w'.output = w.output
  size : w.heap.size ≤ w'.heap.size
  block : ∀ b, b < w.heap.size → ¬ Ω.mine b → w'.heap[b]? = w.heap[b]?
  same : ∀ b, b < w.heap.size → ¬ Ω.mine b → Ω'.o b = Ω.o b ∧ Ω'.lim b = Ω.lim b
/-- And what is frozen stays. -/
structure Stp (Ω Ω' : Own) (w w' : World) : Prop where
  s : Stp0 Ω Ω' w w'
  m : ExtM Ω Ω' w w'
  bnd : ∀ b, Ω'.o b ≠ .out → b < w'.heap.size
  yl : Ω'.yl = Ω.yl
  bnd0 : ∀ b, Ω.o b ≠ .out → b < w.heap.size
/-- Where a walk is at work (and what it must leave as it is, while it goes on: j): the blocks that were there and may be turned, and who owned the others. -/
structure Sc where
  x : Nat → Prop
  o : Nat → OwnK
  lim : Nat → Nat
  j : Option (List (List V)) → Own → World → Prop
  st : ∀ {tr : Option (List (List V))} {Ω Ω' : Own} {w w' : World}, j tr Ω w → Stp Ω Ω' w w' → j tr Ω' w'
def DenS (Ω : Own) (w : World) (s : Nat) : V → Value → Prop
  | .box cs, x => ∃ b xs T, x = .pointer (some ⟨b, 0, none⟩) ∧ Ω.o b = .box s ∧ w.heap[b]? = some (.cells (List.toArray xs) T (0, 0)) ∧ DenL Ω w cs xs ∧ ∀ v ∈ cs, v.cellOk = true ∨ v = .dead
  | .und, x => Den Ω w .und x
  | .dead, x => Den Ω w .dead x
  | .bool b, x => Den Ω w (.bool b) x
  | .int k n, x => Den Ω w (.int k n) x
  | .agg cs, x => Den Ω w (.agg cs) x
  | .tup cs, x => Den Ω w (.tup cs) x
  | .nil, x => Den Ω w .nil x
  | .sl t sz es, x => Den Ω w (.sl t sz es) x
  | .fn f cs, x => Den Ω w (.fn f cs) x
  | .ref t o, x => Den Ω w (.ref t o) x
  | .cref cs, x => Den Ω w (.cref cs) x
  | .eref t n i o cs, x => Den Ω w (.eref t n i o cs) x
theorem DenS.of {Ω : Own} {w : World} {s : Nat} {v : V} {x : Value} (h : Den Ω w v x) : DenS Ω w s v x := by
  cases v <;> first | exact h | (simp only [Den] at h)

/-- Where an array lies now. -/
def TokOk (Ω : Own) (w : World) (t n : Nat) (wr : Bool) : Prop :=
  ∃ c k T xs, Ω.cur t = some (c, k, n) ∧ (∃ p, Ω.o c = .arr t p) ∧ w.heap[c]? = some (.cells xs T (0, 0)) ∧ xs.size = k * Ω.tsz t ∧ n ≤ k ∧
    Ω.lim c = n * Ω.tsz t ∧ 0 < Ω.tsz t ∧ (wr = true → ∀ b p, Ω.o b = .arr t p → p = false)

structure Inv (X : Sc) (w0 : World) (Ω : Own) (w : World) (tm : Array Value) (σ : St) : Prop where
  kept : Kept X.x w0 w
  ownB : ∀ b s, Ω.o b = .box s → w0.heap.size ≤ b ∨ X.x b
  ownA : ∀ b t p, Ω.o b = .arr t p → w0.heap.size ≤ b ∨ X.x b
  bnd : ∀ b, Ω.o b ≠ .out → b < w.heap.size
  uniq : ∀ b b' s, Ω.o b = .box s → Ω.o b' = .box s → b = b'
  limB : ∀ b s, Ω.o b = .box s → Ω.lim b = 0
  slot : ∀ s v, get σ.fr s = some v → s < tm.size ∧ DenS Ω w s v (tm.getD s undef)
  tok : ∀ t n wr, get σ.tk t = some (n, wr) → TokOk Ω w t n wr
  old : ∀ b, b < w0.heap.size → ¬ X.x b → Ω.o b = X.o b ∧ Ω.lim b = X.lim b
  out : X.j σ.tr Ω w

/-- Nothing is made yet in the slot d. -/
def Fresh (Ω : Own) (d : Nat) : Prop := (∀ b, Ω.o b ≠ .box d) ∧ ∀ b t p, t / 100 = d → Ω.o b ≠ .arr t p

section
variable {X : Sc} {w0 w w' : World} {Ω Ω' : Own} {tm : Array Value} {σ : St}

theorem getD_set_same {tm : Array Value} {d : Nat} {x : Value} (h : d < tm.size) : (tm.setIfInBounds d x).getD d undef = x := by
  simp [Array.getD, h]
theorem getD_set_other {tm : Array Value} {d s : Nat} {x : Value} (h : d ≠ s) : (tm.setIfInBounds d x).getD s undef = tm.getD s undef := by
  simp [Array.getD_eq_getD_getElem?, h]

theorem Inv.newNe (h : Inv X w0 Ω w tm σ) {b : Nat} (hb : b < w0.heap.size) : b ≠ w.heap.size := fun e => Nat.lt_irrefl _ (Nat.lt_of_lt_of_le (e ▸ hb) h.kept.size)
theorem Inv.oldBox (h : Inv X w0 Ω w tm σ) {b : Nat} (hb : b < w0.heap.size) (hX : ¬ X.x b) (s : Nat) : Ω.o b ≠ .box s := fun e => by
  rcases h.ownB b s e with k | k
  · exact Nat.lt_irrefl _ (Nat.lt_of_lt_of_le hb k)
  · exact hX k
theorem Inv.oldArr (h : Inv X w0 Ω w tm σ) {b : Nat} (hb : b < w0.heap.size) (hX : ¬ X.x b) (t : Nat) (p : Bool) : Ω.o b ≠ .arr t p := fun e => by
  rcases h.ownA b t p e with k | k
  · exact Nat.lt_irrefl _ (Nat.lt_of_lt_of_le hb k)
  · exact hX k
/-- A value into a slot. -/
theorem Inv.put (h : Inv X w0 Ω w tm σ) {d : Nat} {v : V} {x : Value} (hd : d < tm.size) (hv : DenS Ω w d v x) :
    Inv X w0 Ω w (tm.setIfInBounds d x) { σ with fr := put σ.fr d v } where
  kept := h.kept
  ownB := h.ownB
  ownA := h.ownA
  bnd := h.bnd
  uniq := h.uniq
  limB := h.limB
  slot s u hs := by
    rw [get_put] at hs
    split at hs
    · rename_i e; subst e; injection hs with hs; subst hs
      exact ⟨by simpa using hd, by rw [getD_set_same hd]; exact hv⟩
    · rename_i e
      obtain ⟨h1, h2⟩ := h.slot s u hs
      exact ⟨by simpa using h1, by rw [getD_set_other e]; exact h2⟩
  tok := h.tok
  old := h.old
  out := h.out
theorem Inv.putO (h : Inv X w0 Ω w tm σ) {dst : Option Nat} {v : V} {x : Value} (hd : ∀ d, dst = some d → d < tm.size) (hv : Den Ω w v x) (a : Act) (ha : a.tmps = tm) :
    Inv X w0 Ω w (a.put dst x).tmps { σ with fr := Lo.putO σ.fr dst v } := by
  cases dst with
  | none => simpa [Lo.putO, Act.put, ha] using h
  | some d =>
    simp only [Lo.putO, Act.put, ha]
    exact h.put (hd d rfl) (DenS.of hv)

/-- The world goes on. -/
theorem DenS.ext (h : Ext Ω Ω' w w') (hb : ∀ b s T xs, Ω.o b = .box s → w.heap[b]? = some (.cells xs T (0, 0)) → w'.heap[b]? = some (.cells xs T (0, 0))) {s : Nat} {v : V} {x : Value} (hd : DenS Ω w s v x) : DenS Ω' w' s v x := by
  cases v <;> first
    | exact Den.ext h _ _ hd
    | (simp only [DenS] at hd ⊢
       obtain ⟨b, xs, T, h1, h2, h3, h4, h5⟩ := hd
       exact ⟨b, xs, T, h1, h.box b s h2, hb b s T _ h2 h3, DenL.ext h _ _ h4, h5⟩)
structure Goes (X : Sc) (w0 : World) (Ω Ω' : Own) (w w' : World) : Prop where
  ext : Ext Ω Ω' w w'
  kept : Kept X.x w0 w'
  ownB : ∀ b s, Ω'.o b = .box s → w0.heap.size ≤ b ∨ X.x b
  ownA : ∀ b t p, Ω'.o b = .arr t p → w0.heap.size ≤ b ∨ X.x b
  bnd : ∀ b, Ω'.o b ≠ .out → b < w'.heap.size
  uniq : ∀ b b' s, Ω'.o b = .box s → Ω'.o b' = .box s → b = b'
  limB : ∀ b s, Ω'.o b = .box s → Ω'.lim b = 0
  old : ∀ b, b < w0.heap.size → ¬ X.x b → Ω'.o b = X.o b ∧ Ω'.lim b = X.lim b
  stp : Stp0 Ω Ω' w w'
  boxes : ∀ b s T xs, Ω.o b = .box s → w.heap[b]? = some (.cells xs T (0, 0)) → w'.heap[b]? = some (.cells xs T (0, 0))
theorem Inv.goes (h : Inv X w0 Ω w tm σ) (g : Goes X w0 Ω Ω' w w') {tk' : List (Nat × Nat × Bool)} (ht : ∀ t n wr, get tk' t = some (n, wr) → TokOk Ω' w' t n wr) : Inv X w0 Ω' w' tm { σ with tk := tk' } where
  kept := g.kept
  ownB := g.ownB
  ownA := g.ownA
  bnd := g.bnd
  uniq := g.uniq
  limB := g.limB
  slot s v hs := by
    obtain ⟨h1, h2⟩ := h.slot s v hs
    exact ⟨h1, h2.ext g.ext g.boxes⟩
  tok := ht
  old := g.old
  out := X.st h.out ⟨g.stp, ⟨g.ext.froz, fun b hb => g.ext.lim b (Own.froz_ne hb), fun b off hb => g.ext.cell b off (Own.froz_ne hb)⟩, g.bnd, g.ext.yl, h.bnd⟩

/-! ### Draws -/
theorem goes_drew (h : Inv X w0 Ω w tm σ) (n : Nat) : Goes X w0 Ω Ω w (w.drewN n) where
  ext := ⟨fun _ h => h, fun _ h => .inr h, fun _ _ p h => ⟨p, h⟩, fun _ _ h => h, fun _ _ => Nat.le_refl _, fun _ _ _ _ => rfl, fun _ _ _ _ => rfl, fun _ _ _ c k n _ h => ⟨c, k, n, h, .inl ⟨rfl, rfl, rfl⟩⟩, rfl⟩
  kept := ⟨h.kept.os, h.kept.tape, h.kept.output, h.kept.size, h.kept.block⟩
  ownB := h.ownB
  ownA := h.ownA
  bnd := h.bnd
  uniq := h.uniq
  limB := h.limB
  old := h.old
  stp := ⟨rfl, rfl, rfl, Nat.le_refl _, fun _ _ _ => rfl, fun _ _ _ => ⟨rfl, rfl⟩⟩
  boxes _ _ _ _ _ h := h
theorem Inv.drew (h : Inv X w0 Ω w tm σ) (n : Nat) : Inv X w0 Ω (w.drewN n) tm σ := h.goes (goes_drew h n) (fun t m wr ht => h.tok t m wr ht)

/-! ### New blocks -/
theorem heap_alloc_lt (w : World) (o : Obj) {b : Nat} (h : b < w.heap.size) : (w.alloc o).heap[b]? = w.heap[b]? := heap_alloc_old w o b h
theorem kept_alloc (h : Kept X.x w0 w) (o : Obj) : Kept X.x w0 (w.alloc o) :=
  h.trans ⟨rfl, rfl, rfl, by simp, fun b hb _ => heap_alloc_lt w o hb⟩

def Own.mkBox (Ω : Own) (b d : Nat) : Own :=
  { Ω with o := fun c => if c = b then .box d else Ω.o c, lim := fun c => if c = b then 0 else Ω.lim c }
def Own.mkArr (Ω : Own) (b t k n sz : Nat) : Own where
  o c := if c = b then .arr t false else Ω.o c
  lim c := if c = b then n * sz else Ω.lim c
  cur u := if u = t then some (b, k, n) else Ω.cur u
  tsz u := if u = t then sz else Ω.tsz u
  yl := Ω.yl

theorem goes_mkBox (h : Inv X w0 Ω w tm σ) (d : Nat) (hf : ∀ b, Ω.o b ≠ .box d) (c : Array Value) (T : TypeId) :
    Goes X w0 Ω (Ω.mkBox w.heap.size d) w (w.alloc (.cells c T)) := by
  have hout : Ω.o w.heap.size = .out := by
    apply Decidable.byContradiction
    intro hne
    exact absurd (h.bnd _ hne) (Nat.lt_irrefl _)
  have hold : ∀ b, Ω.o b ≠ .out → b ≠ w.heap.size := fun b hb e => hb (e ▸ hout)
  have ho : ∀ b, Ω.o b ≠ .out → (Ω.mkBox w.heap.size d).o b = Ω.o b := fun b hb => by simp [Own.mkBox, hold b hb]
  have hl : ∀ b, Ω.o b ≠ .out → (Ω.mkBox w.heap.size d).lim b = Ω.lim b := fun b hb => by simp [Own.mkBox, hold b hb]
  constructor
  · constructor
    · intro b hb
      have hne := Own.froz_ne hb
      unfold Own.froz at hb ⊢
      rw [ho b hne]; exact hb
    · intro b hb; exact .inr (by rw [ho b (by simp [hb])]; exact hb)
    · intro b t p hb; exact ⟨p, by rw [ho b (by simp [hb])]; exact hb⟩
    · intro b s hb; rw [ho b (by simp [hb])]; exact hb
    · intro b hb; rw [hl b hb]; exact Nat.le_refl _
    · intro b off hb _; exact World.cell?_of_block (heap_alloc_lt w _ (h.bnd b hb))
    · intro b t p hb; rfl
    · intro b t p c k n _ hc; exact ⟨c, k, n, hc, .inl ⟨rfl, rfl, rfl⟩⟩
    · rfl
  · exact kept_alloc h.kept _
  · intro b s hb
    by_cases e : b = w.heap.size
    · subst e; exact .inl h.kept.size
    · simp only [Own.mkBox, if_neg e] at hb; exact h.ownB b s hb
  · intro b t p hb
    by_cases e : b = w.heap.size
    · subst e; simp [Own.mkBox] at hb
    · simp only [Own.mkBox, if_neg e] at hb; exact h.ownA b t p hb
  · intro b hb
    by_cases e : b = w.heap.size
    · subst e; simp
    · simp only [Own.mkBox, if_neg e] at hb
      have := h.bnd b hb
      simp only [World.size_alloc]; omega
  · intro b b' s hb hb'
    by_cases e : b = w.heap.size <;> by_cases e' : b' = w.heap.size
    · rw [e, e']
    · simp only [Own.mkBox, if_pos e, if_neg e'] at hb hb'
      injection hb with hb; subst hb
      exact absurd hb' (hf b')
    · simp only [Own.mkBox, if_neg e, if_pos e'] at hb hb'
      injection hb' with hb'; subst hb'
      exact absurd hb (hf b)
    · simp only [Own.mkBox, if_neg e, if_neg e'] at hb hb'
      exact h.uniq b b' s hb hb'
  · intro b s hb
    by_cases e : b = w.heap.size
    · subst e; simp [Own.mkBox]
    · simp only [Own.mkBox, if_neg e] at hb ⊢; exact h.limB b s hb
  · intro b hb hX
    have hne : b ≠ w.heap.size := fun e => Nat.lt_irrefl _ (Nat.lt_of_lt_of_le (e ▸ hb) h.kept.size)
    simp only [Own.mkBox, if_neg hne]
    exact h.old b hb hX
  · refine ⟨rfl, rfl, rfl, by simp, fun b hb _ => heap_alloc_lt w _ hb, fun b hb _ => ?_⟩
    simp only [Own.mkBox, if_neg (Nat.ne_of_lt hb), and_self]
  · intro b s T' xs hb hh
    rw [heap_alloc_lt w _ (h.bnd b (by simp [hb]))]; exact hh
theorem TokOk.old (h : Inv X w0 Ω w tm σ) {b : Nat} (hb : Ω.o b = .out) {t n : Nat} {wr : Bool} (ht : TokOk Ω w t n wr)
    (hc : Ω'.cur t = Ω.cur t) (hz : Ω'.tsz t = Ω.tsz t) (ho : ∀ c, c ≠ b → Ω'.o c = Ω.o c) (hob : ∀ p, Ω'.o b ≠ .arr t p) (hl : ∀ c, c ≠ b → Ω'.lim c = Ω.lim c) (hh : ∀ c, c < w.heap.size → w'.heap[c]? = w.heap[c]?) : TokOk Ω' w' t n wr := by
  obtain ⟨c, k, T, xs, h1, ⟨p, h2⟩, h3, h4, h5, h6, h7, h8⟩ := ht
  have hcb : c ≠ b := fun e => by rw [e, hb] at h2; cases h2
  refine ⟨c, k, T, xs, by rw [hc, h1], ⟨p, by rw [ho c hcb, h2]⟩, by rw [hh c (h.bnd c (by simp [h2])), h3], by rw [hz]; exact h4, h5, by rw [hl c hcb, hz]; exact h6, by rw [hz]; exact h7, fun hw b' p' hb' => ?_⟩
  by_cases e : b' = b
  · subst e; exact absurd hb' (hob p')
  · rw [ho b' e] at hb'; exact h8 hw b' p' hb'
theorem out_size (h : Inv X w0 Ω w tm σ) : Ω.o w.heap.size = .out := by
  apply Decidable.byContradiction
  intro hne
  exact absurd (h.bnd _ hne) (Nat.lt_irrefl _)
/-- A new variable. -/
theorem Inv.mkBox (h : Inv X w0 Ω w tm σ) {d : Nat} (hd : d < tm.size) (hf : ∀ b, Ω.o b ≠ .box d) (xs : List Value) (T : TypeId) {cs : List V} (hc : DenL Ω w cs xs) (hk : ∀ v ∈ cs, v.cellOk = true ∨ v = .dead) :
    Inv X w0 (Ω.mkBox w.heap.size d) (w.alloc (.cells xs.toArray T)) (tm.setIfInBounds d (.pointer (some ⟨w.heap.size, 0, none⟩))) { σ with fr := Lo.put σ.fr d (.box cs) } := by
  have g := goes_mkBox h d hf xs.toArray T
  have h1 := h.goes g (tk' := σ.tk) (fun t n wr ht => (h.tok t n wr ht).old h (out_size h) rfl rfl (fun c hc => by simp [Own.mkBox, hc]) (fun p => by simp [Own.mkBox]) (fun c hc => by simp [Own.mkBox, hc]) (fun c hc => heap_alloc_lt w _ hc))
  refine h1.put hd ?_
  simp only [DenS]
  exact ⟨w.heap.size, xs, T, rfl, by simp [Own.mkBox], heap_alloc_new w _, DenL.ext g.ext _ _ hc, hk⟩
end
end Go.Lo
