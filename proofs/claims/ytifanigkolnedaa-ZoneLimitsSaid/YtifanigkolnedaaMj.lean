/- Ranges over functions: steps, scopes, rounds. -/
import Derived.Test.YtifanigkolnedaaMb
import Derived.RangeFuncRecord
namespace Go.Lo
section
variable {P : Program} {X : Sc} {w0 w w' w'' : World} {Ω Ω' Ω'' : Own} {tm : Array Value} {σ : St}

/-! ### Steps -/
theorem Stp0.mine (h : Stp0 Ω Ω' w w') {b : Nat} (hb : Ω'.mine b) (hlt : b < w.heap.size) : Ω.mine b := by
  apply Classical.byContradiction
  intro hn
  obtain ⟨h1, _⟩ := h.same b hlt hn
  unfold Own.mine at hb hn
  rw [h1] at hb
  exact hn hb
theorem Stp.refl (hb : ∀ b, Ω.o b ≠ .out → b < w.heap.size) : Stp Ω Ω w w :=
  ⟨⟨rfl, rfl, rfl, Nat.le_refl _, fun _ _ _ => rfl, fun _ _ _ => ⟨rfl, rfl⟩⟩, ⟨fun _ h => h, fun _ _ => Nat.le_refl _, fun _ _ _ _ => rfl⟩, hb, rfl, hb⟩
theorem ExtM.trans (h : ExtM Ω Ω' w w') (k : ExtM Ω' Ω'' w' w'') : ExtM Ω Ω'' w w'' :=
  ⟨fun b hb => k.froz b (h.froz b hb), fun b hb => Nat.le_trans (h.lim b hb) (k.lim b (h.froz b hb)), fun b off hb hl =>
    (k.cell b off (h.froz b hb) (Nat.lt_of_lt_of_le hl (h.lim b hb))).trans (h.cell b off hb hl)⟩
theorem Stp.trans (h : Stp Ω Ω' w w') (k : Stp Ω' Ω'' w' w'') : Stp Ω Ω'' w w'' where
  s := by
    refine ⟨k.s.os.trans h.s.os, k.s.tape.trans h.s.tape, k.s.output.trans h.s.output, Nat.le_trans h.s.size k.s.size, fun b hlt hm => ?_, fun b hlt hm => ?_⟩
    · rw [k.s.block b (Nat.lt_of_lt_of_le hlt h.s.size) (fun hn => hm (h.s.mine hn hlt)), h.s.block b hlt hm]
    · obtain ⟨a1, a2⟩ := h.s.same b hlt hm
      obtain ⟨b1, b2⟩ := k.s.same b (Nat.lt_of_lt_of_le hlt h.s.size) (fun hn => hm (h.s.mine hn hlt))
      exact ⟨b1.trans a1, b2.trans a2⟩
  m := h.m.trans k.m
  bnd := k.bnd
  yl := k.yl.trans h.yl
  bnd0 := h.bnd0
/-- The same, but for the record l. -/
structure StpX (l : Nat) (Ω Ω' : Own) (w w' : World) : Prop where
  os : w'.os = w.os
  tape : w'.tape = w.tape
  output : w'.output = w.output
  size : w.heap.size ≤ w'.heap.size
  block : ∀ b, b < w.heap.size → ¬ Ω.mine b → b ≠ l → w'.heap[b]? = w.heap[b]?
  same : ∀ b, b < w.heap.size → ¬ Ω.mine b → Ω'.o b = Ω.o b ∧ Ω'.lim b = Ω.lim b
  m : ExtM Ω Ω' w w'
theorem Stp.toX (h : Stp Ω Ω' w w') (l : Nat) : StpX l Ω Ω' w w' :=
  ⟨h.s.os, h.s.tape, h.s.output, h.s.size, fun b hlt hm _ => h.s.block b hlt hm, h.s.same, h.m⟩
theorem StpX.mine {l : Nat} (h : StpX l Ω Ω' w w') {b : Nat} (hb : Ω'.mine b) (hlt : b < w.heap.size) : Ω.mine b := by
  apply Classical.byContradiction
  intro hn
  obtain ⟨h1, _⟩ := h.same b hlt hn
  unfold Own.mine at hb hn
  rw [h1] at hb
  exact hn hb
theorem StpX.trans {l : Nat} (h : StpX l Ω Ω' w w') (k : StpX l Ω' Ω'' w' w'') : StpX l Ω Ω'' w w'' where
  os := k.os.trans h.os
  tape := k.tape.trans h.tape
  output := k.output.trans h.output
  size := Nat.le_trans h.size k.size
  block b hlt hm hl := by rw [k.block b (Nat.lt_of_lt_of_le hlt h.size) (fun hn => hm (h.mine hn hlt)) hl, h.block b hlt hm hl]
  same b hlt hm := by
    obtain ⟨a1, a2⟩ := h.same b hlt hm
    obtain ⟨b1, b2⟩ := k.same b (Nat.lt_of_lt_of_le hlt h.size) (fun hn => hm (h.mine hn hlt))
    exact ⟨b1.trans a1, b2.trans a2⟩
  m := h.m.trans k.m
theorem putObj_cell {l b off : Nat} {o : Obj} (h : b ≠ l) : (w.putObj l o).cell? ⟨b, off, none⟩ = w.cell? ⟨b, off, none⟩ :=
  World.cell?_of_block (World.putObj_heap_other h)
theorem StpX.put {l : Nat} {o : Obj} (hl : Ω.o l = .out) : StpX l Ω Ω w (w.putObj l o) :=
  ⟨rfl, rfl, rfl, by simp, fun b _ _ hb => World.putObj_heap_other hb, fun _ _ _ => ⟨rfl, rfl⟩, ⟨fun _ h => h, fun _ _ => Nat.le_refl _, fun b off hb _ => putObj_cell (fun e => by
    subst e; exact Own.froz_ne hb hl)⟩⟩

/-! ### Scopes -/
/-- From here on. -/
def Sc.rb (X : Sc) (Ω : Own) (w : World) : Sc where
  x := Ω.mine
  o := Ω.o
  lim := Ω.lim
  j tr Ω' w' := X.j tr Ω' w' ∧ Stp Ω Ω' w w'
  st h s := ⟨X.st h.1 s, h.2.trans s⟩
theorem Inv.rb (h : Inv X w0 Ω w tm σ) : Inv (X.rb Ω w) w Ω w tm σ where
  kept := Kept.refl _ _
  ownB _ s hb := .inr (.inl ⟨s, hb⟩)
  ownA _ t p hb := .inr (.inr ⟨t, p, hb⟩)
  bnd := h.bnd
  uniq := h.uniq
  limB := h.limB
  slot := h.slot
  tok := h.tok
  old _ _ _ := ⟨rfl, rfl⟩
  out := ⟨h.out, Stp.refl h.bnd⟩
theorem Inv.unrb {tm' : Array Value} {σ' : St} (h : Inv X w0 Ω w tm σ) (k : Inv (X.rb Ω w) w Ω' w' tm' σ') : Inv X w0 Ω' w' tm' σ' := by
  have hx : ∀ b, b < w0.heap.size → ¬ X.x b → ¬ Ω.mine b := fun b hb hX hm => by
    rcases hm with ⟨s, hs⟩ | ⟨t, p, hp⟩
    · exact h.oldBox hb hX s hs
    · exact h.oldArr hb hX t p hp
  have own : ∀ b, (w.heap.size ≤ b ∨ Ω.mine b) → w0.heap.size ≤ b ∨ X.x b := fun b hb => by
    rcases hb with hb | hb
    · exact .inl (Nat.le_trans h.kept.size hb)
    · rcases hb with ⟨s, hs⟩ | ⟨t, p, hp⟩
      · exact h.ownB b s hs
      · exact h.ownA b t p hp
  exact {
    kept := ⟨k.kept.os.trans h.kept.os, k.kept.tape.trans h.kept.tape, k.kept.output.trans h.kept.output, Nat.le_trans h.kept.size k.kept.size, fun b hb hX => by
      rw [k.kept.block b (Nat.lt_of_lt_of_le hb h.kept.size) (hx b hb hX), h.kept.block b hb hX]⟩
    ownB := fun b s hb => own b (k.ownB b s hb)
    ownA := fun b t p hb => own b (k.ownA b t p hb)
    bnd := k.bnd
    uniq := k.uniq
    limB := k.limB
    slot := k.slot
    tok := k.tok
    old := fun b hb hX => by
      obtain ⟨a1, a2⟩ := k.old b (Nat.lt_of_lt_of_le hb h.kept.size) (hx b hb hX)
      obtain ⟨b1, b2⟩ := h.old b hb hX
      exact ⟨a1.trans b1, a2.trans b2⟩
    out := k.out.1 }
def mark (r : Nat) : Deferred := { target := .collected r, args := #[] }
def marks (M : List Nat) : List Deferred := M.map mark
/-- With marks among the deferred calls. -/
def Sc.df (X : Sc) (M : List Nat) : Sc where
  x := X.x
  o := X.o
  lim := X.lim
  j tr Ω w := X.j tr Ω w ∧ ∀ r ∈ M, ¬ Ω.mine r ∧ w.heap[r]? = some (.deferred (some []))
  st h s := ⟨X.st h.1 s, fun r hr => by
    obtain ⟨a1, a2⟩ := h.2 r hr
    have hlt := (Array.getElem?_eq_some_iff.1 a2).1
    exact ⟨fun hm => a1 (s.s.mine hm hlt), by rw [s.s.block r hlt a1]; exact a2⟩⟩
/-- The same scope, told otherwise. -/
theorem Inv.sc {X' : Sc} (h : Inv X w0 Ω w tm σ) (hx : X'.x = X.x) (ho : X'.o = X.o) (hl : X'.lim = X.lim) (hj : X.j σ.tr Ω w → X'.j σ.tr Ω w) : Inv X' w0 Ω w tm σ where
  kept := by rw [hx]; exact h.kept
  ownB := by rw [hx]; exact h.ownB
  ownA := by rw [hx]; exact h.ownA
  bnd := h.bnd
  uniq := h.uniq
  limB := h.limB
  slot := h.slot
  tok := h.tok
  old := by rw [hx, ho, hl]; exact h.old
  out := hj h.out
/-- What goes on elsewhere. -/
structure Grow (n : Nat) (Ω Ω' : Own) (w w' : World) : Prop where
  os : w'.os = w.os
  tape : w'.tape = w.tape
  output : w'.output = w.output
  size : w.heap.size ≤ w'.heap.size
  block : ∀ b, b < n → w'.heap[b]? = w.heap[b]?
  same : ∀ b, b < n → Ω'.o b = Ω.o b ∧ Ω'.lim b = Ω.lim b
  mine : ∀ b, Ω'.mine b → Ω.mine b
  bnd : ∀ b, Ω'.o b ≠ .out → b < w'.heap.size
  yl : Ω'.yl = Ω.yl
/-- It does not mind what is none of its business. -/
def Lax (X : Sc) : Prop := ∀ (tr : Option (List (List V))) (Ωs : Own) (ws : World) (Ω Ω' : Own) (w w' : World), X.j tr Ωs ws → X.j tr Ω w → Grow ws.heap.size Ω Ω' w w' → X.j tr Ω' w'
def Plain (X : Sc) : Prop := (∀ tr Ω w, X.j tr Ω w → tr = none) ∧ Lax X
theorem Lax.df (h : Lax X) (M : List Nat) : Lax (X.df M) := fun tr Ωs ws Ω Ω' w w' hs hj g => by
  refine ⟨h tr Ωs ws Ω Ω' w w' hs.1 hj.1 g, fun r hr => ?_⟩
  obtain ⟨_, a2⟩ := hs.2 r hr
  obtain ⟨b1, b2⟩ := hj.2 r hr
  have hlt := (Array.getElem?_eq_some_iff.1 a2).1
  exact ⟨fun hm => b1 (g.mine r hm), by rw [g.block r hlt]; exact b2⟩
theorem Plain.df (h : Plain X) (M : List Nat) : Plain (X.df M) := ⟨fun tr Ω w hj => h.1 tr Ω w hj.1, h.2.df M⟩
theorem froz_same {b : Nat} (h : Ω'.o b = Ω.o b) : Ω'.froz b ↔ Ω.froz b := by unfold Own.froz; rw [h]
theorem Plain.rb (h : Plain X) (Ωb : Own) (wb : World) : Plain (X.rb Ωb wb) := by
  refine ⟨fun tr Ω w hj => h.1 tr Ω w hj.1, fun tr Ωs ws Ω Ω' w w' hs hj g => ⟨h.2 tr Ωs ws Ω Ω' w w' hs.1 hj.1 g, ?_⟩⟩
  have hn := hs.2.s.size
  have k := hj.2
  refine ⟨⟨g.os.trans k.s.os, g.tape.trans k.s.tape, g.output.trans k.s.output, Nat.le_trans k.s.size g.size, fun b hlt hm => ?_, fun b hlt hm => ?_⟩, ⟨fun b hb => ?_, fun b hb => ?_, fun b off hb hl => ?_⟩, g.bnd, g.yl.trans k.yl, k.bnd0⟩
  · rw [g.block b (Nat.lt_of_lt_of_le hlt hn), k.s.block b hlt hm]
  · obtain ⟨a1, a2⟩ := g.same b (Nat.lt_of_lt_of_le hlt hn)
    obtain ⟨b1, b2⟩ := k.s.same b hlt hm
    exact ⟨a1.trans b1, a2.trans b2⟩
  · have hlt := k.bnd0 b (Own.froz_ne hb)
    exact (froz_same (g.same b (Nat.lt_of_lt_of_le hlt hn)).1).2 (k.m.froz b hb)
  · have hlt := k.bnd0 b (Own.froz_ne hb)
    rw [(g.same b (Nat.lt_of_lt_of_le hlt hn)).2]
    exact k.m.lim b hb
  · have hlt := k.bnd0 b (Own.froz_ne hb)
    rw [World.cell?_of_block (g.block b (Nat.lt_of_lt_of_le hlt hn))]
    exact k.m.cell b off hb hl
/-- What is asked of a scope. -/
structure ScOk (P : Program) (X : Sc) (w0 : World) (T : List (List V)) (ro : Option Nat) : Prop where
  y : YieldOk P X w0 T
  k : Plain X ∨ ∀ Ω w, ¬ X.j none Ω w
  r : ∀ l, ro = some l → l < w0.heap.size ∧ ¬ X.x l ∧ ∃ r, w0.heap[l]? = some (.loop r)
theorem YieldOk.df {T : List (List V)} (h : YieldOk P X w0 T) {M : List Nat} (hM : Plain X ∨ M = []) : YieldOk P (X.df M) w0 T where
  none Ω w hj := h.none Ω w hj.1
  some ro n b l tr as xs Ω w hj hyl hd hp hT := by
    rcases hM with hM | rfl
    · have := hM.1 _ _ _ hj.1
      cases this
    · obtain ⟨fn, tmps, asg, body, r1, r2⟩ := h.some ro n b l tr as xs Ω w hj.1 hyl hd hp hT
      refine ⟨fn, tmps, asg, body, r1, RoundIn.mono r2 fun e w' he => ?_⟩
      obtain ⟨e1, e2, e3⟩ := he
      exact ⟨e1, ⟨e2, fun r hr => by cases hr⟩, e3⟩
/-- A scope from here on, in a round of l. -/
theorem ScOk.round {T : List (List V)} {ro : Option Nat} (h : ScOk P X w0 T ro) (hp : Plain X) {l : Nat} {r : Loop} (hl : Ω.o l = .out) (hr : w.heap[l]? = some (.loop r)) : ScOk P (X.rb Ω w) w [] (some l) where
  y := ⟨fun Ω w hj => h.y.none Ω w hj.1, fun ro n b l tr as xs Ω w hj _ _ _ _ => by have := hp.1 _ _ _ hj.1; cases this⟩
  k := .inl (hp.rb _ _)
  r l' e := by
    injection e with e; subst e
    refine ⟨(Array.getElem?_eq_some_iff.1 hr).1, fun hm => ?_, r, hr⟩
    rcases hm with ⟨s, hs⟩ | ⟨t, p, hs⟩ <;> rw [hl] at hs <;> cases hs
end

/-! ### Rounds, logically -/
section
variable {F : St → List V → Option (Ex × St)}
def jumpOf : Option (Nat × Ex) → Option Code
  | none => none
  | some (_, .normal) => none
  | some (_, .exit id) => some (.exit id)
  | some (_, .ret) => some .ret
theorem foldR_snoc : ∀ (t : List (List V)) (k : Nat) (σ σo : St) (x : List V), foldR F k σ t = some (none, σo) → foldR F k σ (t ++ [x]) = match F σo x with
    | some (.normal, σ') => some (none, σ')
    | some (ex, σ') => some (some (k + t.length, ex), σ')
    | none => none
  | [], k, σ, σo, x, h => by
    simp only [foldR, Option.some.injEq, Prod.mk.injEq, true_and] at h
    subst h
    simp only [List.nil_append, foldR, List.length_nil, Nat.add_zero]
    cases F σ x with
    | none => rfl
    | some p => obtain ⟨e, σ'⟩ := p; cases e <;> rfl
  | y :: t, k, σ, σo, x, h => by
    simp only [foldR, List.cons_append] at h ⊢
    split at h
    · rename_i σ1 h1
      rw [foldR_snoc t (k + 1) σ1 σo x h, show k + 1 + t.length = k + (y :: t).length by simp; omega]
    · simp only [Option.some.injEq, Prod.mk.injEq, reduceCtorEq, false_and] at h
    · cases h
/-- Behind a beginning that goes on. -/
theorem foldR_pre : ∀ (t r : List (List V)) (k : Nat) (σ : St) (st : Option (Nat × Ex)) (σ' : St), foldR F k σ (t ++ r) = some (st, σ') →
    (∃ σo, foldR F k σ t = some (none, σo) ∧ foldR F (k + t.length) σo r = some (st, σ')) ∨ (∃ i e, st = some (i, e) ∧ i < k + t.length ∧ foldR F k σ t = some (st, σ'))
  | [], r, k, σ, st, σ', h => .inl ⟨σ, rfl, by simpa using h⟩
  | y :: t, r, k, σ, st, σ', h => by
    simp only [List.cons_append, foldR] at h ⊢
    split at h
    · rename_i σ1 h1
      rcases foldR_pre t r (k + 1) σ1 st σ' h with ⟨σo, a1, a2⟩ | ⟨i, e, a1, a2, a3⟩
      · exact .inl ⟨σo, a1, by rw [show k + (y :: t).length = k + 1 + t.length by simp; omega]; exact a2⟩
      · exact .inr ⟨i, e, a1, by simp; omega, a3⟩
    · rename_i ex σ1 hne h1
      simp only [Option.some.injEq, Prod.mk.injEq] at h
      obtain ⟨rfl, rfl⟩ := h
      exact .inr ⟨k, ex, rfl, by simp, rfl⟩
    · cases h
theorem foldR_stop : ∀ (t : List (List V)) (k : Nat) (σ : St) (i : Nat) (e : Ex) (σ' : St), foldR F k σ t = some (some (i, e), σ') → e ≠ .normal ∧ k ≤ i ∧ i < k + t.length
  | [], k, σ, i, e, σ', h => by simp [foldR] at h
  | y :: t, k, σ, i, e, σ', h => by
    simp only [foldR] at h
    split at h
    · obtain ⟨a1, a2, a3⟩ := foldR_stop t (k + 1) _ i e σ' h
      exact ⟨a1, by omega, by simp; omega⟩
    · rename_i ex σ1 hne h1
      simp only [Option.some.injEq, Prod.mk.injEq] at h
      obtain ⟨⟨rfl, rfl⟩, rfl⟩ := h
      exact ⟨fun e => hne e, Nat.le_refl _, by simp⟩
    · cases h
/-- The rounds are those that are asked for. -/
inductive FoldOk (F : St → List V → Option (Ex × St)) (σ1 : St) (T : List (List V)) : Nat → Ex → St → Prop where
  | all {σ' : St} (h : foldR F 0 σ1 T = some (none, σ')) : FoldOk F σ1 T 0 .normal σ'
  | stop {k : Nat} {ex : Ex} {σ' : St} (hl : T.length = k + 1) (h : foldR F 0 σ1 T = some (some (k, ex), σ')) : FoldOk F σ1 T (k + 1) ex σ'
theorem FoldOk.fold {σ1 σ' : St} {T : List (List V)} {b : Nat} {ex : Ex} (h : FoldOk F σ1 T b ex σ') : ∃ st, foldR F 0 σ1 T = some (st, σ') ∧ jumpOf st = jumpOf (some (0, ex)) := by
  cases h with
  | all h => exact ⟨none, h, rfl⟩
  | stop hl h => exact ⟨_, h, by cases ex <;> rfl⟩
theorem FoldOk.at {σ1 σ' : St} {T : List (List V)} {b : Nat} {ex : Ex} (h : FoldOk F σ1 T b ex σ') {t : List (List V)} {x : List V} (ht : t ++ [x] <+: T) :
    ∃ σo e2 σ2, foldR F 0 σ1 t = some (none, σo) ∧ F σo x = some (e2, σ2) ∧ goesOn b (some t) = (jumpOf (some (0, e2))).isNone := by
  obtain ⟨r, rfl⟩ := ht
  obtain ⟨st, hf, _⟩ := h.fold
  have hf' := hf
  rw [List.append_assoc] at hf
  rcases foldR_pre t ([x] ++ r) 0 σ1 st σ' hf with ⟨σo, a1, a2⟩ | ⟨i, e, a1, a2, a3⟩
  · simp only [List.singleton_append, foldR, Nat.zero_add] at a2
    split at a2
    · rename_i σ2 h2
      refine ⟨σo, .normal, σ2, a1, h2, ?_⟩
      cases h with
      | all h => simp [goesOn, jumpOf]
      | stop hl h =>
        rename_i k
        rw [hf'] at h
        injection h with h
        injection h with h _
        subst h
        obtain ⟨_, b2, _⟩ := foldR_stop r _ _ _ _ _ a2
        simp only [goesOn, jumpOf, Option.isNone_none, bne_iff_ne, ne_eq]
        omega
    · rename_i e2 σ2 hne h2
      simp only [Option.some.injEq, Prod.mk.injEq] at a2
      obtain ⟨rfl, rfl⟩ := a2
      refine ⟨σo, e2, σ2, a1, h2, ?_⟩
      have he : e2 ≠ .normal := fun e => hne e
      have hj : (jumpOf (some (0, e2))).isNone = false := by cases e2 <;> first | exact (he rfl).elim | rfl
      rw [hj]
      cases h with
      | all h => rw [hf'] at h; cases h
      | stop hl h =>
        rw [hf'] at h
        injection h with h
        injection h with h _
        injection h with h
        injection h with h _
        subst h
        simp [goesOn]
    · cases a2
  · exfalso
    subst a1
    cases h with
    | all h => rw [hf'] at h; cases h
    | stop hl h =>
      rw [hf'] at h
      injection h with h
      injection h with h _
      injection h with h
      injection h with h _
      subst h
      simp at hl
      omega
end
end Go.Lo
