/- Arrays that grow, elements that are written, slots that are made anew. -/
import Derived.Test.YtifanigkolnedaaLg
namespace Go.Lo
section
variable {X : Sc} {w0 w w' : World} {Ω Ω' : Own} {tm : Array Value} {σ : St}

theorem flatten_length {es : List (List V)} {sz : Nat} (h : ∀ cs ∈ es, cs.length = sz) : es.flatten.length = es.length * sz := by
  rw [List.length_flatten]
  have : es.map List.length = List.replicate es.length sz := by
    apply List.ext_getElem (by simp)
    intro i h1 h2
    simp only [List.getElem_map, List.getElem_replicate]
    exact h _ (List.getElem_mem _)
  rw [this, List.sum_replicate_nat]

/-- The array t lies in block c now, with n elements. -/
def Own.app (Ω : Own) (t c k n : Nat) : Own :=
  { Ω with lim := fun b => if b = c then n * Ω.tsz t else Ω.lim b, cur := fun u => if u = t then some (c, k, n) else Ω.cur u }

/-- An append into the room that there is. -/
theorem Inv.app (h : Inv X w0 Ω w tm σ) {t n m sz c k : Nat} {wr p : Bool} {T : TypeId} {old : Array Value} (ht : get σ.tk t = some (n, wr)) (hcur : Ω.cur t = some (c, k, n)) (ho : Ω.o c = .arr t p)
    (hh : w.heap[c]? = some (.cells old T (0, 0))) (hsz : sz = Ω.tsz t) (hks : old.size = k * sz) (hnm : n + m ≤ k)
    {es fs : List (List V)} (hes : es.length = n) (hfs : fs.length = m) (hE : DenE Ω w es sz c 0) {ys : List Value} (hd : DenL Ω w fs.flatten ys) (hp : ∀ cs ∈ fs, cs.length = sz ∧ cs.all V.pm = true) :
    Inv X w0 (Ω.app t c k (n + m)) (w.setRow c (old.toList.take (n * sz) ++ ys ++ old.toList.drop (n * sz + ys.length)).toArray) tm { σ with tk := lenT t (n + m) σ.tk } ∧
      Den (Ω.app t c k (n + m)) (w.setRow c (old.toList.take (n * sz) ++ ys ++ old.toList.drop (n * sz + ys.length)).toArray) (.sl (some t) sz (es ++ fs)) (.slice (some ⟨c, 0, none⟩) (n + m) k) := by
  have hyl : ys.length = m * sz := by rw [hd.length, flatten_length (fun cs hc => (hp cs hc).1), hfs]
  have hnsz : n * sz + m * sz ≤ old.size := by rw [hks, ← Nat.add_mul]; exact Nat.mul_le_mul_right _ hnm
  generalize hw' : (old.toList.take (n * sz) ++ ys ++ old.toList.drop (n * sz + ys.length)).toArray = cs'
  have hcs : cs'.size = old.size := by
    rw [← hw']; simp only [List.size_toArray, List.length_append, List.length_take, List.length_drop, Array.length_toList, hyl]; omega
  have hsize : (w.setRow c cs').heap.size = w.heap.size := by simp [World.setRow]
  obtain ⟨c1, k1, T1, xs1, g1, ⟨p1, g2⟩, g3, g4, g5, g6, g7, g8⟩ := h.tok t n wr ht
  rw [hcur] at g1
  injection g1 with g1
  injection g1 with e1 g1
  injection g1 with e2 _
  subst e1; subst e2
  rw [hh] at g3
  injection g3 with g3
  injection g3 with g3
  subst g3
  have hlimle : n * Ω.tsz t ≤ (n + m) * Ω.tsz t := Nat.mul_le_mul_right _ (by omega)
  have hold : ∀ off, off < n * sz → (w.setRow c cs').cell? ⟨c, off, none⟩ = w.cell? ⟨c, off, none⟩ := by
    intro off hoff
    rw [cell_setRow_same w c off old cs' T (0, 0) hh, cell_of_row w c off old T (0, 0) hh, ← hw']
    have hl : (old.toList.take (n * sz)).length = n * sz := by rw [List.length_take, Array.length_toList]; omega
    rw [List.getElem?_toArray, List.append_assoc, List.getElem?_append_left (by rw [hl]; exact hoff), List.getElem?_take_of_lt hoff, Array.getElem?_toList]
  have hx : Ext Ω (Ω.app t c k (n + m)) w (w.setRow c cs') := by
    constructor
    · exact fun _ h => h
    · exact fun _ h => .inr h
    · exact fun _ _ p h => ⟨p, h⟩
    · exact fun _ _ h => h
    · intro b _
      simp only [Own.app]
      split
      · rename_i e; subst e; rw [g6]; exact hlimle
      · exact Nat.le_refl _
    · intro b off hb hoff
      by_cases e : b = c
      · subst e; exact hold off (by rw [g6, ← hsz] at hoff; exact hoff)
      · exact cell_setRow_other w c cs' ⟨b, off, none⟩ e
    · exact fun _ _ _ _ => rfl
    · intro b u q c' k' n' _ hc
      simp only [Own.app] at hc
      split at hc
      · rename_i e; subst e
        simp only [Option.some.injEq, Prod.mk.injEq] at hc
        obtain ⟨rfl, rfl, rfl⟩ := hc
        refine ⟨c, k, n, hcur, ?_⟩
        by_cases hm : m = 0
        · subst hm; exact .inl ⟨rfl, rfl, rfl⟩
        · exact .inr (by omega)
      · exact ⟨c', k', n', hc, .inl ⟨rfl, rfl, rfl⟩⟩
    · rfl
  have hg : Goes X w0 Ω (Ω.app t c k (n + m)) w (w.setRow c cs') := by
    refine ⟨hx, ⟨h.kept.os, h.kept.tape, h.kept.output, by rw [hsize]; exact h.kept.size, fun b hb hX => ?_⟩, h.ownB, h.ownA, fun b hb => by rw [hsize]; exact h.bnd b hb, h.uniq, fun b s hb => ?_, fun b hb hX => ?_, ⟨rfl, rfl, rfl, Nat.le_of_eq hsize.symm, fun b _ hm => setRow_other w c b _ (fun e => hm (e ▸ .inr ⟨t, p, ho⟩)), fun b _ hm => ⟨rfl, by simp only [Own.app]; exact if_neg (fun e => hm (by subst e; exact .inr ⟨t, p, ho⟩))⟩⟩, fun b s T' xs hb hbh => ?_⟩
    · by_cases e : b = c
      · subst e
        rcases h.ownA b t p ho with h1 | h1
        · exact absurd hb (Nat.not_lt_of_le h1)
        · exact absurd h1 hX
      · rw [setRow_other w c b _ e]; exact h.kept.block b hb hX
    · have e : b ≠ c := fun e => by subst e; have hb : Ω.o b = .box s := hb; rw [ho] at hb; cases hb
      simp only [Own.app, if_neg e]; exact h.limB b s hb
    · have e : b ≠ c := fun e => by subst e; exact h.oldArr hb hX t p ho
      simp only [Own.app, if_neg e]; exact h.old b hb hX
    · have e : b ≠ c := fun e => by subst e; rw [ho] at hb; cases hb
      rw [setRow_other w c b _ e]; exact hbh
  refine ⟨h.goes hg (fun u l wr' hu => ?_), ?_⟩
  · rw [get_lenT] at hu
    split at hu
    · rename_i e; subst e
      rw [ht] at hu
      simp only [Option.map_some, Option.some.injEq, Prod.mk.injEq] at hu
      obtain ⟨rfl, rfl⟩ := hu
      exact ⟨c, k, T, cs', by simp [Own.app], ⟨p, ho⟩, setRow_heap w c old cs' T (0, 0) hh, by rw [hcs]; exact g4, hnm, by simp [Own.app], g7, g8⟩
    · rename_i e
      obtain ⟨c2, k2, T2, xs2, q1, ⟨p2, q2⟩, q3, q4, q5, q6, q7, q8⟩ := h.tok u l wr' hu
      have hne : c2 ≠ c := fun x => by subst x; rw [ho] at q2; injection q2 with q2; exact e q2.symm
      exact ⟨c2, k2, T2, xs2, by simp only [Own.app, if_neg e]; exact q1, ⟨p2, q2⟩, by rw [setRow_other w c c2 _ hne]; exact q3, q4, q5, by simp only [Own.app, if_neg hne]; exact q6, q7, q8⟩
  · simp only [Den]
    refine ⟨c, k - (n + m), p, by rw [List.length_append, hes, hfs]; congr 1; omega, ho, hsz, ?_, ?_⟩
    · intro c' k' n' hc
      simp only [Own.app, if_true, Option.some.injEq, Prod.mk.injEq] at hc
      obtain ⟨rfl, rfl, rfl⟩ := hc
      rw [List.length_append, hes, hfs]
      exact ⟨Nat.le_refl _, fun _ => ⟨rfl, by omega⟩⟩
    · refine DenE.append (DenE.ext hx es sz c 0 (by rw [ho]; simp) hE) (rowE (DenL.ext hx _ _ hd) hp (fun j y hj => ?_))
      have hjl : j < m * sz := by rw [← hyl]; exact (List.getElem?_eq_some_iff.1 hj).1
      rw [Nat.zero_add, hes]
      refine ⟨by simp only [Own.app, if_true, ← hsz, Nat.add_mul]; omega, ?_⟩
      rw [cell_setRow_same w c _ old cs' T (0, 0) hh, ← hw']
      have hl : (old.toList.take (n * sz)).length = n * sz := by rw [List.length_take, Array.length_toList]; omega
      rw [List.getElem?_toArray, List.append_assoc, List.getElem?_append_right (by rw [hl]; omega), hl, List.getElem?_append_left (by rw [hyl]; omega)]
      rw [show n * sz + j - n * sz = j by omega]
      exact hj

def Own.grow (Ω : Own) (b t k n : Nat) : Own where
  o c := if c = b then .arr t false else Ω.o c
  lim c := if c = b then n * Ω.tsz t else Ω.lim c
  cur u := if u = t then some (b, k, n) else Ω.cur u
  tsz := Ω.tsz
  yl := Ω.yl
/-- An append that moves the array. -/
theorem Inv.grow (h : Inv X w0 Ω w tm σ) {t n m sz k : Nat} {wr : Bool} (ht : get σ.tk t = some (n, wr)) (hsz : sz = Ω.tsz t) (hm : 0 < m) (new : Array Value) (T : TypeId) (hks : new.size = k * sz) (hnm : n + m ≤ k)
    {es fs : List (List V)} (hes : es.length = n) (hfs : fs.length = m) {ys : List Value} (hd : DenL Ω w (es ++ fs).flatten ys) (hp : ∀ cs ∈ es ++ fs, cs.length = sz ∧ cs.all V.pm = true)
    (hy : ∀ (j : Nat) (y : Value), ys[j]? = some y → new[j]? = some y) :
    Inv X w0 (Ω.grow w.heap.size t k (n + m)) (w.alloc (.cells new T)) tm { σ with tk := lenT t (n + m) σ.tk } ∧
      Den (Ω.grow w.heap.size t k (n + m)) (w.alloc (.cells new T)) (.sl (some t) sz (es ++ fs)) (.slice (some ⟨w.heap.size, 0, none⟩) (n + m) k) := by
  have hout := out_size h
  obtain ⟨c1, k1, T1, xs1, g1, ⟨p1, g2⟩, g3, g4, g5, g6, g7, g8⟩ := h.tok t n wr ht
  have hold : ∀ b, Ω.o b ≠ .out → b ≠ w.heap.size := fun b hb e => hb (e ▸ hout)
  have ho : ∀ b, Ω.o b ≠ .out → (Ω.grow w.heap.size t k (n + m)).o b = Ω.o b := fun b hb => by simp [Own.grow, hold b hb]
  have hl : ∀ b, Ω.o b ≠ .out → (Ω.grow w.heap.size t k (n + m)).lim b = Ω.lim b := fun b hb => by simp [Own.grow, hold b hb]
  have hx : Ext Ω (Ω.grow w.heap.size t k (n + m)) w (w.alloc (.cells new T)) := by
    constructor
    · intro b hb
      have hne := Own.froz_ne hb
      unfold Own.froz at hb ⊢
      rw [ho b hne]; exact hb
    · intro b hb; exact .inr (by rw [ho b (by simp [hb])]; exact hb)
    · intro b u p hb; exact ⟨p, by rw [ho b (by simp [hb])]; exact hb⟩
    · intro b s hb; rw [ho b (by simp [hb])]; exact hb
    · intro b hb; rw [hl b hb]; exact Nat.le_refl _
    · intro b off hb _; exact World.cell?_of_block (heap_alloc_lt w _ (h.bnd b hb))
    · intro b u p hb; rfl
    · intro b u p c' k' n' hb hc
      simp only [Own.grow] at hc
      split at hc
      · rename_i e; subst e
        simp only [Option.some.injEq, Prod.mk.injEq] at hc
        obtain ⟨rfl, rfl, rfl⟩ := hc
        exact ⟨c1, k1, n, g1, .inr (by omega)⟩
      · exact ⟨c', k', n', hc, .inl ⟨rfl, rfl, rfl⟩⟩
    · rfl
  have hg : Goes X w0 Ω (Ω.grow w.heap.size t k (n + m)) w (w.alloc (.cells new T)) := by
    refine ⟨hx, kept_alloc h.kept _, fun b s hb => ?_, fun b u p hb => ?_, fun b hb => ?_, fun b b' s hb hb' => ?_, fun b s hb => ?_, fun b hb hX => ?_, ⟨rfl, rfl, rfl, by simp, fun b hb _ => heap_alloc_lt w _ hb, fun b hb _ => by
      simp only [Own.grow, if_neg (Nat.ne_of_lt hb), and_self]⟩, fun b s T' xs hb hbh => ?_⟩
    · by_cases e : b = w.heap.size
      · subst e; exact .inl h.kept.size
      · simp only [Own.grow, if_neg e] at hb; exact h.ownB b s hb
    · by_cases e : b = w.heap.size
      · subst e; exact .inl h.kept.size
      · simp only [Own.grow, if_neg e] at hb; exact h.ownA b u p hb
    · by_cases e : b = w.heap.size
      · subst e; simp
      · simp only [Own.grow, if_neg e] at hb
        have := h.bnd b hb
        simp only [World.size_alloc]; omega
    · by_cases e : b = w.heap.size
      · simp [Own.grow, e] at hb
      · by_cases e' : b' = w.heap.size
        · simp [Own.grow, e'] at hb'
        · simp only [Own.grow, if_neg e, if_neg e'] at hb hb'
          exact h.uniq b b' s hb hb'
    · by_cases e : b = w.heap.size
      · simp [Own.grow, e] at hb
      · simp only [Own.grow, if_neg e] at hb ⊢; exact h.limB b s hb
    · simp only [Own.grow, if_neg (h.newNe hb)]; exact h.old b hb hX
    · rw [heap_alloc_lt w _ (h.bnd b (by simp [hb]))]; exact hbh
  have hlen : (es ++ fs).length = n + m := by rw [List.length_append, hes, hfs]
  refine ⟨h.goes hg (fun u l wr' hu => ?_), ?_⟩
  · rw [get_lenT] at hu
    split at hu
    · rename_i e; subst e
      rw [ht] at hu
      simp only [Option.map_some, Option.some.injEq, Prod.mk.injEq] at hu
      obtain ⟨rfl, rfl⟩ := hu
      refine ⟨w.heap.size, k, T, new, by simp [Own.grow], ⟨false, by simp [Own.grow]⟩, heap_alloc_new w _, by rw [hks, hsz]; rfl, hnm, by simp [Own.grow], g7, fun hw b q hb => ?_⟩
      simp only [Own.grow] at hb
      split at hb
      · injection hb with _ hb; exact hb.symm
      · exact g8 hw b q hb
    · rename_i e
      exact (h.tok u l wr' hu).old h hout (by simp only [Own.grow, if_neg e]) rfl (fun c hc => by simp only [Own.grow, if_neg hc]) (fun q => by simp only [Own.grow, if_true]; intro x; injection x with x; exact e x.symm) (fun c hc => by simp only [Own.grow, if_neg hc]) (fun c hc => heap_alloc_lt w _ hc)
  · simp only [Den]
    refine ⟨w.heap.size, k - (n + m), false, by rw [hlen]; congr 1; omega, by simp [Own.grow], hsz, ?_, ?_⟩
    · intro c' k' n' hc
      simp only [Own.grow, if_true, Option.some.injEq, Prod.mk.injEq] at hc
      obtain ⟨rfl, rfl, rfl⟩ := hc
      rw [hlen]
      exact ⟨Nat.le_refl _, fun _ => ⟨rfl, by omega⟩⟩
    · refine rowE (DenL.ext hx _ _ hd) hp (fun j y hj => ?_)
      have hjl : j < (n + m) * sz := by
        have := (List.getElem?_eq_some_iff.1 hj).1
        rw [hd.length, flatten_length (fun cs hc => (hp cs hc).1), hlen] at this
        exact this
      refine ⟨by simp only [Own.grow, if_true, ← hsz]; omega, ?_⟩
      simp only [Nat.zero_add, World.cell?_alloc_new]
      exact hy j y hj
end
end Go.Lo
