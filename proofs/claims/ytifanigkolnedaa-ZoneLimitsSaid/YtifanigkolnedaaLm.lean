/- Operations, one by one: stores, and values that are built. -/
import Derived.Test.YtifanigkolnedaaLl
namespace Go.Lo
open Go.RowKit (Below)
section
variable {P : Program} {X : Sc} {w0 w : World} {Ω : Own} {a : Act} {σ : St} {o : Oper} {mk : Bool}

theorem prot_nil (Ω : Own) : Ω.prot [] = Ω := by
  cases Ω with
  | mk o lim cur tsz =>
    simp only [Own.prot, memN, Bool.or_false]
    congr 1
    funext b
    split
    · rename_i h; exact h.symm
    · rfl
theorem bxOf_get {fr : List (Nat × V)} {ex : List Nat} {s : Nat} {cs : List V} (h : bxOf fr ex s = some cs) : get fr s = some (.box cs) ∧ memN s ex = false := by
  unfold bxOf at h
  split at h
  · cases h
  · rename_i hm
    split at h
    · rename_i cs' hg; injection h with h; subst h; exact ⟨hg, by simpa using hm⟩
    · cases h
theorem tkOf_get {tk : List (Nat × Nat × Bool)} {ex : List Nat} {t : Nat} {x : Nat × Bool} (h : tkOf tk ex t = some x) : get tk t = some x ∧ memN (t / 100) ex = false := by
  unfold tkOf at h
  split at h
  · cases h
  · rename_i hm; exact ⟨h, by simpa using hm⟩
theorem run_storeOp {t : TypeId} {x y : Operand} (ho : o.op = .store t x y) : (execOp a.eval o).run P w = ((Instr.storeAt t (a.eval x) (a.eval y)).run P w).andThen (fun _ w => .ok .skip w) := by
  simp only [execOp, ho, Sem.run_bind]
  congr 1
theorem run_storeAt {t : TypeId} {n b off : Nat} {v : Value} {cur : Array Value} {T : TypeId} (hs : sizeC P t = some n) (hh : w.heap[b]? = some (.cells cur T (0, 0))) (hn : v.cells.size = n) (hfit : off + n ≤ cur.size) (h1 : ∀ u ∈ v.cells.toList, u.oneCell' = true) :
    (Instr.storeAt t (.pointer (some ⟨b, off, none⟩)) v).run P w = .ok () (w.setRow b (cur.toList.take off ++ v.cells.toList ++ cur.toList.drop (off + n)).toArray) := by
  have h2 := run_storeCells_at P b off T v.cells.toList 0 cur w hh (by simp [hn]; omega) h1
  simp only [Nat.add_zero, Array.length_toList, hn] at h2
  simp [Instr.storeAt, Instr.sureAddr, storeVar, run_sizeOf hs, hn, h2]
theorem DenL.splice {cs new cs' : List V} {xs ys : List Value} {off : Nat} (h : DenL Ω w cs xs) (h' : DenL Ω w new ys) (hs : Lo.splice cs off new = some cs') : DenL Ω w cs' (xs.take off ++ ys ++ xs.drop (off + new.length)) := by
  unfold Lo.splice at hs
  split at hs
  · injection hs with hs; subst hs
    exact ((h.take off).append h').append (h.drop _)
  · cases hs
theorem splice_len {cs new cs' : List V} {off : Nat} (hs : splice cs off new = some cs') : off + new.length ≤ cs.length ∧ cs'.length = cs.length := by
  unfold splice at hs
  split at hs
  · rename_i h
    injection hs with hs; subst hs
    refine ⟨h, ?_⟩
    simp; omega
  · cases hs
theorem splice_all {q : V → Prop} {cs new cs' : List V} {off : Nat} (hs : splice cs off new = some cs') (h1 : ∀ v ∈ cs, q v) (h2 : ∀ v ∈ new, q v) : ∀ v ∈ cs', q v := by
  unfold splice at hs
  split at hs
  · injection hs with hs; subst hs
    intro v hv
    simp only [List.mem_append] at hv
    rcases hv with (hv | hv) | hv
    · exact h1 v (List.mem_of_mem_take hv)
    · exact h2 v hv
    · exact h1 v (List.mem_of_mem_drop hv)
  · cases hs

theorem yields_store (h : Inv X w0 Ω w a.tmps σ) (hd : ∀ d, o.dst = some d → d < a.tmps.size) {t : TypeId} {x y : Operand} (ho : o.op = .store t x y) {n : Nat} (hn : sizeC P t = some n) {s off : Nat} {v : V} {ex : List Nat} {cs cs' : List V}
    (hx : Den Ω w (.ref s off) (a.eval x)) (hy : Den Ω w v (a.eval y)) (hvn : v.cells.length = n) (hvc : v.cells.all V.cellOk = true) (hb : bxOf σ.fr ex s = some cs) (hs : splice cs off v.cells = some cs') :
    Yields P X w0 Ω w a o (apply σ o.dst (.sto s cs')) mk := by
  obtain ⟨hg, _⟩ := bxOf_get hb
  obtain ⟨_, h2⟩ := h.slot s _ hg
  simp only [DenS] at h2
  obtain ⟨b, xs, T, e1, e2, e3, e4, e5⟩ := h2
  simp only [Den] at hx
  obtain ⟨b', hx1, hx2⟩ := hx
  have := h.uniq b b' s e2 hx2
  subst this
  have hyl := Den.cells hvc hy
  have hsz : (a.eval y).cells.size = n := by rw [← Array.length_toList, hyl.length, hvn]
  obtain ⟨hle, hlen⟩ := splice_len hs
  have hr := run_storeAt (P := P) (w := w) (off := off) hn e3 hsz (by simp only [List.size_toArray, e4.length]; omega) (DenL.one hvc hyl)
  have hnew := DenL.splice e4 hyl hs
  rw [hvn] at hnew
  refine ⟨undef, _, Ω, .inr ⟨by rw [run_storeOp ho, hx1, hr]; rfl, rfl⟩, ?_, fun _ hf _ => hf⟩
  have h3 := h.sto e2 e3 hg (xs := xs.take off ++ (a.eval y).cells.toList ++ xs.drop (off + n)) hnew (splice_all hs e5 (cells_cellOk hvc))
  exact h3.putO hd (by simp [Den]) a rfl

theorem froz_of_tok {t c : Nat} {p : Bool} (hc : Ω.o c = .arr t p) (hall : ∀ b p, Ω.o b = .arr t p → p = false) : ¬ Ω.froz c := by
  intro hf
  have := hall c p hc
  subst this
  rcases hf with hf | ⟨u, hf⟩ <;> rw [hc] at hf <;> cases hf
theorem yields_est (h : Inv X w0 Ω w a.tmps σ) (hd : ∀ d, o.dst = some d → d < a.tmps.size) {t : TypeId} {x y : Operand} (ho : o.op = .store t x y) {n : Nat} (hn : sizeC P t = some n) {u m i off : Nat} {v v' : V} {ex : List Nat} {cs cs' : List V}
    (hx : Den Ω w (.eref u m i off cs) (a.eval x)) (hy : Den Ω w v (a.eval y)) (hf : v.frzE = some (v', [])) (hvn : v'.cells.length = n) (hvp : v'.cells.all V.pm = true) (ht : tkOf σ.tk ex u = some (m, true)) (hs : splice cs off v'.cells = some cs') :
    Yields P X w0 Ω w a o (apply σ o.dst (.est u m i cs')) mk := by
  obtain ⟨htk, _⟩ := tkOf_get ht
  obtain ⟨c, k, T, xs, g1, ⟨p, g2⟩, g3, g4, g5, g6, g7, g8⟩ := h.tok u m true htk
  have g8 := g8 rfl
  simp only [Den] at hx
  obtain ⟨b, q, hx1, hx2, hx3, hx4, hx5, hx6, hx7⟩ := hx
  have hbc : b = c := (hx4 c k m g1).2 rfl
  subst hbc
  have hv' := (Den.frzE (ps := []) v v' [] _ hf (by simp) hy).1
  rw [prot_nil] at hv'
  have hvc : v'.cells.all V.cellOk = true := List.all_eq_true.2 fun z hz => (V.pm_pure (List.all_eq_true.1 hvp z hz)).2
  have hyl := Den.cells hvc hv'
  have hsz : (a.eval y).cells.size = n := by rw [← Array.length_toList, hyl.length, hvn]
  obtain ⟨hle, hlen⟩ := splice_len hs
  have hi1 : i * Ω.tsz u + Ω.tsz u ≤ m * Ω.tsz u := by rw [← Nat.succ_mul]; exact Nat.mul_le_mul_right _ hx3
  have hm1 : m * Ω.tsz u ≤ xs.size := by rw [g4]; exact Nat.mul_le_mul_right _ g5
  have hr := run_storeAt (P := P) (w := w) (off := i * Ω.tsz u + off) hn g3 hsz (by omega) (DenL.one hvc hyl)
  generalize hw : (xs.toList.take (i * Ω.tsz u + off) ++ (a.eval y).cells.toList ++ xs.toList.drop (i * Ω.tsz u + off + n)).toArray = ys at hr
  have hys : ys.size = xs.size := by
    rw [← hw]; simp only [List.size_toArray, List.length_append, List.length_take, List.length_drop, Array.length_toList]; omega
  have hsize : (w.setRow b ys).heap.size = w.heap.size := by simp [World.setRow]
  have hcell : ∀ j, (w.setRow b ys).cell? ⟨b, j, none⟩ = ys[j]? := fun j => cell_setRow_same w b j xs ys T (0, 0) g3
  have hcell0 : ∀ j, w.cell? ⟨b, j, none⟩ = xs[j]? := fun j => cell_of_row w b j xs T (0, 0) g3
  have hyold : ∀ j, (j < i * Ω.tsz u + off ∨ i * Ω.tsz u + off + n ≤ j) → ys[j]? = xs[j]? := by
    intro j hj
    rw [← hw, List.getElem?_toArray]
    have hl1 : (xs.toList.take (i * Ω.tsz u + off)).length = i * Ω.tsz u + off := by rw [List.length_take, Array.length_toList]; omega
    rcases hj with hj | hj
    · rw [List.append_assoc, List.getElem?_append_left (by omega), List.getElem?_take_of_lt hj, Array.getElem?_toList]
    · rw [List.getElem?_append_right (by simp only [List.length_append, hl1, Array.length_toList]; omega), List.getElem?_drop, Array.getElem?_toList]
      congr 1
      simp only [List.length_append, hl1, Array.length_toList]; omega
  have hext : ExtM Ω Ω w (w.setRow b ys) := ⟨fun _ h => h, fun _ _ => Nat.le_refl _, fun b' off' hb' _ => cell_setRow_other w b ys ⟨b', off', none⟩ (fun e => by
    simp only at e; subst e; exact absurd hb' (froz_of_tok g2 g8))⟩
  -- the element as it is now
  obtain ⟨zs, z1, z2⟩ := hx7.vals
  have hpm' : cs'.all V.pm = true := List.all_eq_true.2 (splice_all hs (List.all_eq_true.1 hx6) (List.all_eq_true.1 hvp))
  have hnewL : DenL Ω (w.setRow b ys) cs' (zs.take off ++ (a.eval y).cells.toList ++ zs.drop (off + n)) := by
    have h1 := DenL.splice z1 hyl hs
    rw [hvn] at h1
    have key : ∀ (vs : List V) (us : List Value), vs.all V.pm = true → DenL Ω w vs us → DenL Ω (w.setRow b ys) vs us := by
      intro vs
      induction vs with
      | nil => intro us _ h; simpa [DenL] using h
      | cons v vs ih =>
        intro us hp h
        simp only [DenL] at h
        obtain ⟨x, us', rfl, k2, k3⟩ := h
        simp only [List.all_cons, Bool.and_eq_true] at hp
        exact DenL.cons (Den.extM hext v x hp.1 k2) (ih us' hp.2 k3)
    exact key _ _ hpm' h1
  have hzl : zs.length = Ω.tsz u := by rw [z1.length, hx5]
  have hest : EstW Ω w (w.setRow b ys) u b m i (Ω.tsz u) cs' := by
    refine ⟨⟨k, g1⟩, g8, rfl, by rw [hlen, hx5], hpm', ?_, fun b' off' _ ho' => ?_, ⟨p, g2⟩⟩
    · refine rowC hnewL (fun v hv => V.pm_pure (List.all_eq_true.1 hpm' v hv)) (fun j y' hj => ?_)
      have hjlt : j < Ω.tsz u := by
        have := (List.getElem?_eq_some_iff.1 hj).1
        rw [hnewL.length, hlen, hx5] at this
        exact this
      refine ⟨by rw [g6]; omega, ?_⟩
      rw [hcell]
      by_cases hj1 : j < off
      · rw [hyold _ (.inl (by omega)), ← hcell0]
        refine z2 j y' ?_
        rw [List.append_assoc, List.getElem?_append_left (by rw [List.length_take, hzl]; omega), List.getElem?_take_of_lt hj1] at hj
        exact hj
      · by_cases hj2 : j < off + n
        · rw [List.append_assoc, List.getElem?_append_right (by rw [List.length_take, hzl]; omega), List.getElem?_append_left (by rw [List.length_take, hzl, Array.length_toList, hsz]; omega), List.length_take, hzl] at hj
          rw [← hw, List.getElem?_toArray]
          have hl1 : (xs.toList.take (i * Ω.tsz u + off)).length = i * Ω.tsz u + off := by rw [List.length_take, Array.length_toList]; omega
          rw [List.append_assoc, List.getElem?_append_right (by omega), hl1, List.getElem?_append_left (by rw [Array.length_toList, hsz]; omega)]
          rw [← hj]
          congr 1
          omega
        · rw [hyold _ (.inr (by omega)), ← hcell0]
          refine z2 j y' ?_
          rw [List.getElem?_append_right (by rw [List.length_append, List.length_take, hzl, Array.length_toList, hsz]; omega), List.getElem?_drop, List.length_append, List.length_take, hzl, Array.length_toList, hsz] at hj
          rw [← hj]
          congr 1
          omega
    · by_cases hbb : b' = b
      · subst hbb
        rw [hcell, hcell0]
        exact hyold _ (by omega)
      · exact cell_setRow_other w b ys ⟨b', off', none⟩ hbb
  have h3 := h.est hest hx3 ⟨h.kept.os, h.kept.tape, h.kept.output, by rw [hsize]; exact h.kept.size, fun b' hb' hX => by
      by_cases e : b' = b
      · subst e
        rcases h.ownA b' u p g2 with k1 | k1
        · exact absurd hb' (Nat.not_lt_of_le k1)
        · exact absurd k1 hX
      · rw [setRow_other w b b' _ e]; exact h.kept.block b' hb' hX⟩ (by rw [hsize]; exact Nat.le_refl _) (fun b' hb' => setRow_other w b b' _ hb') (fun xs' T' hxs' => by
      rw [g3] at hxs'
      injection hxs' with hxs'
      injection hxs' with e1 e2
      subst e1; subst e2
      exact ⟨ys, setRow_heap w b xs ys T (0, 0) g3, hys⟩)
  refine ⟨undef, _, Ω, .inr ⟨by rw [run_storeOp ho, hx1, hr]; rfl, rfl⟩, ?_, fun _ hf _ => hf⟩
  exact h3.putO hd (by simp [Den]) a rfl
end
end Go.Lo
