/- Texts put together. -/
import Derived.Test.YtohdbgibdopinaaPa
import Derived.ChangeKeysEq
import Derived.Laws.Cover3
import Derived.Laws.MakeOwn
import Derived.Laws.Slices
import Derived.Maps.Keyed
/- Operations, one by one: stores, and values that are built. -/
namespace Go.Lo
open Go.RowKit (Below)
section
variable {P : Program} {X : Sc} {w0 w : World} {Ω : Own} {a : Act} {σ : St} {o : Oper} {mk : Bool}

theorem prot_nil (Ω : Own) : Ω.prot [] = Ω := by
  cases Ω with
  | mk o lim cur tsz =>
    simp only [Own.prot, memN, Bool.or_false]
    congr 1
    funext b
    split
    · rename_i h; exact h.symm
    · rfl
theorem tkOf_get {tk : List (Nat × Nat × Bool)} {ex : List Nat} {t : Nat} {x : Nat × Bool} (h : tkOf tk ex t = some x) : get tk t = some x ∧ memN (t / 100) ex = false := by
  unfold tkOf at h
  split at h
  · cases h
  · rename_i hm; exact ⟨h, by simpa using hm⟩
theorem run_storeOp {t : TypeId} {x y : Operand} (ho : o.op = .store t x y) : (execOp a.eval o).run P w = ((Instr.storeAt t (a.eval x) (a.eval y)).run P w).andThen (fun _ w => .ok .skip w) := by
  simp only [execOp, ho, Sem.run_bind]
  congr 1
theorem run_storeAt {t : TypeId} {n b off : Nat} {v : Value} {cur : Array Value} {T : TypeId} (hs : sizeC P t = some n) (hh : w.heap[b]? = some (.cells cur T (0, 0))) (hn : v.cells.size = n) (hfit : off + n ≤ cur.size) (h1 : ∀ u ∈ v.cells.toList, u.oneCell' = true) :
    (Instr.storeAt t (.pointer (some ⟨b, off, none⟩)) v).run P w = .ok () (w.setRow b (cur.toList.take off ++ v.cells.toList ++ cur.toList.drop (off + n)).toArray) := by
  have h2 := run_storeCells_at P b off T v.cells.toList 0 cur w hh (by simp [hn]; omega) h1
  simp only [Nat.add_zero, Array.length_toList, hn] at h2
  simp [Instr.storeAt, Instr.sureAddr, storeVar, run_sizeOf hs, hn, h2]
theorem DenL.splice {cs new cs' : List V} {xs ys : List Value} {off : Nat} (h : DenL Ω w cs xs) (h' : DenL Ω w new ys) (hs : Lo.splice cs off new = some cs') : DenL Ω w cs' (xs.take off ++ ys ++ xs.drop (off + new.length)) := by
  unfold Lo.splice at hs
  split at hs
  · injection hs with hs; subst hs
    exact ((h.take off).append h').append (h.drop _)
  · cases hs
theorem splice_len {cs new cs' : List V} {off : Nat} (hs : splice cs off new = some cs') : off + new.length ≤ cs.length ∧ cs'.length = cs.length := by
  unfold splice at hs
  split at hs
  · rename_i h
    injection hs with hs; subst hs
    refine ⟨h, ?_⟩
    simp; omega
  · cases hs
theorem splice_all {q : V → Prop} {cs new cs' : List V} {off : Nat} (hs : splice cs off new = some cs') (h1 : ∀ v ∈ cs, q v) (h2 : ∀ v ∈ new, q v) : ∀ v ∈ cs', q v := by
  unfold splice at hs
  split at hs
  · injection hs with hs; subst hs
    intro v hv
    simp only [List.mem_append] at hv
    rcases hv with (hv | hv) | hv
    · exact h1 v (List.mem_of_mem_take hv)
    · exact h2 v hv
    · exact h1 v (List.mem_of_mem_drop hv)
  · cases hs

theorem yields_store (h : Inv X w0 Ω w a.tmps σ) (hd : ∀ d, o.dst = some d → d < a.tmps.size) {t : TypeId} {x y : Operand} (ho : o.op = .store t x y) {n : Nat} (hn : sizeC P t = some n) {s off : Nat} {v : V} {ex : List Nat} {cs cs' : List V}
    (hx : Den Ω w (.ref s off) (a.eval x)) (hy : Den Ω w v (a.eval y)) (hlt : s < 1000000) (hvn : v.cells.length = n) (hvc : v.cells.all V.cellOk = true) (hb : bxOf σ.fr ex s = some cs) (hs : splice cs off v.cells = some cs') :
    Yields P X w0 Ω w a o (apply σ o.dst (.sto s cs')) mk := by
  obtain ⟨hg, _⟩ := bxOf_get hlt hb
  obtain ⟨_, h2⟩ := h.slot s _ hg
  simp only [DenS] at h2
  obtain ⟨b, xs, T, e1, e2, e3, e4, e5⟩ := h2
  simp only [Den] at hx
  obtain ⟨b', hx1, hx2⟩ := hx
  have := h.uniq b b' s e2 hx2
  subst this
  have hyl := Den.cells hvc hy
  have hsz : (a.eval y).cells.size = n := by rw [← Array.length_toList, hyl.length, hvn]
  obtain ⟨hle, hlen⟩ := splice_len hs
  have hr := run_storeAt (P := P) (w := w) (off := off) hn e3 hsz (by simp only [List.size_toArray, e4.length]; omega) (DenL.one hvc hyl)
  have hnew := DenL.splice e4 hyl hs
  rw [hvn] at hnew
  refine ⟨undef, _, Ω, .inr ⟨by rw [run_storeOp ho, hx1, hr]; rfl, rfl⟩, ?_, fun _ hf _ => hf⟩
  have h3 := h.sto e2 e3 hg (xs := xs.take off ++ (a.eval y).cells.toList ++ xs.drop (off + n)) hnew (splice_all hs e5 (cells_cellOk hvc))
  exact h3.putO hd (by simp [Den]) a rfl

theorem froz_of_tok {t c : Nat} {p : Bool} (hc : Ω.o c = .arr t p) (hall : ∀ b p, Ω.o b = .arr t p → p = false) : ¬ Ω.froz c := by
  intro hf
  have := hall c p hc
  subst this
  rcases hf with hf | ⟨u, hf⟩ <;> rw [hc] at hf <;> cases hf
theorem yields_est (h : Inv X w0 Ω w a.tmps σ) (hd : ∀ d, o.dst = some d → d < a.tmps.size) {t : TypeId} {x y : Operand} (ho : o.op = .store t x y) {n : Nat} (hn : sizeC P t = some n) {u m i off : Nat} {v v' : V} {ex : List Nat} {cs cs' : List V}
    (hx : Den Ω w (.eref u m i off cs) (a.eval x)) (hy : Den Ω w v (a.eval y)) (hf : v.frzE = some (v', [])) (hvn : v'.cells.length = n) (hvp : v'.cells.all V.pm = true) (ht : tkOf σ.tk ex u = some (m, true)) (hs : splice cs off v'.cells = some cs') :
    Yields P X w0 Ω w a o (apply σ o.dst (.est u m i cs')) mk := by
  obtain ⟨htk, _⟩ := tkOf_get ht
  obtain ⟨c, k, T, xs, g1, ⟨p, g2⟩, g3, g4, g5, g6, g7, g8⟩ := h.tok u m true htk
  have g8 := g8 rfl
  simp only [Den] at hx
  obtain ⟨b, q, hx1, hx2, hx3, hx4, hx5, hx6, hx7⟩ := hx
  have hbc : b = c := (hx4 c k m g1).2 rfl
  subst hbc
  have hv' := (Den.frzE (ps := []) v v' [] _ hf (by simp) hy).1
  rw [prot_nil] at hv'
  have hvc : v'.cells.all V.cellOk = true := List.all_eq_true.2 fun z hz => (V.pm_pure (List.all_eq_true.1 hvp z hz)).2
  have hyl := Den.cells hvc hv'
  have hsz : (a.eval y).cells.size = n := by rw [← Array.length_toList, hyl.length, hvn]
  obtain ⟨hle, hlen⟩ := splice_len hs
  have hi1 : i * Ω.tsz u + Ω.tsz u ≤ m * Ω.tsz u := by rw [← Nat.succ_mul]; exact Nat.mul_le_mul_right _ hx3
  have hm1 : m * Ω.tsz u ≤ xs.size := by rw [g4]; exact Nat.mul_le_mul_right _ g5
  have hr := run_storeAt (P := P) (w := w) (off := i * Ω.tsz u + off) hn g3 hsz (by omega) (DenL.one hvc hyl)
  generalize hw : (xs.toList.take (i * Ω.tsz u + off) ++ (a.eval y).cells.toList ++ xs.toList.drop (i * Ω.tsz u + off + n)).toArray = ys at hr
  have hys : ys.size = xs.size := by
    rw [← hw]; simp only [List.size_toArray, List.length_append, List.length_take, List.length_drop, Array.length_toList]; omega
  have hsize : (w.setRow b ys).heap.size = w.heap.size := by simp [World.setRow]
  have hcell : ∀ j, (w.setRow b ys).cell? ⟨b, j, none⟩ = ys[j]? := fun j => cell_setRow_same w b j xs ys T (0, 0) g3
  have hcell0 : ∀ j, w.cell? ⟨b, j, none⟩ = xs[j]? := fun j => cell_of_row w b j xs T (0, 0) g3
  have hyold : ∀ j, (j < i * Ω.tsz u + off ∨ i * Ω.tsz u + off + n ≤ j) → ys[j]? = xs[j]? := by
    intro j hj
    rw [← hw, List.getElem?_toArray]
    have hl1 : (xs.toList.take (i * Ω.tsz u + off)).length = i * Ω.tsz u + off := by rw [List.length_take, Array.length_toList]; omega
    rcases hj with hj | hj
    · rw [List.append_assoc, List.getElem?_append_left (by omega), List.getElem?_take_of_lt hj, Array.getElem?_toList]
    · rw [List.getElem?_append_right (by simp only [List.length_append, hl1, Array.length_toList]; omega), List.getElem?_drop, Array.getElem?_toList]
      congr 1
      simp only [List.length_append, hl1, Array.length_toList]; omega
  have hext : ExtM Ω Ω w (w.setRow b ys) := ⟨fun _ h => h, fun _ _ => Nat.le_refl _, fun b' off' hb' _ => cell_setRow_other w b ys ⟨b', off', none⟩ (fun e => by
    simp only at e; subst e; exact absurd hb' (froz_of_tok g2 g8))⟩
  -- the element as it is now
  obtain ⟨zs, z1, z2⟩ := hx7.vals
  have hpm' : cs'.all V.pm = true := List.all_eq_true.2 (splice_all hs (List.all_eq_true.1 hx6) (List.all_eq_true.1 hvp))
  have hnewL : DenL Ω (w.setRow b ys) cs' (zs.take off ++ (a.eval y).cells.toList ++ zs.drop (off + n)) := by
    have h1 := DenL.splice z1 hyl hs
    rw [hvn] at h1
    have key : ∀ (vs : List V) (us : List Value), vs.all V.pm = true → DenL Ω w vs us → DenL Ω (w.setRow b ys) vs us := by
      intro vs
      induction vs with
      | nil => intro us _ h; simpa [DenL] using h
      | cons v vs ih =>
        intro us hp h
        simp only [DenL] at h
        obtain ⟨x, us', rfl, k2, k3⟩ := h
        simp only [List.all_cons, Bool.and_eq_true] at hp
        exact DenL.cons (Den.extM hext v x hp.1 k2) (ih us' hp.2 k3)
    exact key _ _ hpm' h1
  have hzl : zs.length = Ω.tsz u := by rw [z1.length, hx5]
  have hest : EstW Ω w (w.setRow b ys) u b m i (Ω.tsz u) cs' := by
    refine ⟨⟨k, g1⟩, g8, rfl, by rw [hlen, hx5], hpm', ?_, fun b' off' _ ho' => ?_, ⟨p, g2⟩⟩
    · refine rowC hnewL (fun v hv => V.pm_pure (List.all_eq_true.1 hpm' v hv)) (fun j y' hj => ?_)
      have hjlt : j < Ω.tsz u := by
        have := (List.getElem?_eq_some_iff.1 hj).1
        rw [hnewL.length, hlen, hx5] at this
        exact this
      refine ⟨by rw [g6]; omega, ?_⟩
      rw [hcell]
      by_cases hj1 : j < off
      · rw [hyold _ (.inl (by omega)), ← hcell0]
        refine z2 j y' ?_
        rw [List.append_assoc, List.getElem?_append_left (by rw [List.length_take, hzl]; omega), List.getElem?_take_of_lt hj1] at hj
        exact hj
      · by_cases hj2 : j < off + n
        · rw [List.append_assoc, List.getElem?_append_right (by rw [List.length_take, hzl]; omega), List.getElem?_append_left (by rw [List.length_take, hzl, Array.length_toList, hsz]; omega), List.length_take, hzl] at hj
          rw [← hw, List.getElem?_toArray]
          have hl1 : (xs.toList.take (i * Ω.tsz u + off)).length = i * Ω.tsz u + off := by rw [List.length_take, Array.length_toList]; omega
          rw [List.append_assoc, List.getElem?_append_right (by omega), hl1, List.getElem?_append_left (by rw [Array.length_toList, hsz]; omega)]
          rw [← hj]
          congr 1
          omega
        · rw [hyold _ (.inr (by omega)), ← hcell0]
          refine z2 j y' ?_
          rw [List.getElem?_append_right (by rw [List.length_append, List.length_take, hzl, Array.length_toList, hsz]; omega), List.getElem?_drop, List.length_append, List.length_take, hzl, Array.length_toList, hsz] at hj
          rw [← hj]
          congr 1
          omega
    · by_cases hbb : b' = b
      · subst hbb
        rw [hcell, hcell0]
        exact hyold _ (by omega)
      · exact cell_setRow_other w b ys ⟨b', off', none⟩ hbb
  have h3 := h.est hest hx3 ⟨h.kept.os, h.kept.tape, h.kept.output, by rw [hsize]; exact h.kept.size, fun b' hb' hX => by
      by_cases e : b' = b
      · subst e
        rcases h.ownA b' u p g2 with k1 | k1
        · exact absurd hb' (Nat.not_lt_of_le k1)
        · exact absurd k1 hX
      · rw [setRow_other w b b' _ e]; exact h.kept.block b' hb' hX⟩ (by rw [hsize]; exact Nat.le_refl _) (fun b' hb' => setRow_other w b b' _ hb') (fun xs' T' hxs' => by
      rw [g3] at hxs'
      injection hxs' with hxs'
      injection hxs' with e1 e2
      subst e1; subst e2
      exact ⟨ys, setRow_heap w b xs ys T (0, 0) g3, hys⟩)
  refine ⟨undef, _, Ω, .inr ⟨by rw [run_storeOp ho, hx1, hr]; rfl, rfl⟩, ?_, fun _ hf _ => hf⟩
  exact h3.putO hd (by simp [Den]) a rfl
end
end Go.Lo

/- Comparisons. -/
namespace Go.Lo
section
variable {P : Program} {w : World} {Ω : Own}

def eqVals : List (Option IntKind) → List Value → List Value → Option Bool
  | [], [], [] => some true
  | some k :: sh, .int k1 a :: xs, .int k2 b :: ys => if k1 = k ∧ k2 = k then (match eqVals sh xs ys with | some r => some (a == b && r) | none => none) else none
  | none :: sh, .bool a :: xs, .bool b :: ys => match eqVals sh xs ys with | some r => some (a == b && r) | none => none
  | _, _, _ => none
theorem eqVals_inv {k : Option IntKind} {sh : List (Option IntKind)} {xs ys : List Value} {r : Bool} (h : eqVals (k :: sh) xs ys = some r) :
    ∃ x y xs' ys' r0 r1, xs = x :: xs' ∧ ys = y :: ys' ∧ eqVals sh xs' ys' = some r1 ∧ r = (r0 && r1) ∧
      ((k = none ∧ ∃ a b, x = .bool a ∧ y = .bool b ∧ r0 = (a == b)) ∨ ∃ q a b, k = some q ∧ x = .int q a ∧ y = .int q b ∧ r0 = (a == b)) := by
  cases xs with
  | nil => cases k <;> simp [eqVals] at h
  | cons x xs =>
    cases ys with
    | nil => cases k <;> cases x <;> simp [eqVals] at h
    | cons y ys =>
      cases k with
      | none =>
        cases x <;> cases y <;> simp only [eqVals, reduceCtorEq] at h
        rename_i a b
        split at h
        · rename_i q hq
          simp only [Option.some.injEq] at h
          exact ⟨_, _, xs, ys, a == b, q, rfl, rfl, hq, h.symm, .inl ⟨rfl, a, b, rfl, rfl, rfl⟩⟩
        · cases h
      | some k =>
        cases x <;> cases y <;> simp only [eqVals, reduceCtorEq] at h
        rename_i k1 a k2 b
        split at h
        · rename_i hk
          obtain ⟨rfl, rfl⟩ := hk
          split at h
          · rename_i q hq
            simp only [Option.some.injEq] at h
            exact ⟨_, _, xs, ys, a == b, q, rfl, rfl, hq, h.symm, .inr ⟨_, a, b, rfl, rfl, rfl, rfl⟩⟩
          · cases h
        · cases h
theorem eqVals_cons {k : Option IntKind} {sh : List (Option IntKind)} {x y : Value} {xs ys : List Value} {r0 r1 : Bool} (h : eqVals sh xs ys = some r1)
    (hk : (k = none ∧ ∃ a b, x = .bool a ∧ y = .bool b ∧ r0 = (a == b)) ∨ ∃ q a b, k = some q ∧ x = .int q a ∧ y = .int q b ∧ r0 = (a == b)) : eqVals (k :: sh) (x :: xs) (y :: ys) = some (r0 && r1) := by
  rcases hk with ⟨rfl, a, b, rfl, rfl, rfl⟩ | ⟨q, a, b, rfl, rfl, rfl, rfl⟩
  · simp only [eqVals, h]
  · simp only [eqVals, h]; simp
theorem eqVals_len : ∀ {sh : List (Option IntKind)} {xs ys : List Value} {r : Bool}, eqVals sh xs ys = some r → xs.length = sh.length ∧ ys.length = sh.length := by
  intro sh
  induction sh with
  | nil =>
    intro xs ys r h
    cases xs <;> cases ys <;> simp [eqVals] at h <;> exact ⟨rfl, rfl⟩
  | cons k sh ih =>
    intro xs ys r h
    obtain ⟨x, y, xs', ys', r0, r1, rfl, rfl, h1, _, _⟩ := eqVals_inv h
    obtain ⟨h2, h3⟩ := ih h1
    simp [h2, h3]
theorem eqVals_den : ∀ {sh : List (Option IntKind)} {cs ds : List V} {xs ys : List Value} {r : Bool}, eqSh sh cs ds = some r → DenL Ω w cs xs → DenL Ω w ds ys → eqVals sh xs ys = some r := by
  intro sh
  induction sh with
  | nil =>
    intro cs ds xs ys r h h1 h2
    cases cs <;> cases ds <;> simp [eqSh] at h
    simp only [DenL] at h1 h2; subst h1; subst h2; subst h
    rfl
  | cons k sh ih =>
    intro cs ds xs ys r h h1 h2
    cases cs with
    | nil => cases k <;> simp [eqSh] at h
    | cons c cs =>
      cases ds with
      | nil => cases k <;> cases c <;> simp [eqSh] at h
      | cons d ds =>
        cases k with
        | none =>
          cases c <;> cases d <;> simp only [eqSh, reduceCtorEq] at h
          simp only [DenL, Den] at h1 h2
          obtain ⟨_, xs', rfl, rfl, h1⟩ := h1
          obtain ⟨_, ys', rfl, rfl, h2⟩ := h2
          split at h
          · rename_i q hq
            simp only [eqVals, ih hq h1 h2]
            exact h
          · cases h
        | some k =>
          cases c <;> cases d <;> simp only [eqSh, reduceCtorEq] at h
          simp only [DenL, Den] at h1 h2
          obtain ⟨_, xs', rfl, rfl, h1⟩ := h1
          obtain ⟨_, ys', rfl, rfl, h2⟩ := h2
          split at h
          · rename_i hk
            split at h
            · rename_i q hq
              simp only [eqVals, if_pos hk, ih hq h1 h2]
              exact h
            · cases h
          · cases h
theorem eqVals_split : ∀ {sh sh' : List (Option IntKind)} {xs ys : List Value} {r : Bool}, eqVals (sh ++ sh') xs ys = some r →
    ∃ r1 r2, eqVals sh (xs.take sh.length) (ys.take sh.length) = some r1 ∧ eqVals sh' (xs.drop sh.length) (ys.drop sh.length) = some r2 ∧ r = (r1 && r2) := by
  intro sh
  induction sh with
  | nil =>
    intro sh' xs ys r h
    exact ⟨true, r, rfl, by simpa using h, by simp⟩
  | cons k sh ih =>
    intro sh' xs ys r h
    rw [List.cons_append] at h
    obtain ⟨x, y, xs', ys', r0, r1, rfl, rfl, h1, rfl, h2⟩ := eqVals_inv h
    obtain ⟨s1, s2, g1, g2, rfl⟩ := ih h1
    exact ⟨r0 && s1, s2, by simpa using eqVals_cons g1 h2, by simpa using g2, by rw [Bool.and_assoc]⟩

/-- A value of the type with these cells. -/
def IsVal (P : Program) (t : TypeId) (xs : List Value) (v : Value) : Prop :=
  match P.underlying t with
  | some (.struct _) => v = .agg xs.toArray
  | some (.array _ _) => v = .agg xs.toArray
  | _ => xs = [v]
theorem run_part {t : TypeId} {n : Nat} (hs : sizeC P t = some n) {d : TypeDesc} (hd : P.underlying t = some d) (h1 : d.isRow = false → n = 1) {xs : List Value} {off : Nat} (hle : off + n ≤ xs.length) (w : World) :
    ∃ v, (part t xs.toArray off).run P w = .ok v w ∧ IsVal P t ((xs.drop off).take n) v := by
  by_cases hr : d.isRow = true
  · have hagg : (isAgg t).run P w = .ok true w := by
      unfold isAgg
      rw [Sem.run_bind, run_underlying hd w]
      cases d <;> simp_all
    refine ⟨.agg (xs.toArray.extract off (off + n)), by simp [part, hagg, run_sizeOf hs], ?_⟩
    have e : xs.toArray.extract off (off + n) = ((xs.drop off).take n).toArray := by
      apply Array.ext'
      rw [Array.toList_extract]
      simp [List.extract]
    unfold IsVal
    cases d <;> simp at hr <;> simp only [hd] <;> rw [e]
  · have hr : d.isRow = false := by simpa using hr
    have hn := h1 hr
    subst hn
    have hlt : off < xs.length := by omega
    refine ⟨xs[off], by simp [part, run_isAgg_no hd hr, hlt], ?_⟩
    have e : (xs.drop off).take 1 = [xs[off]] := by rw [List.drop_eq_getElem_cons hlt]; rfl
    unfold IsVal
    cases d <;> simp at hr <;> simp only [hd] <;> rw [e]
theorem shape_row : ∀ {d : Nat} {t : TypeId} {sh : List (Option IntKind)}, shapeC P d t = some sh → ∃ k, P.underlying t = some k ∧ sizeC P t = some sh.length ∧ (k.isRow = false → sh.length = 1) := by
  intro d t sh h
  cases d with
  | zero => simp [shapeC] at h
  | succ d =>
    have key : ∀ sh', sized P t sh' = some sh → sh' = sh ∧ sizeC P t = some sh.length := fun sh' e => by
      unfold sized at e
      split at e
      · injection e with e; subst e; exact ⟨rfl, by assumption⟩
      · cases e
    unfold shapeC at h
    cases hu : P.underlying t with
    | none => simp [hu] at h
    | some k =>
      cases k <;> simp only [hu, reduceCtorEq] at h
      case bool => obtain ⟨rfl, h2⟩ := key _ h; exact ⟨_, rfl, h2, fun _ => rfl⟩
      case int q => obtain ⟨rfl, h2⟩ := key _ h; exact ⟨_, rfl, h2, fun _ => rfl⟩
      case struct fs =>
        split at h
        · cases h
        · split at h
          · obtain ⟨rfl, h2⟩ := key _ h; exact ⟨_, rfl, h2, fun hr => by simp at hr⟩
          · cases h
      case array n e =>
        split at h
        · obtain ⟨rfl, h2⟩ := key _ h; exact ⟨_, rfl, h2, fun hr => by simp at hr⟩
        · cases h
theorem take_drop_flat (n c : Nat) (xs : List Value) : (xs.drop n).drop c = xs.drop (n + c) := by rw [List.drop_drop]
theorem run_equalIn_shape : ∀ (d : Nat) (t : TypeId) (sh : List (Option IntKind)), shapeC P d t = some sh → ∀ (D : Nat) (xs ys : List Value) (r : Bool) (vx vy : Value) (w : World), eqVals sh xs ys = some r →
    IsVal P t xs vx → IsVal P t ys vy → (Op.equalIn (D + d) t vx vy).run P w = .ok r w := by
  intro d
  induction d with
  | zero => intro t sh h; simp [shapeC] at h
  | succ d ih =>
    intro t sh h D xs ys r vx vy w hr hx hy
    -- one part
    have step : ∀ (e : TypeId) (s1 s2 : List (Option IntKind)) (off : Nat) (r : Bool), off ≤ xs.length → off ≤ ys.length → shapeC P d e = some s1 → eqVals (s1 ++ s2) (xs.drop off) (ys.drop off) = some r →
        ∃ a b r1 r2, off + s1.length ≤ xs.length ∧ off + s1.length ≤ ys.length ∧ (part e xs.toArray off).run P w = .ok a w ∧ (part e ys.toArray off).run P w = .ok b w ∧ (Op.equalIn (D + d) e a b).run P w = .ok r1 w ∧
          eqVals s2 (xs.drop (off + s1.length)) (ys.drop (off + s1.length)) = some r2 ∧ r = (r1 && r2) := by
      intro e s1 s2 off r hl1 hl2 h1 h2
      obtain ⟨k, k1, k2, k3⟩ := shape_row h1
      obtain ⟨l1, l2⟩ := eqVals_len h2
      rw [List.length_drop, List.length_append] at l1 l2
      obtain ⟨r1, r2, g1, g2, g3⟩ := eqVals_split h2
      have ho1 : off + s1.length ≤ xs.length := by omega
      have ho2 : off + s1.length ≤ ys.length := by omega
      obtain ⟨a, ha1, ha2⟩ := run_part k2 k1 k3 ho1 w
      obtain ⟨b, hb1, hb2⟩ := run_part k2 k1 k3 ho2 w
      exact ⟨a, b, r1, r2, ho1, ho2, ha1, hb1, ih e s1 h1 D _ _ r1 a b w g1 ha2 hb2, by rw [List.drop_drop, List.drop_drop] at g2; exact g2, g3⟩
    have key : ∀ sh', sized P t sh' = some sh → sh' = sh := fun sh' e => by
      unfold sized at e
      split at e
      · injection e
      · cases e
    unfold shapeC at h
    rw [show D + (d + 1) = (D + d) + 1 from rfl]
    cases hu : P.underlying t with
    | none => simp [hu] at h
    | some k =>
      cases k <;> simp only [hu, reduceCtorEq] at h
      case bool =>
        have := key _ h; subst this
        simp only [IsVal, hu] at hx hy
        subst hx; subst hy
        obtain ⟨x, y, xs', ys', r0, r1, e1, e2, h1, rfl, h2⟩ := eqVals_inv hr
        injection e1 with e1 e3; injection e2 with e2 e4
        subst e1; subst e2; subst e3; subst e4
        simp only [eqVals, Option.some.injEq] at h1; subst h1
        rcases h2 with ⟨_, a, b, rfl, rfl, rfl⟩ | ⟨q, a, b, h2, _⟩
        · rw [Bool.and_true]; exact run_equalIn_bool' w (D + d) t _ _ hu
        · cases h2
      case int q =>
        have := key _ h; subst this
        simp only [IsVal, hu] at hx hy
        subst hx; subst hy
        obtain ⟨x, y, xs', ys', r0, r1, e1, e2, h1, rfl, h2⟩ := eqVals_inv hr
        injection e1 with e1 e3; injection e2 with e2 e4
        subst e1; subst e2; subst e3; subst e4
        simp only [eqVals, Option.some.injEq] at h1; subst h1
        rcases h2 with ⟨h2, _⟩ | ⟨q', a, b, h2, rfl, rfl, rfl⟩
        · cases h2
        · rw [Bool.and_true]; exact run_equalIn_int w (D + d) t _ q _ _ hu
      case struct fs =>
        split at h
        · cases h
        · rename_i hst
          split at h
          · rename_i sh' hfs
            have := key _ h; subst this
            simp only [IsVal, hu] at hx hy
            subst hx; subst hy
            have hfo : P.fieldsOf t = fs := by simp [Program.fieldsOf, hu]
            rw [run_equalIn_struct w (D + d) t _ _ (by rw [hfo]; exact hu) (by simpa using hst), hfo]
            generalize fs.toList = l at hfs
            have go : ∀ (l : List Field) (o : Nat) (s : List (Option IntKind)) (r : Bool), o ≤ xs.length → o ≤ ys.length → shapeFs (shapeC P d) l o = some s → eqVals s (xs.drop o) (ys.drop o) = some r →
                (Op.eqFields (D + d) xs.toArray ys.toArray l).run P w = .ok r w := by
              intro l
              induction l with
              | nil =>
                intro o s r hl1 hl2 h1 h2
                simp only [shapeFs, Option.some.injEq] at h1; subst h1
                cases hq : xs.drop o <;> cases hq2 : ys.drop o <;> simp [eqVals, hq, hq2] at h2
                subst h2
                simp [Op.eqFields]
              | cons f l ihl =>
                intro o s r hl1 hl2 h1 h2
                simp only [shapeFs] at h1
                split at h1
                · rename_i s1 hs1
                  split at h1
                  · rename_i hc
                    split at h1
                    · rename_i s2 hs2
                      injection h1 with h1; subst h1
                      obtain ⟨a, b, r1, r2, l1, l2, q1, q2, q3, q4, rfl⟩ := step f.type s1 s2 o r hl1 hl2 hs1 h2
                      have hrec := ihl _ s2 r2 l1 l2 hs2 q4
                      simp only [Op.eqFields, hc.2, ne_eq, not_false_eq_true, if_true, Sem.run_bind, hc.1, q1, q2, q3, Result.andThen_ok]
                      cases r1
                      · simp
                      · simpa using hrec
                    · cases h1
                  · cases h1
                · cases h1
            exact go l 0 _ r (Nat.zero_le _) (Nat.zero_le _) hfs (by simpa using hr)
          · cases h
      case array n e =>
        split at h
        · rename_i s1 hs1
          have := key _ h; subst this
          simp only [IsVal, hu] at hx hy
          subst hx; subst hy
          obtain ⟨k, k1, k2, k3⟩ := shape_row hs1
          have hi : ∃ i, P.info? e = some i ∧ P.cellsOf e = s1.length := by
            unfold sizeC at k2
            cases hi : P.info? e with
            | none => simp [hi] at k2
            | some i => simp only [hi, Option.map_some, Option.some.injEq] at k2; exact ⟨i, rfl, by simp [Program.cellsOf, hi, k2]⟩
          obtain ⟨i, hi, hce⟩ := hi
          rw [run_equalIn_array w (D + d) _ _ hu hi, hce, List.range_eq_range']
          have go : ∀ (m i : Nat) (r : Bool), i * s1.length ≤ xs.length → i * s1.length ≤ ys.length → eqVals (List.replicate m s1).flatten (xs.drop (i * s1.length)) (ys.drop (i * s1.length)) = some r →
              (Op.eqItems (D + d) e s1.length xs.toArray ys.toArray (List.range' i m)).run P w = .ok r w := by
            intro m
            induction m with
            | zero =>
              intro i r hl1 hl2 h2
              cases hq : xs.drop (i * s1.length) <;> cases hq2 : ys.drop (i * s1.length) <;> simp [eqVals, hq, hq2] at h2
              subst h2
              simp [Op.eqItems]
            | succ m ihm =>
              intro i r hl1 hl2 h2
              rw [List.replicate_succ, List.flatten_cons] at h2
              obtain ⟨a, b, r1, r2, l1, l2, q1, q2, q3, q4, rfl⟩ := step e s1 _ _ r hl1 hl2 hs1 h2
              rw [← Nat.succ_mul] at q4 l1 l2
              have hrec := ihm (i + 1) r2 l1 l2 q4
              rw [List.range'_succ]
              simp only [Op.eqItems, Sem.run_bind, q1, q2, q3, Result.andThen_ok]
              cases r1
              · simp
              · simpa using hrec
          exact go n 0 r (by simp) (by simp) (by simpa using hr)
        · cases h
end
end Go.Lo

/- Binary operations. -/
namespace Go.Lo
section
variable {P : Program} {X : Sc} {w0 w : World} {Ω : Own} {a : Act} {σ : St} {o : Oper} {mk : Bool}

theorem run_binOp {op : BinOp} {t u : TypeId} {x y : Operand} (ho : o.op = .binOp op t x y u) :
    (execOp a.eval o).run P w = ((eqGuard op t x y (a.eval x) (a.eval y)).run P w).andThen fun _ w => ((binOp op t (a.eval x) (a.eval y)).run P w).andThen fun v w => .ok (.value v) w := by
  simp only [execOp, ho, Sem.run_bind]
  cases (eqGuard op t x y (a.eval x) (a.eval y)).run P w with
  | ok _ w =>
    simp only [Result.andThen_ok]
    congr 1
  | halt _ _ => rfl
theorem run_eqGuard_int (op : BinOp) (t : TypeId) (x y : Operand) (k k' : IntKind) (n m : Int) (w : World) : (eqGuard op t x y (.int k n) (.int k' m)).run P w = .ok () w := by
  cases op <;> simp [eqGuard]
theorem run_eqGuard_bool (op : BinOp) (t : TypeId) (x y : Operand) (n m : Bool) (w : World) : (eqGuard op t x y (.bool n) (.bool m)).run P w = .ok () w := by
  cases op <;> simp [eqGuard]
theorem run_eqGuard_sl (op : BinOp) (t : TypeId) (x y : Operand) (b c : Option Addr) (n m n' m' : Nat) (w : World) : (eqGuard op t x y (.slice b n m) (.slice c n' m')).run P w = .ok () w := by
  cases op <;> simp [eqGuard]
theorem run_binI {op : BinOp} {k : IntKind} {n m : Int} {r : V} (h : binI op k n m = some r) (t : TypeId) (w : World) : ∃ z, (binOp op t (.int k n) (.int k m)).run P w = .ok z w ∧ Den Ω w r z := by
  cases op <;> simp only [binI, reduceCtorEq, Option.some.injEq] at h
  all_goals first
    | (subst h
       refine ⟨_, ?_, (by simp only [Den]; rfl)⟩
       simp [binOp, Op.intArith, Op.intCmp]
       done)
    | (split at h
       · cases h
       · simp only [Option.some.injEq] at h
         subst h
         refine ⟨_, ?_, (by simp only [Den]; rfl)⟩
         simp [binOp, Op.intDiv, *]
         done)
    | (simp only [intBits, Option.some.injEq] at h
       subst h
       refine ⟨_, ?_, (by simp only [Den]; rfl)⟩
       simp [binOp, Op.intBits]
       done)
    | (subst h
       refine ⟨_, ?_, (by simp only [Den]; rfl)⟩
       simp only [binOp, ne_eq, not_true_eq_false, if_false, Op.intCmp, Sem.run_pure]
       congr 2
       first | done | (by_cases e : n = m <;> simp [e]))
theorem run_binS {op : BinOp} {k k' : IntKind} {n m : Int} {r : V} (h : binS op k n m = some r) (t : TypeId) (w : World) : ∃ z, (binOp op t (.int k n) (.int k' m)).run P w = .ok z w ∧ Den Ω w r z := by
  unfold binS at h
  split at h
  · cases h
  · cases op <;> simp only [reduceCtorEq, Option.some.injEq] at h
    all_goals
      subst h
      refine ⟨_, ?_, (by simp only [Den]; rfl)⟩
      simp [binOp, Op.shift, *]
/-- What the type of the operands tells. -/
def binTy (P : Program) (t : TypeId) (ty : Nat) : Prop := (ty = 1 → P.underlying t = some .bool) ∧ (ty = 2 → ∃ e, P.underlying t = some (.slice e))
theorem run_bin {op : BinOp} {t u : TypeId} {x y : Operand} (ho : o.op = .binOp op t x y u) {ty : Nat} (ht : binTy P t ty) {v v' r : V} (hx : Den Ω w v (a.eval x)) (hy : Den Ω w v' (a.eval y)) (h : binV ty op v v' = some r) :
    ∃ z, (execOp a.eval o).run P w = .ok (.value z) w ∧ Den Ω w r z := by
  rw [run_binOp ho]
  have fin : ∀ {s : V}, (eqGuard op t x y (a.eval x) (a.eval y)).run P w = .ok () w → (∃ z, (binOp op t (a.eval x) (a.eval y)).run P w = .ok z w ∧ Den Ω w s z) →
      ∃ z, ((eqGuard op t x y (a.eval x) (a.eval y)).run P w).andThen (fun _ w => ((binOp op t (a.eval x) (a.eval y)).run P w).andThen fun v w => .ok (Next.value v) w) = .ok (Next.value z) w ∧ Den Ω w s z := by
    rintro s h0 ⟨z, h1, h2⟩
    exact ⟨z, by rw [h0]; simp only [Result.andThen_ok]; rw [h1]; rfl, h2⟩
  have eqlNil : ∀ (p : Option Addr) (l c : Nat) (s : V), a.eval x = .slice p l c → a.eval y = .slice none 0 0 → ty = 2 → nilCmp op p.isNone = some s →
      ∃ z, ((eqGuard op t x y (a.eval x) (a.eval y)).run P w).andThen (fun _ w => ((binOp op t (a.eval x) (a.eval y)).run P w).andThen fun v w => .ok (Next.value v) w) = .ok (Next.value z) w ∧ Den Ω w s z := by
    intro p l c s h1 h2 h3 h4
    refine fin (by rw [h1, h2]; exact run_eqGuard_sl _ _ _ _ _ _ _ _ _ _ _) ?_
    rw [h1, h2]
    obtain ⟨e, he⟩ := ht.2 h3
    cases op <;> simp only [nilCmp, reduceCtorEq, Option.some.injEq] at h4
    · subst h4
      refine ⟨.bool p.isNone, ?_, by simp [Den]⟩
      simp [binOp, run_equal_slice_nil w t e p l c he]
    · subst h4
      refine ⟨.bool !p.isNone, ?_, by simp [Den]⟩
      simp [binOp, run_equal_slice_nil w t e p l c he]
  cases v with
  | int k n =>
    cases v' <;> simp only [binV, reduceCtorEq] at h
    rename_i k' m
    simp only [Den] at hx hy
    refine fin (by rw [hx, hy]; exact run_eqGuard_int _ _ _ _ _ _ _ _ _) ?_
    rw [hx, hy]
    split at h
    · exact run_binS h t w
    · exact run_binS h t w
    · split at h
      · rename_i hk
        subst hk
        exact run_binI h t w
      · cases h
  | bool b =>
    cases v' <;> simp only [binV, reduceCtorEq] at h
    rename_i c
    simp only [Den] at hx hy
    refine fin (by rw [hx, hy]; exact run_eqGuard_bool _ _ _ _ _ _ _) ?_
    rw [hx, hy]
    split at h
    · rename_i h1
      have hb := ht.1 h1
      cases op <;> simp only [reduceCtorEq, Option.some.injEq] at h
      · subst h; exact ⟨_, run_eql_bool w t b c hb, by simp [Den]⟩
      · subst h; exact ⟨_, run_neq_bool w t b c hb, by simp [Den]⟩
    · cases h
  | nil =>
    cases v' <;> simp only [binV, reduceCtorEq] at h
    simp only [Den] at hx hy
    split at h
    · rename_i h2
      exact eqlNil none 0 0 r hx hy h2 h
    · cases h
  | sl tok sz es =>
    cases tok <;> cases v' <;> simp only [binV, reduceCtorEq] at h
    simp only [Den] at hx hy
    obtain ⟨b, cap, p, h1, _⟩ := hx
    split at h
    · rename_i h2
      exact eqlNil _ _ _ r h1 hy h2 h
    · cases h
  | _ => cases v' <;> simp only [binV, reduceCtorEq] at h
/-- Structs and arrays, cell by cell. -/
theorem run_eqs {op : BinOp} {t u : TypeId} {x y : Operand} (ho : o.op = .binOp op t x y u) {ne : Bool} {sh : List (Option IntKind)} (hop : eqOpC op = some ne) (hs : shapeC P 12 t = some sh) (hg : P.eqGuardType P.depth t = false)
    (hr : ∃ k, P.underlying t = some k ∧ k.isRow = true)
    {cs ds : List V} {r : Bool} (hx : Den Ω w (.agg cs) (a.eval x)) (hy : Den Ω w (.agg ds) (a.eval y)) (h : eqSh sh cs ds = some r) :
    (execOp a.eval o).run P w = .ok (.value (.bool (ne != r))) w := by
  rw [run_binOp ho]
  simp only [Den] at hx hy
  obtain ⟨xs, hx1, hx2⟩ := hx
  obtain ⟨ys, hy1, hy2⟩ := hy
  have hv := eqVals_den h hx2 hy2
  rw [hx1, hy1, run_eqGuard_agg w op t x y _ _ hg]
  simp only [Result.andThen_ok]
  obtain ⟨k, hk1, hk2⟩ := hr
  have isv : ∀ zs : List Value, IsVal P t zs (.agg zs.toArray) := fun zs => by
    unfold IsVal
    cases k <;> simp at hk2 <;> simp [hk1]
  have he := run_equalIn_shape 12 t sh hs 9988 xs ys r _ _ w hv (isv xs) (isv ys)
  rw [show 9988 + 12 = 10000 from rfl] at he
  cases op <;> simp only [eqOpC, reduceCtorEq, Option.some.injEq] at hop
  · subst hop
    rw [run_eql_struct w, he]
    simp
  · subst hop
    rw [run_neq_struct w, he]
    simp
end
end Go.Lo

/- Composite values. -/
namespace Go.Lo
section
variable {P : Program} {X : Sc} {w0 w : World} {Ω : Own} {a : Act} {σ : St} {o : Oper} {mk : Bool}

theorem run_isAgg_yes {t : TypeId} {d : TypeDesc} (hd : P.underlying t = some d) (h : d.isRow = true) (w : World) : (isAgg t).run P w = .ok true w := by
  unfold isAgg
  rw [Sem.run_bind, run_underlying hd w]
  cases d <;> simp_all
/-- A part of cells that are known. -/
theorem run_partV {t : TypeId} {n : Option Nat} (h : nC P t = some n) {cs : List V} {xs : List Value} {off : Nat} {v : V} (hl : DenL Ω w cs xs) (hp : partV cs off n = some v) (w' : World) :
    ∃ x, (part t xs.toArray off).run P w' = .ok x w' ∧ Den Ω w v x := by
  cases n with
  | none =>
    obtain ⟨d, hd, hr⟩ := nC_one h
    simp only [partV] at hp
    obtain ⟨x, hx, hv⟩ := hl.get hp
    exact ⟨x, by simp [part, run_isAgg_no hd hr, hx], hv⟩
  | some n =>
    obtain ⟨⟨d, hd, hr⟩, hs⟩ := nC_many h
    simp only [partV] at hp
    split at hp
    · rename_i hle
      injection hp with hp; subst hp
      refine ⟨.agg (xs.toArray.extract off (off + n)), by simp [part, run_isAgg_yes hd hr, run_sizeOf hs], ?_⟩
      have e : xs.toArray.extract off (off + n) = ((xs.drop off).take n).toArray := by
        apply Array.ext'
        rw [Array.toList_extract]
        simp [List.extract]
      simp only [Den]
      exact ⟨_, by rw [e], (hl.drop off).take n⟩
    · cases hp
theorem run_field {t : TypeId} {x : Operand} {i : Nat} (ho : o.op = .field t x i) {off : Nat} {u : TypeId} {n : Option Nat} (hf : fieldC P t i = some (off, u)) (hn : nC P u = some n) {cs : List V} {v : V} (hx : Den Ω w (.agg cs) (a.eval x)) (hp : partV cs off n = some v) :
    ∃ y, (execOp a.eval o).run P w = .ok (.value y) w ∧ Den Ω w v y := by
  simp only [Den] at hx
  obtain ⟨xs, hx1, hx2⟩ := hx
  obtain ⟨fs, f, h1, h2, rfl, rfl⟩ := fieldC_spec hf
  obtain ⟨y, hy, hd⟩ := run_partV hn hx2 hp w
  exact ⟨y, by simp [execOp, ho, Instr.field, run_underlying h1, h2, hx1, asAgg, hy], hd⟩
theorem run_index {t e : TypeId} {x i : Operand} (ho : o.op = .index t x i) {len sz : Nat} {n : Option Nat} (ht : P.underlying t = some (.array len e)) (hs : sizeC P e = some sz) (hn : nC P e = some n) {cs : List V} {k : IntKind} {j : Int} {v : V}
    (hx : Den Ω w (.agg cs) (a.eval x)) (hi : Den Ω w (.int k j) (a.eval i)) (h0 : 0 ≤ j ∧ j < len) (hp : partV cs (j.toNat * sz) n = some v) :
    ∃ y, (execOp a.eval o).run P w = .ok (.value y) w ∧ Den Ω w v y := by
  simp only [Den] at hx hi
  obtain ⟨xs, hx1, hx2⟩ := hx
  obtain ⟨y, hy, hd⟩ := run_partV hn hx2 hp w
  exact ⟨y, by simp [execOp, ho, Instr.index, run_underlying ht, hx1, hi, asIntOf, h0, run_sizeOf hs, hy], hd⟩

/-! ### Filling -/
theorem foldl_set (off : Nat) : ∀ (vs : List Value) (k : Nat) (cells : Array Value), off + k + vs.length ≤ cells.size →
    (List.foldl (fun cs (p : Value × Nat) => cs.setIfInBounds (off + p.2) p.1) cells (vs.zipIdx k)).toList = cells.toList.take (off + k) ++ vs ++ cells.toList.drop (off + k + vs.length)
  | [], k, cells, _ => by simp
  | v :: vs, k, cells, h => by
    simp only [List.length_cons] at h
    rw [List.zipIdx_cons, List.foldl_cons, foldl_set off vs (k + 1) _ (by simp only [Array.size_setIfInBounds]; omega)]
    simp only [Array.toList_setIfInBounds, List.length_cons]
    have hlt : off + k < cells.toList.length := by simpa using (by omega : off + k < cells.size)
    rw [show off + (k + 1) = (off + k) + 1 by omega, List.take_succ_eq_append_getElem (by simpa using hlt), List.take_set_of_le (Nat.le_refl _), List.getElem_set_self, List.drop_set_of_lt (by omega)]
    rw [show off + k + 1 + vs.length = off + k + (vs.length + 1) by omega]
    simp
theorem fill_step (place : Nat → Option (Nat × Nat)) (cells : Array Value) (i : Nat) (v : Value) (rest : List (Nat × Value)) {off n : Nat} (hp : place i = some (off, n)) (hn : v.cells.size = n) (hle : off + n ≤ cells.size) :
    Instr.fill place cells ((i, v) :: rest) = Instr.fill place (cells.toList.take off ++ v.cells.toList ++ cells.toList.drop (off + n)).toArray rest := by
  have hc : ¬ ((decide (v.cells.size ≠ n) || decide (off + v.cells.size > cells.size)) = true) := by simp [hn]; omega
  simp only [Instr.fill, hp]
  rw [if_neg hc]
  congr 1
  apply Array.ext'
  rw [← Array.foldl_toList, Array.toList_zipIdx]
  have := foldl_set off v.cells.toList 0 cells (by simpa [hn] using hle)
  simp only [Nat.add_zero, Array.length_toList, hn] at this
  exact this
theorem fill_sound {place : Nat → Option (Nat × Nat)} : ∀ {pl : List (Nat × Nat)} {vs : List V} {zs cs : List V} {ps : List (Nat × Value)} {cells : Array Value}, fill pl vs zs = some cs →
    ps.map (fun p => place p.1) = pl.map some → DenL Ω w vs (ps.map (·.2)) → DenL Ω w zs cells.toList → ∃ cells', Instr.fill place cells ps = some cells' ∧ DenL Ω w cs cells'.toList := by
  intro pl
  induction pl with
  | nil =>
    intro vs zs cs ps cells h hp hv hz
    have hps : ps = [] := by simpa using hp
    subst hps
    cases vs with
    | nil => simp only [fill, Option.some.injEq] at h; subst h; exact ⟨cells, rfl, hz⟩
    | cons v vs => simp [fill] at h
  | cons q pl ih =>
    intro vs zs cs ps cells h hp hv hz
    obtain ⟨off, n⟩ := q
    cases vs with
    | nil => simp [fill] at h
    | cons v vs =>
      cases ps with
      | nil => simp at hp
      | cons p ps =>
        obtain ⟨i, x⟩ := p
        simp only [List.map_cons, List.cons.injEq] at hp hv
        simp only [DenL] at hv
        obtain ⟨x', xs', e, hv1, hv2⟩ := hv
        injection e with e1 e2
        subst e1; subst e2
        simp only [fill] at h
        split at h
        · rename_i hc
          split at h
          · rename_i zs' hs
            have hx := Den.cells hc.2 hv1
            have hxl : x.cells.size = n := by rw [← Array.length_toList, hx.length, hc.1]
            have hle : off + n ≤ cells.size := by
              have := hs
              unfold splice at this
              split at this
              · rename_i hl
                rw [hc.1, ← hz.length, Array.length_toList] at hl; exact hl
              · cases this
            obtain ⟨cells', g1, g2⟩ := ih (cells := (cells.toList.take off ++ x.cells.toList ++ cells.toList.drop (off + n)).toArray) h hp.2 hv2 (by
              have := DenL.splice hz hx hs
              rw [hc.1] at this
              exact this)
            exact ⟨cells', by rw [fill_step place cells i x ps hp.1 hxl hle]; exact g1, g2⟩
          · cases h
        · cases h
/-- The zero value of a type. -/
theorem zeroC_spec {t : TypeId} {z : V} (h : zeroC P t = some z) : ∃ i zv, P.info? t = some i ∧ i.zero = some zv ∧ valV zv = some z ∧ z.cells.length = i.size ∧ z.cells.all V.cellOk = true := by
  unfold zeroC at h
  cases hi : P.info? t with
  | none => simp [hi] at h
  | some i =>
    cases hz : i.zero with
    | none => simp [hi, hz] at h
    | some zv =>
      simp only [hi, hz] at h
      split at h
      · rename_i v hv
        split at h
        · rename_i hc
          injection h with h; subst h
          exact ⟨i, zv, rfl, hz, hv, hc.1, hc.2⟩
        · cases h
      · cases h
theorem partsC_spec {place : Nat → Option (Nat × Nat)} : ∀ {ps : List (Nat × Operand)} {pl : List (Nat × Nat)}, partsC place ps = some pl → ps.map (fun p => place p.1) = pl.map some
  | [], pl, h => by simp only [partsC, Option.some.injEq] at h; subst h; rfl
  | (i, x) :: ps, pl, h => by
    simp only [partsC] at h
    split at h
    · rename_i q qs h1 h2
      injection h with h; subst h
      simp [h1, partsC_spec h2]
    · cases h
theorem run_build {t : TypeId} {ps : Array (Nat × Operand)} (ho : o.op = .build t ps) {k : K} {xs : List Operand} (hb : buildC P t ps.toList = some (k, xs)) {vs : List V} (hv : DenL Ω w vs (xs.map a.eval)) {cs : List V}
    {zs : List V} {pl : List (Nat × Nat)} (hk : k = .build zs pl) (hf : fill pl vs zs = some cs) :
    ∃ y, (execOp a.eval o).run P w = .ok (.value y) w ∧ Den Ω w (.agg cs) y := by
  unfold buildC at hb
  split at hb
  · rename_i zs' place hz hpl
    split at hb
    · rename_i pl' hp
      simp only [Option.some.injEq, Prod.mk.injEq] at hb
      obtain ⟨rfl, rfl⟩ := hb
      injection hk with hk1 hk2
      subst hk1; subst hk2
      obtain ⟨it, zv, hi, hzz, hval, hl, hc⟩ := zeroC_spec hz
      have hzd := Den.cells (Ω := Ω) (w := w) hc (valV_den _ _ hval)
      have hp' := partsC_spec hp
      obtain ⟨cells, g1, g2⟩ := fill_sound (place := place) (ps := ps.toList.map fun p => (p.1, a.eval p.2)) hf (by rw [List.map_map]; exact hp') (by rw [List.map_map]; rw [List.map_map] at hv; exact hv) hzd
      have hbuilt : P.built t (ps.toList.map fun p => (p.1, a.eval p.2)) = some cells := by
        unfold placesC at hpl
        unfold Program.built
        rw [hi]
        cases hu : P.underlying t with
        | none => simp [hu] at hpl
        | some d =>
          cases d <;> simp only [hu, reduceCtorEq] at hpl
          case struct fs =>
            split at hpl
            · rename_i l hl
              injection hpl with hpl; subst hpl
              simp only [hzz, hl]
              exact g1
            · cases hpl
          case array n e =>
            split at hpl
            · rename_i ie hie
              injection hpl with hpl; subst hpl
              simp only [hzz, hie]
              exact g1
            · cases hpl
      refine ⟨.agg cells, ?_, ?_⟩
      · have := Go.run_build (P := P) w t (ps.map fun p => (p.1, a.eval p.2)) cells (by rw [Array.toList_map]; exact hbuilt)
        simp only [execOp, ho, Sem.run_bind]
        rw [this]
        rfl
      · simp only [Den]
        exact ⟨cells.toList, by simp, g2⟩
    · cases hb
  · cases hb

/-! ### Slices -/
theorem replicate_made (z : List Value) : ∀ (m : Nat), ((List.range (m * z.length)).map fun i => z.toArray[i % z.length]!) = (List.replicate m z).flatten
  | 0 => by simp
  | m + 1 => by
    rw [Nat.succ_mul, Nat.add_comm, List.range_add, List.map_append, List.map_map, List.replicate_succ, List.flatten_cons, ← replicate_made z m]
    congr 1
    · apply List.ext_getElem
      · simp
      · intro i h1 h2
        simp only [List.length_map, List.length_range] at h1
        simp [Nat.mod_eq_of_lt h1, h1]
    · apply List.map_congr_left
      intro i _
      simp
theorem DenL.replicate {cs : List V} {xs : List Value} (h : DenL Ω w cs xs) : ∀ (m : Nat), DenL Ω w (List.replicate m cs).flatten (List.replicate m xs).flatten
  | 0 => by simp [DenL]
  | m + 1 => by
    rw [List.replicate_succ, List.replicate_succ, List.flatten_cons, List.flatten_cons]
    exact h.append (DenL.replicate h m)
theorem flatten_set : ∀ {es : List (List V)} {sz i : Nat} {e : List V}, (∀ cs ∈ es, cs.length = sz) → i < es.length → e.length = sz → splice es.flatten (i * sz) e = some (es.set i e).flatten
  | [], sz, i, e, _, hi, _ => by simp at hi
  | cs :: es, sz, 0, e, hl, _, he => by
    have := hl cs (by simp)
    simp only [splice, List.flatten_cons, Nat.zero_mul, Nat.zero_add, List.length_append, List.take_zero, List.nil_append, List.set_cons_zero]
    rw [if_pos (by omega), show e.length = cs.length by omega, List.drop_left]
  | cs :: es, sz, i + 1, e, hl, hi, he => by
    have h0 := hl cs (by simp)
    have ih := flatten_set (i := i) (fun ds hd => hl ds (List.mem_cons_of_mem _ hd)) (by simpa using hi) he
    unfold splice at ih ⊢
    split at ih
    · rename_i hle
      injection ih with ih
      simp only [List.flatten_cons, List.length_append, List.set_cons_succ]
      rw [Nat.succ_mul, if_pos (by omega), ← ih, show i * sz + sz = cs.length + i * sz by omega, List.take_length_add_append, show cs.length + i * sz + e.length = cs.length + (i * sz + e.length) by omega, List.drop_length_add_append]
      simp
    · cases ih
end
end Go.Lo

/- Slices that are made. -/
namespace Go.Lo
section
variable {P : Program} {X : Sc} {w0 w : World} {Ω : Own} {a : Act} {σ : St} {o : Oper} {mk : Bool}

theorem elemC_spec {t e : TypeId} (h : elemC P t = some e) : P.underlying t = some (.slice e) := by
  unfold elemC at h
  split at h
  · injection h with h; subst h; assumption
  · cases h
theorem memN_append {s : Nat} : ∀ {xs ys : List Nat}, memN s (xs ++ ys) = (memN s xs || memN s ys)
  | [], ys => by simp [memN]
  | x :: xs, ys => by
    simp only [List.cons_append, memN]
    split
    · rfl
    · exact memN_append
theorem memN_self : ∀ {xs : List Nat} {s : Nat}, s ∈ xs → memN s xs = true
  | x :: xs, s, h => by
    simp only [memN]
    split
    · rfl
    · rename_i hne
      rcases List.mem_cons.1 h with rfl | h
      · exact absurd rfl hne
      · exact memN_self h
/-- Elements of a slice, one by one. -/
theorem fillE_sound {sz : Nat} {ps : List Nat} : ∀ {ix : List Nat} {vs : List V} {es es' : List (List V)} {ts : List Nat} {xs : List Value} {cells : Array Value}, fillE sz ix vs es = some (es', ts) → (∀ t ∈ ts, memN t ps = true) →
    (∀ cs ∈ es, cs.length = sz ∧ cs.all V.pm = true) → DenL Ω w vs xs → DenL (Ω.prot ps) w es.flatten cells.toList →
    ∃ cells', Instr.fill (fun i => some (i * sz, sz)) cells (ix.zip xs) = some cells' ∧ DenL (Ω.prot ps) w es'.flatten cells'.toList ∧ es'.length = es.length ∧ (∀ cs ∈ es', cs.length = sz ∧ cs.all V.pm = true) ∧ ix.length = xs.length := by
  intro ix
  induction ix with
  | nil =>
    intro vs es es' ts xs cells h ht hes hv hd
    cases vs with
    | nil =>
      simp only [fillE, Option.some.injEq, Prod.mk.injEq] at h
      obtain ⟨rfl, rfl⟩ := h
      simp only [DenL] at hv
      subst hv
      exact ⟨cells, rfl, hd, rfl, hes, rfl⟩
    | cons v vs => simp [fillE] at h
  | cons i ix ih =>
    intro vs es es' ts xs cells h ht hes hv hd
    cases vs with
    | nil => simp [fillE] at h
    | cons v vs =>
      simp only [DenL] at hv
      obtain ⟨x, xs, rfl, hv1, hv2⟩ := hv
      simp only [fillE] at h
      split at h
      · rename_i v' us hf
        split at h
        · rename_i hc
          split at h
          · rename_i es2 us2 h2
            simp only [Option.some.injEq, Prod.mk.injEq] at h
            obtain ⟨rfl, rfl⟩ := h
            have hx := (Den.frzE (ps := ps) v v' us x hf (fun t h => ht t (by simp [h])) hv1).1
            have hcc : v'.cells.all V.cellOk = true := List.all_eq_true.2 fun z hz => (V.pm_pure (List.all_eq_true.1 hc.2.1 z hz)).2
            have hxc := Den.cells hcc hx
            have hxl : x.cells.size = sz := by rw [← Array.length_toList, hxc.length, hc.1]
            have hsp := flatten_set (fun cs h => (hes cs h).1) hc.2.2 hc.1
            have hle : i * sz + sz ≤ cells.size := by
              have := hsp
              unfold splice at this
              split at this
              · rename_i hl
                rw [hc.1, ← hd.length, Array.length_toList] at hl; exact hl
              · cases this
            have hsd := DenL.splice hd hxc hsp
            rw [hc.1] at hsd
            obtain ⟨cells', g1, g2, g3, g4, g5⟩ := ih (cells := (cells.toList.take (i * sz) ++ x.cells.toList ++ cells.toList.drop (i * sz + sz)).toArray) h2 (fun t h => ht t (by simp [h])) (fun cs hcs => by
              rcases List.mem_or_eq_of_mem_set hcs with h | rfl
              · exact hes cs h
              · exact ⟨hc.1, hc.2.1⟩) hv2 hsd
            refine ⟨cells', ?_, g2, by rw [g3, List.length_set], g4, by simp [g5]⟩
            rw [List.zip_cons_cons, fill_step _ cells i x _ rfl hxl hle]
            exact g1
          · cases h
        · cases h
      · cases h
theorem zero_row {z : V} {zv : Value} {n m : Nat} (hc : z.cells.all V.cellOk = true) (hl : z.cells.length = n) (hval : valV zv = some z) :
    DenL Ω w (List.replicate m z.cells).flatten ((Array.range (m * n)).map (zv.cells[· % zv.cells.size]!)).toList := by
  have hzd := Den.cells (Ω := Ω) (w := w) hc (valV_den _ _ hval)
  have hzs : zv.cells.toList.length = n := by rw [hzd.length, hl]
  have e : ((Array.range (m * n)).map (zv.cells[· % zv.cells.size]!)).toList = (List.replicate m zv.cells.toList).flatten := by
    rw [← replicate_made, hzs, Array.toList_map, Array.toList_range]
    have : zv.cells.size = n := by rw [← Array.length_toList, hzs]
    simp [this]
  rw [e]
  exact hzd.replicate m
theorem zeroE_spec {t : TypeId} {z : V} (h : zeroE P t = some z) : zeroC P t = some z ∧ z.cells.all V.pm = true := by
  unfold zeroE at h
  split at h
  · split at h
    · injection h with h; subst h; exact ⟨by assumption, by assumption⟩
    · cases h
  · cases h
theorem size_info {t : TypeId} {n : Nat} {i : TypeInfo} (hs : sizeC P t = some n) (hi : P.info? t = some i) : i.size = n := by
  unfold sizeC at hs
  simpa [hi] using hs
theorem bytes_info {t : TypeId} {n : Nat} {i : TypeInfo} (hs : bytesC P t = some n) (hi : P.info? t = some i) : i.bytes = n := by
  unfold bytesC at hs
  simpa [hi] using hs
theorem yields_buildSlice (h : Inv X w0 Ω w a.tmps σ) {t e : TypeId} {len : Nat} {ps : Array (Nat × Operand)} (ho : o.op = .buildSlice t len ps) (he : elemC P t = some e) {sz : Nat} (hs : sizeC P e = some sz) {z : V} (hz : zeroE P e = some z)
    (hsz : sz ≠ 0 ∧ len * sz ≤ 16777216) {d : Nat} (hdst : o.dst = some d) (hd : d < a.tmps.size) (hf : Fresh Ω d) {vs : List V} (hv : DenL Ω w vs ((ps.toList.map (·.2)).map a.eval)) {es : List (List V)} {ts : List Nat}
    (hfl : fillE sz (ps.toList.map (·.1)) vs (List.replicate len z.cells) = some (es, ts)) :
    Yields P X w0 Ω w a o (apply σ o.dst (.mk (.sl (some (d * 100)) sz es) (d * 100) len ts)) true := by
  obtain ⟨hz, hzp⟩ := zeroE_spec hz
  obtain ⟨i, zv, hi, hzz, hval, hl, hc⟩ := zeroC_spec hz
  have hsi := size_info hs hi
  subst hsi
  have hrow := zero_row (Ω := Ω.prot ts) (w := w) (m := len) hc hl hval
  obtain ⟨cells, g1, g2, g3, g4, g5⟩ := fillE_sound (ps := ts) hfl (fun t h => memN_self h) (fun cs hcs => by
    rw [List.mem_replicate] at hcs
    rw [hcs.2]; exact ⟨hl, hzp⟩) hv hrow
  have hzip : (ps.map fun (p : Nat × Operand) => (p.1, a.eval p.2)).toList = (ps.toList.map (·.1)).zip ((ps.toList.map (·.2)).map a.eval) := by
    rw [Array.toList_map, List.map_map, List.zip_map']
    rfl
  have hlen : es.length = len := by rw [g3, List.length_replicate]
  have hcl : cells.size = len * i.size := by
    rw [← Array.length_toList, g2.length, flatten_length (fun cs hc => (g4 cs hc).1), hlen]
  refine Yields.arr (nd := 0) (ys := cells.toList) (c := cells) (T := e) (k := len) h hdst hd hf ?_ hcl (Nat.le_refl _) (Nat.pos_of_ne_zero hsz.1) hlen g2 g4 (fun j y hj => by simpa using hj)
  have hgo : ¬ (16777216 < len * i.size) := by omega
  have hlim : ¬ (len * i.size > 2 ^ 24) := by omega
  rw [← hzip] at g1
  by_cases hn : len * i.size = 0
  · rw [hn] at g1
    simp only [Array.range_zero', Array.map_empty, Array.toList_map] at g1
    simp [execOp, ho, Instr.buildSlice, run_underlying (elemC_spec he), run_sizeOf hs, hn, newRow, Array.range_zero', g1, World.drewN_zero]
  · simp only [Array.toList_map] at g1
    simp [execOp, ho, Instr.buildSlice, run_underlying (elemC_spec he), run_sizeOf hs, hn, hgo, zeroValue, typeInfo, hi, hzz, newRow, g1, World.drewN_zero]
theorem yields_makeSlice (h : Inv X w0 Ω w a.tmps σ) {t e : TypeId} {x y : Operand} (ho : o.op = .makeSlice t x y) (he : elemC P t = some e) {sz b : Nat} (hs : sizeC P e = some sz) (hb : bytesC P e = some b) {z : V} (hz : zeroE P e = some z)
    (hsz : sz ≠ 0 ∧ b ≠ 0) {d : Nat} (hdst : o.dst = some d) (hd : d < a.tmps.size) (hf : Fresh Ω d) {k k' : IntKind} {l c : Int} (hx : Den Ω w (.int k l) (a.eval x)) (hy : Den Ω w (.int k' c) (a.eval y))
    (hc : 0 ≤ l ∧ l ≤ c ∧ c * b ≤ 140737488355328) :
    Yields P X w0 Ω w a o (apply σ o.dst (.mk (.sl (some (d * 100)) sz (List.replicate l.toNat z.cells)) (d * 100) l.toNat [])) true := by
  obtain ⟨hz, hzp⟩ := zeroE_spec hz
  obtain ⟨i, zv, hi, hzz, hval, hl, hcc⟩ := zeroC_spec hz
  have hsi := size_info hs hi
  have hbi := bytes_info hb hi
  subst hsi; subst hbi
  simp only [Den] at hx hy
  have hcb : c ≤ c * i.bytes := by
    have : (1 : Int) ≤ i.bytes := by omega
    have h0 : 0 ≤ c := by omega
    calc c = c * 1 := by omega
      _ ≤ c * i.bytes := Int.mul_le_mul_of_nonneg_left this h0
  have hrow := zero_row (Ω := Ω.prot []) (w := w) (m := l.toNat) hcc hl hval
  have hlc : l.toNat ≤ c.toNat := Int.toNat_le_toNat hc.2.1
  refine Yields.arr (nd := 0) (ys := ((Array.range (l.toNat * i.size)).map (zv.cells[· % zv.cells.size]!)).toList) (c := madeCells zv.cells (c.toNat * i.size)) (T := e) (k := c.toNat) h hdst hd hf ?_ (size_madeCells _ _) hlc (Nat.pos_of_ne_zero hsz.1) (by simp) hrow
    (fun cs hcs => by rw [List.mem_replicate] at hcs; rw [hcs.2]; exact ⟨hl, hzp⟩) (fun j y hj => ?_)
  · have := run_make (P := P) w t e i zv (elemC_spec he) hi hzz k k' l c hc.1 hc.2.1 (by rw [Int.mul_comm]; omega) (by omega)
    simp only [execOp, ho, Sem.run_bind, hx, hy, this]
    rfl
  · have hlm : l.toNat * i.size ≤ c.toNat * i.size := Nat.mul_le_mul_right _ hlc
    have hj' := (List.getElem?_eq_some_iff.1 hj).1
    simp only [Array.length_toList, Array.size_map, Array.size_range] at hj'
    rw [← hj]
    simp only [madeCells, Array.getElem?_map, Array.getElem?_toList]
    rw [Array.getElem?_range, Array.getElem?_range, if_pos hj', if_pos (by omega)]

/-! ### Slice expressions -/
/-- An index, if there is one. -/
def popI (b : Bool) (dflt : Int) (vs : List V) : Option (Int × List V) :=
  if b = true then (match vs with | .int _ i :: r => some (i, r) | _ => none) else some (dflt, vs)
theorem popI_spec {x : Option Operand} {xs : List Operand} {vs r : List V} {dflt i : Int} (h : popI x.isSome dflt vs = some (i, r)) (hv : DenL Ω w vs ((x.toList ++ xs).map a.eval)) :
    DenL Ω w r (xs.map a.eval) ∧ ((x = none ∧ i = dflt) ∨ ∃ y k, x = some y ∧ a.eval y = .int k i) := by
  unfold popI at h
  cases x with
  | none =>
    simp only [Option.isSome_none, Bool.false_eq_true, if_false, Option.some.injEq, Prod.mk.injEq] at h
    obtain ⟨rfl, rfl⟩ := h
    exact ⟨by simpa using hv, .inl ⟨rfl, rfl⟩⟩
  | some y =>
    simp only [Option.isSome_some, if_true] at h
    split at h
    · rename_i k j r' 
      simp only [Option.some.injEq, Prod.mk.injEq] at h
      obtain ⟨rfl, rfl⟩ := h
      simp only [Option.toList_some, List.singleton_append, List.map_cons, DenL, Den] at hv
      obtain ⟨x', ys, e, h1, h2⟩ := hv
      injection e with e1 e2
      subst e2
      exact ⟨h2, .inr ⟨y, k, rfl, by rw [e1, h1]⟩⟩
    · cases h
theorem bounds_spec {len n l h : Nat} {lo hi mx : Option Operand} {vs : List V} (hv : DenL Ω w vs ((lo.toList ++ hi.toList ++ mx.toList).map a.eval)) (hb : bounds len n lo.isSome hi.isSome mx.isSome vs = some (l, h)) :
    ∃ il ih im : Int, ((lo = none ∧ il = 0) ∨ ∃ y k, lo = some y ∧ a.eval y = .int k il) ∧ ((hi = none ∧ ih = len) ∨ ∃ y k, hi = some y ∧ a.eval y = .int k ih) ∧ ((mx = none ∧ im = n) ∨ ∃ y k, mx = some y ∧ a.eval y = .int k im) ∧
      0 ≤ il ∧ il ≤ ih ∧ ih ≤ im ∧ im ≤ n ∧ l = il.toNat ∧ h = ih.toNat := by
  have hb' : (match popI lo.isSome 0 vs with
      | none => none
      | some (l, vs) => match popI hi.isSome len vs with
        | none => none
        | some (h, vs) => match popI mx.isSome n vs with
          | some (m, []) => if 0 ≤ l ∧ l ≤ h ∧ h ≤ m ∧ m ≤ n then some (l.toNat, h.toNat) else none
          | _ => none) = some (l, h) := hb
  rw [List.append_assoc] at hv
  split at hb'
  · cases hb'
  · rename_i il vs1 e1
    obtain ⟨hv1, s1⟩ := popI_spec e1 hv
    split at hb'
    · cases hb'
    · rename_i ih vs2 e2
      obtain ⟨hv2, s2⟩ := popI_spec e2 hv1
      split at hb'
      · rename_i im e3
        rw [← List.append_nil mx.toList] at hv2
        obtain ⟨_, s3⟩ := popI_spec e3 hv2
        split at hb'
        · rename_i hc
          simp only [Option.some.injEq, Prod.mk.injEq] at hb'
          exact ⟨il, ih, im, s1, s2, s3, hc.1, hc.2.1, hc.2.2.1, hc.2.2.2, hb'.1.symm, hb'.2.symm⟩
        · cases hb'
      · cases hb'
theorem run_bounds {len n cap l h : Nat} (hlc : n ≤ cap) {lo hi mx : Option Operand} (hm : mx.isSome = true → hi.isSome = true) {vs : List V} (hv : DenL Ω w vs ((lo.toList ++ hi.toList ++ mx.toList).map a.eval)) (hb : bounds len n lo.isSome hi.isSome mx.isSome vs = some (l, h)) :
    ∃ m, (Instr.sliceBounds true len cap (lo.map a.eval) (hi.map a.eval) (mx.map a.eval)).run P w = .ok (l, h, m) w ∧ l ≤ h ∧ h ≤ m ∧ m ≤ cap ∧ h ≤ n := by
  obtain ⟨il, ih, im, s1, s2, s3, c1, c2, c3, c4, rfl, rfl⟩ := bounds_spec hv hb
  have k1 : il ≤ (ih.toNat : Int) := by omega
  have k2 : ih ≤ (im.toNat : Int) := by omega
  have k3 : im ≤ (cap : Int) := by omega
  have k4 : ih ≤ (cap : Int) := by omega
  have k5 : 0 ≤ ih := by omega
  have k6 : 0 ≤ im := by omega
  have b1 : ∀ (q : IntKind) (code : BoundsCode), (Instr.sliceBound (.int q il) ih.toNat code).run P w = .ok il.toNat w := fun q code => run_sliceBound w q il _ code c1 k1
  have b2 : ∀ (q : IntKind) (code : BoundsCode), (Instr.sliceBound (.int q ih) im.toNat code).run P w = .ok ih.toNat w := fun q code => run_sliceBound w q ih _ code k5 k2
  have b3 : ∀ (q : IntKind) (code : BoundsCode), (Instr.sliceBound (.int q im) cap code).run P w = .ok im.toNat w := fun q code => run_sliceBound w q im _ code k6 k3
  have b4 : ∀ (q : IntKind) (code : BoundsCode), (Instr.sliceBound (.int q ih) cap code).run P w = .ok ih.toNat w := fun q code => run_sliceBound w q ih _ code k5 k4
  rcases s3 with ⟨rfl, rfl⟩ | ⟨y3, q3, rfl, e3⟩
  · refine ⟨cap, ?_, by omega, by omega, Nat.le_refl _, by omega⟩
    rcases s1 with ⟨rfl, rfl⟩ | ⟨y1, q1, rfl, e1⟩ <;> rcases s2 with ⟨rfl, rfl⟩ | ⟨y2, q2, rfl, e2⟩
    · simp [Instr.sliceBounds]
    · simp [Instr.sliceBounds, e2, run_sliceBound, k4, k5]
    · have k1' : il ≤ (len : Int) := by omega
      simp [Instr.sliceBounds, e1, run_sliceBound, c1, k1']
    · simp [Instr.sliceBounds, e1, e2, b4, b1]
  · refine ⟨im.toNat, ?_, by omega, by omega, by omega, by omega⟩
    rcases s2 with ⟨rfl, _⟩ | ⟨y2, q2, rfl, e2⟩
    · simp at hm
    · rcases s1 with ⟨rfl, rfl⟩ | ⟨y1, q1, rfl, e1⟩
      · simp [Instr.sliceBounds, e2, e3, b2, b3]
      · simp [Instr.sliceBounds, e1, e2, e3, b1, b2, b3]
theorem run_sliceOp {t e : TypeId} {x : Operand} {lo hi mx : Option Operand} (ho : o.op = .slice t x lo hi mx) (he : elemC P t = some e) {sz : Nat} (hs : sizeC P e = some sz) {p : Option Addr} {len cap l h m : Nat} (hx : a.eval x = .slice p len cap)
    (hb : (Instr.sliceBounds true len cap (lo.map a.eval) (hi.map a.eval) (mx.map a.eval)).run P w = .ok (l, h, m) w) :
    (execOp a.eval o).run P w = .ok (.value (.slice (if m = l then p else p.map (·.add (l * sz))) (h - l) (m - l))) w := by
  simp [execOp, ho, Instr.sliceAt, Instr.slice, run_underlying (elemC_spec he), hx, hb, run_sizeOf hs]
end
end Go.Lo

/- Slices that are read, cut and appended to; addresses. -/
namespace Go.Lo
section
variable {P : Program} {X : Sc} {w0 w : World} {Ω : Own} {a : Act} {σ : St} {o : Oper} {mk : Bool}

theorem slice_view {t e : TypeId} {x : Operand} {lo hi mx : Option Operand} (ho : o.op = .slice t x lo hi mx) (he : elemC P t = some e) {sz : Nat} (hs : sizeC P e = some sz) (hm : mx.isSome = true → hi.isSome = true)
    {es : List (List V)} {vs : List V} {Ω' : Own} (hx : Den Ω' w (.sl none sz es) (a.eval x)) (hv : DenL Ω w vs ((lo.toList ++ hi.toList ++ mx.toList).map a.eval)) {l h : Nat} (hb : bounds es.length es.length lo.isSome hi.isSome mx.isSome vs = some (l, h)) :
    ∃ y, (execOp a.eval o).run P w = .ok (.value y) w ∧ Den Ω' w (.sl none sz ((es.take h).drop l)) y := by
  simp only [Den] at hx
  rcases hx with ⟨rfl, q, hx⟩ | ⟨b, off, cap, hx, hf, hE⟩
  · obtain ⟨m, h1, h2, h3, h4, h5⟩ := run_bounds (P := P) (w := w) (cap := 0) (Nat.le_refl _) hm hv hb
    refine ⟨_, run_sliceOp ho he hs hx (by simpa using h1), ?_⟩
    simp only [Den]
    refine .inl ⟨by simp, q, ?_⟩
    have : l = 0 := by simp at h5; omega
    have : h = 0 := by simpa using h5
    subst_vars
    have : m = 0 := by omega
    subst this
    simp
  · obtain ⟨m, h1, h2, h3, h4, h5⟩ := run_bounds (P := P) (w := w) (cap := es.length + cap) (Nat.le_add_right _ _) hm hv hb
    refine ⟨_, run_sliceOp ho he hs hx h1, ?_⟩
    have hl : ((es.take h).drop l).length = h - l := by rw [List.length_drop, List.length_take]; omega
    simp only [Den]
    by_cases hml : m = l
    · have e : (es.take h).drop l = [] := List.eq_nil_of_length_eq_zero (by omega)
      rw [e]
      refine .inr ⟨b, off, m - l - (h - l), ?_, hf, trivial⟩
      rw [if_pos hml, List.length_nil]
      congr 1 <;> omega
    · refine .inr ⟨b, off + l * sz, m - l - (h - l), ?_, hf, (hE.take h).drop l⟩
      rw [if_neg hml, hl]
      simp only [Option.map_some, addr_add]
      congr 1
      omega
theorem yields_slice_none (h : Inv X w0 Ω w a.tmps σ) (hd : ∀ d, o.dst = some d → d < a.tmps.size) {t e : TypeId} {x : Operand} {lo hi mx : Option Operand} (ho : o.op = .slice t x lo hi mx) (he : elemC P t = some e) {sz : Nat} (hs : sizeC P e = some sz) (hm : mx.isSome = true → hi.isSome = true)
    {es : List (List V)} {vs : List V} (hx : Den Ω w (.sl none sz es) (a.eval x)) (hv : DenL Ω w vs ((lo.toList ++ hi.toList ++ mx.toList).map a.eval)) {l r : Nat} (hb : bounds es.length es.length lo.isSome hi.isSome mx.isSome vs = some (l, r)) :
    Yields P X w0 Ω w a o (apply σ o.dst (.val (.sl none sz ((es.take r).drop l)))) mk := by
  obtain ⟨y, h1, h2⟩ := slice_view ho he hs hm hx hv hb
  exact Yields.val h hd h1 h2
theorem yields_slice_some (h : Inv X w0 Ω w a.tmps σ) (hd : ∀ d, o.dst = some d → d < a.tmps.size) {t e : TypeId} {x : Operand} {lo hi mx : Option Operand} (ho : o.op = .slice t x lo hi mx) (he : elemC P t = some e) {sz : Nat} (hs : sizeC P e = some sz) (hm : mx.isSome = true → hi.isSome = true)
    {u : Nat} {es : List (List V)} {vs : List V} (hx : Den Ω w (.sl (some u) sz es) (a.eval x)) (hv : DenL Ω w vs ((lo.toList ++ hi.toList ++ mx.toList).map a.eval)) {l r : Nat} (hb : bounds es.length es.length lo.isSome hi.isSome mx.isSome vs = some (l, r)) :
    Yields P X w0 Ω w a o (apply σ o.dst (.prot (.sl none sz ((es.take r).drop l)) [u])) mk := by
  obtain ⟨y, h1, h2⟩ := slice_view ho he hs hm (Den.view (ps := [u]) (by simp [memN]) hx) hv hb
  exact Yields.prot h hd h1 h2
theorem yields_slice_nil (h : Inv X w0 Ω w a.tmps σ) (hd : ∀ d, o.dst = some d → d < a.tmps.size) {t e : TypeId} {x : Operand} {lo hi mx : Option Operand} (ho : o.op = .slice t x lo hi mx) (he : elemC P t = some e) {sz : Nat} (hs : sizeC P e = some sz) (hm : mx.isSome = true → hi.isSome = true)
    {vs : List V} (hx : Den Ω w .nil (a.eval x)) (hv : DenL Ω w vs ((lo.toList ++ hi.toList ++ mx.toList).map a.eval)) {b : Nat × Nat} (hb : bounds 0 0 lo.isSome hi.isSome mx.isSome vs = some b) :
    Yields P X w0 Ω w a o (apply σ o.dst (.val .nil)) mk := by
  obtain ⟨l, r⟩ := b
  simp only [Den] at hx
  obtain ⟨m, h1, h2, h3, h4, h5⟩ := run_bounds (P := P) (w := w) (cap := 0) (Nat.le_refl _) hm hv hb
  refine Yields.val h hd (run_sliceOp ho he hs hx h1) ?_
  have : l = 0 := by omega
  have : r = 0 := by omega
  have : m = 0 := by omega
  subst_vars
  simp [Den]

theorem yields_trunc (h : Inv X w0 Ω w a.tmps σ) (hd : ∀ d, o.dst = some d → d < a.tmps.size) {t e : TypeId} {x y : Operand} (ho : o.op = .slice t x none (some y) none) (he : elemC P t = some e) {sz : Nat} (hs : sizeC P e = some sz)
    {u : Nat} {es : List (List V)} {q : IntKind} {m : Int} (hx : Den Ω w (.sl (some u) sz es) (a.eval x)) (hy : Den Ω w (.int q m) (a.eval y)) (ht : get σ.tk u = some (es.length, true)) (h0 : 0 ≤ m) (h1 : m ≤ es.length) :
    Yields P X w0 Ω w a o (apply σ o.dst (.trunc (.sl (some u) sz (es.take m.toNat)) u m.toNat)) mk := by
  obtain ⟨c, k, T, xs, g1, ⟨p, g2⟩, g3, g4, g5, g6, g7, g8⟩ := h.tok u _ true ht
  simp only [Den] at hx hy
  obtain ⟨b, cap, p', hx1, hx2, hx3, hx4, hx5⟩ := hx
  obtain ⟨e1, e2⟩ := (hx4 c k _ g1).2 rfl
  subst e1
  rw [e2] at hx1
  have hb : (Instr.sliceBounds true es.length k none (some (a.eval y)) none).run P w = .ok (0, m.toNat, k) w := by
    have := run_sliceBound (P := P) w q m k .sliceAcap h0 (by omega)
    simp [Instr.sliceBounds, hy, this]
  have hr := run_sliceOp (P := P) (w := w) (a := a) ho he hs hx1 (by simpa using hb)
  have hv : (Value.slice (if k = 0 then (some ⟨b, 0, none⟩ : Option Addr) else (some ⟨b, 0, none⟩ : Option Addr).map (·.add (0 * sz))) (m.toNat - 0) (k - 0)) = .slice (some ⟨b, 0, none⟩) m.toNat k := by
    rw [Nat.zero_mul]
    simp [Addr.add]
  rw [hv] at hr
  refine ⟨_, w, Ω.trunc u b k m.toNat, .inl hr, ?_, fun d hf _ => ⟨fun b hb => hf.1 b hb, fun b t p e hb => hf.2 b t p e hb⟩⟩
  exact (h.trunc ht (by omega) g1).putO hd (Den.cut h ht (by omega) g1 hx3 rfl hx5) a rfl

/-! ### Lengths -/
theorem run_lenOp {c : Call} {x : Operand} {t e : TypeId} (ho : o.op = .call c) (hc : c.callee = .builtin .len) (hx : c.args.toList = [x]) (ht : c.argTypes.toList = [t]) (he : elemC P t = some e) {p : Option Addr} {n k : Nat} (hv : a.eval x = .slice p n k) :
    (execOp a.eval o).run P w = .ok (.value (.int .i64 n)) w := by
  have h1 : c.args = #[x] := Array.ext' (by simp [hx])
  have h2 : c.argTypes = #[t] := Array.ext' (by simp [ht])
  simp [execOp, ho, resolve, invoke, hc, builtin, h1, h2, Builtin.len_, run_underlying (elemC_spec he), hv, goInt]
theorem run_capOp {c : Call} {x : Operand} {t e : TypeId} (ho : o.op = .call c) (hc : c.callee = .builtin .cap) (hx : c.args.toList = [x]) (ht : c.argTypes.toList = [t]) (he : elemC P t = some e) {p : Option Addr} {n k : Nat} (hv : a.eval x = .slice p n k) :
    (execOp a.eval o).run P w = .ok (.value (.int .i64 k)) w := by
  have h1 : c.args = #[x] := Array.ext' (by simp [hx])
  have h2 : c.argTypes = #[t] := Array.ext' (by simp [ht])
  simp [execOp, ho, resolve, invoke, hc, builtin, h1, h2, Builtin.cap_, run_underlying (elemC_spec he), hv, goInt]
theorem sl_len {t : Option Nat} {sz : Nat} {es : List (List V)} {x : Value} (h : Den Ω w (.sl t sz es) x) : ∃ p k, x = .slice p es.length k := by
  cases t with
  | none =>
    simp only [Den] at h
    rcases h with ⟨rfl, q, rfl⟩ | ⟨b, off, cap, rfl, _⟩
    · exact ⟨q, 0, rfl⟩
    · exact ⟨_, _, rfl⟩
  | some t =>
    simp only [Den] at h
    obtain ⟨b, cap, p, rfl, _⟩ := h
    exact ⟨_, _, rfl⟩

/-! ### Least and greatest -/
theorem run_max2 (k k' : IntKind) (n m : Int) (w : World) : (Builtin.max2 (.int k n) (.int k' m)).run P w = .ok (.int k (if m > n then m else n)) w := by simp [Builtin.max2]
theorem run_min2 (k k' : IntKind) (n m : Int) (w : World) : (Builtin.min2 (.int k n) (.int k' m)).run P w = .ok (.int k (if m < n then m else n)) w := by simp [Builtin.min2]
theorem intsOf_den : ∀ {vs : List V} {k : IntKind} {ns : List Int} {xs : List Value}, intsOf vs = some (k, ns) → DenL Ω w vs xs → xs = ns.map (.int k)
  | [], k, ns, xs, h, _ => by simp [intsOf] at h
  | [v], k, ns, xs, h, hd => by
    cases v <;> simp [intsOf] at h
    obtain ⟨rfl, rfl⟩ := h
    simp only [DenL, Den] at hd
    obtain ⟨x, ys, rfl, rfl, rfl⟩ := hd
    rfl
  | v :: u :: vs, k, ns, xs, h, hd => by
    cases v <;> simp only [intsOf, reduceCtorEq] at h
    split at h
    · rename_i k' ns' h'
      split at h
      · rename_i hk
        subst hk
        simp only [Option.some.injEq, Prod.mk.injEq] at h
        obtain ⟨rfl, rfl⟩ := h
        rw [DenL] at hd
        obtain ⟨x, ys, rfl, h1, h2⟩ := hd
        simp only [Den] at h1
        rw [intsOf_den h' h2, h1]
        rfl
      · cases h
    · cases h
theorem run_maxL (k : IntKind) : ∀ (ns : List Int) (n : Int), ((ns.map (Value.int k)).foldlM Builtin.max2 (.int k n)).run P w = .ok (.int k (maxL n ns)) w
  | [], n => by simp [maxL]
  | m :: ns, n => by
    rw [List.map_cons, List.foldlM_cons, Sem.run_bind, run_max2]
    simp only [Result.andThen_ok]
    rw [run_maxL k ns]
    rfl
theorem run_minL (k : IntKind) : ∀ (ns : List Int) (n : Int), ((ns.map (Value.int k)).foldlM Builtin.min2 (.int k n)).run P w = .ok (.int k (minL n ns)) w
  | [], n => by simp [minL]
  | m :: ns, n => by
    rw [List.map_cons, List.foldlM_cons, Sem.run_bind, run_min2]
    simp only [Result.andThen_ok]
    rw [run_minL k ns]
    rfl
theorem run_maxOp {c : Call} (ho : o.op = .call c) (hc : c.callee = .builtin .max) {k : IntKind} {n : Int} {ns : List Int} (hx : c.args.toList.map a.eval = (n :: ns).map (.int k)) :
    (execOp a.eval o).run P w = .ok (.value (.int k (maxL n ns))) w := by
  have h1 : (c.args.map a.eval).toList = (n :: ns).map (.int k) := by rw [Array.toList_map, hx]
  simp only [execOp, ho, resolve, invoke, hc, builtin, Sem.run_bind, Sem.run_pure, Result.andThen_ok, Builtin.max_, h1, List.map_cons, run_maxL]
theorem run_minOp {c : Call} (ho : o.op = .call c) (hc : c.callee = .builtin .min) {k : IntKind} {n : Int} {ns : List Int} (hx : c.args.toList.map a.eval = (n :: ns).map (.int k)) :
    (execOp a.eval o).run P w = .ok (.value (.int k (minL n ns))) w := by
  have h1 : (c.args.map a.eval).toList = (n :: ns).map (.int k) := by rw [Array.toList_map, hx]
  simp only [execOp, ho, resolve, invoke, hc, builtin, Sem.run_bind, Sem.run_pure, Result.andThen_ok, Builtin.min_, h1, List.map_cons, run_minL]
end
end Go.Lo

/- Appends, and addresses of elements and fields. -/
namespace Go.Lo
section
variable {P : Program} {X : Sc} {w0 w : World} {Ω : Own} {a : Act} {σ : St} {o : Oper} {mk : Bool}

/-- The elements of a slice that has some. -/
theorem sl_cells {t : Option Nat} {sz : Nat} {es : List (List V)} {x : Value} (h : Den Ω w (.sl t sz es) x) (hne : es ≠ []) :
    ∃ b off cap xs, x = .slice (some ⟨b, off, none⟩) es.length cap ∧ DenL Ω w es.flatten xs ∧ xs.length = es.length * sz ∧ (∀ j v, xs[j]? = some v → w.cell? ((⟨b, off, none⟩ : Addr).add j) = some v) ∧ (∀ cs ∈ es, cs.length = sz ∧ cs.all V.pm = true) := by
  have key : ∀ {b off : Nat}, DenE Ω w es sz b off → ∃ xs, DenL Ω w es.flatten xs ∧ xs.length = es.length * sz ∧ (∀ j v, xs[j]? = some v → w.cell? ((⟨b, off, none⟩ : Addr).add j) = some v) ∧ (∀ cs ∈ es, cs.length = sz ∧ cs.all V.pm = true) := by
    intro b off hE
    obtain ⟨xs, h1, h2⟩ := hE.cells.vals
    refine ⟨xs, h1, by rw [h1.length, hE.length_flatten], fun j v hj => by rw [addr_add]; exact h2 j v hj, fun cs hcs => ?_⟩
    obtain ⟨i, hi⟩ := List.getElem?_of_mem hcs
    obtain ⟨g1, g2, _⟩ := hE.get hi
    exact ⟨g1, g2⟩
  cases t with
  | none =>
    simp only [Den] at h
    rcases h with ⟨rfl, _⟩ | ⟨b, off, cap, rfl, _, hE⟩
    · exact absurd rfl hne
    · obtain ⟨xs, g⟩ := key hE
      exact ⟨b, off, _, xs, rfl, g⟩
  | some t =>
    simp only [Den] at h
    obtain ⟨b, cap, p, rfl, _, _, _, hE⟩ := h
    obtain ⟨xs, g⟩ := key hE
    exact ⟨b, 0, _, xs, rfl, g⟩
theorem run_append_uu {t u e e' : TypeId} (ht : P.underlying t = some (.slice e)) (hu : P.underlying u = some (.slice e')) {n : Nat} (hs : sizeC P e = some n) (ty : TypeId) (args : Array Value) :
    (Builtin.append_ #[t, u] ty args).run P w = (Builtin.append_ #[t, t] ty args).run P w := by
  simp only [Builtin.append_, List.getElem?_toArray, List.getElem?_cons_zero, List.getElem?_cons_succ]
  cases args[0]? with
  | none => rfl
  | some v =>
    cases args[1]? with
    | none => rfl
    | some v' =>
      cases v <;> simp only [Sem.run_bind, run_underlying ht, run_underlying hu, Result.andThen_ok, run_sizeOf hs, Sem.run_pure]
theorem run_append_fit {t e : TypeId} {i : TypeInfo} (ht : P.underlying t = some (.slice e)) (hi : P.info? e = some i) (ty : TypeId)
    (g sLen sCap : Nat) (cur : Array Value) {T : TypeId} (hg : w.heap[g]? = some (.cells cur T (0, 0)))
    (ad : Addr) (m c : Nat) (news : List Value) (hl : news.length = m * i.size) (hnews : ∀ j u, news[j]? = some u → w.cell? (ad.add j) = some u) (h1 : ∀ u ∈ news, u.oneCell' = true)
    (hroom : sLen + m ≤ sCap) (hfit : sLen * i.size + news.length ≤ cur.size) :
    (Builtin.append_ #[t, t] ty #[.slice (some ⟨g, 0, none⟩) sLen sCap, .slice (some ad) m c]).run P w =
      .ok (.slice (some ⟨g, 0, none⟩) (sLen + m) sCap) (w.setRow g (cur.toList.take (sLen * i.size) ++ news ++ cur.toList.drop (sLen * i.size + news.length)).toArray) := by
  have hf := run_firstCells_some (P := P) w i.size m ad m c news hl hnews
  have hst := run_storeCells_at P g (sLen * i.size) T news 0 cur w hg (by simpa using hfit) h1
  simp only [Nat.add_zero] at hst
  simp [Builtin.append_, run_underlying ht, sizeOf, typeInfo, hi, Builtin.lenOf, hroom, hf, Addr.add_lit, hst]
theorem run_append_none {t e : TypeId} {i : TypeInfo} (ht : P.underlying t = some (.slice e)) (hi : P.info? e = some i) (ty : TypeId) {s : Value} {p q : Option Addr} {n k c : Nat} (hs : s = .slice p n k) (hk : n ≤ k) :
    (Builtin.append_ #[t, t] ty #[s, .slice q 0 c]).run P w = .ok s w := by
  subst hs
  have hf : (Builtin.firstCells i.size 0 (.slice q 0 c)).run P w = .ok #[] w := by
    cases q with
    | none => exact run_firstCells_none w i.size 0 0 c
    | some ad => exact run_firstCells_some (P := P) w i.size 0 ad 0 c [] (by simp) (fun j v h => by simp at h)
  cases p with
  | none => simp [Builtin.append_, run_underlying ht, sizeOf, typeInfo, hi, Builtin.lenOf, hf, hk]
  | some ad => simp [Builtin.append_, run_underlying ht, sizeOf, typeInfo, hi, Builtin.lenOf, hf, hk, storeCells]
/-- An append, as an operation. -/
structure AppOp (P : Program) (o : Oper) (x y : Operand) (t e : TypeId) (sz bytes : Nat) (z : V) : Prop where
  op : ∃ c u e', o.op = .call c ∧ c.callee = .builtin .append ∧ c.args.toList = [x, y] ∧ c.argTypes.toList = [t, u] ∧ elemC P u = some e'
  elem : elemC P t = some e
  size : sizeC P e = some sz
  byte : bytesC P e = some bytes
  zero : zeroC P e = some z
  pos : sz ≠ 0 ∧ bytes ≠ 0 ∧ bytes ≤ 1000000
theorem AppOp.run {x y : Operand} {t e : TypeId} {sz bytes : Nat} {z : V} (h : AppOp P o x y t e sz bytes z) : (execOp a.eval o).run P w = ((Builtin.append_ #[t, t] o.type #[a.eval x, a.eval y]).run P w).andThen fun v w => .ok (.value v) w := by
  obtain ⟨c, u, e', ho, hc, h1, h2, hu⟩ := h.op
  have h1 : c.args = #[x, y] := Array.ext' (by simp [h1])
  have h2 : c.argTypes = #[t, u] := Array.ext' (by simp [h2])
  rw [← run_append_uu (elemC_spec h.elem) (elemC_spec hu) h.size]
  simp only [execOp, ho, resolve, invoke, hc, builtin, h1, h2, Sem.run_bind, Sem.run_pure, Result.andThen_ok, List.map_toArray, List.map_cons, List.map_nil]
theorem zeroCells_size (z : Array Value) (n : Nat) : (Builtin.zeroCells z n).size = n * z.size := by simp [Builtin.zeroCells]
theorem yields_append_empty (h : Inv X w0 Ω w a.tmps σ) (hd : ∀ d, o.dst = some d → d < a.tmps.size) {x y : Operand} {t e : TypeId} {sz bytes : Nat} {z : V} (hop : AppOp P o x y t e sz bytes z) {v : V} (hx : Den Ω w v (a.eval x))
    (hxs : ∃ p n k, a.eval x = .slice p n k ∧ n ≤ k) (hy : ∃ q c, a.eval y = .slice q 0 c) : Yields P X w0 Ω w a o (apply σ o.dst (.val v)) mk := by
  obtain ⟨i, hi, _⟩ := info_size hop.size
  obtain ⟨p, n, k, h1, h2⟩ := hxs
  obtain ⟨q, c, h3⟩ := hy
  refine Yields.val h hd ?_ hx
  rw [hop.run, h3, run_append_none (elemC_spec hop.elem) hi o.type h1 h2]
  rfl
theorem yields_append_new (h : Inv X w0 Ω w a.tmps σ) {x y : Operand} {t e : TypeId} {sz bytes : Nat} {z : V} (hop : AppOp P o x y t e sz bytes z) {d : Nat} (hdst : o.dst = some d) (hd : d < a.tmps.size) (hf : Fresh Ω d)
    (hx : Den Ω w .nil (a.eval x)) {u : Option Nat} {ys : List (List V)} (hy : Den Ω w (.sl u sz ys) (a.eval y)) (hne : ys ≠ []) (hb : ys.length * bytes ≤ 140737488355328) :
    Yields P X w0 Ω w a o (apply σ o.dst (.mk (.sl (some (d * 100)) sz ys) (d * 100) ys.length [])) true := by
  obtain ⟨i, zv, hi, hzz, hval, hl, hc⟩ := zeroC_spec hop.zero
  have hsi := size_info hop.size hi
  have hbi := bytes_info hop.byte hi
  subst hsi; subst hbi
  have hzs : zv.cells.size = i.size := by rw [← Array.length_toList, (Den.cells (Ω := Ω) (w := w) hc (valV_den _ _ hval)).length, hl]
  obtain ⟨b, off, cap, xs, h1, h2, h3, h4, h5⟩ := sl_cells hy hne
  simp only [Den] at hx
  have hpos : 0 < ys.length := List.length_pos_iff.2 hne
  have hle : ys.length ≤ ys.length * i.bytes := Nat.le_mul_of_pos_right _ (Nat.pos_of_ne_zero hop.pos.2.1)
  have hr := run_append_nil (P := P) w t o.type e i zv (elemC_spec hop.elem) hi hzz ⟨b, off, none⟩ ys.length cap xs h3 h4 hpos (by omega) (by omega)
  have hge := grownCap_ge w ys.length 0 e
  refine Yields.arr (nd := 1) (ys := xs) (T := e) (c := xs.toArray ++ Builtin.zeroCells zv.cells (grownCap w ys.length 0 e - ys.length)) (k := grownCap w ys.length 0 e) h hdst hd hf ?_ ?_ hge (Nat.pos_of_ne_zero hop.pos.1) rfl (by rw [prot_nil]; exact h2) h5 (fun j y hj => ?_)
  · rw [hop.run, hx, h1, hr]; rfl
  · rw [Array.size_append, zeroCells_size, hzs, List.size_toArray, h3, ← Nat.add_mul]; congr 1; omega
  · rw [Array.getElem?_append_left (by simpa using (List.getElem?_eq_some_iff.1 hj).1)]; simpa using hj
theorem protT_nil : ∀ (l : List (Nat × Nat × Bool)), protT [] l = l
  | [] => rfl
  | (k, n, w) :: l => by simp [protT, memN, protT_nil l]
theorem yields_append_prep (h : Inv X w0 Ω w a.tmps σ) {x y : Operand} {t e : TypeId} {sz bytes : Nat} {z : V} (hop : AppOp P o x y t e sz bytes z) {d : Nat} (hdst : o.dst = some d) (hd : d < a.tmps.size)
    (hx : Den Ω w .nil (a.eval x)) {u : Option Nat} {ys : List (List V)} (hy : Den Ω w (.sl u sz ys) (a.eval y)) (hne : ys ≠ []) (hb : ys.length * bytes ≤ 140737488355328) :
    Yields P X w0 Ω w a o (apply σ o.dst (.mkp (.sl (some (d * 100)) sz ys) d ys.length)) true := by
  have hy' := Den.prepD (ds := [d]) _ _ hy
  have hyy : ∃ u', Den (Ω.prep [d]) w (.sl u' sz ys) (a.eval y) := by
    cases u with
    | none => exact ⟨none, hy'⟩
    | some u =>
      simp only [V.prep] at hy'
      split at hy'
      · exact ⟨none, hy'⟩
      · exact ⟨some u, hy'⟩
  obtain ⟨u', hyy⟩ := hyy
  have hx' : Den (Ω.prep [d]) w .nil (a.eval x) := by simpa [Den] using hx
  obtain ⟨x1, w1, Ω1, k1, k2, k3⟩ := yields_append_new (h.prep [d]) hop hdst hd (fresh_prep (by simp [memN])) hx' hyy hne hb
  refine ⟨x1, w1, Ω1, k1, ?_, fun d' hf hne' => k3 d' ⟨fun b hb => hf.1 b (prep_box hb).1, fun b t p e hb => hf.2 b t p e (prep_arr hb).1⟩ hne'⟩
  have e : protT [] (prepT [d] σ.tk) = prepT [d] σ.tk := protT_nil _
  simp only [apply] at k2
  rw [e] at k2
  simpa only [apply, Lo.prep] using k2
theorem run_append_zeros {t u e : TypeId} {i : TypeInfo} {zv : Value} {q : IntKind} (ht : P.underlying t = some (.slice e)) (hu : P.underlying u = some (.int q)) (hi : P.info? e = some i) (hz : i.zero = some zv) (hs : i.size ≠ 0) (ty : TypeId) {k : IntKind} {n : Nat}
    (h0 : 0 < n) (h63 : (n : Int) ≤ 9223372036854775807) (h48 : n * i.bytes ≤ 281474976710656) :
    (Builtin.append_ #[t, u] ty #[.slice none 0 0, .int k (n : Int)]).run P w =
      .ok (.slice (some ⟨w.heap.size, 0, none⟩) n (grownCap w n 0 e)) (w.drew.alloc (.cells (Builtin.zeroCells zv.cells n ++ Builtin.zeroCells zv.cells (grownCap w n 0 e - n)) e)) := by
  have hn : n ≠ 0 := by omega
  have hw : IntKind.i64.wrap (n : Int) = (n : Int) := by
    rw [IntKind.wrap_i64]; omega
  have h1 : ¬ ((n : Int) < 0) := by omega
  have h2 : ¬ (281474976710656 < (n : Int) * (i.bytes : Int)) := by
    have : ((n * i.bytes : Nat) : Int) ≤ ((281474976710656 : Nat) : Int) := Int.ofNat_le.2 h48
    rw [Int.natCast_mul] at this; omega
  have h63' : ¬ (9223372036854775807 < (n : Int)) := by omega
  have h48' : ¬ (281474976710656 < Builtin.nextslicecap n 0 * i.bytes) := by rw [nextslicecap_zero h0]; omega
  have hm : n * i.size ≠ 0 := Nat.mul_ne_zero hn hs
  simp [Builtin.append_, run_underlying ht, run_underlying hu, sizeOf, typeInfo, zeroValue, hi, hz, asInt, asIntOf, hw, h1, h2, hn, h63', h48', Question.forced, run_firstCells_none, newRow, grownCap]
  intro hx
  exact absurd hx hm
theorem fresh_tok (h : Inv X w0 Ω w a.tmps σ) {t n d : Nat} {wr : Bool} (ht : get σ.tk t = some (n, wr)) (hf : Fresh Ω d) : t / 100 ≠ d := by
  intro e
  obtain ⟨c, k, T, xs, _, ⟨p, g2⟩, _⟩ := h.tok t n wr ht
  exact hf.2 c t p e g2
theorem yields_append_more (h : Inv X w0 Ω w a.tmps σ) (hd : ∀ d, o.dst = some d → d < a.tmps.size) {x y : Operand} {t e : TypeId} {sz bytes : Nat} {z : V} (hop : AppOp P o x y t e sz bytes z)
    {u n : Nat} {wr : Bool} {xs : List (List V)} (hx : Den Ω w (.sl (some u) sz xs) (a.eval x)) (ht : get σ.tk u = some (n, wr)) (hn : n = xs.length)
    {q : Option Nat} {ys : List (List V)} (hy : Den Ω w (.sl q sz ys) (a.eval y)) (hne : ys ≠ []) (hb : (xs.length + ys.length) * bytes ≤ 140737488355328) :
    Yields P X w0 Ω w a o (apply σ o.dst (.app (.sl (some u) sz (xs ++ ys)) u (xs.length + ys.length))) mk := by
  obtain ⟨i, zv, hi, hzz, hval, hl, hc⟩ := zeroC_spec hop.zero
  have hsi := size_info hop.size hi
  have hbi := bytes_info hop.byte hi
  subst hsi; subst hbi
  have hzs : zv.cells.size = i.size := by rw [← Array.length_toList, (Den.cells (Ω := Ω) (w := w) hc (valV_den _ _ hval)).length, hl]
  obtain ⟨b, off, cap, vs, h1, h2, h3, h4, h5⟩ := sl_cells hy hne
  obtain ⟨c, k, T, old, g1, ⟨p, g2⟩, g3, g4, g5, g6, g7, g8⟩ := h.tok u n wr ht
  have hfu : ∀ d, Fresh Ω d → u / 100 ≠ d := fun d hf => fresh_tok h ht hf
  simp only [Den] at hx
  obtain ⟨b', cap', p', hx1, hx2, hx3, hx4, hx5⟩ := hx
  obtain ⟨e1, e2⟩ := (hx4 c k n g1).2 hn.symm
  subst e1
  rw [e2] at hx1
  have hpos : 0 < ys.length := List.length_pos_iff.2 hne
  have hcell : vs.all Value.oneCell' = true := List.all_eq_true.2 fun v hv => DenL.one (List.all_eq_true.2 fun c hc => by
    obtain ⟨cs, hcs, hcc⟩ := List.mem_flatten.1 hc
    exact (V.pm_pure (List.all_eq_true.1 (h5 cs hcs).2 c hcc)).2) h2 v hv
  by_cases hroom : xs.length + ys.length ≤ k
  · have hfit : xs.length * i.size + vs.length ≤ old.size := by rw [g4, h3, ← Nat.add_mul, ← hx3]; exact Nat.mul_le_mul_right _ hroom
    have hr := run_append_fit (P := P) (w := w) (elemC_spec hop.elem) hi o.type b' xs.length k old g3 ⟨b, off, none⟩ ys.length cap vs h3 h4 (List.all_eq_true.1 hcell) hroom hfit
    subst hn
    obtain ⟨k1, k2⟩ := h.app (m := ys.length) ht g1 g2 g3 hx3 (by rw [g4, ← hx3]) hroom rfl rfl hx5 h2 h5
    refine ⟨_, _, _, .inl ?_, k1.putO hd k2 a rfl, fun d hf _ => ⟨fun b hb => hf.1 b hb, fun b t p e hb => hf.2 b t p e hb⟩⟩
    rw [hop.run, hx1, h1, hr]; rfl
  · have hle : xs.length + ys.length ≤ (xs.length + ys.length) * i.bytes := Nat.le_mul_of_pos_right _ (Nat.pos_of_ne_zero hop.pos.2.1)
    obtain ⟨us, q1, q2⟩ := hx5.cells.vals
    have hul : us.length = xs.length * i.size := by rw [q1.length, hx5.length_flatten]
    have hr := run_append_grow (P := P) w t o.type e i zv (elemC_spec hop.elem) hi hzz ⟨b', 0, none⟩ xs.length k us hul (fun j v hj => by rw [addr_add]; exact q2 j v hj) ⟨b, off, none⟩ ys.length cap vs h3 h4 (by omega) (by omega)
      (growslice_fits (by omega) hb)
    have hge := grownCap_ge w (xs.length + ys.length) k e
    have hpx : ∀ cs ∈ xs, cs.length = i.size ∧ cs.all V.pm = true := fun cs hcs => by
      obtain ⟨j, hj⟩ := List.getElem?_of_mem hcs
      obtain ⟨r1, r2, _⟩ := hx5.get hj
      exact ⟨r1, r2⟩
    have hall : DenL Ω w (xs ++ ys).flatten (us ++ vs) := by rw [List.flatten_append]; exact q1.append h2
    have hd' := h.drew 1
    subst hn
    obtain ⟨k1, k2⟩ := hd'.grow (m := ys.length) ht hx3 hpos (us.toArray ++ vs.toArray ++ Builtin.zeroCells zv.cells (grownCap w (xs.length + ys.length) k e - (xs.length + ys.length))) e (k := grownCap w (xs.length + ys.length) k e)
      (by simp only [Array.size_append, zeroCells_size, hzs, List.size_toArray, hul, h3, ← Nat.add_mul]; congr 1; omega) hge rfl rfl (DenL.ext (goes_drew h 1).ext _ _ hall)
      (fun cs hcs => by
        rcases List.mem_append.1 hcs with h | h
        · exact hpx cs h
        · exact h5 cs h)
      (fun j y hj => by
        rw [Array.getElem?_append_left (by simpa using (List.getElem?_eq_some_iff.1 hj).1), List.append_toArray]
        simpa using hj)
    refine ⟨_, _, _, .inl ?_, k1.putO hd k2 a rfl, fun d hf _ => ⟨fun b hb => ?_, fun b t p e hb => ?_⟩⟩
    · rw [hop.run, hx1, h1, hr]; rfl
    · simp only [Own.grow] at hb
      split at hb
      · cases hb
      · exact hf.1 b hb
    · simp only [Own.grow] at hb
      split at hb
      · injection hb with hb _
        subst hb
        exact hfu d hf e
      · exact hf.2 b t p e hb
/-- Zeros into a slice that is nil. -/
structure AppZ (P : Program) (o : Oper) (x y : Operand) (t e : TypeId) (sz bytes : Nat) (z : V) : Prop where
  op : ∃ c u q, o.op = .call c ∧ c.callee = .builtin .append ∧ c.args.toList = [x, y] ∧ c.argTypes.toList = [t, u] ∧ P.underlying u = some (.int q)
  elem : elemC P t = some e
  size : sizeC P e = some sz
  byte : bytesC P e = some bytes
  zero : zeroE P e = some z
  pos : sz ≠ 0 ∧ bytes ≠ 0
theorem yields_appz (h : Inv X w0 Ω w a.tmps σ) {x y : Operand} {t e : TypeId} {sz bytes : Nat} {z : V} (hop : AppZ P o x y t e sz bytes z) {d : Nat} (hdst : o.dst = some d) (hd : d < a.tmps.size)
    (hx : Den Ω w .nil (a.eval x)) {k : IntKind} {n : Int} (hy : Den Ω w (.int k n) (a.eval y)) (h0 : 0 < n) (hb : n * bytes ≤ 140737488355328) :
    Yields P X w0 Ω w a o (apply σ o.dst (.mkp (.sl (some (d * 100)) sz (List.replicate n.toNat z.cells)) d n.toNat)) true := by
  obtain ⟨hz, hzp⟩ := zeroE_spec hop.zero
  obtain ⟨i, zv, hi, hzz, hval, hl, hcc⟩ := zeroC_spec hz
  have hsi := size_info hop.size hi
  have hbi := bytes_info hop.byte hi
  subst hsi; subst hbi
  obtain ⟨c, u, q, ho, hc, h1, h2, hu⟩ := hop.op
  have h1 : c.args = #[x, y] := Array.ext' (by simp [h1])
  have h2 : c.argTypes = #[t, u] := Array.ext' (by simp [h2])
  simp only [Den] at hx hy
  have hzs : zv.cells.size = i.size := by rw [← Array.length_toList, (Den.cells (Ω := Ω) (w := w) hcc (valV_den _ _ hval)).length, hl]
  have hnn : ((n.toNat : Nat) : Int) = n := Int.toNat_of_nonneg (by omega)
  have hpos : 0 < n.toNat := by omega
  have hbn : n.toNat * i.bytes ≤ 140737488355328 := by
    have : ((n.toNat * i.bytes : Nat) : Int) ≤ ((140737488355328 : Nat) : Int) := by rw [Int.natCast_mul, hnn]; exact hb
    exact Int.ofNat_le.1 this
  have hle : n.toNat ≤ n.toNat * i.bytes := Nat.le_mul_of_pos_right _ (Nat.pos_of_ne_zero hop.pos.2)
  have hr := run_append_zeros (w := w) (elemC_spec hop.elem) hu hi hzz hop.pos.1 o.type (k := k) hpos (by omega) (by omega)
  rw [hnn] at hr
  have hge := grownCap_ge w n.toNat 0 e
  have hz0 : ∀ m : Nat, (Builtin.zeroCells zv.cells m).toList = (List.replicate m zv.cells.toList).flatten := by
    intro m
    rw [← replicate_made, Array.length_toList]
    simp [Builtin.zeroCells]
  have hrow : DenL ((Ω.prep [d]).prot []) w (List.replicate n.toNat z.cells).flatten (Builtin.zeroCells zv.cells n.toNat).toList := by
    rw [hz0]
    exact (Den.cells hcc (valV_den _ _ hval)).replicate _
  obtain ⟨x1, w1, Ω1, k1, k2, k3⟩ := Yields.arr (P := P) (nd := 1) (ys := (Builtin.zeroCells zv.cells n.toNat).toList) (T := e) (k := grownCap w n.toNat 0 e) (n := n.toNat) (sz := i.size)
    (c := Builtin.zeroCells zv.cells n.toNat ++ Builtin.zeroCells zv.cells (grownCap w n.toNat 0 e - n.toNat)) (h.prep [d]) hdst hd (fresh_prep (by simp [memN]))
    (by simp only [execOp, ho, resolve, invoke, hc, builtin, h1, h2, Sem.run_bind, Sem.run_pure, Result.andThen_ok, List.map_toArray, List.map_cons, List.map_nil, hx, hy, hr]; rfl)
    (by rw [Array.size_append, zeroCells_size, zeroCells_size, hzs, ← Nat.add_mul]; congr 1; omega) hge (Nat.pos_of_ne_zero hop.pos.1) (by simp) hrow
    (fun cs hcs => by rw [List.mem_replicate] at hcs; rw [hcs.2]; exact ⟨hl, hzp⟩)
    (fun j y hj => by rw [Array.getElem?_append_left (by simpa using (List.getElem?_eq_some_iff.1 hj).1)]; simpa using hj)
  refine ⟨x1, w1, Ω1, k1, ?_, fun d' hf hne' => k3 d' ⟨fun b hb => hf.1 b (prep_box hb).1, fun b t p e hb => hf.2 b t p e (prep_arr hb).1⟩ hne'⟩
  have e : protT [] (prepT [d] σ.tk) = prepT [d] σ.tk := protT_nil _
  simp only [apply] at k2
  rw [e] at k2
  simpa only [apply, Lo.prep] using k2
end
end Go.Lo

/- Addresses and calls. -/
namespace Go.Lo
open Go.RowKit (Below)
section
variable {P : Program} {X : Sc} {w0 w : World} {Ω : Own} {a : Act} {σ : St} {o : Oper} {mk : Bool}

theorem run_faOp {t : TypeId} {x : Operand} {i : Nat} (ho : o.op = .fieldAddr t x i) {off n : Nat} {u : TypeId} (hf : fieldC P t i = some (off, u)) (hs : sizeC P u = some n) (hn : n ≠ 0) {b q : Nat} (hx : a.eval x = .pointer (some ⟨b, q, none⟩)) :
    (execOp a.eval o).run P w = .ok (.value (.pointer (some ⟨b, q + off, none⟩))) w := by
  simp only [execOp, ho, Sem.run_bind, hx, run_fieldAt hf hs hn, Result.andThen_ok, Sem.run_pure]
/-- A pointer moves on. -/
theorem den_move_ref {s q off : Nat} {x : Value} (h : Den Ω w (.ref s q) x) : ∃ b, x = .pointer (some ⟨b, q, none⟩) ∧ Den Ω w (.ref s (q + off)) (.pointer (some ⟨b, q + off, none⟩)) := by
  simp only [Den] at h ⊢
  obtain ⟨b, h1, h2⟩ := h
  exact ⟨b, h1, b, rfl, h2⟩
theorem den_move_cref {off : Nat} {cs : List V} {x : Value} (h : Den Ω w (.cref cs) x) : ∃ b q, x = .pointer (some ⟨b, q, none⟩) ∧ Den Ω w (.cref (cs.drop off)) (.pointer (some ⟨b, q + off, none⟩)) := by
  simp only [Den] at h ⊢
  obtain ⟨b, q, h1, h2, h3⟩ := h
  exact ⟨b, q, h1, b, q + off, rfl, h2, h3.drop off⟩
theorem den_move_gref {off : Nat} {cs : List V} {x : Value} (h : Den Ω w (.gref cs) x) : ∃ b q, x = .pointer (some ⟨b, q, none⟩) ∧ Den Ω w (.gref (cs.drop off)) (.pointer (some ⟨b, q + off, none⟩)) := by
  simp only [Den] at h ⊢
  obtain ⟨b, q, h1, h2, h4, h3⟩ := h
  exact ⟨b, q, h1, b, q + off, rfl, h2, by rw [List.all_eq_true] at h4 ⊢; exact fun x hx => h4 x (List.mem_of_mem_drop hx), h3.drop off⟩
theorem den_move_eref {t n i q off : Nat} {cs : List V} {x : Value} (h : Den Ω w (.eref t n i q cs) x) : ∃ b r, x = .pointer (some ⟨b, r, none⟩) ∧ Den Ω w (.eref t n i (q + off) cs) (.pointer (some ⟨b, r + off, none⟩)) := by
  simp only [Den] at h ⊢
  obtain ⟨b, p, h1, h2⟩ := h
  exact ⟨b, _, h1, b, p, by rw [Nat.add_assoc], h2⟩
theorem run_ixaOp {t e : TypeId} {x y : Operand} (ho : o.op = .indexAddr t x y) {len n : Nat} (ht : P.underlying t = some (.array len e)) (hs : sizeC P e = some n) {k : IntKind} {i : Int} (hy : Den Ω w (.int k i) (a.eval y)) (h0 : 0 ≤ i ∧ i < len) {b q : Nat} (hx : a.eval x = .pointer (some ⟨b, q, none⟩)) :
    (execOp a.eval o).run P w = .ok (.value (.pointer (some ⟨b, q + i.toNat * n, none⟩))) w := by
  simp only [Den] at hy
  simp only [execOp, ho, Sem.run_bind, hx, hy, run_indexArr ht hs h0.1 h0.2, Result.andThen_ok, Sem.run_pure]
theorem run_ixsOp {t e : TypeId} {x y : Operand} (ho : o.op = .indexAddr t x y) {n : Nat} (ht : P.underlying t = some (.slice e)) (hs : sizeC P e = some n) {k : IntKind} {i : Int} (hy : Den Ω w (.int k i) (a.eval y)) {len c : Nat} (h0 : 0 ≤ i ∧ i < len) {b q : Nat} (hx : a.eval x = .slice (some ⟨b, q, none⟩) len c) :
    (execOp a.eval o).run P w = .ok (.value (.pointer (some ⟨b, q + i.toNat * n, none⟩))) w := by
  simp only [Den] at hy
  simp only [execOp, ho, Sem.run_bind, hx, hy, run_indexSl ht hs h0.1 h0.2, Result.andThen_ok, Sem.run_pure]
theorem ixs_none {t e : TypeId} {x y : Operand} (ho : o.op = .indexAddr t x y) {n : Nat} (ht : P.underlying t = some (.slice e)) (hs : sizeC P e = some n) {k : IntKind} {i : Int} (hy : Den Ω w (.int k i) (a.eval y)) {es : List (List V)} {cs : List V} (hx : Den Ω w (.sl none n es) (a.eval x))
    (h0 : 0 ≤ i) (hc : es[i.toNat]? = some cs) : ∃ z, (execOp a.eval o).run P w = .ok (.value z) w ∧ Den Ω w (.cref cs) z := by
  have hlt := (List.getElem?_eq_some_iff.1 hc).1
  simp only [Den] at hx
  rcases hx with ⟨rfl, _⟩ | ⟨b, off, cap, hx, hf, hE⟩
  · simp at hlt
  · refine ⟨_, run_ixsOp ho ht hs hy ⟨h0, by omega⟩ hx, ?_⟩
    simp only [Den]
    exact ⟨b, _, rfl, .inl hf, (hE.get hc).2.2⟩
theorem ixs_some {t e : TypeId} {x y : Operand} (ho : o.op = .indexAddr t x y) {n : Nat} (ht : P.underlying t = some (.slice e)) (hs : sizeC P e = some n) {k : IntKind} {i : Int} (hy : Den Ω w (.int k i) (a.eval y)) {u : Nat} {es : List (List V)} {cs : List V} (hx : Den Ω w (.sl (some u) n es) (a.eval x))
    (h0 : 0 ≤ i) (hc : es[i.toNat]? = some cs) : ∃ z, (execOp a.eval o).run P w = .ok (.value z) w ∧ Den Ω w (.eref u es.length i.toNat 0 cs) z := by
  have hlt := (List.getElem?_eq_some_iff.1 hc).1
  simp only [Den] at hx
  obtain ⟨b, cap, p, hx, h2, h3, h4, hE⟩ := hx
  refine ⟨_, run_ixsOp ho ht hs hy ⟨h0, by omega⟩ hx, ?_⟩
  obtain ⟨g1, g2, g3⟩ := hE.get hc
  simp only [Den]
  subst h3
  refine ⟨b, p, by rw [Nat.zero_add, Nat.add_zero], h2, hlt, fun c k m hc => ⟨(h4 c k m hc).1, fun e => ((h4 c k m hc).2 e).1⟩, g1, g2, by simpa using g3⟩
def V.isPtr : V → Bool
  | .ref _ _ => true
  | .cref _ => true
  | .gref _ => true
  | .eref _ _ _ _ _ => true
  | .fn _ _ => true
  | _ => false
theorem run_nilcOp {x : Operand} (ho : o.op = .nilCheck x) {v : V} (hv : v.isPtr = true) (hx : Den Ω w v (a.eval x)) :
    (execOp a.eval o).run P w = .ok (.value (a.eval x)) w := by
  cases v <;> simp only [V.isPtr, Bool.false_eq_true] at hv
  · rename_i f caps
    simp only [Den] at hx
    obtain ⟨xs, hg, _⟩ := hx
    cases f with
    | f n => simp only [Fk.Is] at hg; simp [execOp, ho, hg]
    | m n => simp only [Fk.Is] at hg; simp [execOp, ho, hg]
    | y b => simp only [Fk.Is] at hg; obtain ⟨l, _, hg⟩ := hg; simp [execOp, ho, hg]
  · simp only [Den] at hx; obtain ⟨b, h1, _⟩ := hx; simp [execOp, ho, h1]
  · simp only [Den] at hx; obtain ⟨b, q, h1, _⟩ := hx; simp [execOp, ho, h1]
  · simp only [Den] at hx; obtain ⟨b, q, h1, _⟩ := hx; simp [execOp, ho, h1]
  · simp only [Den] at hx; obtain ⟨b, p, h1, _⟩ := hx; simp [execOp, ho, h1]

/-! ### Calls -/
/-- Everything is allowed; 'ro': inside the body of a range over a function. -/
def wideR (ro : Option Nat) : Fence := { Fence.wide with round := ro }
theorem wideR_fn (ro : Option Nat) (f : FuncId) : (wideR ro).fn f := trivial
theorem wideR_depth (ro : Option Nat) : ((wideR ro).depth.isSome = true → 1 ≤ 0) := by intro h; simp [wideR, Fence.wide] at h
theorem callsIn_wideR {ro : Option Nat} {n : Nat} {f : FuncId} {args : Array Value} {R : Ending → World → Prop} (h : Calls P f args w R) : CallsIn (wideR ro) n P f args w R :=
  ⟨trivial, (callsIn_wide (n := n).2 h).2⟩
/-- A function that can be entered. -/
def Enters (P : Program) (f : Nat) : Prop := ∃ fn c, P.funcs[f]? = some fn ∧ fn.name ≠ "runtime.NumGoroutine" ∧ fn.body = some c
theorem run_callFunc {f : Nat} (h : Enters P f) (args : Array Value) (w : World) : (callFunc f args).run P w = .ok (.enter f args) w := by
  obtain ⟨fn, c, h1, h2, h3⟩ := h
  simp [callFunc, run_program, h1, h2, h3]
theorem frz_cellOk {rd : Nat → Option (List V)} : ∀ {v v' : V}, v.frz rd = some v' → v.cellOk = true ∨ v = .dead → v'.cellOk = true := by
  intro v v' h hc
  rcases hc with hc | rfl
  · cases v <;> simp only [V.cellOk, Bool.false_eq_true] at hc
    case bool => simp only [V.frz, Option.some.injEq] at h; subst h; rfl
    case int => simp only [V.frz, Option.some.injEq] at h; subst h; rfl
    case nil => simp only [V.frz, Option.some.injEq] at h; subst h; rfl
    case sl => simp only [V.frz, Option.some.injEq] at h; subst h; rfl
    case fn f cs =>
      cases f with
      | y b => simp [V.frz] at h
      | f n =>
        simp only [V.frz] at h
        split at h
        · simp only [Option.some.injEq] at h; subst h; rfl
        · cases h
      | m n =>
        simp only [V.frz] at h
        split at h
        · simp only [Option.some.injEq] at h; subst h; rfl
        · cases h
    case ref =>
      simp only [V.frz] at h
      split at h
      · simp only [Option.some.injEq] at h; subst h; rfl
      · cases h
    case cref => simp only [V.frz, Option.some.injEq] at h; subst h; rfl
    case gref => simp only [V.frz, Option.some.injEq] at h; subst h; rfl
    case np => simp only [V.frz, Option.some.injEq] at h; subst h; rfl
    case eref => simp [V.frz] at h
  · simp [V.frz] at h
theorem frzL_cellOk {rd : Nat → Option (List V)} : ∀ {vs vs' : List V}, frzL rd vs = some vs' → (∀ v ∈ vs, v.cellOk = true ∨ v = .dead) → ∀ v ∈ vs', v.cellOk = true
  | [], vs', h, _, v, hv => by simp only [frzL, Option.some.injEq] at h; subst h; simp at hv
  | u :: us, vs', h, hc, v, hv => by
    simp only [frzL] at h
    split at h
    · rename_i u' us' h1 h2
      simp only [Option.some.injEq] at h; subst h
      rcases List.mem_cons.1 hv with rfl | hv
      · exact frz_cellOk h1 (hc u (by simp))
      · exact frzL_cellOk h2 (fun v hv => hc v (by simp [hv])) v hv
    · cases h
theorem pureL_mem : ∀ {vs : List V}, pureL vs = true → ∀ v ∈ vs, v.pure = true
  | u :: us, h, v, hv => by
    simp only [pureL] at h
    split at h
    · rename_i hu
      rcases List.mem_cons.1 hv with rfl | hv
      · exact hu
      · exact pureL_mem h v hv
    · cases h
theorem rdOk (h : Inv X w0 Ω w a.tmps σ) (ex : List Nat) : ∀ n, RdOk Ω w (bxF (bxOf σ.fr ex) n)
  | 0 => fun s cs b hs _ => by simp [bxF] at hs
  | n + 1 => fun s cs b hs hb => by
    simp only [bxF] at hs
    split at hs
    case isFalse => cases hs
    rename_i hlt
    split at hs
    · rename_i cs0 h0
      obtain ⟨hg, _⟩ := bxOf_get hlt h0
      obtain ⟨_, h2⟩ := h.slot s _ hg
      simp only [DenS] at h2
      obtain ⟨b', xs, T, e1, e2, e3, e4, e5⟩ := h2
      have := h.uniq b b' s hb e2
      subst this
      obtain ⟨k1, k2⟩ := DenL.frz (rdOk h ex n) cs0 cs xs hs e4
      have hlim : (cOwn Ω w).lim b = xs.length := by simp [cOwn, hb, blkSize, e3]
      refine rowC k1 (fun v hv => ⟨pureL_mem k2 v hv, frzL_cellOk hs e5 v hv⟩) (fun j y hj => ⟨?_, ?_⟩)
      · rw [hlim, Nat.zero_add]; exact (List.getElem?_eq_some_iff.1 hj).1
      · rw [Nat.zero_add, cell_of_row w b j _ T (0, 0) e3]; simpa using hj
    · cases hs
/-- What an operation that calls comes to. -/
theorem wp_value {ro : Option Nat} {n : Nat} {K : Act → World → Prop} {Q : Exit → Act → World → Prop} (hd : ∀ c, o.op ≠ .defer c) {x : Value} {w' : World} (hr : (execOp a.eval o).run P w = .ok (.value x) w' ∨ ((execOp a.eval o).run P w = .ok .skip w' ∧ x = undef))
    (hK : K (a.put o.dst x) w') : o.wpIn (wideR ro) n P a w K Q := by
  refine ⟨fun f _ => trivial, ?_⟩
  have hs : o.semAt (wideR ro).round a.eval = execOp a.eval o := by
    cases ro with
    | none => rfl
    | some l => exact Oper.semAt_some l _ o hd
  rw [hs]
  rcases hr with hr | ⟨hr, rfl⟩ <;> rw [hr] <;> exact hK
theorem Yields.wp {ro : Option Nat} {n : Nat} {K : Act → World → Prop} {Q : Exit → Act → World → Prop} {σ' : St} (hy : Yields P X w0 Ω w a o σ' mk) (hd : ∀ c, o.op ≠ .defer c)
    (hK : ∀ x w' Ω', Inv X w0 Ω' w' (a.put o.dst x).tmps σ' → (∀ d, Fresh Ω d → (mk = true → o.dst ≠ some d) → Fresh Ω' d) → K (a.put o.dst x) w') : o.wpIn (wideR ro) n P a w K Q := by
  obtain ⟨x, w', Ω', h1, h2, h3⟩ := hy
  exact wp_value hd h1 (hK x w' Ω' h2 h3)
theorem wp_enter {ro : Option Nat} {n : Nat} {K : Act → World → Prop} {Q : Exit → Act → World → Prop} (hd : ∀ c, o.op ≠ .defer c) {f : Nat} {args : Array Value} (hr : (execOp a.eval o).run P w = .ok (.enter f args) w) {R : Value → World → Prop}
    (hc : Calls P f args w fun e w1 => ∃ x, e = .returned x ∧ R x w1) (hK : ∀ x w1, R x w1 → K (a.put o.dst x) w1) : o.wpIn (wideR ro) n P a w K Q := by
  refine ⟨fun f _ => trivial, ?_⟩
  have hs : o.semAt (wideR ro).round a.eval = execOp a.eval o := by
    cases ro with
    | none => rfl
    | some l => exact Oper.semAt_some l _ o hd
  rw [hs, hr]
  refine ⟨fun h => by simp [wideR, Fence.wide] at h, CallsIn.mono (callsIn_wideR hc) fun e w1 he => ?_⟩
  obtain ⟨x, rfl, hx⟩ := he
  exact hK x w1 hx
theorem fresh_res {Ω1 : Own} {d : Nat} {al : Bool} {d' : Nat} (hf : Fresh Ω d') (hne : d' ≠ d) : Fresh (Ω.res Ω1 w.heap.size d al) d' := by
  refine ⟨fun b hb => hf.1 b (res_box hb).2, fun b t p e hb => ?_⟩
  rcases res_arr hb with ⟨_, q, hq, _⟩ | ⟨_, k, hk, rfl, _⟩
  · exact hf.2 b t q e hq
  · exact hne (by omega)
/-! ### The body of a range is called -/
theorem Inv.other {tm : Array Value} {w' : World} (h : Inv X w0 Ω w tm σ) {tr' : Option (List (List V))} (hk : Kept X.x w0 w') (hs : w.heap.size ≤ w'.heap.size) (hm : ∀ b, Ω.mine b → w'.heap[b]? = w.heap[b]?)
    (hc : ∀ b off, Ω.frozp b → off < Ω.lim b → w'.cell? ⟨b, off, none⟩ = w.cell? ⟨b, off, none⟩) (hj : X.j tr' Ω w') : Inv X w0 Ω w' tm { σ with tr := tr' } where
  kept := hk
  ownB := h.ownB
  ownA := h.ownA
  bnd b hb := Nat.lt_of_lt_of_le (h.bnd b hb) hs
  uniq := h.uniq
  limB := h.limB
  old := h.old
  out := hj
  slot s v hv := by
    obtain ⟨h1, h2⟩ := h.slot s v hv
    refine ⟨h1, h2.ext ⟨fun _ h => h, fun _ h => .inr h, fun _ _ p h => ⟨p, h⟩, fun _ _ h => h, fun _ _ => Nat.le_refl _, fun b off hne hl => ?_, fun _ _ _ _ => rfl, fun _ _ _ c k n _ h => ⟨c, k, n, h, .inl ⟨rfl, rfl, rfl⟩⟩, rfl⟩ (fun b s O hb hh => by rw [hm b (.inl ⟨s, hb⟩)]; exact hh)⟩
    cases hb : Ω.o b with
    | out => exact (hne hb).elim
    | frz => exact hc b off (.inl (.inl hb)) hl
    | frzb => exact hc b off (.inr hb) hl
    | box s => exact World.cell?_of_block (hm b (.inl ⟨s, hb⟩))
    | arr t p => exact World.cell?_of_block (hm b (.inr ⟨t, p, hb⟩))
  tok t n wr ht := by
    obtain ⟨c, k, T, xs, g1, ⟨p, g2⟩, g3, g⟩ := h.tok t n wr ht
    exact ⟨c, k, T, xs, g1, ⟨p, g2⟩, by rw [hm c (.inr ⟨t, p, g2⟩)]; exact g3, g⟩
/-- What was yielded is the beginning of T. -/
def UpTo (T : List (List V)) (σ : St) : Prop := ∀ l, σ.tr = some l → l <+: T
/-- What a call of the body of a range comes to. -/
structure YieldOk (P : Program) (X : Sc) (w0 : World) (T : List (List V)) : Prop where
  none : ∀ Ω w, X.j none Ω w → Ω.yl = none
  some : ∀ (ro : Option Nat) (n b l : Nat) (tr : List (List V)) (as : List V) (xs : List Value) (Ω : Own) (w : World), X.j (some tr) Ω w → Ω.yl = some (l, b) → DenL Ω w as xs →
    (as.all fun v => v.cells.all V.pm) = true → tr ++ [as] <+: T →
    ∃ fn tmps asg body, (Instr.yield l xs.toArray).run P w = .ok (.round l fn tmps asg body) w ∧ RoundIn (wideR ro) n P l fn tmps asg body w fun e w' => e = .returned (.bool (goesOn b (Option.some tr))) ∧
      X.j (Option.some (tr ++ [as])) Ω w' ∧ Kept X.x w0 w' ∧ w.heap.size ≤ w'.heap.size ∧ (∀ b, Ω.mine b → w'.heap[b]? = w.heap[b]?) ∧ ∀ b off, Ω.frozp b → off < Ω.lim b → w'.cell? ⟨b, off, Option.none⟩ = w.cell? ⟨b, off, Option.none⟩
theorem run_yieldCall {c : Call} {f : Operand} (ho : o.op = .call c) (hc : c.callee = .value f) {l : Nat} (hf : a.eval f = .func (.yield l) #[] #[]) :
    (execOp a.eval o).run P w = (Instr.yield l (c.args.map a.eval)).run P w := by
  simp only [execOp, ho, resolve, hc, hf, Deferred.ofValue, Sem.run_bind, Sem.run_pure, Result.andThen_ok, invoke, Array.empty_append]
theorem wp_round {ro : Option Nat} {n : Nat} {K : Act → World → Prop} {Q : Exit → Act → World → Prop} (hd : ∀ c, o.op ≠ .defer c) {l : Nat} {fn : FuncId} {tmps : Array Value} {asg body : Code} (hr : (execOp a.eval o).run P w = .ok (.round l fn tmps asg body) w) {R : Value → World → Prop}
    (hc : ∀ n, RoundIn (wideR ro) n P l fn tmps asg body w fun e w1 => ∃ x, e = .returned x ∧ R x w1) (hK : ∀ x w1, R x w1 → K (a.put o.dst x) w1) : o.wpIn (wideR ro) n P a w K Q := by
  refine ⟨fun f _ => trivial, ?_⟩
  have hs : o.semAt (wideR ro).round a.eval = execOp a.eval o := by
    cases ro with
    | none => rfl
    | some l => exact Oper.semAt_some l _ o hd
  rw [hs, hr]
  refine ⟨fun h => by simp [wideR, Fence.wide] at h, RoundIn.mono (hc _) fun e w1 he => ?_⟩
  obtain ⟨x, rfl, hx⟩ := he
  exact hK x w1 hx
/-- An iterator yields what is said, up to a stop. -/
def ItOk (P : Program) (f b : Nat) (pre post : List V) (R : V) : Prop := ∀ T, itemsOf (some R) = some T → ∀ (X : Sc) (Ω : Own) (w : World) (l : Nat) (xs ys : List Value), Base Ω w → Ω.yl = some (l, b) → pureL pre = true → pureL post = true → DenL Ω w pre xs → DenL Ω w post ys →
  X.o = Ω.o → X.lim = Ω.lim → X.j (some []) Ω w → (∀ Ω w, ¬ X.j none Ω w) → YieldOk P X w T →
  Calls P f (xs ++ Value.func (.yield l) #[] #[] :: ys).toArray w fun e w1 => ∃ x Ω1, e = .returned x ∧ X.j (some T) Ω1 w1
/-- A function does what is said, at these arguments. -/
def CallOk (P : Program) (f : Nat) (args : List V) (R : V) : Prop :=
  (pureL args = true → ∀ (Ω : Own) (w : World) (xs : List Value), Base Ω w → DenL Ω w args xs →
    Calls P f xs.toArray w fun e w1 => ∃ x Ω1, e = .returned x ∧ Below w.heap.size w w1 ∧ Den Ω1 w1 R x ∧ ResOk Ω Ω1 w w1 R) ∧
  ∀ b pre post, args = pre ++ .fn (.y b) [] :: post → ItOk P f b pre post R
/-- A function that may be called does what is said. -/
def CallsOk (P : Program) (call : Nat → List V → Option V) : Prop := ∀ f args r, call f args = some r → Enters P f ∧ CallOk P f args r
theorem run_valueCall {c : Call} {f : Operand} (ho : o.op = .call c) (hc : c.callee = .value f) {g : Nat} (hg : Enters P g) {first caps : Array Value} (hf : a.eval f = .func (.func g) first caps) :
    (execOp a.eval o).run P w = .ok (.enter g (first ++ c.args.map a.eval ++ caps)) w := by
  simp only [execOp, ho, resolve, hc, hf, Deferred.ofValue, Sem.run_bind, Sem.run_pure, Result.andThen_ok, invoke, run_callFunc hg]
end
end Go.Lo

/- Every operation does what the logical machine says. -/
namespace Go.Lo
open Go.RowKit (Below)
section
variable {P : Program} {X : Sc} {w0 w : World} {Ω : Own} {a : Act} {σ : St} {o : Oper} {mk : Bool}

theorem DenL.inv0 {vs : List V} (h : DenL Ω w vs []) : vs = [] := by
  cases vs with
  | nil => rfl
  | cons v vs => simp [DenL] at h
theorem DenL.invS {vs : List V} {x : Value} {xs : List Value} (h : DenL Ω w vs (x :: xs)) : ∃ v us, vs = v :: us ∧ Den Ω w v x ∧ DenL Ω w us xs := by
  cases vs with
  | nil => simp [DenL] at h
  | cons v vs =>
    simp only [DenL] at h
    obtain ⟨y, ys, e, h1, h2⟩ := h
    injection e with e1 e2
    subst e1; subst e2
    exact ⟨v, vs, rfl, h1, h2⟩
theorem DenL.inv1 {vs : List V} {x : Value} (h : DenL Ω w vs [x]) : ∃ v, vs = [v] ∧ Den Ω w v x := by
  obtain ⟨v, us, rfl, h1, h2⟩ := h.invS
  have := h2.inv0; subst this
  exact ⟨v, rfl, h1⟩
theorem DenL.inv2 {vs : List V} {x y : Value} (h : DenL Ω w vs [x, y]) : ∃ v u, vs = [v, u] ∧ Den Ω w v x ∧ Den Ω w u y := by
  obtain ⟨v, us, rfl, h1, h2⟩ := h.invS
  obtain ⟨u, rfl, h3⟩ := h2.inv1
  exact ⟨v, u, rfl, h1, h3⟩
theorem DenL.inv3 {vs : List V} {x y z : Value} (h : DenL Ω w vs [x, y, z]) : ∃ v u t, vs = [v, u, t] ∧ Den Ω w v x ∧ Den Ω w u y ∧ Den Ω w t z := by
  obtain ⟨v, us, rfl, h1, h2⟩ := h.invS
  obtain ⟨u, t, rfl, h3, h4⟩ := h2.inv2
  exact ⟨v, u, t, rfl, h1, h3, h4⟩
/-- What an operation of this form comes to, whatever follows. -/
def Sound (P : Program) (X : Sc) (w0 : World) (Ω : Own) (w : World) (a : Act) (σ : St) (o : Oper) (mk : Bool) (e : Eff) : Prop :=
  ∀ (ro : Option Nat) (n : Nat) (K : Act → World → Prop) (Q : Exit → Act → World → Prop),
    (∀ x w' Ω', Inv X w0 Ω' w' (a.put o.dst x).tmps (apply σ o.dst e) → (∀ d, Fresh Ω d → (mk = true → o.dst ≠ some d) → Fresh Ω' d) → K (a.put o.dst x) w') → o.wpIn (wideR ro) n P a w K Q
theorem Yields.sound {e : Eff} (hy : Yields P X w0 Ω w a o (apply σ o.dst e) mk) (hd : ∀ c, o.op ≠ .defer c) : Sound P X w0 Ω w a σ o mk e := fun _ _ _ _ hK => hy.wp hd hK
theorem sound_val (h : Inv X w0 Ω w a.tmps σ) (hdst : ∀ d, o.dst = some d → d < a.tmps.size) (hd : ∀ c, o.op ≠ .defer c) {v : V} (hr : ∃ x, (execOp a.eval o).run P w = .ok (.value x) w ∧ Den Ω w v x) : Sound P X w0 Ω w a σ o mk (.val v) := by
  obtain ⟨x, h1, h2⟩ := hr
  exact (Yields.val h hdst h1 h2).sound hd
theorem valO_some {x : Option V} {e : Eff} (h : valO x = some e) : ∃ v, x = some v ∧ e = .val v := by
  cases x with
  | none => simp [valO] at h
  | some v => simp only [valO, Option.some.injEq] at h; exact ⟨v, rfl, h.symm⟩
section ops
variable {call : Nat → List V → Option V} {dr al : Bool} {root : Option Nat} {k : K} {xs : List Operand} {vs : List V} {e : Eff} {ex : List Nat}
  (h : Inv X w0 Ω w a.tmps σ) (hdst : ∀ d, o.dst = some d → d < a.tmps.size) (hop : opC P o.op dr al mk root = some (k, xs)) (hv : DenL Ω w vs (xs.map a.eval))
  (hsem : sem call (bxOf σ.fr ex) (tkOf σ.tk ex) (o.dst.getD 0) k vs = some e) (hmd : mk = true → ∃ d, o.dst = some d ∧ Fresh Ω d)
include h hdst hop hv hsem

theorem sound_move {x : Operand} (ho : o.op = .move x) : Sound P X w0 Ω w a σ o mk e := by
  simp only [ho, opC, Option.some.injEq, Prod.mk.injEq] at hop
  obtain ⟨rfl, rfl⟩ := hop
  obtain ⟨v, rfl, h1⟩ := hv.inv1
  simp only [sem, Option.some.injEq] at hsem; subst hsem
  exact sound_val h hdst (by simp [ho]) ⟨_, run_move ho, h1⟩
theorem sound_assign {x : Operand} (ho : o.op = .assign x) : Sound P X w0 Ω w a σ o mk e := by
  simp only [ho, opC, Option.some.injEq, Prod.mk.injEq] at hop
  obtain ⟨rfl, rfl⟩ := hop
  obtain ⟨v, rfl, h1⟩ := hv.inv1
  simp only [sem, Option.some.injEq] at hsem; subst hsem
  exact sound_val h hdst (by simp [ho]) ⟨_, run_assign ho, h1⟩
theorem sound_pick {x y z : Operand} (ho : o.op = .pick x y z) : Sound P X w0 Ω w a σ o mk e := by
  simp only [ho, opC, Option.some.injEq, Prod.mk.injEq] at hop
  obtain ⟨rfl, rfl⟩ := hop
  obtain ⟨v, u, t, rfl, h1, h2, h3⟩ := hv.inv3
  cases v <;> simp only [sem, Option.some.injEq, reduceCtorEq] at hsem
  subst hsem
  simp only [Den] at h1
  refine sound_val h hdst (by simp [ho]) ⟨_, run_pick ho h1, ?_⟩
  split <;> assumption
theorem sound_load {t : TypeId} {x : Operand} (ho : o.op = .load t x) : Sound P X w0 Ω w a σ o mk e := by
  simp only [ho, opC] at hop
  split at hop
  · rename_i n hn
    simp only [Option.some.injEq, Prod.mk.injEq] at hop
    obtain ⟨rfl, rfl⟩ := hop
    obtain ⟨v, rfl, h1⟩ := hv.inv1
    simp only [sem] at hsem
    obtain ⟨r, h2, rfl⟩ := valO_some hsem
    exact (yields_load h hdst ho hn h1 h2).sound (by simp [ho])
  · cases hop
theorem sound_bin {op : BinOp} {t u : TypeId} {x y : Operand} (ho : o.op = .binOp op t x y u) : Sound P X w0 Ω w a σ o mk e := by
  have plain : ∀ ty, binTy P t ty → k = .bin ty op → xs = [x, y] → Sound P X w0 Ω w a σ o mk e := by
    rintro ty ht rfl rfl
    obtain ⟨v, v', rfl, h1, h2⟩ := hv.inv2
    simp only [sem] at hsem
    obtain ⟨r, h3, rfl⟩ := valO_some hsem
    exact sound_val h hdst (by simp [ho]) (run_bin ho ht h1 h2 h3)
  have aggr : (∃ d, P.underlying t = some d ∧ d.isRow = true) → eqsC P op t x y = some (k, xs) → Sound P X w0 Ω w a σ o mk e := by
    intro hrow he
    unfold eqsC at he
    split at he
    · rename_i ne sh hop' hsh
      split at he
      · rename_i hg
        simp only [Option.some.injEq, Prod.mk.injEq] at he
        obtain ⟨rfl, rfl⟩ := he
        obtain ⟨v, v', rfl, h1, h2⟩ := hv.inv2
        cases v <;> cases v' <;> simp only [sem, reduceCtorEq] at hsem
        split at hsem
        · rename_i r hr
          simp only [Option.some.injEq] at hsem; subst hsem
          exact sound_val h hdst (by simp [ho]) ⟨_, run_eqs ho hop' hsh hg hrow h1 h2 hr, by simp [Den]⟩
        · cases hsem
      · cases he
    · cases he
  simp only [ho, opC] at hop
  cases hu : P.underlying t with
  | none => simp [hu] at hop
  | some d =>
    cases d <;> simp only [hu, Option.some.injEq, Prod.mk.injEq, reduceCtorEq] at hop
    case int q => exact plain 0 ⟨by simp, by simp⟩ hop.1.symm hop.2.symm
    case bool => exact plain 1 ⟨fun _ => hu, by simp⟩ hop.1.symm hop.2.symm
    case slice el => exact plain 2 ⟨by simp, fun _ => ⟨el, hu⟩⟩ hop.1.symm hop.2.symm
    case struct fs => exact aggr ⟨_, hu, rfl⟩ hop
    case array q el => exact aggr ⟨_, hu, rfl⟩ hop
theorem sound_un {op : UnOp} {t : TypeId} {x : Operand} (ho : o.op = .unOp op t x) : Sound P X w0 Ω w a σ o mk e := by
  simp only [ho, opC, Option.some.injEq, Prod.mk.injEq] at hop
  obtain ⟨rfl, rfl⟩ := hop
  obtain ⟨v, rfl, h1⟩ := hv.inv1
  simp only [sem] at hsem
  obtain ⟨r, h3, rfl⟩ := valO_some hsem
  exact sound_val h hdst (by simp [ho]) (run_un ho h1 h3)
theorem sound_conv {s d : TypeId} {x : Operand} (ho : o.op = .convert s d x) : Sound P X w0 Ω w a σ o mk e := by
  simp only [ho, opC] at hop
  split at hop
  · rename_i q q' h1 h2
    simp only [Option.some.injEq, Prod.mk.injEq] at hop
    obtain ⟨rfl, rfl⟩ := hop
    obtain ⟨v, rfl, hv1⟩ := hv.inv1
    cases v <;> simp only [sem, Option.some.injEq, reduceCtorEq] at hsem
    subst hsem
    simp only [Den] at hv1
    exact sound_val h hdst (by simp [ho]) ⟨_, run_convI ho h1 h2 hv1, by simp [Den]⟩
  · cases hop
theorem sound_mkf {f : Fn} {first caps : Array Operand} (ho : o.op = .makeFunc f first caps) : Sound P X w0 Ω w a σ o mk e := by
  simp only [ho, opC] at hop
  cases f <;> simp only [reduceCtorEq] at hop
  split at hop
  · rename_i hf
    simp only [Option.some.injEq, Prod.mk.injEq] at hop
    obtain ⟨rfl, rfl⟩ := hop
    simp only [sem, Option.some.injEq] at hsem; subst hsem
    refine sound_val h hdst (by simp [ho]) ⟨_, run_mkf ho hf, ?_⟩
    simp only [Den]
    exact ⟨caps.toList.map a.eval, by rw [← Array.toList_map]; simp only [Fk.Is, Array.toArray_toList], hv⟩
  · split at hop
    · rename_i hf
      simp only [Option.some.injEq, Prod.mk.injEq] at hop
      obtain ⟨rfl, rfl⟩ := hop
      simp only [sem, Option.some.injEq] at hsem; subst hsem
      refine sound_val h hdst (by simp [ho]) ⟨_, run_mkm ho hf, ?_⟩
      simp only [Den]
      exact ⟨first.toList.map a.eval, by rw [← Array.toList_map]; simp only [Fk.Is, Array.toArray_toList], hv⟩
    · cases hop
theorem sound_ext {x : Operand} {i : Nat} (ho : o.op = .extract x i) : Sound P X w0 Ω w a σ o mk e := by
  simp only [ho, opC, Option.some.injEq, Prod.mk.injEq] at hop
  obtain ⟨rfl, rfl⟩ := hop
  obtain ⟨v, rfl, h1⟩ := hv.inv1
  cases v <;> simp only [sem, reduceCtorEq] at hsem
  obtain ⟨r, h3, rfl⟩ := valO_some hsem
  simp only [Den] at h1
  obtain ⟨ys, h4, h5⟩ := h1
  obtain ⟨y, h6, h7⟩ := h5.get h3
  exact sound_val h hdst (by simp [ho]) ⟨y, run_ext ho h4 (by simpa using h6), h7⟩
theorem sound_field {t : TypeId} {x : Operand} {i : Nat} (ho : o.op = .field t x i) : Sound P X w0 Ω w a σ o mk e := by
  simp only [ho, opC] at hop
  split at hop
  · rename_i off u hf
    split at hop
    · rename_i n hn
      simp only [Option.some.injEq, Prod.mk.injEq] at hop
      obtain ⟨rfl, rfl⟩ := hop
      obtain ⟨v, rfl, h1⟩ := hv.inv1
      cases v <;> simp only [sem, reduceCtorEq] at hsem
      obtain ⟨r, h3, rfl⟩ := valO_some hsem
      exact sound_val h hdst (by simp [ho]) (run_field ho hf hn h1 h3)
    · cases hop
  · cases hop
theorem sound_index {t : TypeId} {x y : Operand} (ho : o.op = .index t x y) : Sound P X w0 Ω w a σ o mk e := by
  simp only [ho, opC] at hop
  split at hop
  · rename_i len el ht
    split at hop
    · rename_i n m hs hn
      simp only [Option.some.injEq, Prod.mk.injEq] at hop
      obtain ⟨rfl, rfl⟩ := hop
      obtain ⟨v, u, rfl, h1, h2⟩ := hv.inv2
      cases v <;> cases u <;> simp only [sem, reduceCtorEq] at hsem
      split at hsem
      · rename_i hc
        obtain ⟨r, h3, rfl⟩ := valO_some hsem
        exact sound_val h hdst (by simp [ho]) (run_index ho ht hs hn h1 h2 hc h3)
      · cases hsem
    · cases hop
  · cases hop
theorem sound_build {t : TypeId} {ps : Array (Nat × Operand)} (ho : o.op = .build t ps) : Sound P X w0 Ω w a σ o mk e := by
  simp only [ho, opC] at hop
  have hop' := hop
  unfold buildC at hop
  split at hop
  · rename_i zs place hz hpl
    split at hop
    · rename_i pl hp
      simp only [Option.some.injEq, Prod.mk.injEq] at hop
      obtain ⟨hk, hxs⟩ := hop
      subst hk
      simp only [sem] at hsem
      split at hsem
      · rename_i cs hcs
        simp only [Option.some.injEq] at hsem; subst hsem
        exact sound_val h hdst (by simp [ho]) (run_build ho hop' hv rfl hcs)
      · cases hsem
    · cases hop
  · cases hop
theorem sound_slice {t : TypeId} {x : Operand} {lo hi mx : Option Operand} (ho : o.op = .slice t x lo hi mx) : Sound P X w0 Ω w a σ o mk e := by
  simp only [ho, opC] at hop
  split at hop
  · rename_i el he
    split at hop
    · rename_i n hs
      split at hop
      · rename_i hn
        split at hop
        · rename_i lo' hi' mx' r0 y
          simp only [Option.some.injEq, Prod.mk.injEq] at hop
          obtain ⟨rfl, rfl⟩ := hop
          obtain ⟨v, u, rfl, h1, h2⟩ := hv.inv2
          cases v <;> (try (simp only [sem, reduceCtorEq] at hsem; done))
          rename_i tok sz es
          cases tok <;> (try (simp only [sem, reduceCtorEq] at hsem; done))
          cases u <;> simp only [sem, reduceCtorEq] at hsem
          split at hsem
          · rename_i m htk
            split at hsem
            · rename_i hc
              obtain ⟨rfl, rfl, h3, h4⟩ := hc
              simp only [Option.some.injEq] at hsem; subst hsem
              exact (yields_trunc h hdst ho he hs h1 h2 (tkOf_get htk).1 h3 h4).sound (by simp [ho])
            · cases hsem
          · cases hsem
        simp only [Option.some.injEq, Prod.mk.injEq] at hop
        obtain ⟨rfl, rfl⟩ := hop
        rw [List.map_cons] at hv
        obtain ⟨v, us, rfl, h1, h2⟩ := hv.invS
        cases v <;> (try (simp only [sem, reduceCtorEq] at hsem; done))
        case nil =>
          simp only [sem] at hsem
          split at hsem
          · rename_i b hb
            simp only [Option.some.injEq] at hsem; subst hsem
            exact (yields_slice_nil h hdst ho he hs hn.2 h1 h2 hb).sound (by simp [ho])
          · cases hsem
        case sl tok sz es =>
          cases tok with
          | none =>
            simp only [sem] at hsem
            split at hsem
            · rename_i hsz
              subst hsz
              split at hsem
              · rename_i l r hb
                simp only [Option.some.injEq] at hsem; subst hsem
                exact (yields_slice_none h hdst ho he hs hn.2 h1 h2 hb).sound (by simp [ho])
              · cases hsem
            · cases hsem
          | some tk =>
            simp only [sem] at hsem
            split at hsem
            · rename_i hsz
              subst hsz
              split at hsem
              · rename_i l r hb
                split at hsem
                · simp only [Option.some.injEq] at hsem; subst hsem
                  exact (yields_slice_some h hdst ho he hs hn.2 h1 h2 hb).sound (by simp [ho])
                · cases hsem
              · cases hsem
            · cases hsem
      · cases hop
    · cases hop
  · cases hop
theorem sound_fa {t : TypeId} {x : Operand} {i : Nat} (ho : o.op = .fieldAddr t x i) : Sound P X w0 Ω w a σ o mk e := by
  simp only [ho, opC] at hop
  split at hop
  · rename_i off u hf
    split at hop
    · rename_i n hn
      split at hop
      · rename_i hn0
        simp only [Option.some.injEq, Prod.mk.injEq] at hop
        obtain ⟨rfl, rfl⟩ := hop
        obtain ⟨v, rfl, h1⟩ := hv.inv1
        cases v <;> simp only [sem, Option.some.injEq, reduceCtorEq] at hsem
        · subst hsem
          obtain ⟨b, h3, h4⟩ := den_move_ref (off := off) h1
          exact sound_val h hdst (by simp [ho]) ⟨_, run_faOp ho hf hn hn0 h3, h4⟩
        · subst hsem
          obtain ⟨b, q, h3, h4⟩ := den_move_cref (off := off) h1
          exact sound_val h hdst (by simp [ho]) ⟨_, run_faOp ho hf hn hn0 h3, h4⟩
        · subst hsem
          obtain ⟨b, q, h3, h4⟩ := den_move_gref (off := off) h1
          exact sound_val h hdst (by simp [ho]) ⟨_, run_faOp ho hf hn hn0 h3, h4⟩
        · subst hsem
          obtain ⟨b, q, h3, h4⟩ := den_move_eref (off := off) h1
          exact sound_val h hdst (by simp [ho]) ⟨_, run_faOp ho hf hn hn0 h3, h4⟩
      · cases hop
    · cases hop
  · cases hop
theorem sound_ia {t : TypeId} {x y : Operand} (ho : o.op = .indexAddr t x y) : Sound P X w0 Ω w a σ o mk e := by
  simp only [ho, opC] at hop
  split at hop
  · rename_i el ht
    split at hop
    · rename_i n hs
      split at hop
      · simp only [Option.some.injEq, Prod.mk.injEq] at hop
        obtain ⟨rfl, rfl⟩ := hop
        obtain ⟨v, u, rfl, h1, h2⟩ := hv.inv2
        cases v <;> (try (simp only [sem, reduceCtorEq] at hsem; done))
        rename_i tok sz es
        cases u <;> (try (cases tok <;> simp only [sem, reduceCtorEq] at hsem; done))
        rename_i q i
        cases tok with
        | none =>
          simp only [sem] at hsem
          split at hsem
          · rename_i hc
            obtain ⟨rfl, h0⟩ := hc
            split at hsem
            · rename_i cs hcs
              simp only [Option.some.injEq] at hsem; subst hsem
              exact sound_val h hdst (by simp [ho]) (ixs_none ho ht hs h2 h1 h0 hcs)
            · cases hsem
          · cases hsem
        | some tk =>
          simp only [sem] at hsem
          split at hsem
          · rename_i hc
            obtain ⟨rfl, h0⟩ := hc
            split at hsem
            · rename_i cs hcs
              simp only [Option.some.injEq] at hsem; subst hsem
              exact sound_val h hdst (by simp [ho]) (ixs_some ho ht hs h2 h1 h0 hcs)
            · cases hsem
          · cases hsem
      · cases hop
    · cases hop
  · rename_i len el ht
    split at hop
    · rename_i n hs
      split at hop
      · simp only [Option.some.injEq, Prod.mk.injEq] at hop
        obtain ⟨rfl, rfl⟩ := hop
        obtain ⟨v, u, rfl, h1, h2⟩ := hv.inv2
        cases v <;> (try (simp only [sem, reduceCtorEq] at hsem; done)) <;> cases u <;> (try (simp only [sem, reduceCtorEq] at hsem; done)) <;> simp only [sem] at hsem <;> split at hsem <;> (try (cases hsem; done))
        · rename_i hc
          simp only [Option.some.injEq] at hsem; subst hsem
          obtain ⟨b, h3, h4⟩ := den_move_ref h1
          exact sound_val h hdst (by simp [ho]) ⟨_, run_ixaOp ho ht hs h2 hc h3, h4⟩
        · rename_i hc
          simp only [Option.some.injEq] at hsem; subst hsem
          obtain ⟨b, q, h3, h4⟩ := den_move_cref h1
          exact sound_val h hdst (by simp [ho]) ⟨_, run_ixaOp ho ht hs h2 hc h3, h4⟩
        · rename_i hc
          simp only [Option.some.injEq] at hsem; subst hsem
          obtain ⟨b, q, h3, h4⟩ := den_move_gref h1
          exact sound_val h hdst (by simp [ho]) ⟨_, run_ixaOp ho ht hs h2 hc h3, h4⟩
        · rename_i hc
          simp only [Option.some.injEq] at hsem; subst hsem
          obtain ⟨b, q, h3, h4⟩ := den_move_eref h1
          exact sound_val h hdst (by simp [ho]) ⟨_, run_ixaOp ho ht hs h2 hc h3, h4⟩
      · cases hop
    · cases hop
  · cases hop
theorem sound_nilc {x : Operand} (ho : o.op = .nilCheck x) : Sound P X w0 Ω w a σ o mk e := by
  simp only [ho, opC, Option.some.injEq, Prod.mk.injEq] at hop
  obtain ⟨rfl, rfl⟩ := hop
  obtain ⟨v, rfl, h1⟩ := hv.inv1
  have : v.isPtr = true ∧ e = .val v := by
    cases v <;> simp only [sem, Option.some.injEq, reduceCtorEq] at hsem <;> exact ⟨rfl, hsem.symm⟩
  obtain ⟨h2, rfl⟩ := this
  exact sound_val h hdst (by simp [ho]) ⟨_, run_nilcOp ho h2 h1, h1⟩
end ops
end
end Go.Lo

/- Every operation, second part: what makes, writes and calls. -/
namespace Go.Lo
open Go.RowKit (Below)
section
variable {P : Program} {X : Sc} {w0 w : World} {Ω : Own} {a : Act} {σ : St} {o : Oper} {mk : Bool}
section ops
variable {call : Nat → List V → Option V} {dr al : Bool} {root : Option Nat} {k : K} {xs : List Operand} {vs : List V} {e : Eff} {ex : List Nat}
  (h : Inv X w0 Ω w a.tmps σ) (hdst : ∀ d, o.dst = some d → d < a.tmps.size) (hv : DenL Ω w vs (xs.map a.eval))
  (hsem : sem call (bxOf σ.fr ex) (tkOf σ.tk ex) (o.dst.getD 0) k vs = some e)
include h hdst hv hsem

theorem sound_alloc (hop : opC P o.op dr al mk root = some (k, xs)) (hmd : ∃ d, o.dst = some d ∧ Fresh Ω d) {t : TypeId} (ho : o.op = .alloc t) : Sound P X w0 Ω w a σ o true e := by
  obtain ⟨d, hd, hf⟩ := hmd
  simp only [ho, opC] at hop
  split at hop
  · rename_i zs hz
    simp only [Option.some.injEq, Prod.mk.injEq] at hop
    obtain ⟨rfl, rfl⟩ := hop
    have := hv.inv0; subst this
    simp only [sem, Option.some.injEq] at hsem; subst hsem
    unfold zeroD at hz
    split at hz
    · rename_i i hi
      split at hz
      · rename_i z hzz
        simp only [Option.some.injEq] at hz; subst hz
        refine (Yields.box h hd (hdst d hd) hf (xs := z.cells.toList) (T := t) (by rw [run_alloc ho hi hzz, Array.toArray_toList]) ?_ ?_).sound (by simp [ho])
        · generalize z.cells.toList = l
          induction l with
          | nil => exact DenL.nil
          | cons x l ih =>
            rw [List.map_cons]
            refine DenL.cons ?_ ih
            split
            · rename_i v hv
              split
              · exact valV_den x v hv
              · simp [Den]
            · simp [Den]
        · intro v hv
          obtain ⟨x, _, rfl⟩ := List.mem_map.1 hv
          split
          · split
            · rename_i hc; exact .inl hc
            · exact .inr rfl
          · exact .inr rfl
      · cases hz
    · cases hz
  · cases hop
theorem sound_box (hop : opC P o.op dr al mk root = some (k, xs)) (hmd : ∃ d, o.dst = some d ∧ Fresh Ω d) {t : TypeId} {x : Operand} (ho : o.op = .box t x) : Sound P X w0 Ω w a σ o true e := by
  obtain ⟨d, hd, hf⟩ := hmd
  simp only [ho, opC] at hop
  split at hop
  · simp only [Option.some.injEq, Prod.mk.injEq] at hop
    obtain ⟨rfl, rfl⟩ := hop
    obtain ⟨v, rfl, h1⟩ := hv.inv1
    simp only [sem] at hsem
    split at hsem
    · rename_i hc
      simp only [Option.some.injEq] at hsem; subst hsem
      exact (Yields.box h hd (hdst d hd) hf (xs := (a.eval x).cells.toList) (T := t) (by rw [run_box ho, Array.toArray_toList]) (Den.cells hc h1) (cells_cellOk hc)).sound (by simp [ho])
    · cases hsem
  · cases hop
theorem sound_store (hop : opC P o.op dr al mk root = some (k, xs)) {t : TypeId} {x y : Operand} (ho : o.op = .store t x y) : Sound P X w0 Ω w a σ o mk e := by
  simp only [ho, opC] at hop
  split at hop
  · rename_i n hn
    simp only [Option.some.injEq, Prod.mk.injEq] at hop
    obtain ⟨rfl, rfl⟩ := hop
    obtain ⟨v, u, rfl, h1, h2⟩ := hv.inv2
    cases v <;> (try (simp only [sem, reduceCtorEq] at hsem; done))
    case ref s off =>
      simp only [sem] at hsem
      split at hsem
      · rename_i hc
        split at hsem
        · rename_i cs hb
          split at hsem
          · rename_i cs' hs
            simp only [Option.some.injEq] at hsem; subst hsem
            exact (yields_store h hdst ho hn h1 h2 hc.1 hc.2.1 hc.2.2.1 hb hs).sound (by simp [ho])
          · cases hsem
        · cases hsem
      · cases hsem
    case eref u' m i off cs =>
      cases root with
      | some r => simp only [sem, reduceCtorEq] at hsem
      | none =>
        simp only [sem] at hsem
        split at hsem
        · rename_i v' m' hfz htk
          split at hsem
          · rename_i hc
            obtain ⟨rfl, hc2, hc3⟩ := hc
            split at hsem
            · rename_i cs' hs
              simp only [Option.some.injEq] at hsem; subst hsem
              exact (yields_est h hdst ho hn h1 h2 hfz hc2 hc3 htk hs).sound (by simp [ho])
            · cases hsem
          · cases hsem
        · cases hsem
  · cases hop
theorem sound_buildSlice (hop : opC P o.op dr al mk root = some (k, xs)) (hmd : ∃ d, o.dst = some d ∧ Fresh Ω d) {t : TypeId} {len : Nat} {ps : Array (Nat × Operand)} (ho : o.op = .buildSlice t len ps) : Sound P X w0 Ω w a σ o true e := by
  obtain ⟨d, hd, hf⟩ := hmd
  simp only [ho, opC] at hop
  split at hop
  · rename_i el he
    split at hop
    · rename_i n z hs hz
      split at hop
      · rename_i hn
        simp only [Option.some.injEq, Prod.mk.injEq] at hop
        obtain ⟨rfl, rfl⟩ := hop
        simp only [sem] at hsem
        split at hsem
        · rename_i es ts hfl
          split at hsem
          · simp only [Option.some.injEq] at hsem; subst hsem
            rw [hd]
            simp only [Option.getD_some]
            have := yields_buildSlice (P := P) h ho he hs hz hn hd (hdst d hd) hf hv hfl
            exact this.sound (by simp [ho])
          · cases hsem
        · cases hsem
      · cases hop
    · cases hop
  · cases hop
theorem sound_makeSlice (hop : opC P o.op dr al mk root = some (k, xs)) (hmd : ∃ d, o.dst = some d ∧ Fresh Ω d) {t : TypeId} {x y : Operand} (ho : o.op = .makeSlice t x y) : Sound P X w0 Ω w a σ o true e := by
  obtain ⟨d, hd, hf⟩ := hmd
  simp only [ho, opC] at hop
  split at hop
  · rename_i el he
    split at hop
    · rename_i n b z hs hb hz
      split at hop
      · rename_i hn
        simp only [Option.some.injEq, Prod.mk.injEq] at hop
        obtain ⟨rfl, rfl⟩ := hop
        obtain ⟨v, u, rfl, h1, h2⟩ := hv.inv2
        cases v <;> (try (simp only [sem, reduceCtorEq] at hsem; done)) <;> cases u <;> simp only [sem, reduceCtorEq] at hsem
        split at hsem
        · rename_i hc
          simp only [Option.some.injEq] at hsem; subst hsem
          rw [hd]
          simp only [Option.getD_some]
          have := yields_makeSlice (P := P) h ho he hs hb hz hn hd (hdst d hd) hf h1 h2 hc
          exact this.sound (by simp [ho])
        · cases hsem
      · cases hop
    · cases hop
  · cases hop
theorem sound_append {x y : Operand} {t el : TypeId} {n b : Nat} {z : V} (hap : AppOp P o x y t el n b z) (hk : k = .append dr n b) (hxs : xs = [x, y]) (hmd : ∃ d, o.dst = some d ∧ (dr = true → (∃ y, vs = [.nil, y]) → Fresh Ω d)) : Sound P X w0 Ω w a σ o true e := by
  obtain ⟨d, hd, hf⟩ := hmd
  subst hk; subst hxs
  have hnd : ∀ c, o.op ≠ .defer c := by
    obtain ⟨c, _, _, ho, _⟩ := hap.op
    simp [ho]
  obtain ⟨v, u, rfl, h1, h2⟩ := hv.inv2
  have emptyY : ∀ {q : Option Nat} {sz : Nat}, Den Ω w (.sl q sz []) (a.eval y) → ∃ q c, a.eval y = .slice q 0 c := fun hy => by
    obtain ⟨p, k, hk⟩ := sl_len hy
    exact ⟨p, k, hk⟩
  have nilY : Den Ω w .nil (a.eval y) → ∃ q c, a.eval y = .slice q 0 c := fun hy => by
    simp only [Den] at hy
    exact ⟨_, _, hy⟩
  have nilX : Den Ω w .nil (a.eval x) → ∃ p n k, a.eval x = .slice p n k ∧ n ≤ k := fun hx => by
    simp only [Den] at hx
    exact ⟨_, _, _, hx, Nat.le_refl _⟩
  cases v <;> (try (simp only [sem, reduceCtorEq] at hsem; done))
  case nil =>
    cases u <;> (try (simp only [sem, reduceCtorEq] at hsem; done))
    case nil =>
      simp only [sem, Option.some.injEq] at hsem; subst hsem
      exact (yields_append_empty h hdst hap h1 (nilX h1) (nilY h2)).sound hnd
    case sl tok sz es =>
      simp only [sem] at hsem
      split at hsem
      · rename_i hsz
        subst hsz
        split at hsem
        · simp only [Option.some.injEq] at hsem; subst hsem
          exact (yields_append_empty h hdst hap h1 (nilX h1) (emptyY h2)).sound hnd
        · split at hsem
          · rename_i hb
            split at hsem
            · rename_i hdr
              simp only [Option.some.injEq] at hsem; subst hsem
              rw [hd]
              simp only [Option.getD_some]
              have := yields_append_new h hap hd (hdst d hd) (hf hdr ⟨_, rfl⟩) h1 h2 (by simp) hb
              exact this.sound hnd
            · simp only [Option.some.injEq] at hsem; subst hsem
              rw [hd]
              simp only [Option.getD_some]
              have := yields_append_prep h hap hd (hdst d hd) h1 h2 (by simp) hb
              exact this.sound hnd
          · cases hsem
      · cases hsem
  case sl tok sz es =>
    cases tok with
    | none => simp only [sem, reduceCtorEq] at hsem
    | some tk =>
      simp only [sem] at hsem
      split at hsem
      · rename_i m wr htk
        split at hsem
        · rename_i hc
          obtain ⟨hc1, rfl⟩ := hc
          obtain ⟨htk', _⟩ := tkOf_get htk
          have ownX : ∃ p n k, a.eval x = .slice p n k ∧ n ≤ k := by
            obtain ⟨c, k, T, xs, g1, ⟨p, g2⟩, g3, g4, g5, g6, g7, g8⟩ := h.tok tk m wr htk'
            simp only [Den] at h1
            obtain ⟨b', cap', p', hx1, hx2, hx3, hx4, hx5⟩ := h1
            exact ⟨_, _, _, hx1, Nat.le_add_right _ _⟩
          cases u <;> (try (simp only [reduceCtorEq] at hsem; done))
          case nil =>
            simp only [Option.some.injEq] at hsem; subst hsem
            exact (yields_append_empty h hdst hap h1 ownX (nilY h2)).sound hnd
          case sl tok2 sz2 ys =>
            simp only at hsem
            split at hsem
            · rename_i hc2
              obtain ⟨rfl, hb⟩ := hc2
              split at hsem
              · simp only [Option.some.injEq] at hsem; subst hsem
                exact (yields_append_empty h hdst hap h1 ownX (emptyY h2)).sound hnd
              · simp only [Option.some.injEq] at hsem; subst hsem
                exact (yields_append_more h hdst hap h1 htk' hc1 h2 (by simp) hb).sound hnd
            · cases hsem
        · cases hsem
      · cases hsem
theorem sound_appz {x y : Operand} {t el : TypeId} {n b : Nat} {z : V} (hap : AppZ P o x y t el n b z) (hk : k = .appz n b z.cells) (hxs : xs = [x, y]) (hmd : ∃ d, o.dst = some d) : Sound P X w0 Ω w a σ o true e := by
  obtain ⟨d, hd⟩ := hmd
  subst hk; subst hxs
  obtain ⟨c, u0, q, ho, hc, ha1, ha2, hu⟩ := hap.op
  have hnd : ∀ c, o.op ≠ .defer c := by simp [ho]
  obtain ⟨v, u, rfl, h1, h2⟩ := hv.inv2
  cases v <;> (try (simp only [sem, reduceCtorEq] at hsem; done)) <;> cases u <;> simp only [sem, reduceCtorEq] at hsem
  rename_i k m
  split at hsem
  · rename_i hc0
    split at hsem
    · rename_i hz0
      subst hz0
      simp only [Option.some.injEq] at hsem; subst hsem
      refine sound_val h hdst hnd ⟨.slice none 0 0, ?_, by simp [Den]⟩
      simp only [Den] at h1 h2
      obtain ⟨i, hi, _⟩ := info_size hap.size
      have ha1 : c.args = #[x, y] := Array.ext' (by simp [ha1])
      have ha2 : c.argTypes = #[t, u0] := Array.ext' (by simp [ha2])
      have hw : IntKind.i64.wrap 0 = 0 := by rw [IntKind.wrap_i64]; omega
      simp [execOp, ho, resolve, invoke, hc, builtin, ha1, ha2, h1, h2, Builtin.append_, run_underlying (elemC_spec hap.elem), run_underlying hu, sizeOf, typeInfo, hi, asInt, asIntOf, hw]
    · rename_i hz0
      simp only [Option.some.injEq] at hsem; subst hsem
      rw [hd]
      simp only [Option.getD_some]
      have := yields_appz h hap hd (hdst d hd) h1 h2 (by omega) hc0.2
      exact this.sound hnd
  · cases hsem
end ops
/-! ### Maps from integers to slices -/
open Go.Maps (Keyed int_keyed keyOf_int_mk)
open Go.ChangeMaps (setBlock)
theorem mapC_spec {t : TypeId} (h : mapC P t = true) : ∃ k e i, P.underlying t = some (.map k e) ∧ P.underlying k = some (.int .i64) ∧ P.info? e = some i ∧ i.zero = some (.slice none 0 0) := by
  unfold mapC at h
  split at h
  · rename_i k e hu
    split at h
    · rename_i i hk hi
      split at h
      · rename_i hz
        exact ⟨k, e, i, hu, hk, hi, hz⟩
      · cases h
    · cases h
  · cases h
theorem int_wf {n : Int} (h : -9223372036854775808 ≤ n ∧ n ≤ 9223372036854775807) : (Lit.int .i64 n).wf = true := by
  simp only [Lit.wf, Bool.and_eq_true, decide_eq_true_eq]
  exact h
def KeysI (es : Array MapEntry) : Prop := ∀ e ∈ es.toList, ∃ n, e.key = .int .i64 n ∧ (Lit.int .i64 n).wf = true
theorem KeysI.read {k : TypeId} (hk : P.underlying k = some (.int .i64)) {es : Array MapEntry} (h : KeysI es) : ∀ e ∈ es.toList, ∃ l, keyOf P k e.key = some l := fun e he => by
  obtain ⟨n, h1, h2⟩ := h e he
  exact ⟨_, by rw [h1]; exact keyOf_int_mk hk h2⟩
theorem map_look {t k e : TypeId} {i : TypeInfo} (ht : P.underlying t = some (.map k e)) (hk : P.underlying k = some (.int .i64)) (hi : P.info? e = some i) (hz : i.zero = some (.slice none 0 0)) {b : Nat} {es : Array MapEntry} {clk : Nat}
    (hb : w.heap[b]? = some (.map es clk)) (hes : KeysI es) {n : Int} (hn : (Lit.int .i64 n).wf = true) :
    ((Instr.lookup t (.map (some b)) (.int .i64 n) false).run P w = .ok (.slice none 0 0) w ∧ ∀ x ∈ es.toList, x.key ≠ .int .i64 n) ∨
    ∃ e0 ∈ es.toList, e0.key = .int .i64 n ∧ (Instr.lookup t (.map (some b)) (.int .i64 n) false).run P w = .ok e0.val w := by
  have K : Keyed P k := int_keyed hk
  have hkey := keyOf_int_mk (P := P) hk hn
  have hzz : (zeroValue e).run P w = .ok (.slice none 0 0) w := by simp [zeroValue, typeInfo, hi, hz]
  rcases K.find w hkey es.toList (hes.read hk) with ⟨h1, h2⟩ | ⟨j, e0, h1, h2, h3⟩
  · exact .inl ⟨by simp [Instr.lookup, run_underlying ht, MapKept.run_getObj_map hb, K.check w _ hkey, h1, hzz, Result.andThen], h2⟩
  · exact .inr ⟨e0, List.mem_of_getElem? h2, h3, by simp [Instr.lookup, run_underlying ht, MapKept.run_getObj_map hb, K.check w _ hkey, h1, Result.andThen]⟩
theorem map_store {t k e : TypeId} (ht : P.underlying t = some (.map k e)) (hk : P.underlying k = some (.int .i64)) {b : Nat} {es : Array MapEntry} {clk : Nat}
    (hb : w.heap[b]? = some (.map es clk)) (hes : KeysI es) (hnd : (es.toList.map (·.key)).Nodup) {n : Int} (hn : (Lit.int .i64 n).wf = true) (val : Value) :
    ∃ es' clk', (Instr.mapUpdate t (.map (some b)) (.int .i64 n) val).run P w = .ok () (setBlock w b (.map es' clk')) ∧ (∀ x ∈ es'.toList, (x ∈ es.toList ∧ x.key ≠ .int .i64 n) ∨ (x.key = .int .i64 n ∧ x.val = val)) ∧
      (∀ x ∈ es.toList, x.key ≠ .int .i64 n → x ∈ es'.toList) ∧ (∃ x ∈ es'.toList, x.key = .int .i64 n) ∧ (es'.toList.map (·.key)).Nodup := by
  have K : Keyed P k := int_keyed hk
  have hkey := keyOf_int_mk (P := P) hk hn
  generalize (.int .i64 n : Value) = key at *
  rcases K.find w hkey es.toList (hes.read hk) with ⟨h1, h2⟩ | ⟨j, e0, h1, h2, h3⟩
  · refine ⟨es.push ⟨key, val, clk⟩, clk + 1, ?_, ?_, ?_, ⟨⟨key, val, clk⟩, by simp, rfl⟩, ?_⟩
    · simp [Instr.mapUpdate, run_underlying ht, MapKept.run_getObj_map hb, K.check w false hkey, h1, MapKept.run_setObj_map _ hb, Result.andThen, setBlock]
    · intro x hx
      simp only [Array.toList_push, List.mem_append, List.mem_singleton] at hx
      rcases hx with hx | rfl
      · exact .inl ⟨hx, h2 x hx⟩
      · exact .inr ⟨rfl, rfl⟩
    · intro x hx _
      simp only [Array.toList_push, List.mem_append]
      exact .inl hx
    · simp only [Array.toList_push, List.map_append, List.map_cons, List.map_nil]
      rw [List.nodup_append]
      refine ⟨hnd, by simp, fun a ha c hc => ?_⟩
      rw [List.mem_singleton] at hc; subst hc
      obtain ⟨x, hx, rfl⟩ := List.mem_map.1 ha
      exact h2 x hx
  · have hj : es[j]? = some e0 := by simpa using h2
    have hjl : j < es.toList.length := (List.getElem?_eq_some_iff.1 h2).1
    have hlist : (es.modify j (fun e' => { e' with key := key, val := val })).toList = es.toList.set j { e0 with key := key, val := val } := by rw [Array.toList_modify, Go.ChangeMaps.modify_eq_set _ _ _ _ h2]
    have hmap : (es.toList.set j { e0 with key := key, val := val }).map (·.key) = es.toList.map (·.key) := by
      rw [List.map_set]
      apply List.ext_getElem?
      intro i
      rw [List.getElem?_set]
      split
      · rename_i e
        subst e
        rw [if_pos (by simpa using hjl), List.getElem?_map, h2]
        simp [h3]
      · rfl
    refine ⟨es.modify j (fun e' => { e' with key := key, val := val }), clk, ?_, ?_, ?_, ?_, by rw [hlist, hmap]; exact hnd⟩
    · simp [Instr.mapUpdate, run_underlying ht, MapKept.run_getObj_map hb, K.check w false hkey, h1, hj, h3, K.stays w hkey, MapKept.run_setObj_map _ hb, Result.andThen, setBlock]
    · intro x hx
      rw [hlist] at hx
      obtain ⟨i, hi, ex⟩ := List.getElem_of_mem hx
      rw [List.getElem_set] at ex
      split at ex
      · subst ex; exact .inr ⟨rfl, rfl⟩
      · rename_i hne
        have hi' : i < es.toList.length := by simpa using hi
        refine .inl ⟨ex ▸ List.getElem_mem hi', fun hk2 => hne ?_⟩
        have q1 : (es.toList.map (·.key))[i]? = some key := by rw [List.getElem?_map, List.getElem?_eq_getElem hi', ex]; simp [hk2]
        have q2 : (es.toList.map (·.key))[j]? = some key := by rw [List.getElem?_map, h2]; simp [h3]
        exact (List.getElem?_inj (by simpa using hjl) hnd).1 (by rw [q2, q1])
    · intro x hx hne
      rw [hlist]
      obtain ⟨i, hi, ex⟩ := List.getElem_of_mem hx
      have : j ≠ i := fun e => by
        subst e
        rw [List.getElem?_eq_getElem hi] at h2
        injection h2 with h2
        exact hne (by rw [← ex, h2, h3])
      exact List.mem_iff_getElem?.2 ⟨i, by rw [List.getElem?_set_ne this, List.getElem?_eq_getElem hi, ex]⟩
    · exact ⟨{ e0 with key := key, val := val }, by rw [hlist]; exact List.mem_iff_getElem?.2 ⟨j, by rw [List.getElem?_set_self hjl]⟩, rfl⟩
end
end Go.Lo

/- Calls; and all operations together. -/
namespace Go.Lo
open Go.RowKit (Below)
section
variable {P : Program} {X : Sc} {w0 w w1 : World} {Ω : Own} {a : Act} {σ : St} {o : Oper} {mk : Bool}

theorem goes_below {tm : Array Value} (h : Inv X w0 Ω w tm σ) (hb : Below w.heap.size w w1) : Goes X w0 Ω Ω w w1 where
  ext := ⟨fun _ h => h, fun _ h => .inr h, fun _ _ p h => ⟨p, h⟩, fun _ _ h => h, fun _ _ => Nat.le_refl _, fun b off hne _ => hb.cell (p := ⟨b, off, none⟩) (h.bnd b hne), fun _ _ _ _ => rfl, fun _ _ _ c k n _ h => ⟨c, k, n, h, .inl ⟨rfl, rfl, rfl⟩⟩, rfl⟩
  kept := h.kept.trans ⟨hb.os, hb.tape, hb.output, hb.size, fun b hlt _ => hb.block b hlt⟩
  ownB := h.ownB
  ownA := h.ownA
  bnd b hne := Nat.lt_of_lt_of_le (h.bnd b hne) hb.size
  uniq := h.uniq
  limB := h.limB
  old := h.old
  stp := ⟨hb.os, hb.tape, hb.output, hb.size, fun b hlt _ => hb.block b hlt, fun _ _ _ => ⟨rfl, rfl⟩⟩
  boxes b s O hs hh := by rw [hb.block b (h.bnd b (by simp [hs]))]; exact hh
theorem inv_below {tm : Array Value} (h : Inv X w0 Ω w tm σ) (hb : Below w.heap.size w w1) : Inv X w0 Ω w1 tm σ :=
  h.goes (goes_below h hb) (fun t n wr ht => by
    obtain ⟨c, k, T, xs, g1, ⟨p, g2⟩, g3, g⟩ := h.tok t n wr ht
    exact ⟨c, k, T, xs, g1, ⟨p, g2⟩, by rw [hb.block c (h.bnd c (by simp [g2]))]; exact g3, g⟩)
theorem sound_callE (hdst : ∀ d, o.dst = some d → d < a.tmps.size) (h : Inv X w0 Ω w a.tmps σ) {call : Nat → List V → Option V} {dr al : Bool} {e : Eff} {ex : List Nat} (hcall : CallsOk P call) (hmd : mk = true → ∃ d, o.dst = some d ∧ Fresh Ω d) (hnd : ∀ c, o.op ≠ .defer c) {g : Nat} {vs : List V} {ys : List Value}
    (hsem : callE call (bxOf σ.fr ex) (o.dst.getD 0) dr al mk g vs = some e) (hd : DenL Ω w vs ys) (hrun : Enters P g → (execOp a.eval o).run P w = .ok (.enter g ys.toArray) w) : Sound P X w0 Ω w a σ o mk e := by
  unfold callE at hsem
  split at hsem
  · rename_i as has
    split at hsem
    · rename_i r hr
      split at hsem
      · rename_i hpr
        obtain ⟨hent, hok⟩ := hcall g as r hr
        have hrun := hrun hent
        obtain ⟨k1, k2⟩ := DenL.frz (rdOk h ex 4) _ _ _ has hd
        have hC := hok.1 k2 (cOwn Ω w) w _ (base_cOwn h) k1
        intro ro n K Q hK
        have hC' : Calls P g ys.toArray w fun e w1 => ∃ x, e = .returned x ∧ ∃ Ω1, Below w.heap.size w w1 ∧ Den Ω1 w1 r x ∧ ResOk (cOwn Ω w) Ω1 w w1 r := fun cs' =>
          let ⟨e, w', fr, ⟨x, Ω1, q1, q2⟩, s, y⟩ := hC cs'
          ⟨e, w', fr, ⟨x, q1, Ω1, q2⟩, s, y⟩
        refine wp_enter hnd hrun hC' fun x w1 ⟨Ω1, hb, hden, hres⟩ => ?_
        split at hsem
        · rename_i hmk
          obtain ⟨d, hd, hfr⟩ := hmd hmk
          split at hsem
          · rename_i hdis
            have h100 : ∀ k n, (k, n) ∈ r.tks → k < 100 := fun k n hkn => by
              have := List.all_eq_true.1 hdis.2 (k, n) hkn
              simpa using this
            have fin : ∀ al' : Bool, (al' = true ∨ r.al = false) → e = .res (r.rn d) al' → K (a.put o.dst x) w1 := by
              rintro al' hal rfl
              obtain ⟨i1, i2⟩ := h.res hfr.2 (al := al') hb hres hden hpr hal h100
              refine hK x w1 _ (i1.putO hdst i2 a rfl) (fun d' hf' hne => fresh_res hf' (fun e => hne hmk (e ▸ hd)))
            rw [hd] at hsem
            simp only [Option.getD_some] at hsem
            split at hsem
            · split at hsem
              · cases hsem
              · simp only [Option.some.injEq] at hsem
                exact fin true (.inl rfl) hsem.symm
            · rename_i hal
              simp only [Option.some.injEq] at hsem
              refine fin false (.inr ?_) hsem.symm
              cases hra : r.al
              · rfl
              · exact absurd (.inr hra) hal
          · cases hsem
        · split at hsem
          · rename_i hbare
            simp only [Option.some.injEq] at hsem; subst hsem
            exact hK x w1 Ω ((inv_below h hb).putO hdst (Den.bare r x hpr (by simpa using hbare.1) hbare.2 hden) a rfl) (fun _ hf _ => hf)
          · cases hsem
      · cases hsem
    · cases hsem
  · cases hsem
section ops
variable {call : Nat → List V → Option V} {dr al : Bool} {root : Option Nat} {k : K} {xs : List Operand} {vs : List V} {e : Eff} {ex : List Nat}
  (h : Inv X w0 Ω w a.tmps σ) (hdst : ∀ d, o.dst = some d → d < a.tmps.size) (hv : DenL Ω w vs (xs.map a.eval))
  (hsem : sem call (bxOf σ.fr ex) (tkOf σ.tk ex) (o.dst.getD 0) k vs = some e)
include h hdst hv hsem

theorem sound_value {T : List (List V)} (hY : YieldOk P X w0 T) (hT : UpTo T (apply σ o.dst e)) (hcall : CallsOk P call) (hmd : mk = true → ∃ d, o.dst = some d ∧ Fresh Ω d) {c : Call} {f : Operand} (ho : o.op = .call c) (hc : c.callee = .value f) (hk : k = .call dr al mk) (hxs : xs = f :: c.args.toList) : Sound P X w0 Ω w a σ o mk e := by
  subst hk; subst hxs
  rw [List.map_cons] at hv
  obtain ⟨v, us, rfl, h1, h2⟩ := hv.invS
  have hnd : ∀ c, o.op ≠ .defer c := by simp [ho]
  cases v <;> (try (simp only [sem, reduceCtorEq] at hsem; done))
  rename_i g caps
  cases g with
  | y b =>
    cases caps with
    | cons _ _ => simp only [sem, reduceCtorEq] at hsem
    | nil =>
      simp only [sem] at hsem
      split at hsem
      · cases hsem
      · split at hsem
        · rename_i as ps hfr
          split at hsem
          · rename_i hc'
            simp only [Option.some.injEq] at hsem; subst hsem
            simp only [Den, Fk.Is, DenL] at h1
            obtain ⟨_, ⟨l, hyl, hf⟩, rfl⟩ := h1
            have h' := h.prot ps
            obtain ⟨g1, _⟩ := DenL.frzE (ps := ps) _ _ _ _ hfr (fun t ht => memN_self ht) h2
            have hout := h'.out
            simp only at hout
            cases htr : σ.tr with
            | none =>
              rw [htr] at hout
              have : Ω.yl = none := hY.none (Ω.prot ps) w hout
              rw [hyl] at this
              cases this
            | some tr =>
              rw [htr] at hout
              intro ro n K Q hK
              have hpre := hT (tr ++ [as]) (by simp [apply, htr])
              have hyl' : (Ω.prot ps).yl = some (l, b) := hyl
              obtain ⟨fn, tmps, asg, body, r1, _⟩ := hY.some ro n b l tr as _ _ w hout hyl' g1 hc'.2 hpre
              have hrun := run_yieldCall (P := P) (w := w) ho hc hf
              rw [show c.args.map a.eval = (c.args.toList.map a.eval).toArray by apply Array.ext'; simp, r1] at hrun
              refine wp_round hnd hrun (R := fun x w1 => x = .bool (goesOn b (some tr)) ∧ Inv X w0 (Ω.prot ps) w1 a.tmps { σ with tk := protT ps σ.tk, tr := some (tr ++ [as]) }) (fun n => ?_) fun x w1 hx => ?_
              · obtain ⟨fn', tmps', asg', body', r1', r2⟩ := hY.some ro n b l tr as _ _ w hout hyl' g1 hc'.2 hpre
                rw [r1] at r1'
                injection r1' with r1'
                injection r1' with _ e1 e2 e3 e4
                subst e1; subst e2; subst e3; subst e4
                refine RoundIn.mono r2 fun e w1 he => ?_
                obtain ⟨rfl, j1, j2, j3, j4, j5⟩ := he
                exact ⟨_, rfl, rfl, h'.other j2 j3 j4 j5 j1⟩
              · obtain ⟨rfl, hi⟩ := hx
                refine hK _ w1 (Ω.prot ps) ?_ fun d hfd _ => ⟨fun b hb => hfd.1 b (prot_box hb), fun b t p e hb => ?_⟩
                · have := hi.putO (dst := o.dst) (v := .bool (goesOn b (some tr))) (x := .bool (goesOn b (some tr))) hdst (by simp [Den]) a rfl
                  simpa only [apply, htr, Option.map_some] using this
                · obtain ⟨q, hq, _⟩ := prot_arr hb
                  exact hfd.2 b t q e hq
          · cases hsem
        · cases hsem
  | f g =>
    simp only [sem] at hsem
    simp only [Den, Fk.Is] at h1
    obtain ⟨cs, hf, hcs⟩ := h1
    refine sound_callE hdst h hcall hmd hnd hsem (h2.append hcs) fun hent => ?_
    rw [run_valueCall (w := w) ho hc hent hf]
    congr 2
    apply Array.ext'; simp
  | m g =>
    simp only [sem] at hsem
    simp only [Den, Fk.Is] at h1
    obtain ⟨cs, hf, hcs⟩ := h1
    refine sound_callE hdst h hcall hmd hnd hsem (hcs.append h2) fun hent => ?_
    rw [run_valueCall (w := w) ho hc hent hf]
    congr 2
    apply Array.ext'; simp
end ops

/-! ### Maps -/
open Go.ChangeMaps (setBlock)
theorem Yields.mbox (h : Inv X w0 Ω w a.tmps σ) {o : Oper} {d : Nat} (hdst : o.dst = some d) (hd : d < a.tmps.size) (hf : Fresh Ω d)
    (hr : (execOp a.eval o).run P w = .ok (.value (.map (some w.heap.size))) (w.alloc (.map #[] 0))) : Yields P X w0 Ω w a o (apply σ o.dst (.val (.mbox []))) true := by
  refine ⟨_, _, Ω.mkBox w.heap.size d, .inl hr, ?_, fun d' hf' hne => ?_⟩
  · simp only [apply, hdst, Lo.putO, Act.put]
    exact h.mkMap hd hf.1
  · have hne : d' ≠ d := fun e => hne rfl (e ▸ hdst)
    refine ⟨fun b hb => ?_, fun b t p e hb => ?_⟩
    · simp only [Own.mkBox] at hb
      split at hb
      · injection hb with hb; exact hne hb.symm
      · exact hf'.1 b hb
    · simp only [Own.mkBox] at hb
      split at hb
      · cases hb
      · exact hf'.2 b t p e hb
theorem map_at (h : Inv X w0 Ω w a.tmps σ) {s : Nat} {x : Value} {ex : List Nat} {cs : List V} (hx : Den Ω w (.mref s) x) (hb : bxOf σ.fr ex (s + 1000000) = some cs) :
    ∃ b es clk, x = .map (some b) ∧ Ω.o b = .box s ∧ w.heap[b]? = some (.map es clk) ∧ MapD Ω w cs es ∧ get σ.fr s = some (.mbox cs) := by
  obtain ⟨hg, _⟩ := mpOf_get hb
  obtain ⟨_, h2⟩ := h.slot s _ hg
  simp only [DenS] at h2
  obtain ⟨b, es, clk, e1, e2, e3, e4⟩ := h2
  simp only [Den] at hx
  obtain ⟨b', hx1, hx2⟩ := hx
  have := h.uniq b b' s e2 hx2
  subst this
  exact ⟨b, es, clk, hx1, e2, e3, e4, hg⟩
theorem MapD.keys {cs : List V} {es : Array MapEntry} (h : MapD Ω w cs es) : KeysI es := fun e he => by
  obtain ⟨n, v, h1, h2, _⟩ := h.1 e he
  exact ⟨n, h1, h2⟩
theorem look_map (h : Inv X w0 Ω w a.tmps σ) {t : TypeId} {x i : Operand} (ho : o.op = .lookup t x i false) (hm : mapC P t = true) {s : Nat} {n : Int} {ex : List Nat} {cs : List V}
    (hx : Den Ω w (.mref s) (a.eval x)) (hi : Den Ω w (.int .i64 n) (a.eval i)) (hn : -9223372036854775808 ≤ n ∧ n ≤ 9223372036854775807) (hb : bxOf σ.fr ex (s + 1000000) = some cs) :
    (lookM cs n = none ∧ (execOp a.eval o).run P w = .ok (.value (.slice none 0 0)) w) ∨ ∃ v y, lookM cs n = some v ∧ Den Ω w v y ∧ (execOp a.eval o).run P w = .ok (.value y) w := by
  obtain ⟨b, es, clk, e1, e2, e3, e4, _⟩ := map_at h hx hb
  obtain ⟨k, e, inf, t1, t2, t3, t4⟩ := mapC_spec hm
  simp only [Den] at hi
  have hrun : (execOp a.eval o).run P w = ((Instr.lookup t (a.eval x) (a.eval i) false).run P w).andThen (fun v w => .ok (.value v) w) := by
    simp only [execOp, ho, Sem.run_bind]
    congr 1
  rw [hrun, e1, hi]
  rcases map_look t1 t2 t3 t4 e3 e4.keys (int_wf hn) with ⟨h1, h2⟩ | ⟨e0, h1, h2, h3⟩
  · left
    refine ⟨?_, by rw [h1]; rfl⟩
    cases hl : lookM cs n with
    | none => rfl
    | some v =>
      obtain ⟨x, hx, hk⟩ := e4.2.1 n v hl
      exact absurd hk (h2 x hx)
  · right
    obtain ⟨m, v, k1, k2, k3, k4⟩ := e4.1 e0 h1
    rw [h2] at k1
    injection k1 with _ k1
    subst k1
    exact ⟨v, e0.val, k3, k4, by rw [h3]; rfl⟩
theorem yields_mput (h : Inv X w0 Ω w a.tmps σ) (hd : ∀ d, o.dst = some d → d < a.tmps.size) {t : TypeId} {x i z : Operand} (ho : o.op = .mapUpdate t x i z) (hm : mapC P t = true) {s : Nat} {n : Int} {v : V} {ex : List Nat} {cs : List V}
    (hx : Den Ω w (.mref s) (a.eval x)) (hi : Den Ω w (.int .i64 n) (a.eval i)) (hz : Den Ω w v (a.eval z)) (hn : -9223372036854775808 ≤ n ∧ n ≤ 9223372036854775807) (hb : bxOf σ.fr ex (s + 1000000) = some cs) :
    Yields P X w0 Ω w a o (apply σ o.dst (.msto s (setM cs n v))) mk := by
  obtain ⟨b, es, clk, e1, e2, e3, e4, hg⟩ := map_at h hx hb
  obtain ⟨k, e, inf, t1, t2, t3, t4⟩ := mapC_spec hm
  simp only [Den] at hi
  obtain ⟨es', clk', r1, r2, r3, r4, r5⟩ := map_store (P := P) (w := w) t1 t2 e3 e4.keys e4.2.2 (int_wf hn) (a.eval z)
  have hrun : (execOp a.eval o).run P w = ((Instr.mapUpdate t (a.eval x) (a.eval i) (a.eval z)).run P w).andThen (fun _ w => .ok .skip w) := by
    simp only [execOp, ho, Sem.run_bind]
    congr 1
  have hblt : b < w.heap.size := (Array.getElem?_eq_some_iff.1 e3).1
  have h3 := h.msto (w' := setBlock w b (.map es' clk')) (es' := es') (clk' := clk') e2 e3 ⟨rfl, rfl, rfl, by simp [setBlock]⟩ (by simp [setBlock, hblt]) (fun c hc => by simp [setBlock, Ne.symm hc]) hg (cs := setM cs n v) ⟨fun y hy => ?_, fun m u hu => ?_, r5⟩
  · refine ⟨undef, _, Ω, .inr ⟨by rw [hrun, e1, hi, r1]; rfl, rfl⟩, ?_, fun _ hf _ => hf⟩
    exact h3.putO hd (by simp [Den]) a rfl
  · rcases r2 y hy with ⟨q1, q2⟩ | ⟨q1, q2⟩
    · obtain ⟨m, u, k1, k2, k3, k4⟩ := e4.1 y q1
      refine ⟨m, u, k1, k2, ?_, k4⟩
      rw [lookM_set, if_neg (fun e => q2 (by rw [k1, e]))]
      exact k3
    · exact ⟨n, v, q1, int_wf hn, by rw [lookM_set, if_pos rfl], by rw [q2]; exact hz⟩
  · rw [lookM_set] at hu
    by_cases e : n = m
    · subst e
      obtain ⟨x, hx, hk⟩ := r4
      exact ⟨x, hx, hk⟩
    · rw [if_neg e] at hu
      obtain ⟨x, hx, hk⟩ := e4.2.1 m u hu
      refine ⟨x, r3 x hx (fun e2 => e ?_), hk⟩
      have q := hk.symm.trans e2
      simp only [Value.int.injEq, true_and] at q
      exact q.symm
theorem callee_value {c : Call} {f : Operand} {dr al mk : Bool} (hc : c.callee = .value f) : callC P c dr al mk = some (.call dr al mk, f :: c.args.toList) := by
  unfold callC; rw [hc]
/-- Every operation. -/
theorem op_sound {call : Nat → List V → Option V} {T : List (List V)} (hY : YieldOk P X w0 T) (hcall : CallsOk P call) {dr al : Bool} {root : Option Nat} {k : K} {xs : List Operand} {ys : List Opd} {vs : List V} {e : Eff} {ex : List Nat}
    (h : Inv X w0 Ω w a.tmps σ) (hdst : ∀ d, o.dst = some d → d < a.tmps.size) (hop : opC P o.op dr al (makes P o) root = some (k, xs)) (hys : opdsC xs = some ys) (hvs : opds σ.fr ys = some vs)
    (hsem : sem call (bxOf σ.fr ex) (tkOf σ.tk ex) (o.dst.getD 0) k vs = some e) (hmk : makes P o = true → ∃ d, o.dst = some d) (hnd : needs P dr o = true → (isAppend o = true → ∃ y, vs = [.nil, y]) → ∀ d, o.dst = some d → Fresh Ω d) (hT : UpTo T (apply σ o.dst e)) : Sound P X w0 Ω w a σ o (makes P o) e := by
  have hmd : isAppend o = false → makes P o = true → ∃ d, o.dst = some d ∧ Fresh Ω d := fun ha hm => by
    obtain ⟨d, hd⟩ := hmk hm
    exact ⟨d, hd, hnd (by simp [needs, hm, ha]) (fun h => by rw [ha] at h; cases h) d hd⟩
  have hv := opds_sound h hys hvs
  cases ho : o.op <;> (try (simp only [ho, opC, reduceCtorEq] at hop; done))
  case move => exact sound_move h hdst hop hv hsem ho
  case assign => exact sound_assign h hdst hop hv hsem ho
  case pick => exact sound_pick h hdst hop hv hsem ho
  case alloc =>
    have hm : makes P o = true := by simp [makes, ho]
    rw [hm] at hop ⊢
    exact sound_alloc h hdst hv hsem hop (hmd (by simp [isAppend, ho]) hm) ho
  case box =>
    have hm : makes P o = true := by simp [makes, ho]
    rw [hm] at hop ⊢
    exact sound_box h hdst hv hsem hop (hmd (by simp [isAppend, ho]) hm) ho
  case build => exact sound_build h hdst hop hv hsem ho
  case buildSlice =>
    have hm : makes P o = true := by simp [makes, ho]
    rw [hm] at hop ⊢
    exact sound_buildSlice h hdst hv hsem hop (hmd (by simp [isAppend, ho]) hm) ho
  case load => exact sound_load h hdst hop hv hsem ho
  case store => exact sound_store h hdst hv hsem hop ho
  case nilCheck => exact sound_nilc h hdst hop hv hsem ho
  case binOp => exact sound_bin h hdst hop hv hsem ho
  case unOp => exact sound_un h hdst hop hv hsem ho
  case convert => exact sound_conv h hdst hop hv hsem ho
  case makeFunc => exact sound_mkf h hdst hop hv hsem ho
  case makeSlice =>
    have hm : makes P o = true := by simp [makes, ho]
    rw [hm] at hop ⊢
    exact sound_makeSlice h hdst hv hsem hop (hmd (by simp [isAppend, ho]) hm) ho
  case slice => exact sound_slice h hdst hop hv hsem ho
  case fieldAddr => exact sound_fa h hdst hop hv hsem ho
  case field => exact sound_field h hdst hop hv hsem ho
  case indexAddr => exact sound_ia h hdst hop hv hsem ho
  case index => exact sound_index h hdst hop hv hsem ho
  case extract => exact sound_ext h hdst hop hv hsem ho
  case makeMap t r =>
    have hm : makes P o = true := by simp [makes, ho]
    obtain ⟨d, hd, hf⟩ := hmd (by simp [isAppend, ho]) hm
    cases r with
    | some x => simp [ho, opC] at hop
    | none =>
      simp only [ho, opC] at hop
      split at hop
      · simp only [Option.some.injEq, Prod.mk.injEq] at hop
        obtain ⟨rfl, rfl⟩ := hop
        have hnil : vs = [] := by
          cases vs with
          | nil => rfl
          | cons v vs => simp [DenL] at hv
        subst hnil
        simp only [sem, Option.some.injEq] at hsem; subst hsem
        rw [hm]
        exact (Yields.mbox h hd (hdst d hd) hf (by simp only [execOp, ho, Sem.run_bind]; rfl)).sound (by simp [ho])
      · cases hop
  case lookup t x i c =>
    cases c with
    | true => simp [ho, opC] at hop
    | false =>
      simp only [ho, opC] at hop
      split at hop
      · rename_i hmc
        simp only [Option.some.injEq, Prod.mk.injEq] at hop
        obtain ⟨rfl, rfl⟩ := hop
        obtain ⟨v, u, rfl, h1, h2⟩ := hv.inv2
        simp only [sem] at hsem
        split at hsem
        · rename_i s n heq
          simp only [List.cons.injEq, and_true] at heq
          obtain ⟨rfl, rfl⟩ := heq
          split at hsem
          · rename_i hn
            split at hsem
            · rename_i cs hb
              rcases look_map h ho hmc h1 h2 hn hb with ⟨g1, g2⟩ | ⟨v, y, g1, g2, g3⟩
              · rw [g1] at hsem
                simp only [Option.some.injEq] at hsem; subst hsem
                exact sound_val h hdst (by simp [ho]) ⟨_, g2, by simp [Den]⟩
              · rw [g1] at hsem
                split at hsem
                · cases hsem
                · rename_i v' _ heq
                  injection heq with heq; subst heq
                  simp only [Option.some.injEq] at hsem; subst hsem
                  exact sound_val h hdst (by simp [ho]) ⟨_, g3, g2⟩
                · rename_i heq; cases heq
            · cases hsem
          · cases hsem
        · cases hsem
      · cases hop
  case mapUpdate t x i z =>
    simp only [ho, opC] at hop
    split at hop
    · rename_i hmc
      simp only [Option.some.injEq, Prod.mk.injEq] at hop
      obtain ⟨rfl, rfl⟩ := hop
      obtain ⟨v, u, z', rfl, h1, h2, h3⟩ := hv.inv3
      simp only [sem] at hsem
      split at hsem
      · rename_i s n heq
        simp only [List.cons.injEq, and_true] at heq
        obtain ⟨rfl, rfl, rfl⟩ := heq
        split at hsem
        · rename_i hn
          split at hsem
          · rename_i cs hb
            simp only [Option.some.injEq] at hsem; subst hsem
            exact (yields_mput h hdst ho hmc h1 h2 h3 hn hb).sound (by simp [ho])
          · cases hsem
        · cases hsem
      · rename_i s n t' sz es heq
        simp only [List.cons.injEq, and_true] at heq
        obtain ⟨rfl, rfl, rfl⟩ := heq
        split at hsem
        · rename_i hn
          split at hsem
          · rename_i cs hb
            simp only [Option.some.injEq] at hsem; subst hsem
            exact (yields_mput h hdst ho hmc h1 h2 h3 hn hb).sound (by simp [ho])
          · cases hsem
        · cases hsem
      · cases hsem
    · cases hop
  case call c =>
    simp only [ho, opC] at hop
    cases hc : c.callee with
    | value f =>
      rw [callee_value hc] at hop
      simp only [Option.some.injEq, Prod.mk.injEq] at hop
      exact sound_value h hdst hv hsem hY hT hcall (hmd (by
        obtain ⟨callee, args, argTypes⟩ := c
        simp only at hc
        subst hc
        simp [isAppend, ho])) ho hc hop.1.symm hop.2.symm
    | invoke r m => simp [callC, hc] at hop
    | builtin b =>
      simp only [callC, hc] at hop
      split at hop
      · rename_i x t hx ht
        cases hel : elemC P t with
        | none => simp [hel] at hop
        | some el =>
          simp only [hel, Option.map_some, Option.some.injEq, Prod.mk.injEq] at hop
          obtain ⟨rfl, rfl⟩ := hop
          obtain ⟨v, rfl, h1⟩ := hv.inv1
          cases v <;> simp only [sem, Option.some.injEq, reduceCtorEq] at hsem
          · subst hsem
            simp only [Den] at h1
            exact sound_val h hdst (by simp [ho]) ⟨_, run_lenOp ho hc hx ht hel h1, by simp [Den]⟩
          · subst hsem
            obtain ⟨p, q, h2⟩ := sl_len h1
            exact sound_val h hdst (by simp [ho]) ⟨_, run_lenOp ho hc hx ht hel h2, by simp [Den]⟩
      · rename_i x t hx ht
        cases hel : elemC P t with
        | none => simp [hel] at hop
        | some el =>
          simp only [hel, Option.map_some, Option.some.injEq, Prod.mk.injEq] at hop
          obtain ⟨rfl, rfl⟩ := hop
          obtain ⟨v, rfl, h1⟩ := hv.inv1
          cases v <;> simp only [sem, Option.some.injEq, reduceCtorEq] at hsem
          subst hsem
          simp only [Den] at h1
          exact sound_val h hdst (by simp [ho]) ⟨_, run_capOp ho hc hx ht hel h1, by simp [Den]⟩
      · rename_i x y t u hx ht
        split at hop
        · rename_i el el' he he'
          split at hop
          · rename_i n b z hs hb hz
            split at hop
            · rename_i hn
              simp only [Option.some.injEq, Prod.mk.injEq] at hop
              have hm : makes P o = true := by
                obtain ⟨callee, args, argTypes⟩ := c
                simp only at hc
                subst hc
                simp [makes, ho]
              rw [hm]
              exact sound_append h hdst hv hsem ⟨⟨c, u, el', ho, hc, hx, ht, he'⟩, he, hs, hb, hz, hn⟩ hop.1.symm hop.2.symm (by
                obtain ⟨d, hd⟩ := hmk hm
                exact ⟨d, hd, fun hdr hnil => hnd (by simp [needs, hm, hdr]) (fun _ => hnil) d hd⟩)
            · cases hop
          · cases hop
        · rename_i el he he'
          split at hop
          · rename_i q n b z hu hs hb hz
            split at hop
            · rename_i hn
              simp only [Option.some.injEq, Prod.mk.injEq] at hop
              have hm : makes P o = true := by
                obtain ⟨callee, args, argTypes⟩ := c
                simp only at hc
                subst hc
                simp [makes, ho]
              rw [hm]
              exact sound_appz h hdst hv hsem ⟨⟨c, u, q, ho, hc, hx, ht, hu⟩, he, hs, hb, hz, hn.1, hn.2.1⟩ hop.1.symm hop.2.symm (hmk hm)
            · cases hop
          · cases hop
        · cases hop
      · simp only [Option.some.injEq, Prod.mk.injEq] at hop
        obtain ⟨rfl, rfl⟩ := hop
        simp only [sem] at hsem
        split at hsem
        · rename_i q m ms hi
          simp only [Option.some.injEq] at hsem; subst hsem
          exact sound_val h hdst (by simp [ho]) ⟨_, run_maxOp ho hc (intsOf_den hi hv), by simp [Den]⟩
        · cases hsem
      · simp only [Option.some.injEq, Prod.mk.injEq] at hop
        obtain ⟨rfl, rfl⟩ := hop
        simp only [sem] at hsem
        split at hsem
        · rename_i q m ms hi
          simp only [Option.some.injEq] at hsem; subst hsem
          exact sound_val h hdst (by simp [ho]) ⟨_, run_minOp ho hc (intsOf_den hi hv), by simp [Den]⟩
        · cases hsem
      · cases hop
end
end Go.Lo

/- Instructions that stand apart may change places. -/
namespace Go.Lo

/-! ### Puts -/
theorem put_comm {α : Type} : ∀ (l : List (Nat × α)) {s t : Nat} {u v : α}, s ≠ t → put (put l s u) t v = put (put l t v) s u
  | [], s, t, u, v, h => by
    simp only [put]
    by_cases h1 : s < t
    · have : ¬ t < s := by omega
      simp [h, h.symm, h1, this]
    · have : t < s := by omega
      simp [h, h.symm, h1, this]
  | (k, w) :: l, s, t, u, v, h => by
    simp only [put]
    by_cases e1 : k = s <;> by_cases e2 : k = t
    · omega
    · subst e1
      by_cases h2 : t < k
      · simp only [put, if_true, if_neg e2, if_pos h2, if_neg h.symm, if_neg (by omega : ¬ k < t)]
      · simp only [put, if_true, if_neg e2, if_neg h2]
    · subst e2
      by_cases h1 : s < k
      · simp only [put, if_true, if_neg e1, if_pos h1, if_neg h, if_neg (by omega : ¬ k < s)]
      · simp only [put, if_true, if_neg e1, if_neg h1]
    · by_cases h1 : s < k <;> by_cases h2 : t < k
      · simp only [put, if_neg e1, if_neg e2, if_pos h1, if_pos h2]
        by_cases h3 : s < t
        · simp only [if_neg h, if_neg h.symm, if_neg (by omega : ¬ t < s), if_pos h3]
        · simp only [if_neg h, if_neg h.symm, if_pos (by omega : t < s), if_neg h3]
      · simp only [put, if_neg e1, if_neg e2, if_pos h1, if_neg h2, if_neg h, if_neg (by omega : ¬ t < s)]
      · simp only [put, if_neg e1, if_neg e2, if_neg h1, if_pos h2, if_neg h.symm, if_neg (by omega : ¬ s < t)]
      · simp only [put, if_neg e1, if_neg e2, if_neg h1, if_neg h2]
        rw [put_comm l h]
theorem put_protT (ps : List Nat) : ∀ (l : List (Nat × Nat × Bool)) {t : Nat} {v : Nat × Bool}, memN t ps = false → protT ps (put l t v) = put (protT ps l) t v
  | [], t, v, h => by obtain ⟨n, w⟩ := v; simp [put, protT, h]
  | (k, n, w) :: l, t, (n', w'), h => by
    simp only [put]
    by_cases e : k = t
    · subst e
      simp [protT, put, h]
    · by_cases h1 : t < k
      · simp only [if_neg e, if_pos h1, protT, h, Bool.false_eq_true, if_false]
        split <;> simp [put, e, h1]
      · simp only [if_neg e, if_neg h1, protT, put_protT ps l h]
        split <;> simp [put, e, h1]
theorem put_lenT {u m : Nat} : ∀ (l : List (Nat × Nat × Bool)) {t : Nat} {v : Nat × Bool}, t ≠ u → lenT u m (put l t v) = put (lenT u m l) t v
  | [], t, v, h => by obtain ⟨n, w⟩ := v; simp [put, lenT, h]
  | (k, n, w) :: l, t, (n', w'), h => by
    simp only [put]
    by_cases e : k = t
    · subst e
      simp [lenT, put, h]
    · by_cases h1 : t < k
      · simp only [if_neg e, if_pos h1, lenT, if_neg h]
        split <;> simp [put, e, h1]
      · simp only [if_neg e, if_neg h1, lenT, put_lenT l h]
        split <;> simp [put, e, h1]
theorem protT_comm (ps qs : List Nat) : ∀ (l : List (Nat × Nat × Bool)), protT ps (protT qs l) = protT qs (protT ps l)
  | [] => rfl
  | (k, n, w) :: l => by
    simp only [protT]
    by_cases h1 : memN k ps = true <;> by_cases h2 : memN k qs = true <;> simp [h1, h2, protT_comm ps qs l]
theorem protT_lenT (ps : List Nat) {u m : Nat} : ∀ (l : List (Nat × Nat × Bool)), protT ps (lenT u m l) = lenT u m (protT ps l)
  | [] => rfl
  | (k, n, w) :: l => by
    simp only [protT, lenT]
    by_cases h2 : k = u
    · subst h2
      by_cases h1 : memN k ps = true <;> simp [protT, h1]
    · by_cases h1 : memN k ps = true <;> simp [protT, h1, h2, protT_lenT ps l]
theorem lenT_comm {t n u m : Nat} (h : t ≠ u) : ∀ (l : List (Nat × Nat × Bool)), lenT t n (lenT u m l) = lenT u m (lenT t n l)
  | [] => rfl
  | (k, q, w) :: l => by
    simp only [lenT]
    by_cases h1 : k = t <;> by_cases h2 : k = u
    · omega
    · subst h1; simp [lenT, h2]
    · subst h2; simp [lenT, h1]
    · simp [lenT, h1, h2, lenT_comm h l]

/-! ### What an instruction looks at and turns -/
structure Quiet (x y : LIns) : Prop where
  dst : ∀ d, x.dst = some d → memN d (looksL y) = false ∧ y.dst ≠ some d ∧ rootK y.k ≠ some d ∧ memN d y.ex = true
  root : ∀ r, rootK x.k = some r → memN r y.ex = true ∧ rootK y.k ≠ some r ∧ y.dst ≠ some r
  draw : drawK x.k = true
  made : mkK x.k = true → x.dst.isSome = true
theorem quietL_spec {x y : LIns} (h : quietL x y = true) : Quiet x y := by
  unfold quietL at h
  simp only [Bool.and_eq_true, Bool.or_eq_true, Bool.not_eq_true'] at h
  obtain ⟨⟨⟨h1, h2⟩, h3⟩, h4⟩ := h
  refine ⟨fun d hd => ?_, fun r hr => ?_, h3, fun hm => ?_⟩
  · rw [hd] at h1
    simp only [Bool.and_eq_true, Bool.not_eq_true', bne_iff_ne, ne_eq] at h1
    exact ⟨h1.1.1.1, h1.1.1.2, h1.1.2, h1.2⟩
  · rw [hr] at h2
    simp only [Bool.and_eq_true, bne_iff_ne, ne_eq] at h2
    exact ⟨h2.1.1, h2.1.2, h2.2⟩
  · rcases h4 with h4 | h4
    · rw [hm] at h4; cases h4
    · exact h4
/-- The effects of such an instruction. -/
def DrawEff (i : LIns) : Eff → Prop
  | .val _ => True
  | .mk _ t _ ps => (∃ d, i.dst = some d ∧ t / 100 = d) ∧ ∀ p ∈ ps, memN (p / 100) i.ex = false
  | .mkp _ _ _ => False
  | .trunc _ _ _ => False
  | .app _ t _ => memN (t / 100) i.ex = false ∧ isAppK i.k = true
  | .prot _ ps => ∀ p ∈ ps, memN (p / 100) i.ex = false
  | .yld _ _ _ => False
  | .msto _ _ => False
  | .sto s _ => rootK i.k = some s
  | .est _ _ _ _ => False
  | .res v al => (al = true → alK i.k = true) ∧ ∃ d, i.dst = some d ∧ ∀ p ∈ v.tks, p.1 / 100 = d
theorem tkOf_some {tk : List (Nat × Nat × Bool)} {ex : List Nat} {t : Nat} (h : (tkOf tk ex t).isSome = true) : memN (t / 100) ex = false := by
  unfold tkOf at h
  split at h
  · cases h
  · rename_i hm; simpa using hm
theorem callE_draw {call : Nat → List V → Option V} {bx : Nat → Option (List V)} {d f : Nat} {al mk : Bool} {vs : List V} {e : Eff} (h : callE call bx d true al mk f vs = some e) : (∃ v, e = .val v) ∨ (mk = true ∧ ∃ v al', (al' = true → al = true) ∧ e = .res v al' ∧ ∀ p ∈ v.tks, p.1 / 100 = d) := by
  unfold callE at h
  split at h
  case h_2 => cases h
  split at h
  case h_2 => cases h
  rename_i r _
  split at h
  case isFalse => cases h
  split at h
  · rename_i hmk
    split at h
    case isFalse => cases h
    rename_i hdis
    have tks : ∀ p ∈ (r.rn d).tks, p.1 / 100 = d := by
      intro p hp
      obtain ⟨t, n⟩ := p
      obtain ⟨q, h3, h4⟩ := rn_tks _ hp
      have := List.all_eq_true.1 hdis.2 (q, n) h4
      simp only [decide_eq_true_eq] at this
      show t / 100 = d
      omega
    split at h
    · split at h
      · cases h
      · rename_i hal
        simp only [Option.some.injEq] at h; subst h
        refine .inr ⟨hmk, _, true, fun _ => ?_, rfl, tks⟩
        cases al
        · exact absurd ⟨rfl, rfl⟩ hal
        · rfl
    · simp only [Option.some.injEq] at h; subst h
      exact .inr ⟨hmk, _, false, (fun x => by cases x), rfl, tks⟩
  · split at h
    · simp only [Option.some.injEq] at h; subst h; exact .inl ⟨_, rfl⟩
    · cases h
theorem drawEff {call : Nat → List V → Option V} {bx : Nat → Option (List V)} {tk : List (Nat × Nat × Bool)} {i : LIns} {vs : List V} {e : Eff} (hd : drawK i.k = true) (hm : mkK i.k = true → i.dst.isSome = true)
    (h : sem call bx (tkOf tk i.ex) (i.dst.getD 0) i.k vs = some e) : DrawEff i e := by
  have hval : ∀ {x : Option V}, valO x = some e → DrawEff i e := fun hx => by
    obtain ⟨v, _, rfl⟩ := valO_some hx
    trivial
  have mkd : mkK i.k = true → ∃ d, i.dst = some d ∧ i.dst.getD 0 = d := fun hx => by
    obtain ⟨d, hd⟩ := Option.isSome_iff_exists.1 (hm hx)
    exact ⟨d, hd, by rw [hd]; rfl⟩
  have key : ∀ t x, tkOf tk i.ex t = some x → memN (t / 100) i.ex = false := fun t x h => tkOf_some (by rw [h]; rfl)
  generalize hdd : i.dst.getD 0 = dd at h
  cases hk : i.k <;> rw [hk] at h <;> simp only [sem] at h
  case bsl sz z len ix =>
    obtain ⟨d, h1, h2⟩ := mkd (by rw [hk]; rfl)
    split at h
    · split at h
      · rename_i es ps hf hp
        simp only [Option.some.injEq] at h; subst h
        refine ⟨⟨d, h1, by omega⟩, fun p hps => tkOf_some (List.all_eq_true.1 hp p hps)⟩
      · cases h
    · cases h
  case mks sz b z =>
    obtain ⟨d, h1, h2⟩ := mkd (by rw [hk]; rfl)
    repeat' split at h
    all_goals first
      | (cases h; done)
      | (simp only [Option.some.injEq] at h; subst h; exact ⟨⟨d, h1, by omega⟩, by simp⟩)
  case append dr sz b =>
    obtain ⟨d, h1, h2⟩ := mkd (by rw [hk]; rfl)
    have hdr : dr = true := by rw [hk] at hd; exact hd
    subst hdr
    repeat' split at h
    all_goals first
      | (cases h; done)
      | (simp only [Option.some.injEq] at h; subst h; exact trivial)
      | (simp only [Option.some.injEq] at h; subst h; exact ⟨⟨d, h1, by omega⟩, by simp⟩)
      | (simp only [Option.some.injEq] at h; subst h; exact ⟨key _ _ (by assumption), by rw [hk]; rfl⟩)
      | exact absurd rfl ‹¬ true = true›
  case appo sz b =>
    obtain ⟨d, h1, h2⟩ := mkd (by rw [hk]; rfl)
    repeat' split at h
    all_goals first
      | (cases h; done)
      | (simp only [Option.some.injEq] at h; subst h; exact trivial)
      | (simp only [Option.some.injEq] at h; subst h; exact ⟨key _ _ (by assumption), by rw [hk]; rfl⟩)
  case appz sz b z => rw [hk] at hd; simp [drawK] at hd
  case trunc sz => rw [hk] at hd; simp [drawK] at hd
  case mput => rw [hk] at hd; simp [drawK] at hd
  case sls sz lo hi mx =>
    repeat' split at h
    all_goals first
      | (cases h; done)
      | (simp only [Option.some.injEq] at h; subst h; exact trivial)
      | (simp only [Option.some.injEq] at h; subst h; intro p hp; rw [List.mem_singleton] at hp; subst hp; exact tkOf_some (by assumption))
  case store n root =>
    cases root with
    | none => rw [hk] at hd; simp [drawK] at hd
    | some r =>
      split at h
      · split at h
        · rename_i hc
          split at h
          · split at h
            · simp only [Option.some.injEq] at h; subst h
              rcases hc.2.2.2 with hc | hc
              · cases hc
              · injection hc with hc
                subst hc
                rw [DrawEff, hk]; rfl
            · cases h
          · cases h
        · cases h
      · cases h
      · cases h
  case call dr al mk =>
    have hdr : dr = true := by rw [hk] at hd; exact hd
    subst hdr
    have fin : ∀ {f : Nat} {us : List V}, callE call bx dd true al mk f us = some e → DrawEff i e := fun hc => by
      rcases callE_draw hc with ⟨v, rfl⟩ | ⟨hmk, v, al', hal', rfl, hp⟩
      · trivial
      · subst hmk
        obtain ⟨d, h1, h2⟩ := mkd (by rw [hk]; rfl)
        exact ⟨fun hx => by rw [hk, hal' hx]; rfl, d, h1, fun p hpm => by rw [hp p hpm, ← hdd]; exact h2⟩
    split at h
    · exact fin h
    · exact fin h
    · simp only [if_true, reduceCtorEq] at h
    · cases h
  all_goals
    repeat' split at h
    all_goals first
      | (cases h; done)
      | exact hval h
      | (simp only [Option.some.injEq] at h; subst h; exact trivial)
def tokE : Eff → Bool
  | .mk _ _ _ _ => true
  | .app _ _ _ => true
  | .prot _ _ => true
  | .res _ _ => true
  | _ => false
theorem drawTok {call : Nat → List V → Option V} {bx : Nat → Option (List V)} {tk : Nat → Option (Nat × Bool)} {d : Nat} {k : K} {vs : List V} {e : Eff} (hd : drawK k = true) (h : sem call bx tk d k vs = some e) (ht : tokE e = true) : tokK k = true := by
  have hval : ∀ {x : Option V}, valO x = some e → tokK k = true := fun hx => by
    obtain ⟨v, _, rfl⟩ := valO_some hx
    cases ht
  cases k <;> simp only [sem] at h <;> (try rfl)
  case appz => simp [drawK] at hd
  case trunc => simp [drawK] at hd
  case mput => simp [drawK] at hd
  case call dr al mk =>
    have hdr : dr = true := hd
    subst hdr
    have fin : ∀ {f : Nat} {us : List V}, callE call bx d true al mk f us = some e → tokK (.call true al mk) = true := fun hc => by
      rcases callE_draw hc with ⟨v, rfl⟩ | ⟨hmk, v, al', hal', rfl, hp⟩
      · cases ht
      · exact hmk
    split at h
    · exact fin h
    · exact fin h
    · simp only [if_true, reduceCtorEq] at h
    · cases h
  all_goals
    repeat' split at h
    all_goals first
      | (cases h; done)
      | exact hval h
      | (simp only [Option.some.injEq] at h; subst h; cases ht)
/-- Of the arrays it asks at most which there are; an append asks for their lengths. -/
theorem sem_tk {call : Nat → List V → Option V} {bx : Nat → Option (List V)} {tk tk' : Nat → Option (Nat × Bool)} {d : Nat} {k : K} {vs : List V} (hd : drawK k = true)
    (h1 : ∀ t, (tk t).isSome = (tk' t).isSome) (h2 : isAppK k = true → ∀ t, (tk t).map (·.1) = (tk' t).map (·.1)) : sem call bx tk d k vs = sem call bx tk' d k vs := by
  cases k <;> simp only [sem]
  case bsl => simp only [h1]
  case trunc => simp [drawK] at hd
  case sls => simp only [h1]
  case call dr al mk => simp only [h1]
  case store n root =>
    cases root with
    | none => simp [drawK] at hd
    | some r => rfl
  case append dr sz b =>
    have h2 := h2 rfl
    split
    · rfl
    · rename_i t sz1 xs y
      have := h2 t
      cases h3 : tk t with
      | none =>
        cases h4 : tk' t with
        | none => rfl
        | some q => rw [h3, h4] at this; cases this
      | some p =>
        cases h4 : tk' t with
        | none => rw [h3, h4] at this; cases this
        | some q =>
          obtain ⟨n1, w1⟩ := p
          obtain ⟨n2, w2⟩ := q
          rw [h3, h4] at this
          simp only [Option.map_some, Option.some.injEq] at this
          subst this
          rfl
    · rfl
  case appo sz b =>
    have h2 := h2 rfl
    split
    · rename_i t sz1 xs y
      have := h2 t
      cases h3 : tk t with
      | none =>
        cases h4 : tk' t with
        | none => rfl
        | some q => rw [h3, h4] at this; cases this
      | some p =>
        cases h4 : tk' t with
        | none => rw [h3, h4] at this; cases this
        | some q =>
          obtain ⟨n1, w1⟩ := p
          obtain ⟨n2, w2⟩ := q
          rw [h3, h4] at this
          simp only [Option.map_some, Option.some.injEq] at this
          subst this
          rfl
    · rfl
end Go.Lo

/- Instructions that stand apart may change places: the proof. -/
namespace Go.Lo

def effI (call : Nat → List V → Option V) (i : LIns) (σ : St) : Option (Option Eff) :=
  match wanted σ.fr i.guard with
  | some true => match opds σ.fr i.xs with
    | some vs => (match sem call (bxOf σ.fr i.ex) (tkOf σ.tk i.ex) (i.dst.getD 0) i.k vs with
      | some e => some (some e)
      | none => none)
    | none => none
  | some false => some none
  | none => none
def applyO (σ : St) (dst : Option Nat) : Option Eff → St
  | some e => apply σ dst e
  | none => { σ with fr := putO σ.fr dst .und }
theorem stepI_eff (call : Nat → List V → Option V) (i : LIns) (σ : St) : stepI call i σ = (effI call i σ).map (applyO σ i.dst) := by
  unfold stepI effI
  cases wanted σ.fr i.guard with
  | none => rfl
  | some b =>
    cases b with
    | false => rfl
    | true =>
      simp only
      cases opds σ.fr i.xs with
      | none => rfl
      | some vs =>
        simp only
        cases sem call (bxOf σ.fr i.ex) (tkOf σ.tk i.ex) (i.dst.getD 0) i.k vs <;> rfl
def DrawEffO (i : LIns) : Option Eff → Prop
  | some e => DrawEff i e
  | none => True

/-! ### The writes of an effect -/
def rootE : Option Eff → Option Nat
  | some (.sto s _) => some s
  | _ => none
def boxE : Option Eff → V
  | some (.sto _ cs) => .box cs
  | _ => .und
def vE : Option Eff → V
  | some (.val v) => v
  | some (.mk v _ _ _) => v
  | some (.app v _ _) => v
  | some (.prot v _) => v
  | some (.res v _) => v
  | _ => .und
def tkE : Option Eff → List (Nat × Nat × Bool) → List (Nat × Nat × Bool)
  | some (.mk _ t n ps), tk => put (protT ps tk) t (n, true)
  | some (.app _ t n), tk => lenT t n tk
  | some (.prot _ ps), tk => protT ps tk
  | some (.res v al), tk => addT v.tks (if al = true then protAll tk else tk)
  | _, tk => tk
theorem applyO_eq {i : LIns} {e : Option Eff} (h : DrawEffO i e) (σ : St) : applyO σ i.dst e = { σ with fr := putO (putO σ.fr (rootE e) (boxE e)) i.dst (vE e), tk := tkE e σ.tk } := by
  cases e with
  | none => rfl
  | some e =>
    cases e <;> simp only [DrawEffO, DrawEff] at h
    all_goals rfl
theorem putO_comm {l : List (Nat × V)} {x y : Option Nat} {u v : V} (h : ∀ d, x = some d → y ≠ some d) : putO (putO l x u) y v = putO (putO l y v) x u := by
  cases x with
  | none => rfl
  | some s =>
    cases y with
    | none => rfl
    | some t => exact put_comm l (fun e => h s rfl (by rw [e]))
theorem addT_put : ∀ (ts : List (Nat × Nat)) (l : List (Nat × Nat × Bool)) {t : Nat} {v : Nat × Bool}, (∀ p ∈ ts, p.1 ≠ t) → addT ts (put l t v) = put (addT ts l) t v
  | [], l, t, v, _ => rfl
  | (k, n) :: ts, l, t, v, h => by
    simp only [addT]
    rw [put_comm l (fun e => h (k, n) (by simp) e.symm), addT_put ts _ (fun p hp => h p (by simp [hp]))]
theorem addT_protT (ps : List Nat) : ∀ (ts : List (Nat × Nat)) (l : List (Nat × Nat × Bool)), (∀ p ∈ ts, memN p.1 ps = false) → addT ts (protT ps l) = protT ps (addT ts l)
  | [], l, _ => rfl
  | (k, n) :: ts, l, h => by
    simp only [addT]
    rw [← put_protT ps l (h (k, n) (by simp)), addT_protT ps ts _ (fun p hp => h p (by simp [hp]))]
theorem addT_lenT {u m : Nat} : ∀ (ts : List (Nat × Nat)) (l : List (Nat × Nat × Bool)), (∀ p ∈ ts, p.1 ≠ u) → addT ts (lenT u m l) = lenT u m (addT ts l)
  | [], l, _ => rfl
  | (k, n) :: ts, l, h => by
    simp only [addT]
    rw [← put_lenT l (h (k, n) (by simp)), addT_lenT ts _ (fun p hp => h p (by simp [hp]))]
theorem addT_addT : ∀ (ts us : List (Nat × Nat)) (l : List (Nat × Nat × Bool)), (∀ p ∈ ts, ∀ q ∈ us, p.1 ≠ q.1) → addT ts (addT us l) = addT us (addT ts l)
  | [], us, l, _ => rfl
  | (k, n) :: ts, us, l, h => by
    simp only [addT]
    rw [← addT_put us l (fun q hq e => h (k, n) (by simp) q hq e.symm), addT_addT ts us _ (fun p hp q hq => h p (by simp [hp]) q hq)]
theorem mem_of_memN : ∀ {xs : List Nat} {s : Nat}, memN s xs = true → s ∈ xs
  | x :: xs, s, h => by
    simp only [memN] at h
    split at h
    · rename_i e; subst e; simp
    · exact List.mem_cons_of_mem _ (mem_of_memN h)
theorem not_memN {ex : List Nat} {ps : List Nat} {d t : Nat} (hd : memN d ex = true) (ht : t / 100 = d) (hp : ∀ p ∈ ps, memN (p / 100) ex = false) : memN t ps = false := by
  cases h : memN t ps
  · rfl
  · have := hp t (mem_of_memN h)
    rw [ht, hd] at this
    cases this
theorem ne_tok {ex : List Nat} {d t u : Nat} (hd : memN d ex = true) (ht : t / 100 = d) (hu : memN (u / 100) ex = false) : t ≠ u := by
  intro e
  rw [← e, ht, hd] at hu
  cases hu
theorem tkE_comm {x y : LIns} {e f : Option Eff} (he : DrawEffO x e) (hf : DrawEffO y f) (hxy : Quiet x y) (hyx : Quiet y x) (hap : isAppK x.k = true → isAppK y.k = true → False) (hal : alK x.k = true → tokK y.k = true → False) (hal2 : alK y.k = true → tokK x.k = true → False) (ht : ∀ e', e = some e' → tokE e' = true → tokK x.k = true) (ht2 : ∀ f', f = some f' → tokE f' = true → tokK y.k = true) (l : List (Nat × Nat × Bool)) :
    tkE f (tkE e l) = tkE e (tkE f l) := by
  cases e with
  | none => rfl
  | some e =>
    cases f with
    | none => rfl
    | some f =>
      simp only [DrawEffO] at he hf
      cases e <;> (try (cases f <;> rfl)) <;> cases f <;> (try rfl) <;> simp only [tkE]
      case mk.mk v t n ps v' t' n' ps' =>
        obtain ⟨⟨d, h1, h2⟩, h3⟩ := he
        obtain ⟨⟨d', h1', h2'⟩, h3'⟩ := hf
        have hd := hxy.dst d h1
        have hd' := hyx.dst d' h1'
        rw [put_protT _ _ (not_memN hd.2.2.2 h2 h3'), put_protT _ _ (not_memN hd'.2.2.2 h2' h3), protT_comm, put_comm]
        intro e
        exact hd.2.1 (by rw [h1', ← h2', ← e, h2])
      case mk.app v t n ps v' t' n' =>
        obtain ⟨⟨d, h1, h2⟩, h3⟩ := he
        have hd := hxy.dst d h1
        rw [put_lenT _ (ne_tok hd.2.2.2 h2 hf.1), protT_lenT]
      case mk.prot v t n ps v' ps' =>
        obtain ⟨⟨d, h1, h2⟩, h3⟩ := he
        have hd := hxy.dst d h1
        rw [put_protT _ _ (not_memN hd.2.2.2 h2 hf), protT_comm]
      case mk.res v t n ps v' al' =>
        obtain ⟨⟨d, h1, h2⟩, h3⟩ := he
        obtain ⟨q, d', h1', h2'⟩ := hf
        cases al' with
        | true => exact (hal2 (q rfl) (ht _ rfl rfl)).elim
        | false =>
        simp only [Bool.false_eq_true, if_false]
        have hd := hxy.dst d h1
        have hd' := hyx.dst d' h1'
        rw [addT_put, addT_protT]
        · exact fun p hp => not_memN hd'.2.2.2 (h2' p hp) h3
        · intro p hp e
          have := h2' p hp
          exact hd.2.1 (by rw [h1', ← this, e, h2])
      case app.mk v t n v' t' n' ps' =>
        obtain ⟨⟨d, h1, h2⟩, h3⟩ := hf
        have hd := hyx.dst d h1
        rw [put_lenT _ (ne_tok hd.2.2.2 h2 he.1), protT_lenT]
      case app.app v t n v' t' n' => exact (hap he.2 hf.2).elim
      case app.prot => rw [protT_lenT]
      case app.res v t n v' al' =>
        obtain ⟨q, d', h1', h2'⟩ := hf
        cases al' with
        | true => exact (hal2 (q rfl) (ht _ rfl rfl)).elim
        | false =>
        simp only [Bool.false_eq_true, if_false]
        have hd' := hyx.dst d' h1'
        rw [addT_lenT]
        exact fun p hp => ne_tok hd'.2.2.2 (h2' p hp) he.1
      case prot.mk v ps v' t' n' ps' =>
        obtain ⟨⟨d, h1, h2⟩, h3⟩ := hf
        have hd := hyx.dst d h1
        rw [put_protT _ _ (not_memN hd.2.2.2 h2 he), protT_comm]
      case prot.app => rw [protT_lenT]
      case prot.prot => rw [protT_comm]
      case prot.res v ps v' al' =>
        obtain ⟨q, d', h1', h2'⟩ := hf
        cases al' with
        | true => exact (hal2 (q rfl) (ht _ rfl rfl)).elim
        | false =>
        simp only [Bool.false_eq_true, if_false]
        have hd' := hyx.dst d' h1'
        rw [addT_protT]
        exact fun p hp => not_memN hd'.2.2.2 (h2' p hp) he
      case res.mk v al v' t' n' ps' =>
        obtain ⟨⟨d, h1, h2⟩, h3⟩ := hf
        obtain ⟨q, d', h1', h2'⟩ := he
        cases al with
        | true => exact (hal (q rfl) (ht2 _ rfl rfl)).elim
        | false =>
        simp only [Bool.false_eq_true, if_false]
        have hd := hyx.dst d h1
        have hd' := hxy.dst d' h1'
        rw [addT_put, addT_protT]
        · exact fun p hp => not_memN hd'.2.2.2 (h2' p hp) h3
        · intro p hp e
          have := h2' p hp
          exact hd.2.1 (by rw [h1', ← this, e, h2])
      case res.app v al v' t' n' =>
        obtain ⟨q, d', h1', h2'⟩ := he
        cases al with
        | true => exact (hal (q rfl) (ht2 _ rfl rfl)).elim
        | false =>
        simp only [Bool.false_eq_true, if_false]
        have hd' := hxy.dst d' h1'
        rw [addT_lenT]
        exact fun p hp => ne_tok hd'.2.2.2 (h2' p hp) hf.1
      case res.prot v al v' ps' =>
        obtain ⟨q, d', h1', h2'⟩ := he
        cases al with
        | true => exact (hal (q rfl) (ht2 _ rfl rfl)).elim
        | false =>
        simp only [Bool.false_eq_true, if_false]
        have hd' := hxy.dst d' h1'
        rw [addT_protT]
        exact fun p hp => not_memN hd'.2.2.2 (h2' p hp) hf
      case res.res v al v' al' =>
        obtain ⟨q, d, h1, h2⟩ := he
        obtain ⟨q', d', h1', h2'⟩ := hf
        cases al with
        | true => exact (hal (q rfl) (ht2 _ rfl rfl)).elim
        | false =>
        cases al' with
        | true => exact (hal2 (q' rfl) (ht _ rfl rfl)).elim
        | false =>
        simp only [Bool.false_eq_true, if_false]
        have hd := hxy.dst d h1
        rw [addT_addT]
        intro p hp q hq e
        exact hd.2.1 (by rw [h1', ← h2' p hp, e, h2 q hq])
theorem rootE_root {i : LIns} {e : Option Eff} (h : DrawEffO i e) : ∀ r, rootE e = some r → rootK i.k = some r := by
  intro r hr
  cases e with
  | none => simp [rootE] at hr
  | some e =>
    cases e <;> simp only [rootE, reduceCtorEq, Option.some.injEq] at hr
    subst hr
    exact h
/-- Their writes do not meet. -/
theorem applyO_comm {x y : LIns} {e f : Option Eff} (he : DrawEffO x e) (hf : DrawEffO y f) (hxy : Quiet x y) (hyx : Quiet y x) (hap : isAppK x.k = true → isAppK y.k = true → False) (hal : alK x.k = true → tokK y.k = true → False) (hal2 : alK y.k = true → tokK x.k = true → False) (ht : ∀ e', e = some e' → tokE e' = true → tokK x.k = true) (ht2 : ∀ f', f = some f' → tokE f' = true → tokK y.k = true) (σ : St) :
    applyO (applyO σ x.dst e) y.dst f = applyO (applyO σ y.dst f) x.dst e := by
  rw [applyO_eq hf, applyO_eq he, applyO_eq he, applyO_eq hf, tkE_comm he hf hxy hyx hap hal hal2 ht ht2]
  congr 1
  have hr1 := rootE_root he
  have hr2 := rootE_root hf
  -- the four writes
  rw [putO_comm (x := x.dst) (y := rootE f) (fun d hd hr => (hxy.dst d hd).2.2.1 (hr2 d hr)),
    putO_comm (x := x.dst) (y := y.dst) (fun d hd => (hxy.dst d hd).2.1),
    putO_comm (x := rootE e) (y := rootE f) (fun d hd hr => (hxy.root d (hr1 d hd)).2.1 (hr2 d hr)),
    putO_comm (x := rootE e) (y := y.dst) (fun d hd => (hxy.root d (hr1 d hd)).2.2)]
end Go.Lo

/- Instructions that stand apart do not see each other; any order comes to the same. -/
namespace Go.Lo

def SameAt (fr fr' : List (Nat × V)) (g : Nat) : Prop := get fr' g = get fr g ∨ ∃ cs cs0, get fr' g = some (.box cs) ∧ get fr g = some (.box cs0)
theorem opd_same {fr fr' : List (Nat × V)} {g : Nat} (h : SameAt fr fr' g) : opd fr' (.t g) = opd fr (.t g) := by
  rcases h with h | ⟨cs, cs0, h1, h2⟩
  · simp only [opd, h]
  · simp only [opd, h1, h2]
theorem opds_same {fr fr' : List (Nat × V)} : ∀ {xs : List Opd}, (∀ g, memN g (slotsL xs) = true → SameAt fr fr' g) → opds fr' xs = opds fr xs
  | [], _ => rfl
  | x :: xs, h => by
    cases x with
    | t n =>
      simp only [slotsL, memN] at h
      simp only [opds]
      rw [opd_same (h n (by simp)), opds_same (fun g hg => h g (by split <;> simp_all))]
    | c v =>
      simp only [slotsL] at h
      simp only [opds]
      rw [opds_same h]; rfl
    | f n =>
      simp only [slotsL] at h
      simp only [opds]
      rw [opds_same h]; rfl
theorem wanted_same {fr fr' : List (Nat × V)} {g : Option (Nat × Bool)} (h : ∀ s b, g = some (s, b) → SameAt fr fr' s) : wanted fr' g = wanted fr g := by
  cases g with
  | none => rfl
  | some p =>
    obtain ⟨s, b⟩ := p
    rcases h s b rfl with h | ⟨cs, cs0, h1, h2⟩
    · simp only [wanted, h]
    · simp only [wanted, h1, h2]
theorem get_putO {l : List (Nat × V)} {x : Option Nat} {v : V} {g : Nat} (h : x ≠ some g) : get (putO l x v) g = get l g := by
  cases x with
  | none => rfl
  | some d => exact get_put_other l d v g (fun e => h (by rw [e]))
theorem get_addT_other : ∀ {ts : List (Nat × Nat)} {l : List (Nat × Nat × Bool)} {t : Nat}, (∀ p ∈ ts, p.1 ≠ t) → get (addT ts l) t = get l t
  | [], l, t, _ => rfl
  | (k, n) :: ts, l, t, h => by
    simp only [addT]
    rw [get_addT_other (fun p hp => h p (by simp [hp])), get_put_other _ _ _ _ (h (k, n) (by simp))]
theorem effI_indep {call : Nat → List V → Option V} {x y : LIns} {e : Option Eff} {σ : St} (hxy : Quiet x y) (hy : drawK y.k = true) (hap : isAppK x.k = true → isAppK y.k = true → False) (he : DrawEffO x e)
    (hb : ∀ s, rootE e = some s → ∃ cs cs0, boxE e = .box cs ∧ get σ.fr s = some (.box cs0)) : effI call y (applyO σ x.dst e) = effI call y σ := by
  rw [applyO_eq he]
  have hsame : ∀ g, memN g (looksL y) = true → SameAt σ.fr (putO (putO σ.fr (rootE e) (boxE e)) x.dst (vE e)) g := by
    intro g hg
    have hd : x.dst ≠ some g := fun h => by
      have := (hxy.dst g h).1
      rw [hg] at this
      cases this
    unfold SameAt
    rw [get_putO hd]
    by_cases hr : rootE e = some g
    · obtain ⟨cs, cs0, h1, h2⟩ := hb g hr
      rw [hr, h1]
      exact .inr ⟨cs, cs0, get_put_same _ _ _, h2⟩
    · exact .inl (get_putO hr)
  have hbx : bxOf (putO (putO σ.fr (rootE e) (boxE e)) x.dst (vE e)) y.ex = bxOf σ.fr y.ex := by
    have same : ∀ s, ¬ memN s y.ex = true → get (putO (putO σ.fr (rootE e) (boxE e)) x.dst (vE e)) s = get σ.fr s := fun s hm => by
      have hd : x.dst ≠ some s := fun h => hm (hxy.dst s h).2.2.2
      have hr : rootE e ≠ some s := fun h => hm (hxy.root s (rootE_root he s h)).1
      rw [get_putO hd, get_putO hr]
    funext s
    unfold bxOf
    split
    · split
      · rfl
      · rename_i hm; rw [same s hm]
    · split
      · rfl
      · rename_i hm; rw [same _ hm]
  have htk : ∀ t, memN (t / 100) y.ex = false → ((get (tkE e σ.tk) t).isSome = (get σ.tk t).isSome ∧ (isAppK y.k = true → (get (tkE e σ.tk) t).map (·.1) = (get σ.tk t).map (·.1))) := by
    intro t ht
    cases e with
    | none => exact ⟨rfl, fun _ => rfl⟩
    | some e =>
      simp only [DrawEffO] at he
      cases e <;> (try (exact ⟨rfl, fun _ => rfl⟩)) <;> simp only [tkE]
      case mk v u n ps =>
        obtain ⟨⟨d, h1, h2⟩, _⟩ := he
        have hne := ne_tok (hxy.dst d h1).2.2.2 h2 ht
        rw [get_put_other _ _ _ _ hne, get_protT]
        refine ⟨by simp, fun _ => ?_⟩
        cases get σ.tk t with
        | none => rfl
        | some p => simp only [Option.map_some]; split <;> rfl
      case app v u n =>
        obtain ⟨_, h2⟩ := he
        rw [get_lenT]
        refine ⟨by split <;> simp, fun h => (hap h2 h).elim⟩
      case prot v ps =>
        rw [get_protT]
        refine ⟨by simp, fun _ => ?_⟩
        cases get σ.tk t with
        | none => rfl
        | some p => simp only [Option.map_some]; split <;> rfl
      case res v al =>
        obtain ⟨_, d, h1, h2⟩ := he
        rw [get_addT_other (fun p hp => ne_tok (hxy.dst d h1).2.2.2 (h2 p hp) ht)]
        cases al with
        | false => exact ⟨rfl, fun _ => rfl⟩
        | true =>
          simp only [if_true]
          rw [get_protAll]
          refine ⟨by simp, fun _ => ?_⟩
          cases get σ.tk t <;> rfl
  unfold effI
  simp only
  rw [wanted_same (fun s b hs => hsame s (by unfold looksL; rw [hs]; simp [memN])), opds_same (fun g hg => hsame g (by
    unfold looksL
    split
    · simp only [memN]; split
      · rfl
      · exact hg
    · exact hg)), hbx]
  cases wanted σ.fr y.guard with
  | none => rfl
  | some b =>
    cases b with
    | false => rfl
    | true =>
      simp only
      cases opds σ.fr y.xs with
      | none => rfl
      | some vs =>
        simp only
        rw [sem_tk (tk := tkOf (tkE e σ.tk) y.ex) (tk' := tkOf σ.tk y.ex) hy (fun t => ?_) (fun h t => ?_)]
        · unfold tkOf
          split
          · rfl
          · rename_i hm; exact (htk t (by simpa using hm)).1
        · unfold tkOf
          split
          · rfl
          · rename_i hm; exact (htk t (by simpa using hm)).2 h
theorem sem_sto {call : Nat → List V → Option V} {bx : Nat → Option (List V)} {tk : Nat → Option (Nat × Bool)} {d s : Nat} {k : K} {vs cs : List V} (h : sem call bx tk d k vs = some (.sto s cs)) : s < 1000000 ∧ ∃ cs0, bx s = some cs0 := by
  have hval : ∀ {x : Option V}, valO x = some (.sto s cs) → False := fun hx => by
    obtain ⟨v, _, hv⟩ := valO_some hx
    cases hv
  cases k <;> simp only [sem, callE] at h
  case store n root =>
    split at h
    · split at h
      · rename_i hc
        split at h
        · rename_i cs0 hb
          split at h
          · simp only [Option.some.injEq, Eff.sto.injEq] at h
            obtain ⟨rfl, _⟩ := h
            exact ⟨hc.1, cs0, hb⟩
          · cases h
        · cases h
      · cases h
    · repeat' split at h
      all_goals cases h
    · cases h
  all_goals
    repeat' split at h
    all_goals first
      | (cases h; done)
      | exact (hval h).elim
theorem effI_ok {call : Nat → List V → Option V} {x : LIns} {e : Option Eff} {σ : St} (hd : drawK x.k = true) (hm : mkK x.k = true → x.dst.isSome = true) (h : effI call x σ = some e) :
    DrawEffO x e ∧ (∀ s, rootE e = some s → ∃ cs cs0, boxE e = .box cs ∧ get σ.fr s = some (.box cs0)) ∧ ∀ e', e = some e' → tokE e' = true → tokK x.k = true := by
  unfold effI at h
  split at h
  · split at h
    · split at h
      · rename_i e' he
        simp only [Option.some.injEq] at h; subst h
        refine ⟨drawEff hd hm he, fun s hs => ?_, fun e'' h1 h2 => by injection h1 with h1; subst h1; exact drawTok hd he h2⟩
        cases e' <;> simp only [rootE, reduceCtorEq, Option.some.injEq] at hs
        subst hs
        obtain ⟨hlt, cs0, hb⟩ := sem_sto he
        exact ⟨_, cs0, rfl, (bxOf_get hlt hb).1⟩
      · cases h
    · cases h
  · simp only [Option.some.injEq] at h; subst h
    exact ⟨trivial, (fun s hs => by simp [rootE] at hs), fun e' h1 _ => by cases h1⟩
  · cases h
theorem apartL_spec {x y : LIns} (h : apartL0 x y = true) : Quiet x y ∧ Quiet y x ∧ (isAppK x.k = true → isAppK y.k = true → False) ∧ (alK x.k = true → tokK y.k = true → False) ∧ (alK y.k = true → tokK x.k = true → False) := by
  unfold apartL0 at h
  simp only [Bool.and_eq_true, Bool.not_eq_true'] at h
  refine ⟨quietL_spec h.1.1.1.1, quietL_spec h.1.1.1.2, fun h1 h2 => ?_, fun h1 h2 => ?_, fun h1 h2 => ?_⟩
  · have := h.1.1.2
    rw [h1, h2] at this
    cases this
  · have := h.1.2
    rw [h1, h2] at this
    cases this
  · have := h.2
    rw [h1, h2] at this
    cases this
/-- What a call turns. -/
theorem call_shape {call : Nat → List V → Option V} {bx : Nat → Option (List V)} {tk : Nat → Option (Nat × Bool)} {d : Nat} {k : K} {vs : List V} {e : Eff} (hk : isCallK k = true) (h : sem call bx tk d k vs = some e) :
    ∃ (v : Option (List (List V)) → V) (g : List (Nat × Nat × Bool) → List (Nat × Nat × Bool)) (r : Option (List (List V)) → Option (List (List V))), ∀ (σ : St) (dst : Option Nat), apply σ dst e = { fr := putO σ.fr dst (v σ.tr), tk := g σ.tk, tr := r σ.tr } := by
  have hcall : ∀ dr al mk f as, callE call bx d dr al mk f as = some e → ∃ (v : Option (List (List V)) → V) (g : List (Nat × Nat × Bool) → List (Nat × Nat × Bool)) (r : Option (List (List V)) → Option (List (List V))), ∀ (σ : St) (dst : Option Nat), apply σ dst e = { fr := putO σ.fr dst (v σ.tr), tk := g σ.tk, tr := r σ.tr } := by
    intro dr al mk f as h
    have hv : ∀ v, ∃ (v' : Option (List (List V)) → V) (g : List (Nat × Nat × Bool) → List (Nat × Nat × Bool)) (r : Option (List (List V)) → Option (List (List V))), ∀ (σ : St) (dst : Option Nat), apply σ dst (.val v) = { fr := putO σ.fr dst (v' σ.tr), tk := g σ.tk, tr := r σ.tr } :=
      fun v => ⟨fun _ => v, fun x => x, fun x => x, fun _ _ => rfl⟩
    have hr : ∀ v al, ∃ (v' : Option (List (List V)) → V) (g : List (Nat × Nat × Bool) → List (Nat × Nat × Bool)) (r : Option (List (List V)) → Option (List (List V))), ∀ (σ : St) (dst : Option Nat), apply σ dst (.res v al) = { fr := putO σ.fr dst (v' σ.tr), tk := g σ.tk, tr := r σ.tr } :=
      fun v al => ⟨fun _ => v, fun tk => addT v.tks (if al = true then protAll tk else tk), fun x => x, fun _ _ => rfl⟩
    unfold callE at h
    repeat' split at h
    all_goals first
      | (cases h; done)
      | (injection h with h; subst h; exact hv _)
      | (injection h with h; subst h; exact hr _ _)
  cases k <;> simp only [isCallK, Bool.false_eq_true] at hk
  simp only [sem] at h
  repeat' split at h
  all_goals first
    | (cases h; done)
    | exact hcall _ _ _ _ _ h
    | (injection h with h; subst h; exact ⟨fun tr => .bool (goesOn _ tr), fun tk => protT _ tk, fun tr => tr.map (· ++ [_]), fun _ _ => rfl⟩)
/-- A new box and a call that does not see it. -/
theorem alone_comm {call : Nat → List V → Option V} {x y : LIns} (h : aloneL x y = true) (σ : St) : (stepI call x σ).bind (stepI call y) = (stepI call y σ).bind (stepI call x) := by
  unfold aloneL at h
  simp only [Bool.and_eq_true] at h
  obtain ⟨⟨⟨⟨ha, hc⟩, hx⟩, hd⟩, hy⟩ := h
  cases hxd : x.dst with
  | none => rw [hxd] at hd; cases hd
  | some d =>
    rw [hxd] at hd
    simp only [Bool.and_eq_true, Bool.not_eq_true', bne_iff_ne, ne_eq] at hd
    obtain ⟨⟨hd1, hd2⟩, hd3⟩ := hd
    have hxs : x.xs = [] := List.isEmpty_iff.1 hx
    obtain ⟨zs, hk⟩ : ∃ zs, x.k = .alloc zs := by
      revert ha
      cases x.k <;> simp [isAllocK]
    -- the box
    have hb : ∀ τ : St, stepI call x τ = (wanted τ.fr x.guard).map fun b => { τ with fr := put τ.fr d (if b = true then .box zs else .und) } := by
      intro τ
      unfold stepI
      cases wanted τ.fr x.guard with
      | none => rfl
      | some b =>
        cases b with
        | false => simp only [hxd]; rfl
        | true => simp only [hxs, opds, hk, sem, hxd]; rfl
    -- the call does not see it
    have hs : ∀ (τ : St) (v : V), effI call y { τ with fr := put τ.fr d v } = effI call y τ := by
      intro τ v
      have hsame : ∀ g, memN g (looksL y) = true → SameAt τ.fr (put τ.fr d v) g := fun g hg => .inl (get_put_other _ _ _ _ fun e => by rw [e, hg] at hd1; cases hd1)
      have hbx : bxOf (put τ.fr d v) y.ex = bxOf τ.fr y.ex := by
        have same : ∀ s, ¬ memN s y.ex = true → get (put τ.fr d v) s = get τ.fr s := fun s hm => get_put_other _ _ _ _ fun e => hm (e ▸ hd3)
        funext s
        unfold bxOf
        split
        · split
          · rfl
          · rename_i hm; rw [same s hm]
        · split
          · rfl
          · rename_i hm; rw [same _ hm]
      unfold effI
      simp only
      rw [wanted_same (g := y.guard) (fun s b hg => hsame s (by unfold looksL; rw [hg]; simp [memN])), opds_same (xs := y.xs) (fun g hg => hsame g (by
        unfold looksL
        split
        · simp only [memN]; split <;> simp_all
        · exact hg)), hbx]
    -- its effect
    have he : ∀ e, effI call y σ = some e → ∃ (v : Option (List (List V)) → V) (g : List (Nat × Nat × Bool) → List (Nat × Nat × Bool)) (r : Option (List (List V)) → Option (List (List V))), ∀ (τ : St), applyO τ y.dst e = { fr := putO τ.fr y.dst (v τ.tr), tk := g τ.tk, tr := r τ.tr } := by
      intro e h
      unfold effI at h
      split at h
      · split at h
        · split at h
          · rename_i e' he'
            injection h with h; subst h
            obtain ⟨v, g, r, hv⟩ := call_shape hc he'
            exact ⟨v, g, r, fun τ => hv τ _⟩
          · cases h
        · cases h
      · injection h with h; subst h
        exact ⟨fun _ => .und, fun x => x, fun x => x, fun _ => rfl⟩
      · cases h
    have hw : ∀ (v : V), wanted (putO σ.fr y.dst v) x.guard = wanted σ.fr x.guard := by
      intro v
      refine wanted_same fun s b hg => .inl (get_putO fun e => ?_)
      rw [e] at hy
      have : memN s (looksL x) = true := by unfold looksL; rw [hg]; simp [memN]
      simp [this] at hy
    rw [stepI_eff call y σ, hb σ]
    cases hyy : effI call y σ with
    | none =>
      cases wanted σ.fr x.guard with
      | none => rfl
      | some b => simp only [Option.map_some, Option.bind_some, Option.map_none, Option.bind_none]; rw [stepI_eff, hs, hyy]; rfl
    | some e =>
      obtain ⟨v, g, r, hv⟩ := he e hyy
      simp only [Option.map_some, Option.bind_some]
      rw [hb, hv]
      simp only
      rw [hw]
      cases wanted σ.fr x.guard with
      | none => rfl
      | some b =>
        simp only [Option.map_some, Option.bind_some]
        rw [stepI_eff, hs, hyy, Option.map_some, hv]
        simp only
        congr 2
        cases hyd : y.dst with
        | none => rfl
        | some f => exact put_comm σ.fr fun e => hd2 (by rw [hyd, e])
theorem step_comm0 {call : Nat → List V → Option V} {x y : LIns} (h : apartL0 x y = true) (σ : St) : (stepI call x σ).bind (stepI call y) = (stepI call y σ).bind (stepI call x) := by
  obtain ⟨hxy, hyx, hap, hal, hal2⟩ := apartL_spec h
  rw [stepI_eff, stepI_eff]
  cases hx : effI call x σ with
  | none =>
    cases hy : effI call y σ with
    | none => rfl
    | some f =>
      obtain ⟨k1, k2, k3⟩ := effI_ok hyx.draw hyx.made hy
      simp only [Option.map_none, Option.bind_none, Option.map_some, Option.bind_some]
      rw [stepI_eff, effI_indep hyx hxy.draw (fun a b => hap b a) k1 k2, hx]
      rfl
  | some e =>
    obtain ⟨j1, j2, j3⟩ := effI_ok hxy.draw hxy.made hx
    simp only [Option.map_some, Option.bind_some]
    rw [stepI_eff, effI_indep hxy hyx.draw hap j1 j2]
    cases hy : effI call y σ with
    | none => rfl
    | some f =>
      obtain ⟨k1, k2, k3⟩ := effI_ok hyx.draw hyx.made hy
      simp only [Option.map_some, Option.bind_some]
      rw [stepI_eff, effI_indep hyx hxy.draw (fun a b => hap b a) k1 k2, hx, Option.map_some, applyO_comm j1 k1 hxy hyx hap hal hal2 j3 k3]

/-- Two that stand apart may change places. -/
theorem step_comm {call : Nat → List V → Option V} {x y : LIns} (h : apartL x y = true) (σ : St) : (stepI call x σ).bind (stepI call y) = (stepI call y σ).bind (stepI call x) := by
  unfold apartL at h
  simp only [Bool.or_eq_true] at h
  rcases h with (h | h) | h
  · exact step_comm0 h σ
  · exact alone_comm h σ
  · exact (alone_comm h σ).symm
/-! ### By number -/
def stepIx (call : Nat → List V → Option V) (is : List LIns) : List Nat → St → Option St
  | [], σ => some σ
  | i :: r, σ => match is[i]? with
    | some l => (match stepI call l σ with
      | some σ' => stepIx call is r σ'
      | none => none)
    | none => none
theorem stepIx_append (call : Nat → List V → Option V) (is : List LIns) : ∀ (r s : List Nat) (σ : St), stepIx call is (r ++ s) σ = (stepIx call is r σ).bind (stepIx call is s)
  | [], s, σ => rfl
  | i :: r, s, σ => by
    simp only [List.cons_append, stepIx]
    split
    · split
      · exact stepIx_append call is r s _
      · rfl
    · rfl
theorem stepIx_first {call : Nat → List V → Option V} {is : List LIns} {i : Nat} {y : LIns} (hi : is[i]? = some y) : ∀ (r s : List Nat) (σ : St), (∀ k ∈ r, ∀ x, is[k]? = some x → apartL x y = true) →
    (∀ k ∈ r, k < is.length) → stepIx call is (r ++ i :: s) σ = stepIx call is (i :: (r ++ s)) σ
  | [], s, σ, _, _ => rfl
  | k :: r, s, σ, h, hl => by
    have hk : k < is.length := hl k (by simp)
    have hkk : is[k]? = some is[k] := List.getElem?_eq_getElem hk
    have hc := step_comm (call := call) (h k (by simp) _ hkk) σ
    simp only [List.cons_append]
    rw [stepIx, hkk]
    simp only
    have ih := fun σ => stepIx_first (call := call) hi r s σ (fun k hk => h k (by simp [hk])) (fun k hk => hl k (by simp [hk]))
    rw [stepIx, hi]
    simp only
    cases h1 : stepI call is[k] σ with
    | none =>
      rw [h1] at hc
      cases h2 : stepI call y σ with
      | none => rfl
      | some σ2 =>
        rw [h2] at hc
        simp only [Option.bind_none, Option.bind_some] at hc
        simp only [stepIx, hkk, ← hc]
    | some σ1 =>
      rw [h1] at hc
      simp only
      rw [ih]
      simp only [stepIx, hi]
      cases h2 : stepI call y σ with
      | none =>
        rw [h2] at hc
        simp only [Option.bind_none, Option.bind_some] at hc
        rw [hc]
      | some σ2 =>
        rw [h2] at hc
        simp only [Option.bind_some] at hc
        simp only [hkk, hc]
theorem stepL_ix (call : Nat → List V → Option V) (is : List LIns) : ∀ (l : List LIns) (k : Nat) (σ : St), (∀ j, l[j]? = is[k + j]?) → stepL call l σ = stepIx call is (List.range' k l.length) σ
  | [], k, σ, _ => rfl
  | x :: l, k, σ, h => by
    have h0 : is[k]? = some x := by simpa using (h 0).symm
    simp only [stepL, List.length_cons, List.range'_succ, stepIx, h0]
    cases stepI call x σ with
    | none => rfl
    | some σ' => exact stepL_ix call is l (k + 1) σ' (fun j => by have := h (j + 1); simpa [Nat.add_assoc, Nat.add_comm 1 j] using this)
end Go.Lo

/- Every order that a region may draw comes to the same as the written one. -/
namespace Go.Lo
section
variable {ops : Array Oper} {b : Array Nat} {is : List LIns}

def restOf (n : Nat) (listed : Array Bool) : List Nat := (List.range n).filter fun i => !listed.getD i true
/-- What is listed: whatever must come before is listed too. -/
def DownTo (ops : Array Oper) (listed : Array Bool) : Prop :=
  ∀ i o, ops[i]? = some o → listed.getD i true = true → ∀ e ∈ o.after, Region.binds .any e = true → listed.getD e.on false = true
theorem zipIdx_mem {α : Type} {l : List α} {i : Nat} {x : α} (h : l[i]? = some x) : (x, i) ∈ l.zipIdx := by
  rw [List.mem_iff_getElem?]
  exact ⟨i, by rw [List.getElem?_zipIdx, h]; simp⟩
theorem closedB_spec (h : closedB ops b = true) {i : Nat} {o : Oper} (ho : ops[i]? = some o) : (∀ e ∈ o.after, Region.binds .any e = true → e.on < i) ∧
    ∀ k, k < i → (b.getD i 0).testBit k = true → ∃ e ∈ o.after, Region.binds .any e = true ∧ (e.on = k ∨ (k < e.on ∧ (b.getD e.on 0).testBit k = true)) := by
  have h1 := List.all_eq_true.1 h (o, i) (zipIdx_mem (by simpa using ho))
  simp only [Bool.and_eq_true] at h1
  obtain ⟨h2, h3⟩ := h1
  refine ⟨fun e he hb => ?_, fun k hk ht => ?_⟩
  · have := Array.all_eq_true'.1 h2 e he
    rw [hb] at this
    simpa using this
  · have := List.all_eq_true.1 h3 k (List.mem_range.2 hk)
    rw [ht] at this
    simp only [Bool.not_true, Bool.false_or] at this
    obtain ⟨e, he, h4⟩ := Array.any_eq_true'.1 this
    simp only [Bool.and_eq_true, Bool.or_eq_true, beq_iff_eq, decide_eq_true_eq] at h4
    exact ⟨e, he, h4.1, h4.2⟩
theorem getD_size {listed : Array Bool} {i : Nat} (h : listed.getD i false = true) : i < listed.size ∧ listed.getD i true = true := by
  rcases Nat.lt_or_ge i listed.size with hi | hi
  · simp only [Array.getD, hi, dif_pos] at h ⊢
    exact ⟨trivial, h⟩
  · simp [Array.getD, Nat.not_lt.2 hi] at h
/-- Whatever comes before one that is ready is listed. -/
theorem before_listed (hc : closedB ops b = true) {listed : Array Bool} (hs : listed.size = ops.size) (hd : DownTo ops listed) : ∀ (i : Nat) {o : Oper}, ops[i]? = some o →
    (∀ e ∈ o.after, Region.binds .any e = true → listed.getD e.on false = true) → ∀ k, k < i → (b.getD i 0).testBit k = true → listed.getD k true = true := by
  intro i
  induction i using Nat.strongRecOn with
  | _ i ih =>
    intro o ho hall k hk ht
    obtain ⟨h1, h2⟩ := closedB_spec hc ho
    obtain ⟨e, he, hb, h3⟩ := h2 k hk ht
    obtain ⟨h4, h5⟩ := getD_size (hall e he hb)
    rcases h3 with rfl | ⟨h3, h6⟩
    · exact h5
    · have hlt : e.on < ops.size := by omega
      exact ih e.on (h1 e he hb) (Array.getElem?_eq_getElem hlt) (hd e.on _ (Array.getElem?_eq_getElem hlt) h5) k h3 h6
theorem drawOkL_spec (h : drawOkL b is = true) {i k : Nat} {x y : LIns} (hy : is[i]? = some y) (hx : is[k]? = some x) (hk : k < i) (ht : (b.getD i 0).testBit k = false) : apartL x y = true := by
  have h1 := List.all_eq_true.1 h (y, i) (zipIdx_mem hy)
  have h2 := List.all_eq_true.1 h1 (x, k) (zipIdx_mem hx)
  simp only [hk, ht, decide_true, Bool.not_false, Bool.and_self, if_true] at h2
  exact h2
theorem rest_split {n : Nat} {listed : Array Bool} {i : Nat} (hs : listed.size = n) (hi : i < n) (hu : listed.getD i true = false) :
    ∃ r s, restOf n listed = r ++ i :: s ∧ restOf n (listed.setIfInBounds i true) = r ++ s ∧ (∀ k ∈ r, k < i ∧ listed.getD k true = false) := by
  have hr : List.range n = List.range i ++ i :: List.range' (i + 1) (n - i - 1) := by
    rw [List.range_eq_range', List.range_eq_range', ← List.range'_succ]
    rw [show n - i - 1 + 1 = n - i by omega]
    have := List.range'_append (s := 0) (m := i) (n := n - i) (step := 1)
    simp only [Nat.one_mul, Nat.zero_add] at this
    rw [this]
    congr 1
    omega
  refine ⟨(List.range i).filter fun i => !listed.getD i true, (List.range' (i + 1) (n - i - 1)).filter fun i => !listed.getD i true, ?_, ?_, ?_⟩
  · unfold restOf
    rw [hr, List.filter_append, List.filter_cons_of_pos (by simp [hu])]
  · unfold restOf
    rw [hr, List.filter_append, List.filter_cons_of_neg (by simp [Array.getD, hs, hi])]
    congr 1
    · apply List.filter_congr
      intro j hj
      have := List.mem_range.1 hj
      rw [getD_set_ne true (by omega)]
    · apply List.filter_congr
      intro j hj
      have := List.mem_range'.1 hj
      rw [getD_set_ne true (by omega)]
  · intro k hk
    rw [List.mem_filter, List.mem_range] at hk
    exact ⟨hk.1, by simpa using hk.2⟩
theorem down_set {listed : Array Bool} {i : Nat} {o : Oper} (hd : DownTo ops listed) (_hs : listed.size = ops.size) (ho : ops[i]? = some o) (hall : ∀ e ∈ o.after, Region.binds .any e = true → listed.getD e.on false = true) :
    DownTo ops (listed.setIfInBounds i true) := by
  have key : ∀ j, listed.getD j false = true → (listed.setIfInBounds i true).getD j false = true := by
    intro j hj
    by_cases e : i = j
    · subst e
      obtain ⟨h1, _⟩ := getD_size hj
      simp [Array.getD, h1]
    · rw [getD_set_ne false e]; exact hj
  intro j p hp hl e he hb
  by_cases hij : i = j
  · subst hij
    rw [ho] at hp
    injection hp with hp; subst hp
    exact key _ (hall e he hb)
  · rw [getD_set_ne true hij] at hl
    exact key _ (hd j p hp hl e he hb)
theorem rest_length_set {n : Nat} {listed : Array Bool} {i : Nat} (hs : listed.size = n) (hi : i < n) (hu : listed.getD i true = false) : (restOf n (listed.setIfInBounds i true)).length + 1 = (restOf n listed).length := by
  obtain ⟨r, s, h1, h2, _⟩ := rest_split hs hi hu
  rw [h1, h2]; simp; omega
/-- The first that is not listed is ready. -/
theorem ready_some (hc : closedB ops b = true) {listed : Array Bool} (hs : listed.size = ops.size) (hne : restOf ops.size listed ≠ []) : Region.ready .any ops listed ≠ [] := by
  intro hr
  have hex : ∃ i, i < ops.size ∧ listed.getD i true = false := by
    obtain ⟨i, hi⟩ := List.exists_mem_of_ne_nil _ hne
    unfold restOf at hi
    rw [List.mem_filter, List.mem_range] at hi
    exact ⟨i, hi.1, by simpa using hi.2⟩
  have hmin : ∀ i, i < ops.size → listed.getD i true = false → False := by
    intro i
    induction i using Nat.strongRecOn with
    | _ i ih =>
      intro hi hu
      have : i ∈ Region.ready .any ops listed := mem_ready.2 ⟨hu, _, Array.getElem?_eq_getElem hi, fun e he hb => by
        have hlt := (closedB_spec hc (Array.getElem?_eq_getElem hi)).1 e he hb
        have hlt2 : e.on < listed.size := by omega
        cases hl : listed.getD e.on true with
        | false => exact (ih e.on hlt (by omega) hl).elim
        | true => simp only [Array.getD, hlt2, dif_pos] at hl ⊢; exact hl⟩
      rw [hr] at this
      cases this
  obtain ⟨i, h1, h2⟩ := hex
  exact hmin i h1 h2
theorem go_same {call : Nat → List V → Option V} (hc : closedB ops b = true) (hd : drawOkL b is = true) (hlen : is.length = ops.size) : ∀ (fuel t : Nat) (listed : Array Bool), listed.size = ops.size → DownTo ops listed → (restOf ops.size listed).length ≤ fuel →
    ∃ l, Region.linearise.go .any ops fuel t listed [] = l ∧ (∀ σ, stepIx call is l σ = stepIx call is (restOf ops.size listed) σ) ∧ l.Nodup ∧ ∀ i ∈ l, i < ops.size ∧ listed.getD i true = false := by
  intro fuel
  induction fuel with
  | zero =>
    intro t listed hs hdn hl
    have : restOf ops.size listed = [] := List.eq_nil_of_length_eq_zero (by omega)
    refine ⟨[], by simp [Region.linearise.go], fun σ => by rw [this], List.nodup_nil, by simp⟩
  | succ fuel ih =>
    intro t listed hs hdn hl
    simp only [Region.linearise.go]
    change ∃ l, (match (Region.ready .any ops listed)[t % (Region.ready .any ops listed).length]? with
      | some i => Region.linearise.go .any ops fuel (t / (Region.ready .any ops listed).length) (listed.setIfInBounds i true) [i]
      | none => [].reverse) = l ∧ _
    cases hi : (Region.ready .any ops listed)[t % (Region.ready .any ops listed).length]? with
    | none =>
      have hnil : Region.ready .any ops listed = [] := by
        cases hr : Region.ready .any ops listed with
        | nil => rfl
        | cons x xs =>
          rw [hr] at hi
          have hlt : t % (x :: xs).length < (x :: xs).length := Nat.mod_lt _ (by simp)
          simp at hi
          simp at hlt
          omega
      have : restOf ops.size listed = [] := by
        apply Decidable.byContradiction
        intro hne
        exact ready_some hc hs hne hnil
      exact ⟨[], rfl, fun σ => by rw [this], List.nodup_nil, by simp⟩
    | some i =>
      simp only
      obtain ⟨hu, o, ho, hall⟩ := mem_ready.1 (List.mem_of_getElem? hi)
      have hilt : i < ops.size := (Array.getElem?_eq_some_iff.1 ho).1
      obtain ⟨r, s, h1, h2, h3⟩ := rest_split hs hilt hu
      obtain ⟨l, e1, e2, e3, e4⟩ := ih (t / (Region.ready .any ops listed).length) (listed.setIfInBounds i true) (by simpa using hs) (down_set hdn hs ho hall) (by
        have := rest_length_set hs hilt hu
        omega)
      have hy : is[i]? = some is[i] := List.getElem?_eq_getElem (by omega)
      refine ⟨i :: l, by rw [linearise_go_acc, e1]; rfl, fun σ => ?_, ?_, ?_⟩
      · rw [h1, stepIx_first hy r s σ (fun k hk x hx => ?_) (fun k hk => by have := (h3 k hk).1; omega)]
        · simp only [stepIx, hy]
          cases stepI call is[i] σ with
          | none => rfl
          | some σ' => simp only; rw [e2, h2]
        · refine drawOkL_spec hd hy hx (h3 k hk).1 ?_
          cases ht : (b.getD i 0).testBit k with
          | false => rfl
          | true =>
            have := before_listed hc hs hdn i ho hall k (h3 k hk).1 ht
            rw [(h3 k hk).2] at this
            cases this
      · rw [List.nodup_cons]
        refine ⟨fun hm => ?_, e3⟩
        have := (e4 i hm).2
        simp [Array.getD, hs, hilt] at this
      · intro j hj
        rcases List.mem_cons.1 hj with rfl | hj
        · exact ⟨hilt, hu⟩
        · obtain ⟨h5, h6⟩ := e4 j hj
          refine ⟨h5, ?_⟩
          by_cases e : i = j
          · subst e; simp [Array.getD, hs, hilt] at h6
          · rw [getD_set_ne true e] at h6; exact h6
/-- A drawn order: every operation once, and it comes to the same. -/
theorem linearise_same {call : Nat → List V → Option V} (hc : closedB ops b = true) (hd : drawOkL b is = true) (hlen : is.length = ops.size) (t : Nat) :
    (∀ σ, stepIx call is (Region.linearise .any ops t) σ = stepL call is σ) ∧ (Region.linearise .any ops t).Nodup ∧ ∀ i ∈ Region.linearise .any ops t, i < ops.size := by
  have hun : ∀ i, i < ops.size → (Array.replicate ops.size false).getD i true = false := fun i hi => by simp [Array.getD, hi]
  have hrest : restOf ops.size (Array.replicate ops.size false) = List.range ops.size := by
    unfold restOf
    rw [List.filter_eq_self]
    intro i hi
    rw [hun i (List.mem_range.1 hi)]; rfl
  obtain ⟨l, e1, e2, e3, e4⟩ := go_same (call := call) hc hd hlen ops.size t (Array.replicate ops.size false) (by simp) (fun i o ho hl => by
    have hi : i < ops.size := (Array.getElem?_eq_some_iff.1 ho).1
    rw [hun i hi] at hl
    cases hl) (by rw [hrest]; simp)
  unfold Region.linearise
  rw [e1]
  refine ⟨fun σ => ?_, e3, fun i hi => (e4 i hi).1⟩
  rw [e2, hrest, stepL_ix call is is 0 σ (by simp), hlen, List.range_eq_range']
end
end Go.Lo
