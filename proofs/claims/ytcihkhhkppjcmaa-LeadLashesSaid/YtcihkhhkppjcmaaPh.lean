/- Texts put together. -/
import Derived.Test.YtcihkhhkppjcmaaPg
/- The difference of two errors is what is told of it: its shares in some order. -/
namespace Go.Lo.P6
open Go.Lo Go.Proofs Go.RowKit
def shL : List (List V) → Option (List (Int × Int))
  | [] => some []
  | [.int .i64 a, .int .i64 b] :: r => (match shL r with | some l => some ((a, b) :: l) | none => none)
  | _ => none
theorem shL_eq : ∀ {me : List (List V)} {ms : List (Int × Int)}, shL me = some ms → me = ms.map fun s => [I s.1, I s.2]
  | [], ms, h => by injection h with h; subst h; rfl
  | x :: r, ms, h => by
    unfold shL at h
    split at h
    · rename_i h0; cases h0
    · rename_i a b r' he
      injection he with e1 e2
      subst e1; subst e2
      split at h
      · rename_i l hl
        injection h with h
        subst h
        rw [List.map_cons, ← shL_eq hl]
      · cases h
    · cases h
theorem shL_map (ms : List (Int × Int)) : shL (ms.map fun s => [I s.1, I s.2]) = some ms := by
  induction ms with
  | nil => rfl
  | cons s ms ih => simp only [List.map_cons]; unfold shL; rw [ih]
def sokB (x : Int × Int) : Bool := decide ((0 ≤ x.1 ∧ x.1 ≤ 1000000) ∧ (-1000000 ≤ x.2 ∧ x.2 ≤ 1000000))
def bigB (n : Int) : Bool := decide (-1000000000000000 ≤ n ∧ n ≤ 1000000000000000)
def shsB (rs : List (Int × Int)) : Bool := decide (1 ≤ rs.length ∧ rs.length ≤ 1000) && rs.all sokB
/-- What is told of a difference. -/
def lessF : List V → Option V
  | [.agg [.sl none 2 e1, .int .i64 l, .int .i64 r], .agg [.sl none 2 e2, .int .i64 l', .int .i64 r']] =>
    (match shL e1, shL e2 with
    | some rs, some rs' => if (shsB rs && shsB rs' && bigB l && bigB r && bigB l' && bigB r') = true then some (.agg [.bag 2 ((lessL rs rs').map fun x => [x.1, x.2]), I (l - l'), I (r - r')]) else none
    | _, _ => none)
  | _ => none
theorem den_rows {Ω : Own} {w : World} {b : Nat} : ∀ {rs : List (Int × Int)} {off : Nat}, DenE Ω w (rs.map fun x => [I x.1, I x.2]) 2 b off → ∀ i x, rs[i]? = some x → w.cell? ⟨b, off + i * 2, none⟩ = some (.int .i64 x.1) ∧ w.cell? ⟨b, off + i * 2 + 1, none⟩ = some (.int .i64 x.2)
  | [], _, _, i, x, h => by simp at h
  | y :: rs, off, hE, i, x, h => by
    simp only [List.map_cons, DenE, DenC] at hE
    obtain ⟨_, _, ⟨⟨v1, _, h1, _, _, h2⟩, ⟨v2, _, h3, _, _, h4⟩, _⟩, h5⟩ := hE
    simp only [Den] at h2 h4
    subst h2; subst h4
    cases i with
    | zero =>
      simp only [List.getElem?_cons_zero, Option.some.injEq] at h
      subst h
      exact ⟨by simpa using h1, by simpa using h3⟩
    | succ i =>
      have := den_rows h5 i x (by simpa using h)
      rw [show off + (i + 1) * 2 = off + 2 + i * 2 by omega]
      exact this
theorem less_enters : Enters Try.prog 64 := by
  refine ⟨Try.f64, _, Try.func64, ?_, rfl⟩
  intro h
  have : (Try.f64.name == "runtime.NumGoroutine") = false := by kernel_rfl
  rw [h] at this
  simp at this
theorem flat_cells {es : List (Int × Int)} : (es.map fun x => [x.1, x.2]).flatten.map (Value.int .i64) = flat2 es := by
  induction es with
  | nil => rfl
  | cons x es ih => simp only [List.map_cons, List.flatten_cons, List.map_append, ih, flat2, List.flatMap_cons]; rfl
theorem shs_ok {rs : List (Int × Int)} (h : shsB rs = true) : (1 ≤ rs.length ∧ rs.length ≤ 1000) ∧ ∀ x ∈ rs, SOk x := by
  unfold shsB at h
  rw [Bool.and_eq_true, decide_eq_true_eq, List.all_eq_true] at h
  exact ⟨h.1, fun x hx => by
    have h2 := h.2 x hx
    unfold sokB at h2
    rw [decide_eq_true_eq] at h2
    exact h2⟩
theorem big_w {n m : Int} (h : bigB n = true) (h' : bigB m = true) : Go.RowKit.wrap64 (n - m) = n - m := by
  unfold bigB at h h'
  have h1 := of_decide_eq_true h
  have h2 := of_decide_eq_true h'
  exact w64 (by omega)
theorem den_sl {Ω : Own} {w : World} {rs : List (Int × Int)} {x : Value} (hb : Base Ω w) (hl : 1 ≤ rs.length) (h : Den Ω w (.sl none 2 (rs.map fun x => [I x.1, I x.2])) x) : ∃ b off c, x = .slice (some ⟨b, off, none⟩) rs.length c ∧ Rows2 w b off rs := by
  rcases h with ⟨h, _⟩ | ⟨b, off, cap, rfl, hf, hE⟩
  · have h2 := congrArg List.length h; rw [List.length_map, List.length_nil] at h2; omega
  · exact ⟨b, off, _, by rw [List.length_map], hb.bnd b (by rcases hf with h | ⟨t, h⟩ <;> rw [h] <;> simp), den_rows hE⟩
theorem less_callOk {as9 : List V} {R : V} (h : lessF as9 = some R) : CallOk Try.prog 64 as9 R := by
  unfold lessF at h
  split at h
  · rename_i e1 l r e2 l' r'
    split at h
    · rename_i rs rs' hm1 hm2
      split at h
      · rename_i hc
        injection h with h
        subst h
        have := shL_eq hm1
        subst this
        have := shL_eq hm2
        subst this
        simp only [Bool.and_eq_true] at hc
        obtain ⟨⟨⟨⟨⟨c1, c2⟩, c3⟩, c4⟩, c5⟩, c6⟩ := hc
        obtain ⟨o1, o2⟩ := shs_ok c1
        obtain ⟨o3, o4⟩ := shs_ok c2
        refine ⟨fun _ Ω w xs hb hd => ?_, fun b pre post h => ?_, fun cs rest h => by cases h⟩
        · obtain ⟨x1, ys, rfl, h1, x2, zs, rfl, h2, rfl⟩ := hd
          simp only [Den, DenL] at h1 h2
          obtain ⟨_, rfl, y1, _, rfl, g1, y2, _, rfl, g2, y3, _, rfl, g3, rfl⟩ := h1
          obtain ⟨_, rfl, z1, _, rfl, k1, z2, _, rfl, k2, z3, _, rfl, k3, rfl⟩ := h2
          subst g2; subst g3; subst k2; subst k3
          obtain ⟨b, off, c, rfl, r1⟩ := den_sl hb o1.1 (by simpa only [Den] using g1)
          obtain ⟨b', off', c', rfl, r2⟩ := den_sl hb o3.1 (by simpa only [Den] using k1)
          refine (ls_walk r1 r2 o1 o3 o2 o4).mono fun e w1 he => ?_
          obtain ⟨es, v, rfl, hrow, hp, hbl⟩ := he
          rw [big_w c3 c5, big_w c4 c6]
          rcases hrow.2 with ⟨rfl, h0⟩ | ⟨g, cap, cur, rfl, hg, hheap, hnc, _, hsz, htk⟩
          · refine ⟨_, Ω, rfl, hbl, ?_, ?_⟩
            · refine ⟨_, rfl, _, _, rfl, ?_, _, _, rfl, rfl, _, _, rfl, rfl, rfl⟩
              simp only [Den]
              have he : es = [] := by cases es with | nil => rfl | cons a b => simp at h0
              subst he
              refine ⟨[], ?_, fun r hr => (by cases hr), .inl ⟨rfl, _, rfl⟩⟩
              simpa using hp.map (fun x : Int × Int => [x.1, x.2])
            · exact ⟨fun c _ => ⟨rfl, rfl⟩, fun c hc => Nat.lt_of_lt_of_le (hb.bnd c hc) hbl.size, fun k m hk => by simp [V.tks, tksL] at hk⟩
          · have hgl : g < w1.heap.size := by
              rcases Nat.lt_or_ge g w1.heap.size with h | h
              · exact h
              · rw [Array.getElem?_eq_none h] at hheap; cases hheap
            refine ⟨_, { Ω with o := fun c => if c = g then .frg else Ω.o c, lim := fun c => if c = g then es.length * 2 else Ω.lim c }, rfl, hbl, ?_, ?_⟩
            · refine ⟨_, rfl, _, _, rfl, ?_, _, _, rfl, rfl, _, _, rfl, rfl, rfl⟩
              simp only [Den]
              refine ⟨es.map fun x => [x.1, x.2], hp.map _, fun r hr => ?_, .inr ⟨g, 0, cap - es.length, ?_, by simp, fun i n hi => ?_⟩⟩
              · obtain ⟨x, _, rfl⟩ := List.mem_map.1 hr; rfl
              · rw [List.length_map, Nat.add_sub_cancel' hnc]
              · have h5 : (flat2 es)[i]? = some (.int .i64 n) := by rw [← flat_cells, List.getElem?_map, hi]; rfl
                have h6 : i < es.length * 2 := by
                  have h7 := (List.getElem?_eq_some_iff.1 h5).1
                  rw [← htk, List.length_take] at h7
                  omega
                refine ⟨by simp; omega, ?_⟩
                rw [Nat.zero_add, cell_of_row w1 g i cur 144 (0, 0) hheap]
                rw [← htk, List.getElem?_take, if_pos h6] at h5
                simpa using h5
            · refine ⟨fun c hc => ?_, fun c hc => ?_, fun k m hk => by simp [V.tks, tksL] at hk⟩
              · have : c ≠ g := by omega
                simp [this]
              · by_cases h : c = g
                · rw [h]; exact hgl
                · simp only [if_neg h] at hc
                  exact Nat.lt_of_lt_of_le (hb.bnd c hc) hbl.size
        · have : V.fn (.y b) [] ∈ [V.agg [V.sl none 2 (rs.map fun x => [I x.1, I x.2]), I l, I r], V.agg [V.sl none 2 (rs'.map fun x => [I x.1, I x.2]), I l', I r']] := by rw [h]; simp
          simp at this
      · cases h
    · cases h
  · cases h
end Go.Lo.P6

/- The ends of an error: what the program reckons. -/
namespace Go.Lo.P6
open Go.Lo Go.Proofs
set_option linter.unusedSimpArgs false
set_option maxHeartbeats 8000000
set_option maxRecDepth 20000
def F0 : Nat → Option (List V → Option V) := fun _ => none
noncomputable abbrev R0 : Nat → List V → Option V := run2 F0 C2
theorem tabR0 : TabR F0 Ft C2 Ct := ⟨fun f g2 as2 r2 as9 h1 _ _ => (by cases h1), fun f lf _ h2 => ⟨rfl, tabC f lf h2⟩⟩
def plusE (e s : Int × Int) (t : Int) : Int × Int := (e.1 + min (s.1 * t) (s.2 * t), e.2 + max (s.1 * t) (s.2 * t))
def mil (n : Int) : Prop := -1000000 ≤ n ∧ n ≤ 1000000
theorem maxL2 {a b : Int} : maxL a [b] = max a b := by simp only [maxL]; split <;> omega
theorem minL2 {a b : Int} : minL a [b] = min a b := by simp only [minL]; split <;> omega
theorem mil_mul {a b : Int} (h1 : mil a) (h2 : mil b) : -1000000000000 ≤ a * b ∧ a * b ≤ 1000000000000 := by
  unfold mil at *
  have key : ∀ {x y : Int}, 0 ≤ x → x ≤ 1000000 → -1000000 ≤ y → y ≤ 1000000 → -1000000000000 ≤ x * y ∧ x * y ≤ 1000000000000 := fun {x y} p1 p2 p3 p4 => by
    have e1 := Int.mul_le_mul_of_nonneg_left p4 p1
    have e3 := Int.mul_le_mul_of_nonneg_left p3 p1
    omega
  by_cases h : 0 ≤ a
  · exact key h h1.2 h2.1 h2.2
  · have := key (x := -a) (y := b) (by omega) (by omega) h2.1 h2.2
    rw [Int.neg_mul] at this
    omega
theorem plus_bd {e s : Int × Int} {t : Int} (hs : mil s.1 ∧ mil s.2) (ht : mil t) : (e.1 - 1000000000000 ≤ (plusE e s t).1 ∧ (plusE e s t).1 ≤ e.1 + 1000000000000) ∧ (e.2 - 1000000000000 ≤ (plusE e s t).2 ∧ (plusE e s t).2 ≤ e.2 + 1000000000000) := by
  have h1 := mil_mul hs.1 ht
  have h2 := mil_mul hs.2 ht
  unfold plusE
  simp only
  omega
abbrev far18 (n : Int) : Prop := -1000000000000000000 ≤ n ∧ n ≤ 1000000000000000000
theorem r0_plus {e s : Int × Int} {t : Int} (he : far18 e.1 ∧ far18 e.2) (hs : mil s.1 ∧ mil s.2) (ht : mil t) : R0 78 [.agg [I e.1, I e.2], .agg [I s.1, I s.2], I t] = some (.agg [I (plusE e s t).1, I (plusE e s t).2]) := by
  have h1 := mil_mul hs.1 ht
  have h2 := mil_mul hs.2 ht
  have w1 := wrap64 (n := s.1 * t) (by omega) (by omega)
  have w2 := wrap64 (n := s.2 * t) (by omega) (by omega)
  have w3 := wrap64 (n := (plusE e s t).1) (by unfold plusE; simp only; omega) (by unfold plusE; simp only; omega)
  have w4 := wrap64 (n := (plusE e s t).2) (by unfold plusE; simp only; omega) (by unfold plusE; simp only; omega)
  unfold plusE at *
  simp only at w3 w4 ⊢
  clear h1 h2 he hs ht
  refine run2_body 1 rfl rfl rfl rfl rfl ?_
  simp (maxSteps := 2000000) (disch := first | omega | (simp; done) | (simp; omega)) [-getElem?_pos, -maxL, -minL, maxL2, minL2, l78, w1, w2, w3, w4]
def stepEnds (ts : List (Int × Int)) (e : Int × Int) (x : Int × Int) : Int × Int := if x.2 ≠ 0 then plusE e (ts.getD x.1.toNat (0, 0)) x.2 else e
/-- The ends of an error. -/
def endsE (ts : List (Int × Int)) (lash : Int × Int) (rows : List (Int × Int)) (l r : Int) : Int × Int := rows.foldl (stepEnds ts) (plusE (r, r) lash l)
structure EndsOk (ts : List (Int × Int)) (lash : Int × Int) (rows : List (Int × Int)) (l r : Int) : Prop where
  hts : ∀ s ∈ ts, mil s.1 ∧ mil s.2
  hlash : mil lash.1 ∧ mil lash.2
  hrows : ∀ x ∈ rows, mil x.2 ∧ (x.2 ≠ 0 → 0 ≤ x.1 ∧ x.1 < ts.length)
  hlen : rows.length ≤ 2000
  hl : mil l
  hr : -1000000000000000 ≤ r ∧ r ≤ 1000000000000000
abbrev eS2 (l : List (Int × Int)) : List (List V) := l.map fun x => [I x.1, I x.2]
abbrev sEn (ts : List (Int × Int)) (de : List (List V)) (lash : Int × Int) (ne : List (List V)) (rows : List (Int × Int)) (e : Int × Int) (i : Nat) : St :=
  { fr := [(2, .box [S 2 (eS2 ts), S 1 de, I lash.1, I lash.2, S 2 ne]), (4, .box [I 0, I 0]), (5, .box [I e.1, I e.2]), (20, S 2 (eS2 rows)), (21, I rows.length), (22, I i)], tk := [] }
theorem en_step {ts : List (Int × Int)} {de ne : List (List V)} {lash : Int × Int} {rows : List (Int × Int)} {e : Int × Int} {i M : Nat} {x : Int × Int} (hx : rows[i]? = some x) (hl : rows.length ≤ 2000) (ht : ∀ s ∈ ts, mil s.1 ∧ mil s.2) (hr : mil x.2 ∧ (x.2 ≠ 0 → 0 ≤ x.1 ∧ x.1 < ts.length)) (he : far18 e.1 ∧ far18 e.2) :
    evC2 R0 M b57_0 (sEn ts de lash ne rows e i) = some (.normal, sEn ts de lash ne rows (stepEnds ts e x) (i + 1)) := by
  have hlt : (i : Int) < rows.length := by have := (List.getElem?_eq_some_iff.1 hx).1; omega
  have hx1 : (eS2 rows)[i]? = some [I x.1, I x.2] := by rw [List.getElem?_map, hx]; rfl
  have w := wrap64 (n := (i : Int) + 1) (by omega) (by omega)
  unfold stepEnds
  by_cases h0 : x.2 = 0
  · rw [if_neg (not_not_intro h0)]
    simp (maxSteps := 2000000) (disch := first | omega | (simp; done) | (simp; omega)) [-getElem?_pos, b57_0, hx, hlt, h0, w]
  · obtain ⟨h1, h2⟩ := hr.2 h0
    obtain ⟨s, hs⟩ : ∃ s, ts[x.1.toNat]? = some s := ⟨_, List.getElem?_eq_getElem (by omega)⟩
    have hs1 : (eS2 ts)[x.1.toNat]? = some [I s.1, I s.2] := by rw [List.getElem?_map, hs]; rfl
    have e1 := r0_plus he (ht s (List.mem_of_getElem? hs)) hr.1
    rw [if_pos h0, List.getD_eq_getElem?_getD, hs, Option.getD_some]
    generalize plusE e s x.2 = q at *
    clear ht hr he
    simp (maxSteps := 2000000) (disch := first | omega | (simp; done) | (simp; omega)) [-getElem?_pos, b57_0, hx, hlt, h0, w, hs, h1, h2, e1]
theorem en_loop {ts : List (Int × Int)} {de ne : List (List V)} {lash : Int × Int} {M : Nat} {rows : List (Int × Int)} (hl : rows.length ≤ 2000) (ht : ∀ s ∈ ts, mil s.1 ∧ mil s.2) (hr : ∀ x ∈ rows, mil x.2 ∧ (x.2 ≠ 0 → 0 ≤ x.1 ∧ x.1 < ts.length)) :
    ∀ (k i : Nat) (e : Int × Int), i + k = rows.length → (-1000000000000000 - ((i : Int) + 1) * 1000000000000 ≤ e.1 ∧ e.1 ≤ 1000000000000000 + ((i : Int) + 1) * 1000000000000) ∧ (-1000000000000000 - ((i : Int) + 1) * 1000000000000 ≤ e.2 ∧ e.2 ≤ 1000000000000000 + ((i : Int) + 1) * 1000000000000) →
      iter (evC2 R0 M b57_0) (k + 1) (sEn ts de lash ne rows e i) = some (.exit 0, { fr := [(2, .box [S 2 (eS2 ts), S 1 de, I lash.1, I lash.2, S 2 ne]), (4, .box [I 0, I 0]), (5, .box [I ((rows.drop i).foldl (stepEnds ts) e).1, I ((rows.drop i).foldl (stepEnds ts) e).2]), (20, S 2 (eS2 rows)), (21, I rows.length), (22, I rows.length), (23, B false)], tk := [] }) := by
  intro k
  induction k with
  | zero =>
    intro i e hk _
    have : i = rows.length := by omega
    subst this
    rw [iter_succ, List.drop_length]
    simp (maxSteps := 2000000) (disch := first | omega | (simp; done) | (simp; omega)) [-getElem?_pos, b57_0]
  | succ k ih =>
    intro i e hk he
    obtain ⟨x, hx⟩ : ∃ x, rows[i]? = some x := ⟨_, List.getElem?_eq_getElem (by omega)⟩
    have hlt := (List.getElem?_eq_some_iff.1 hx).1
    have hm := List.mem_of_getElem? hx
    have hd : rows.drop i = x :: rows.drop (i + 1) := by rw [List.drop_eq_getElem_cons hlt]; rw [(List.getElem?_eq_some_iff.1 hx).2]
    rw [iter_succ, en_step hx hl ht (hr x hm) (by omega)]
    simp only
    rw [hd, List.foldl_cons]
    refine ih (i + 1) _ (by omega) ?_
    unfold stepEnds
    split
    · rename_i h0
      obtain ⟨h1, h2⟩ := (hr x hm).2 h0
      obtain ⟨s, hs⟩ : ∃ s, ts[x.1.toNat]? = some s := ⟨_, List.getElem?_eq_getElem (by omega)⟩
      rw [List.getD_eq_getElem?_getD, hs, Option.getD_some]
      have := plus_bd (e := e) (ht s (List.mem_of_getElem? hs)) (hr x hm).1
      omega
    · omega
theorem r0_ends {ts : List (Int × Int)} {de ne : List (List V)} {lash : Int × Int} {rows : List (Int × Int)} {l r : Int} (h : EndsOk ts lash rows l r) :
    R0 57 [.agg [S 2 (eS2 ts), S 1 de, I lash.1, I lash.2, S 2 ne], .agg [S 2 (eS2 rows), I l, I r]] = some (.agg [I (endsE ts lash rows l r).1, I (endsE ts lash rows l r).2]) := by
  have hr := h.hr
  have e1 := r0_plus (e := (r, r)) (s := lash) (t := l) ⟨by simp only; omega, by simp only; omega⟩ h.hlash h.hl
  have hb := plus_bd (e := (r, r)) h.hlash h.hl
  simp only at hb e1
  have L := en_loop (de := de) (ne := ne) (lash := lash) (M := rows.length + 1) h.hlen h.hts h.hrows rows.length 0 (plusE (r, r) lash l) (by omega) (by omega)
  rw [List.drop_zero] at L
  unfold endsE
  have L : iter (evC2 R0 (rows.length + 1) b57_0) (rows.length + 1) { fr := [(2, .box [S 2 (eS2 ts), S 1 de, I lash.1, I lash.2, S 2 ne]), (4, .box [I 0, I 0]), (5, .box [I (plusE (r, r) lash l).1, I (plusE (r, r) lash l).2]), (20, S 2 (eS2 rows)), (21, I rows.length), (22, I 0)], tk := [] } = _ := L
  generalize rows.foldl (stepEnds ts) (plusE (r, r) lash l) = q at *
  generalize plusE (r, r) lash l = p at *
  generalize hF : evC2 R0 (rows.length + 1) b57_0 = F at *
  have hl2 : (eS2 rows).length = rows.length := by simp
  generalize eS2 rows = re at *
  generalize eS2 ts = te at *
  generalize rows.length = n at *
  clear hb hr h
  refine run2_body (n + 1) rfl rfl rfl rfl rfl ?_
  simp (maxSteps := 2000000) (disch := first | omega | (simp; done) | (simp; omega)) [-getElem?_pos, l57, e1, hF, L, hl2]
end Go.Lo.P6

/- The ends of an error are told: whatever the order of its shares is. -/
namespace Go.Lo.P6
open Go.Lo Go.Proofs
def bagL : List (List Int) → Option (List (Int × Int))
  | [] => some []
  | [a, b] :: r => (match bagL r with | some l => some ((a, b) :: l) | none => none)
  | _ => none
theorem bagL_eq : ∀ {me : List (List Int)} {ms : List (Int × Int)}, bagL me = some ms → me = ms.map fun s => [s.1, s.2]
  | [], ms, h => by injection h with h; subst h; rfl
  | x :: r, ms, h => by
    unfold bagL at h
    split at h
    · rename_i h0; cases h0
    · rename_i a b r' he
      injection he with e1 e2
      subst e1; subst e2
      split at h
      · rename_i l hl
        injection h with h
        subst h
        rw [List.map_cons, ← bagL_eq hl]
      · cases h
    · cases h
theorem bagL_map (ms : List (Int × Int)) : bagL (ms.map fun s => [s.1, s.2]) = some ms := by
  induction ms with
  | nil => rfl
  | cons s ms ih => simp only [List.map_cons]; unfold bagL; rw [ih]
/-- Is it a slice that is not written any more, nil or not? -/
def slB (n : Nat) : V → Bool
  | .nil => true
  | .sl none m es => m == n && es.all fun c => c.all V.flat
  | _ => false
def rowsOf : V → Option (List (Int × Int))
  | .sl none 2 es => (match shL es with | some (x :: l) => some (x :: l) | _ => none)
  | .bag 2 es => (match bagL es with | some (x :: l) => some (x :: l) | _ => none)
  | _ => none
def milB (n : Int) : Bool := decide (-1000000 ≤ n ∧ n ≤ 1000000)
def endsB (ts : List (Int × Int)) (lash : Int × Int) (rows : List (Int × Int)) (l r : Int) : Bool :=
  (ts.all fun s => milB s.1 && milB s.2) && milB lash.1 && milB lash.2 && (rows.all fun x => milB x.2 && (decide (x.2 = 0) || decide (0 ≤ x.1 ∧ x.1 < ts.length))) && decide (rows.length ≤ 2000) && milB l && bigB r
theorem endsB_ok {ts : List (Int × Int)} {lash : Int × Int} {rows : List (Int × Int)} {l r : Int} (h : endsB ts lash rows l r = true) : EndsOk ts lash rows l r := by
  unfold endsB milB bigB at h
  simp only [Bool.and_eq_true, Bool.or_eq_true, decide_eq_true_eq, List.all_eq_true] at h
  obtain ⟨⟨⟨⟨⟨⟨h1, h2⟩, h3⟩, h4⟩, h5⟩, h6⟩, h7⟩ := h
  exact ⟨h1, ⟨h2, h3⟩, fun x hx => ⟨(h4 x hx).1, fun h => (h4 x hx).2.resolve_left h⟩, h5, h6, h7⟩
def endsF : List V → Option V
  | [.agg [.sl none 2 te, dv, .int .i64 lo, .int .i64 hi, nv], .agg [sh, .int .i64 l, .int .i64 r]] =>
    if (slB 1 dv && slB 2 nv) = true then
      (match shL te, rowsOf sh with
      | some (t :: ts), some rows => if endsB (t :: ts) (lo, hi) rows l r = true then some (.agg [I (endsE (t :: ts) (lo, hi) rows l r).1, I (endsE (t :: ts) (lo, hi) rows l r).2]) else none
      | _, _ => none)
    else none
  | _ => none
theorem step_comm (ts : List (Int × Int)) (e x y : Int × Int) : stepEnds ts (stepEnds ts e x) y = stepEnds ts (stepEnds ts e y) x := by
  unfold stepEnds plusE
  by_cases h1 : x.2 ≠ 0 <;> by_cases h2 : y.2 ≠ 0 <;> simp only [h1, h2, if_true, if_false, ne_eq, not_false_eq_true] <;> (try rfl)
  rw [Prod.mk.injEq]
  omega
theorem fold_perm {ts : List (Int × Int)} {rs rs' : List (Int × Int)} (h : rs.Perm rs') : ∀ e, rs.foldl (stepEnds ts) e = rs'.foldl (stepEnds ts) e := by
  induction h with
  | nil => intro e; rfl
  | cons x _ ih => intro e; exact ih _
  | swap x y l => intro e; simp only [List.foldl_cons]; rw [step_comm]
  | trans _ _ h1 h2 => intro e; rw [h1, h2]
theorem endsE_perm {ts : List (Int × Int)} {lash : Int × Int} {rs rs' : List (Int × Int)} {l r : Int} (h : rs.Perm rs') : endsE ts lash rs l r = endsE ts lash rs' l r := fold_perm h _
theorem EndsOk.perm {ts : List (Int × Int)} {lash : Int × Int} {rs rs' : List (Int × Int)} {l r : Int} (h : EndsOk ts lash rs l r) (hp : rs'.Perm rs) : EndsOk ts lash rs' l r :=
  ⟨h.hts, h.hlash, fun x hx => h.hrows x (hp.mem_iff.1 hx), by rw [hp.length_eq]; exact h.hlen, h.hl, h.hr⟩
theorem relL_flat : ∀ {cs ds : List V}, cs.all V.flat = true → RelL cs noT ds → ds = cs
  | [], _, _, h => by simp only [RelL] at h; exact h
  | c :: cs, _, hf, h => by
    simp only [List.all_cons, Bool.and_eq_true] at hf
    simp only [RelL] at h
    obtain ⟨d, r, rfl, h1, h2⟩ := h
    rw [relL_flat hf.2 h2]
    congr 1
    cases c <;> simp only [V.flat, Bool.false_eq_true, false_and] at hf <;> simp only [Rel] at h1 <;> exact h1
theorem relE_flat : ∀ {cs ds : List (List V)}, (cs.all fun c => c.all V.flat) = true → RelE cs ds → ds = cs
  | [], _, _, h => by simp only [RelE] at h; exact h
  | c :: cs, _, hf, h => by
    simp only [List.all_cons, Bool.and_eq_true] at hf
    simp only [RelE] at h
    obtain ⟨d, r, rfl, h1, h2⟩ := h
    rw [relL_flat (by simpa using hf.1) h1, relE_flat hf.2 h2]
theorem relL_flat2 {tk : TkF} : ∀ {cs : List V}, cs.all V.flat = true → RelL cs tk cs
  | [], _ => RelL.nil
  | c :: cs, h => by
    simp only [List.all_cons, Bool.and_eq_true] at h
    refine RelL.cons ?_ (relL_flat2 h.2)
    cases c <;> simp only [V.flat, Bool.false_eq_true, false_and] at h <;> simp only [Rel]
theorem relE_flat2 : ∀ {cs : List (List V)}, (cs.all fun c => c.all V.flat) = true → RelE cs cs
  | [], _ => RelE.nil
  | c :: cs, h => by
    simp only [List.all_cons, Bool.and_eq_true] at h
    exact RelE.cons (relL_flat2 (by simpa using h.1)) (relE_flat2 h.2)
theorem sl_flat {n : Nat} {es : List (List V)} {v : V} (hf : (es.all fun c => c.all V.flat) = true) (h : Rel (.sl none n es) noT v) : v = .nil ∧ es = [] ∨ v = .sl none n es := by
  simp only [Rel] at h
  rcases h with ⟨h1, h2⟩ | ⟨es', rfl, h⟩
  · exact .inl ⟨h2, h1⟩
  · rw [relE_flat hf h]; exact .inr rfl
theorem sl_rel {n : Nat} {v : V} (h : slB n v = true) : ∃ es, Rel (.sl none n es) noT v := by
  cases v with
  | nil => exact ⟨[], by simp [Rel]⟩
  | sl t m es =>
    cases t with
    | some t => simp [slB] at h
    | none =>
      simp only [slB, Bool.and_eq_true, beq_iff_eq] at h
      obtain ⟨rfl, h⟩ := h
      exact ⟨es, by simp only [Rel]; exact .inr ⟨es, rfl, relE_flat2 h⟩⟩
  | _ => simp [slB] at h
theorem slB_pm {n : Nat} {v : V} (h : slB n v = true) : v.pm = true := by
  cases v with
  | nil => rfl
  | sl t m es => cases t with
    | some t => simp [slB] at h
    | none => rfl
  | _ => simp [slB] at h
theorem rel_slB {n : Nat} {v w : V} (h : slB n v = true) (hr : Rel v noT w) : slB n w = true := by
  cases v with
  | nil => simp only [Rel] at hr; subst hr; rfl
  | sl t m es =>
    cases t with
    | some t => simp [slB] at h
    | none =>
      simp only [slB, Bool.and_eq_true, beq_iff_eq] at h
      obtain ⟨rfl, h⟩ := h
      rcases sl_flat h hr with ⟨rfl, _⟩ | rfl
      · rfl
      · unfold slB; rw [Bool.and_eq_true]; exact ⟨beq_self_eq_true _, h⟩
  | _ => simp [slB] at h
theorem flat_pairs (xs : List (Int × Int)) : ((eS2 xs).all fun c => c.all V.flat) = true := by simp [List.all_map, V.flat]
/-- What a value of shares is, by its rows. -/
theorem rowsOf_cases {sh : V} {rows : List (Int × Int)} (h : rowsOf sh = some rows) : sh = .sl none 2 (eS2 rows) ∧ rows ≠ [] ∨ sh = .bag 2 (rows.map fun x => [x.1, x.2]) ∧ rows ≠ [] := by
  unfold rowsOf at h
  split at h
  · split at h
    · rename_i es x l he
      injection h with h
      subst h
      exact .inl ⟨by rw [shL_eq he], by simp⟩
    · cases h
  · split at h
    · rename_i es x l he
      injection h with h
      subst h
      exact .inr ⟨by rw [bagL_eq he], by simp⟩
    · cases h
  · cases h
/-- The run on the first machine. -/
theorem r1_ends {dv nv : V} {t : Int × Int} {ts : List (Int × Int)} {lo hi l r : Int} {rows : List (Int × Int)} (h1 : slB 1 dv = true) (h2 : slB 2 nv = true) (_hr : rows ≠ []) (h : EndsOk (t :: ts) (lo, hi) rows l r) :
    run Ft Ct 57 [.agg [.sl none 2 (eS2 (t :: ts)), dv, I lo, I hi, nv], .agg [.sl none 2 (eS2 rows), I l, I r]] = some (.agg [I (endsE (t :: ts) (lo, hi) rows l r).1, I (endsE (t :: ts) (lo, hi) rows l r).2]) := by
  obtain ⟨de, hd⟩ := sl_rel h1
  obtain ⟨ne, hn⟩ := sl_rel h2
  have hrel : RelL [.agg [S 2 (eS2 (t :: ts)), S 1 de, I lo, I hi, S 2 ne], .agg [S 2 (eS2 rows), I l, I r]] noT [.agg [.sl none 2 (eS2 (t :: ts)), dv, I lo, I hi, nv], .agg [.sl none 2 (eS2 rows), I l, I r]] := by
    refine RelL.cons ?_ (RelL.one ?_)
    · rw [Rel]
      exact ⟨_, rfl, RelL.cons (by rw [Rel]; exact .inr ⟨_, rfl, relE_flat2 (flat_pairs _)⟩) (RelL.cons hd (RelL.cons (by simp only [Rel]) (RelL.cons (by simp only [Rel]) (RelL.one hn))))⟩
    · rw [Rel]
      exact ⟨_, rfl, RelL.cons (by rw [Rel]; exact .inr ⟨_, rfl, relE_flat2 (flat_pairs _)⟩) (RelL.cons (by simp only [Rel]) (RelL.one (by simp only [Rel])))⟩
  obtain ⟨q, g1, g2⟩ := run2_sim tabR0 (r0_ends (de := de) (ne := ne) h) hrel
  obtain ⟨ρ, hρ⟩ := g2.ex
  simp only [Rel, RelL] at hρ
  obtain ⟨ds, rfl, d, _, rfl, rfl, d2, _, rfl, rfl, rfl⟩ := hρ
  exact g1
theorem den_flat {Ω : Own} {w : World} {b : Nat} : ∀ {rows : List (Int × Int)} {off : Nat}, (∀ i n, (rows.map fun x => [x.1, x.2]).flatten[i]? = some n → off + i < Ω.lim b ∧ w.cell? ⟨b, off + i, none⟩ = some (.int .i64 n)) → DenE Ω w (eS2 rows) 2 b off
  | [], _, _ => trivial
  | x :: rows, off, h => by
    have h0 := h 0 x.1 (by simp)
    have h1 := h 1 x.2 (by simp)
    simp only [List.map_cons, DenE, DenC]
    refine ⟨rfl, rfl, ⟨⟨.int .i64 x.1, h0.1, by simpa using h0.2, rfl, rfl, by simp only [Den]⟩, ⟨.int .i64 x.2, h1.1, h1.2, rfl, rfl, by simp only [Den]⟩, trivial⟩, den_flat fun i n hi => ?_⟩
    have := h (i + 2) n (by simpa using hi)
    rw [show off + 2 + i = off + (i + 2) by omega]
    exact this
theorem pairs_of {es : List (List Int)} (h : ∀ r ∈ es, r.length = 2) : ∃ rows : List (Int × Int), es = rows.map fun x => [x.1, x.2] := by
  induction es with
  | nil => exact ⟨[], rfl⟩
  | cons r es ih =>
    obtain ⟨rows, rfl⟩ := ih fun x hx => h x (List.mem_cons_of_mem _ hx)
    have := h r List.mem_cons_self
    match r, this with
    | [a, b], _ => exact ⟨(a, b) :: rows, rfl⟩
theorem perm_pairs {rows rows' : List (Int × Int)} (h : (rows'.map fun x => [x.1, x.2]).Perm (rows.map fun x => [x.1, x.2])) : rows'.Perm rows := by
  have h2 := h.map fun r : List Int => (r.getD 0 0, r.getD 1 0)
  simpa [List.map_map, Function.comp_def] using h2
theorem ends_enters : Enters Try.prog 57 := by
  refine ⟨Try.f57, _, Try.func57, ?_, rfl⟩
  intro h
  have : (Try.f57.name == "runtime.NumGoroutine") = false := by kernel_rfl
  rw [h] at this
  simp at this
theorem ends_callOk {as9 : List V} {R : V} (h : endsF as9 = some R) : CallOk Try.prog 57 as9 R := by
  unfold endsF at h
  split at h
  · rename_i te dv lo hi nv sh l r
    split at h
    · rename_i hb
      rw [Bool.and_eq_true] at hb
      split at h
      · rename_i t ts rows hm1 hm2
        split at h
        · rename_i hc
          injection h with h
          subst h
          have := shL_eq hm1
          subst this
          have hok := endsB_ok hc
          rcases rowsOf_cases hm2 with ⟨rfl, hne⟩ | ⟨rfl, hne⟩
          · exact (run_sound tabOk 57 _ _ (r1_ends hb.1 hb.2 hne hok)).2
          · refine ⟨fun hp Ω w xs hbs hd => ?_, fun b pre post h => ?_, fun cs rest h => (by cases h)⟩
            · obtain ⟨x1, ys, rfl, h1, x2, zs, rfl, h2, rfl⟩ := hd
              simp only [Den, DenL] at h2
              obtain ⟨_, rfl, y1, _, rfl, ⟨es', hperm, hlen, hsl⟩, h3⟩ := h2
              obtain ⟨rows', rfl⟩ := pairs_of hlen
              have hperm := perm_pairs hperm
              rw [endsE_perm hperm.symm]
              have hok' := hok.perm hperm
              have hden : Den { Ω with o := fun c => if Ω.o c = .frg then .frz else Ω.o c } w (.sl none 2 (eS2 rows')) y1 := by
                simp only [Den]
                rcases hsl with ⟨h0, p, rfl⟩ | ⟨b, off, cap, rfl, hf, hcl⟩
                · left; exact ⟨by rw [List.map_eq_nil_iff.1 h0]; rfl, p, rfl⟩
                · right; refine ⟨b, off, cap, ?_, .inl (by simp [hf]), den_flat hcl⟩; simp
              have hne' : rows' ≠ [] := fun e => hne (by subst e; exact List.Perm.nil_eq hperm ▸ rfl)
              have hx : ExtM Ω { Ω with o := fun c => if Ω.o c = .frg then .frz else Ω.o c } w w := by
                refine ⟨fun c hc => ?_, fun _ _ => Nat.le_refl _, fun _ _ _ _ => rfl⟩
                rcases hc with hc | ⟨t, hc⟩
                · exact .inl (by simp [hc])
                · exact .inr ⟨t, by simp [hc]⟩
              have hbs' : Base { Ω with o := fun c => if Ω.o c = .frg then .frz else Ω.o c } w := by
                refine ⟨fun c => ?_, fun c hc => hbs.bnd c fun e => hc (by simp [e])⟩
                rcases hbs.o c with e | e | e | e <;> simp [e]
              have h1' : Den { Ω with o := fun c => if Ω.o c = .frg then .frz else Ω.o c } w (.agg [.sl none 2 (eS2 (t :: ts)), dv, I lo, I hi, nv]) x1 := by
                simp only [Den] at h1 ⊢
                obtain ⟨xs, e1, e2⟩ := h1
                exact ⟨xs, e1, DenL.extMa hx _ xs (by simp only [List.all_cons, List.all_nil, Bool.and_true, Bool.and_eq_true]; exact ⟨rfl, slB_pm hb.1, rfl, rfl, slB_pm hb.2⟩) e2⟩
              have h3' : DenL { Ω with o := fun c => if Ω.o c = .frg then .frz else Ω.o c } w [I l, I r] _ := h3
              refine ((run_sound tabOk 57 _ _ (r1_ends hb.1 hb.2 hne' hok')).2.1 (by simpa [pureL, V.pure] using hp) _ w _ hbs' ⟨x1, _, rfl, h1', _, _, rfl, ⟨_, rfl, y1, _, rfl, hden, h3'⟩, rfl⟩).mono fun e w1 he => ?_
              obtain ⟨x, Ω1, rfl, hbl, hden, hres⟩ := he
              refine ⟨x, Ω, rfl, hbl, ?_, ⟨fun _ _ => ⟨rfl, rfl⟩, fun c hc => Nat.lt_of_lt_of_le (hbs.bnd c hc) hbl.size, fun k m hk => by simp [V.tks, tksL] at hk⟩⟩
              simp only [Den, DenL] at hden ⊢
              exact hden
            · have : V.fn (.y b) [] ∈ [V.agg [V.sl none 2 (eS2 (t :: ts)), dv, I lo, I hi, nv], V.agg [.bag 2 (rows.map fun x => [x.1, x.2]), I l, I r]] := by rw [h]; simp
              simp at this
        · cases h
      · cases h
    · cases h
  · cases h
end Go.Lo.P6

/- The base of the statements of lead screws: less and ends are told. -/
namespace Go.Lo
open Go.Proofs
def F2 : Nat → Option (List V → Option V)
  | 64 => some P6.lessF
  | 57 => some P6.endsF
  | _ => none
noncomputable abbrev R : Nat → List V → Option V := run2 F2 C2
theorem tab1 : TabOk Try.prog F2 Ct where
  mixed := tabOk.mixed
  code := fun f lf h => tabOk.code f lf h
  told := by
    intro f g as9 r hf hr
    unfold F2 at hf
    split at hf
    · injection hf with hf
      subst hf
      exact ⟨P6.less_enters, P6.less_callOk hr⟩
    · injection hf with hf
      subst hf
      exact ⟨P6.ends_enters, P6.ends_callOk hr⟩
    · cases hf
theorem rel_pairs {xs : List (Int × Int)} {v : V} (hx : xs ≠ []) (h : Rel (.sl none 2 (P6.eS2 xs)) noT v) : v = .sl none 2 (P6.eS2 xs) := by
  rcases P6.sl_flat (P6.flat_pairs xs) h with ⟨_, h0⟩ | h
  · exact absurd (List.map_eq_nil_iff.1 h0) hx
  · exact h
theorem relR_flat {r : V} (hr : ∀ tk : TkF, Rel r tk r) : RelR r r := ⟨⟨noT, hr _⟩, fun ρ _ => hr ρ⟩
theorem less_rel {as2 as9 : List V} {r2 : V} (h : P6.lessF as2 = some r2) (ha : RelL as2 noT as9) : ∃ r, run F2 Ct 64 as9 = some r ∧ RelR r2 r ∧ ∀ l2, itemsOf (some r2) = some l2 → ∃ l, itemsOf (some r) = some l ∧ RelE l2 l := by
  have h0 := h
  unfold P6.lessF at h
  split at h
  · rename_i e1 l r e2 l' r'
    split at h
    · rename_i rs rs' hm1 hm2
      split at h
      · rename_i hc
        injection h with h
        subst h
        have := P6.shL_eq hm1
        subst this
        have := P6.shL_eq hm2
        subst this
        simp only [Bool.and_eq_true] at hc
        obtain ⟨⟨⟨⟨⟨c1, c2⟩, c3⟩, c4⟩, c5⟩, c6⟩ := hc
        have n1 : rs ≠ [] := fun e => by have := (P6.shs_ok c1).1.1; rw [e] at this; simp at this
        have n2 : rs' ≠ [] := fun e => by have := (P6.shs_ok c2).1.1; rw [e] at this; simp at this
        obtain ⟨v, u, rfl, hv, hu⟩ := RelL.inv2 ha
        simp only [Rel] at hv hu
        obtain ⟨ds, rfl, hd⟩ := hv
        obtain ⟨es, rfl, he⟩ := hu
        obtain ⟨d1, q1, rfl, k1, hd⟩ := RelL.inv hd
        obtain ⟨d2, d3, rfl, k2, k3⟩ := RelL.inv2 hd
        obtain ⟨f1, q2, rfl, m1, he⟩ := RelL.inv he
        obtain ⟨f2, f3, rfl, m2, m3⟩ := RelL.inv2 he
        have := rel_pairs n1 k1
        subst this
        have := rel_pairs n2 m1
        subst this
        simp only [Rel] at k2 k3 m2 m3
        subst k2; subst k3; subst m2; subst m3
        refine ⟨_, run_of (n := 1) (by unfold evF; exact h0), relR_flat (fun tk => ?_), fun l2 h => by simp [itemsOf] at h⟩
        rw [Rel]
        exact ⟨_, rfl, RelL.cons (by simp only [Rel]) (RelL.cons (by simp only [Rel]) (RelL.one (by simp only [Rel])))⟩
      · cases h
    · cases h
  · cases h
theorem ends_rel {as2 as9 : List V} {r2 : V} (h : P6.endsF as2 = some r2) (ha : RelL as2 noT as9) : ∃ r, run F2 Ct 57 as9 = some r ∧ RelR r2 r ∧ ∀ l2, itemsOf (some r2) = some l2 → ∃ l, itemsOf (some r) = some l ∧ RelE l2 l := by
  unfold P6.endsF at h
  split at h
  · rename_i te dv lo hi nv sh l r
    split at h
    · rename_i hb
      rw [Bool.and_eq_true] at hb
      split at h
      · rename_i t ts rows hm1 hm2
        split at h
        · rename_i hc
          injection h with h
          subst h
          have := P6.shL_eq hm1
          subst this
          obtain ⟨v, u, rfl, hv, hu⟩ := RelL.inv2 ha
          simp only [Rel] at hv hu
          obtain ⟨ds, rfl, hd⟩ := hv
          obtain ⟨es, rfl, he⟩ := hu
          obtain ⟨d1, q1, rfl, k1, hd⟩ := RelL.inv hd
          obtain ⟨d2, q2, rfl, k2, hd⟩ := RelL.inv hd
          obtain ⟨d3, q3, rfl, k3, hd⟩ := RelL.inv hd
          obtain ⟨d4, d5, rfl, k4, k5⟩ := RelL.inv2 hd
          obtain ⟨f1, q4, rfl, m1, he⟩ := RelL.inv he
          obtain ⟨f2, f3, rfl, m2, m3⟩ := RelL.inv2 he
          have := rel_pairs (xs := t :: ts) (by simp) k1
          subst this
          simp only [Rel] at k3 k4 m2 m3
          subst k3; subst k4; subst m2; subst m3
          have b1 := P6.rel_slB hb.1 k2
          have b2 := P6.rel_slB hb.2 k5
          have hsh : f1 = sh := by
            rcases P6.rowsOf_cases hm2 with ⟨rfl, hne⟩ | ⟨rfl, _⟩
            · exact rel_pairs hne m1
            · simp only [Rel] at m1; exact m1
          subst hsh
          refine ⟨_, run_of (n := 1) (r := .agg [I (P6.endsE (t :: ts) (lo, hi) rows l r).1, I (P6.endsE (t :: ts) (lo, hi) rows l r).2]) ?_, relR_flat (fun tk => ?_), fun l2 h => by simp [itemsOf] at h⟩
          · unfold evF
            show P6.endsF _ = _
            unfold P6.endsF
            simp only
            rw [if_pos (by rw [b1, b2]; rfl), hm2, show P6.shL (P6.eS2 (t :: ts)) = some (t :: ts) from P6.shL_map _]
            simp only
            rw [if_pos hc]
          · rw [Rel]
            exact ⟨_, rfl, RelL.cons (by simp only [Rel]) (RelL.one (by simp only [Rel]))⟩
        · cases h
      · cases h
    · cases h
  · cases h
theorem tabR : TabR F2 F2 C2 Ct := by
  refine ⟨fun f g2 as2 r2 as1 h1 h2 h3 => ?_, fun f lf h1 h2 => ⟨h1, tabC f lf h2⟩⟩
  unfold F2 at h1
  split at h1
  · injection h1 with h1
    subst h1
    exact less_rel h2 h3
  · injection h1 with h1
    subst h1
    exact ends_rel h2 h3
  · cases h1
end Go.Lo

/- Screws are checked. -/
namespace Go.Lo
open Go.Proofs
set_option linter.unusedSimpArgs false
set_option maxHeartbeats 8000000
set_option maxRecDepth 20000
/-! ### The first of a list for which a function says so -/
theorem p86 {α : Type} {E : α → List V} {W : α → V} {g : Nat} {caps : List V} {pr : α → Bool} (hc : ∀ rd, frzL rd caps = some caps) {xs : List α} (hE : ∀ x ∈ xs, partV (E x) 0 none = some (W x) ∧ (∀ rd, (W x).frz rd = some (W x)) ∧ ∀ s, opV s (some (W x)) = some (W x)) (hp : ∀ x ∈ xs, R g (W x :: caps) = some (B (pr x))) (hl : xs.length < 4611686018427387904) :
    R 86 [S 1 (xs.map E), .fn (.f g) caps] = some (I (match xs.findIdx? pr with | none => -1 | some k => k)) := by
  have L := loop_find (s := fun i => { fr := [(0, S 1 (xs.map E)), (1, .fn (.f g) caps), (7, I xs.length), (8, I i)], tk := [] }) (f := evC2 R (xs.length + 1) b86_0) (n := xs.length) (g := prAt pr xs) (E := fun i => (.ret, { fr := [(4, I i)], tk := [] })) (X := (.exit 0, { fr := [(0, S 1 (xs.map E)), (1, .fn (.f g) caps), (7, I xs.length), (8, I xs.length), (9, B false)], tk := [] }))
    (fun i hi => by
      have h1 : xs[i]? = some xs[i] := List.getElem?_eq_getElem hi
      have hm : xs[i] ∈ xs := List.getElem_mem hi
      have hp' := hp _ hm
      obtain ⟨h2, h3, h4⟩ := hE _ hm
      have hlt : (i : Int) < xs.length := by omega
      clear hp hE
      generalize xs[i] = x at *
      rw [prAt_some h1]
      generalize hw : W x = w at *
      cases hx : pr x <;> rw [hx] at hp' <;> simp (maxSteps := 2000000) (disch := first | omega | (simp; done) | (simp; omega)) [-getElem?_pos, -partV, b86_0, h1, h2, h3, h4, hc, hp', hlt, wrap64]) (fun _ => by simp) (by simp [b86_0]) (by simp) xs.length 0 (by omega)
  rw [find_idx] at L
  refine run2_body (xs.length + 1) rfl rfl rfl rfl rfl ?_
  cases hf : xs.findIdx? pr with
  | none =>
    rw [hf] at L
    simp at L
    simp [l86, L]
  | some k =>
    rw [hf] at L
    simp at L
    simp [l86, L]
theorem p75 {α : Type} {E : α → List V} {W : α → V} {g : Nat} {caps : List V} {pr : α → Bool} (hc : ∀ rd, frzL rd caps = some caps) {xs : List α} (hE : ∀ x ∈ xs, partV (E x) 0 none = some (W x) ∧ (∀ rd, (W x).frz rd = some (W x)) ∧ ∀ s, opV s (some (W x)) = some (W x)) (hp : ∀ x ∈ xs, R g (W x :: caps) = some (B (pr x))) (hl : xs.length < 4611686018427387904) :
    R 75 [S 1 (xs.map E), .fn (.f g) caps] = some (B (xs.any pr)) := by
  have h := p86 hc hE hp hl
  refine run2_body 1 rfl rfl rfl rfl rfl ?_
  cases hf : xs.findIdx? pr with
  | none =>
    rw [hf] at h
    have : xs.any pr = false := by
      rw [List.findIdx?_eq_none_iff] at hf
      rw [List.any_eq_false]; simpa using hf
    simp [l75, h, hc, this]
  | some k =>
    rw [hf] at h
    have : xs.any pr = true := by
      have := List.findIdx?_isSome (xs := xs) (p := pr)
      rw [hf] at this
      exact this.symm
    simp (maxSteps := 2000000) (disch := first | omega | (simp; done) | (simp; omega)) [l75, h, hc, this]

theorem p76 (x lo hi : Int) : R 76 [I x, .cref [I lo], .cref [I hi]] = some (B (decide (x < lo) || decide (x > hi))) := by
  refine run2_body 1 rfl rfl rfl rfl rfl ?_
  by_cases h : x < lo <;> simp [l76, h]
theorem p53 (lo hi : Int) {xs : List Int} (hl : xs.length < 4611686018427387904) : R 53 [I lo, I hi, S 1 (eI xs)] = some (B (xs.all fun x => decide (lo ≤ x ∧ x ≤ hi))) := by
  have h := p75 (g := 76) (caps := [.cref [I lo], .cref [I hi]]) (pr := fun x => decide (x < lo) || decide (x > hi)) (E := fun x => [I x]) (W := fun x => I x) (xs := xs) (fun _ => rfl) (fun _ _ => ⟨rfl, fun _ => rfl, fun _ => rfl⟩) (fun x _ => p76 x lo hi) hl
  refine run2_body 1 rfl rfl rfl rfl rfl ?_
  have e : (xs.all fun x => decide (lo ≤ x ∧ x ≤ hi)) = !(xs.any fun x => decide (x < lo) || decide (x > hi)) := by
    rw [List.not_any_eq_all_not]
    congr 1
    funext x
    by_cases h1 : x < lo <;> by_cases h2 : x > hi <;> simp [h1, h2] <;> omega
  rw [e]
  simp [l53, h]

/-! ### The first of a list for which a function says so -/
theorem p74 {α : Type} {E : α → List V} {W : α → V} {g : Nat} {caps : List V} {pr : α → Bool} (hc : ∀ rd, frzL rd caps = some caps) {xs : List α} (hE : ∀ x ∈ xs, partV (E x) 0 (some 2) = some (W x) ∧ (∀ rd, (W x).frz rd = some (W x)) ∧ ∀ s, opV s (some (W x)) = some (W x)) (hp : ∀ x ∈ xs, R g (W x :: caps) = some (B (pr x))) (hl : xs.length < 4611686018427387904) :
    R 74 [S 2 (xs.map E), .fn (.f g) caps] = some (I (match xs.findIdx? pr with | none => -1 | some k => k)) := by
  have L := loop_find (s := fun i => { fr := [(0, S 2 (xs.map E)), (1, .fn (.f g) caps), (7, I xs.length), (8, I i)], tk := [] }) (f := evC2 R (xs.length + 1) b74_0) (n := xs.length) (g := prAt pr xs) (E := fun i => (.ret, { fr := [(4, I i)], tk := [] })) (X := (.exit 0, { fr := [(0, S 2 (xs.map E)), (1, .fn (.f g) caps), (7, I xs.length), (8, I xs.length), (9, B false)], tk := [] }))
    (fun i hi => by
      have h1 : xs[i]? = some xs[i] := List.getElem?_eq_getElem hi
      have hm : xs[i] ∈ xs := List.getElem_mem hi
      have hp' := hp _ hm
      obtain ⟨h2, h3, h4⟩ := hE _ hm
      have hlt : (i : Int) < xs.length := by omega
      clear hp hE
      generalize xs[i] = x at *
      rw [prAt_some h1]
      generalize hw : W x = w at *
      cases hx : pr x <;> rw [hx] at hp' <;> simp (maxSteps := 2000000) (disch := first | omega | (simp; done) | (simp; omega)) [-getElem?_pos, -partV, b74_0, h1, h2, h3, h4, hc, hp', hlt, wrap64]) (fun _ => by simp) (by simp [b74_0]) (by simp) xs.length 0 (by omega)
  rw [find_idx] at L
  refine run2_body (xs.length + 1) rfl rfl rfl rfl rfl ?_
  cases hf : xs.findIdx? pr with
  | none =>
    rw [hf] at L
    simp at L
    simp [l74, L]
  | some k =>
    rw [hf] at L
    simp at L
    simp [l74, L]
theorem p52 {α : Type} {E : α → List V} {W : α → V} {g : Nat} {caps : List V} {pr : α → Bool} (hc : ∀ rd, frzL rd caps = some caps) {xs : List α} (hE : ∀ x ∈ xs, partV (E x) 0 (some 2) = some (W x) ∧ (∀ rd, (W x).frz rd = some (W x)) ∧ ∀ s, opV s (some (W x)) = some (W x)) (hp : ∀ x ∈ xs, R g (W x :: caps) = some (B (pr x))) (hl : xs.length < 4611686018427387904) :
    R 52 [S 2 (xs.map E), .fn (.f g) caps] = some (B (xs.any pr)) := by
  have h := p74 hc hE hp hl
  refine run2_body 1 rfl rfl rfl rfl rfl ?_
  cases hf : xs.findIdx? pr with
  | none =>
    rw [hf] at h
    have : xs.any pr = false := by
      rw [List.findIdx?_eq_none_iff] at hf
      rw [List.any_eq_false]; simpa using hf
    simp [l52, h, hc, this]
  | some k =>
    rw [hf] at h
    have : xs.any pr = true := by
      have := List.findIdx?_isSome (xs := xs) (p := pr)
      rw [hf] at this
      exact this.symm
    simp (maxSteps := 2000000) (disch := first | omega | (simp; done) | (simp; omega)) [l52, h, hc, this]

abbrev eS (x : Int × Int) : V := .agg [I x.1, I x.2]
abbrev eS2 (l : List (Int × Int)) : List (List V) := l.map fun x => [I x.1, I x.2]
theorem p53_1 (lo hi x : Int) : R 53 [I lo, I hi, S 1 [[I x]]] = some (B (decide (lo ≤ x ∧ x ≤ hi))) := by
  have := p53 lo hi (xs := [x]) (by simp)
  simpa using this
theorem p53_2 (lo hi x y : Int) : R 53 [I lo, I hi, S 1 [[I x], [I y]]] = some (B (decide ((lo ≤ x ∧ x ≤ hi) ∧ (lo ≤ y ∧ y ≤ hi)))) := by
  have := p53 lo hi (xs := [x, y]) (by simp)
  simpa using this
def spB (s : Int × Int) (lo hi : Int) : Bool := decide (lo ≤ s.1 ∧ s.1 ≤ s.2 ∧ s.2 ≤ hi)
theorem p51 (s : Int × Int) (lo hi : Int) : R 51 [eS s, I lo, I hi] = some (B (spB s lo hi)) := by
  have e1 := p53_2 lo hi s.1 s.2
  unfold spB
  refine run2_body 1 rfl rfl rfl rfl rfl ?_
  rw [show decide (lo ≤ s.1 ∧ s.1 ≤ s.2 ∧ s.2 ≤ hi) = (decide ((lo ≤ s.1 ∧ s.1 ≤ hi) ∧ (lo ≤ s.2 ∧ s.2 ≤ hi)) && decide (s.1 ≤ s.2)) from by rw [Bool.eq_iff_iff]; simp; omega]
  generalize decide ((lo ≤ s.1 ∧ s.1 ≤ hi) ∧ (lo ≤ s.2 ∧ s.2 ≤ hi)) = q at *
  cases q <;> by_cases h : s.1 ≤ s.2 <;> simp (maxSteps := 2000000) (disch := first | omega | (simp; done) | (simp; omega)) [-getElem?_pos, l51, e1, h]
theorem p50 (s : Int × Int) : R 50 [eS s] = some (B (!spB s (-10000) 10000)) := by
  have e1 := p51 s (-10000) 10000
  generalize spB s (-10000) 10000 = q at *
  refine run2_body 1 rfl rfl rfl rfl rfl ?_
  simp (maxSteps := 2000000) (disch := first | omega | (simp; done) | (simp; omega)) [-getElem?_pos, l50, e1]
theorem p52_1 {ts : List (Int × Int)} (hl : ts.length < 4611686018427387904) : R 52 [S 2 (eS2 ts), .fn (.f 50) []] = some (B (ts.any fun s => !spB s (-10000) 10000)) :=
  p52 (E := fun s => [I s.1, I s.2]) (W := fun s => eS s) (fun _ => rfl) (fun _ _ => ⟨rfl, fun _ => rfl, fun _ => rfl⟩) (fun s _ => p50 s) hl
/-- A lead screw. -/
structure Scr where
  ts : List (Int × Int)
  dr : List Int
  la : Int × Int
abbrev eL (s : Scr) : List V := [S 2 (eS2 s.ts), S 1 (eI s.dr), I s.la.1, I s.la.2]
abbrev eW (s : Scr) (ns : List (Int × Int)) : List V := [S 2 (eS2 s.ts), S 1 (eI s.dr), I s.la.1, I s.la.2, S 2 (eS2 ns)]
/-- The error of a screw. -/
def chkS (s : Scr) : Int :=
  if 200 < s.ts.length ∨ 24 < s.dr.length then 5
  else if s.ts.length < 2 ∨ s.dr.length = 0 ∨ (s.ts.any fun x => !spB x (-10000) 10000) = true ∨ (s.dr.all fun x => decide (-10000 ≤ x ∧ x ≤ 10000)) = false then 2
  else if s.dr.getD 0 0 ≠ 0 ∨ spB s.la 0 10000 = false then 2 else 0
structure ScrOk (s : Scr) : Prop where
  tl : 2 ≤ s.ts.length ∧ s.ts.length ≤ 200
  dl : 1 ≤ s.dr.length ∧ s.dr.length ≤ 24
  ts : ∀ x ∈ s.ts, -10000 ≤ x.1 ∧ x.1 ≤ x.2 ∧ x.2 ≤ 10000
  dr : ∀ x ∈ s.dr, -10000 ≤ x ∧ x ≤ 10000
  d0 : s.dr.getD 0 0 = 0
  la : 0 ≤ s.la.1 ∧ s.la.1 ≤ s.la.2 ∧ s.la.2 ≤ 10000
theorem chkS_ok {s : Scr} : chkS s = 0 ↔ ScrOk s := by
  unfold chkS
  constructor
  · intro h
    split at h
    · cases h
    · split at h
      · cases h
      · split at h
        · cases h
        · rename_i h1 h2 h3
          have k2 : 1 ≤ s.dr.length := by omega
          have k3 : (s.ts.any fun x => !spB x (-10000) 10000) = false := by
            cases e : s.ts.any fun x => !spB x (-10000) 10000
            · rfl
            · exact absurd (.inr (.inr (.inl e))) h2
          have k4 : (s.dr.all fun x => decide (-10000 ≤ x ∧ x ≤ 10000)) = true := by
            cases e : s.dr.all fun x => decide (-10000 ≤ x ∧ x ≤ 10000)
            · exact absurd (.inr (.inr (.inr e))) h2
            · rfl
          have k5 : spB s.la 0 10000 = true := by
            cases e : spB s.la 0 10000
            · exact absurd (.inr e) h3
            · rfl
          refine ⟨by omega, by omega, fun x hx => ?_, fun x hx => ?_, ?_, of_decide_eq_true k5⟩
          · rw [List.any_eq_false] at k3
            have := k3 x hx
            simp only [Bool.not_eq_true', Bool.not_eq_false] at this
            exact of_decide_eq_true this
          · exact of_decide_eq_true (List.all_eq_true.1 k4 x hx)
          · exact Classical.byContradiction fun e => h3 (.inl e)
  · rintro ⟨h1, h2, h3, h4, h5, h6⟩
    have k3 : (s.ts.any fun x => !spB x (-10000) 10000) = false := by
      rw [List.any_eq_false]
      intro x hx
      have := h3 x hx
      simp [spB]; omega
    have k4 : (s.dr.all fun x => decide (-10000 ≤ x ∧ x ≤ 10000)) = true := List.all_eq_true.2 fun x hx => decide_eq_true (h4 x hx)
    have k5 : spB s.la 0 10000 = true := decide_eq_true h6
    rw [if_neg (by omega), if_neg, if_neg]
    · rw [k5, h5]; simp
    · rw [k3, k4]
      have : s.dr.length ≠ 0 := by omega
      simp only [this, Bool.false_eq_true, or_false, reduceCtorEq]; omega
theorem p18 {s : Scr} (h1 : s.ts.length < 4611686018427387904) (h2 : s.dr.length < 4611686018427387904) : R 18 [.agg (eL s)] = some (I (chkS s)) := by
  have e1 := p52_1 (ts := s.ts) h1
  have e2 := p53 (-10000) 10000 (xs := s.dr) h2
  have e3 := p51 s.la 0 10000
  unfold chkS
  obtain ⟨ts, dr, la⟩ := s
  simp only [eL] at *
  generalize (ts.any fun x => !spB x (-10000) 10000) = q1 at *
  generalize (dr.all fun x => decide (-10000 ≤ x ∧ x ≤ 10000)) = q2 at *
  generalize spB la 0 10000 = q3 at *
  have hlt : (eS2 ts).length = ts.length := by simp
  have hld : (eI dr).length = dr.length := by simp
  have hz : dr.length ≠ 0 → (eI dr)[0]? = some [I (dr.getD 0 0)] := fun hne => by cases dr with | nil => exact absurd rfl hne | cons a r => simp
  generalize dr.getD 0 0 = d0 at *
  generalize eS2 ts = te at *
  generalize eI dr = de at *
  generalize ts.length = n at *
  generalize dr.length = m at *
  refine run2_body 1 rfl rfl rfl rfl rfl ?_
  by_cases c1 : (200 : Int) < n
  · have c1' : 200 < n := by omega
    simp (maxSteps := 2000000) (disch := first | omega | (simp; done) | (simp; omega)) [-getElem?_pos, l18, hlt, hld, c1, c1']
  · have c1' : ¬ 200 < n := by omega
    by_cases c2 : (24 : Int) < m
    · have c2' : 24 < m := by omega
      simp (maxSteps := 2000000) (disch := first | omega | (simp; done) | (simp; omega)) [-getElem?_pos, l18, hlt, hld, c1, c1', c2, c2']
    · have c2' : ¬ 24 < m := by omega
      by_cases c3 : (n : Int) < 2
      · have c3' : n < 2 := by omega
        simp (maxSteps := 2000000) (disch := first | omega | (simp; done) | (simp; omega)) [-getElem?_pos, l18, hlt, hld, c1, c1', c2, c2', c3, c3']
      · have c3' : ¬ n < 2 := by omega
        by_cases c4 : m = 0
        · simp (maxSteps := 2000000) (disch := first | omega | (simp; done) | (simp; omega)) [-getElem?_pos, l18, hlt, hld, c1, c1', c2, c2', c3, c3', c4]
        · have hz := hz c4
          have c5 : (0 : Int) < m := by omega
          cases q1
          · cases q2
            · simp (maxSteps := 2000000) (disch := first | omega | (simp; done) | (simp; omega)) [-getElem?_pos, l18, hlt, hld, c1, c1', c2, c2', c3, c3', c4, e1, e2]
            · by_cases c6 : d0 = 0
              · cases q3 <;> simp (maxSteps := 2000000) (disch := first | omega | (simp; done) | (simp; omega)) [-getElem?_pos, l18, hlt, hld, c1, c1', c2, c2', c3, c3', c4, c5, c6, e1, e2, e3, hz]
              · simp (maxSteps := 2000000) (disch := first | omega | (simp; done) | (simp; omega)) [-getElem?_pos, l18, hlt, hld, c1, c1', c2, c2', c3, c3', c4, c5, c6, e1, e2, hz]
          · simp (maxSteps := 2000000) (disch := first | omega | (simp; done) | (simp; omega)) [-getElem?_pos, l18, hlt, hld, c1, c1', c2, c2', c3, c3', c4, e1]
theorem p79 (s : Scr) (ns : List (Int × Int)) : R 79 [.agg (eW s ns)] = some (I s.dr.length) := by
  refine run2_body 1 rfl rfl rfl rfl rfl ?_
  simp (maxSteps := 2000000) (disch := first | omega | (simp; done) | (simp; omega)) [-getElem?_pos, l79]
/-- The last step. -/
def lastE (s : Scr) : Nat := (s.ts.length - 1) * s.dr.length
theorem lastE_bd {s : Scr} (h : ScrOk s) : 1 ≤ lastE s ∧ lastE s ≤ 4776 := by
  have h1 := h.tl
  have h2 := h.dl
  unfold lastE
  have := Nat.mul_le_mul (show s.ts.length - 1 ≤ 199 by omega) h2.2
  have := Nat.mul_le_mul (show 1 ≤ s.ts.length - 1 by omega) h2.1
  omega
theorem p77 {s : Scr} (h : ScrOk s) (ns : List (Int × Int)) : R 77 [.agg (eW s ns)] = some (I (lastE s)) := by
  have e1 := p79 s ns
  have hb := lastE_bd h
  have h1 := h.tl
  have hz : ((s.ts.length : Int) - 1) * s.dr.length = (lastE s : Nat) := by
    unfold lastE
    rw [Int.natCast_mul, Int.natCast_sub (by omega)]; rfl
  have w1 := wrap64 (n := (s.ts.length : Int) - 1) (by omega) (by omega)
  have w2 := wrap64 (n := (lastE s : Int)) (by omega) (by omega)
  generalize lastE s = L at *
  generalize hn : s.dr.length = m at *
  clear hb
  refine run2_body 1 rfl rfl rfl rfl rfl ?_
  simp (maxSteps := 2000000) (disch := first | omega | (simp; done) | (simp; omega)) [-getElem?_pos, l77, e1, w1, w2, hz]
theorem p55 {s : Scr} (h : ScrOk s) (ns : List (Int × Int)) {l : List Int} (hl : l.length < 4611686018427387904) : R 55 [.agg (eW s ns), S 1 (eI l)] = some (B (l.all fun x => decide (0 ≤ x ∧ x ≤ (lastE s : Int)))) := by
  have e1 := p77 h ns
  have e2 := p53 0 (lastE s) (xs := l) hl
  generalize (l.all fun x => decide (0 ≤ x ∧ x ≤ (lastE s : Int))) = q at *
  generalize lastE s = L at *
  refine run2_body 1 rfl rfl rfl rfl rfl ?_
  simp (maxSteps := 2000000) (disch := first | omega | (simp; done) | (simp; omega)) [-getElem?_pos, l55, e1, e2]
end Go.Lo

/- Lead screws and notches, as arguments. -/
namespace Go.Lo
open Go.Proofs
set_option linter.unusedSimpArgs false
abbrev spTy : Ty := .st [.int .i64, .int .i64]
abbrev lsTy : Ty := .st [.sl spTy, .sl (.int .i64), spTy]
theorem can_i {x : List V} (h : HasC (.int .i64) x) : ∃ n, x = [.int .i64 n] ∧ i64r n := by
  simp only [HasC] at h
  obtain ⟨n, rfl, hn⟩ := h
  exact ⟨n, rfl, wf_i64r hn⟩
theorem can_sp {x : List V} (h : HasC spTy x) : ∃ a b, x = [.int .i64 a, .int .i64 b] ∧ i64r a ∧ i64r b := by
  rw [HasC] at h
  obtain ⟨x1, r1, rfl, h1, h⟩ := h.inv
  obtain ⟨x2, r2, rfl, h2, h⟩ := h.inv
  rw [HasCs] at h
  subst h
  obtain ⟨a, rfl, ha⟩ := can_i h1
  obtain ⟨b, rfl, hb⟩ := can_i h2
  exact ⟨a, b, rfl, ha, hb⟩
theorem rel_i (n : Int) : Rel (I n) noT (.int .i64 n) := by rw [Rel]
theorem can_pairs {v : V} (h : HasC (.sl spTy) [v]) : ∃ l : List (Int × Int), Rel (S 2 (eS2 l)) noT v ∧ ∀ x ∈ l, i64r x.1 ∧ i64r x.2 :=
  can_sl (E := fun x : Int × Int => [I x.1, I x.2]) (Q := fun x => i64r x.1 ∧ i64r x.2) h fun x hx => by
    obtain ⟨a, b, rfl, ha, hb⟩ := can_sp hx
    exact ⟨(a, b), RelL.cons (rel_i a) (RelL.one (rel_i b)), ha, hb⟩
theorem can_ls {v : V} (h : HasV lsTy v) : ∃ s : Scr, Rel (.agg (eL s)) noT v := by
  simp only [HasV] at h
  obtain ⟨cs, rfl, h⟩ := h
  obtain ⟨x1, r1, rfl, h1, h⟩ := h.inv
  obtain ⟨x2, r2, rfl, h2, h⟩ := h.inv
  obtain ⟨x3, r3, rfl, h3, h⟩ := h.inv
  rw [HasCs] at h
  subst h
  obtain ⟨t, rfl⟩ := h1.sl1
  obtain ⟨d, rfl⟩ := h2.sl1
  obtain ⟨a, b, rfl, _, _⟩ := can_sp h3
  obtain ⟨ts, hts, _⟩ := can_pairs h1
  obtain ⟨dr, hdr, _⟩ := can_ints h2
  refine ⟨⟨ts, dr, (a, b)⟩, ?_⟩
  rw [Rel]
  exact ⟨_, rfl, RelL.cons hts (RelL.cons hdr (RelL.cons (rel_i a) (RelL.one (rel_i b))))⟩
theorem can_ns {v : V} (h : HasV (.sl spTy) v) : ∃ l : List (Int × Int), Rel (S 2 (eS2 l)) noT v ∧ ∀ x ∈ l, i64r x.1 ∧ i64r x.2 := by
  simp only [HasV] at h
  exact can_pairs h
end Go.Lo

/- Notches; the error at a step. -/
namespace Go.Lo
open Go.Proofs
set_option linter.unusedSimpArgs false
set_option maxHeartbeats 8000000
set_option maxRecDepth 20000
def nt (ns : List (Int × Int)) (i : Nat) : Int × Int := ns.getD i (0, 0)
def aftN (ns : List (Int × Int)) (i : Nat) : Int := if i = 0 then 0 else (nt ns (i - 1)).1 + 1
def noteB (s : Scr) (ns : List (Int × Int)) (i : Nat) : Bool := decide ((aftN ns i ≤ (nt ns i).1 ∧ (nt ns i).1 ≤ (lastE s : Int)) ∧ (-20000 ≤ (nt ns i).2 ∧ (nt ns i).2 ≤ 20000))
/-- The error of a screw and of notches. -/
def opE (s : Scr) (ns : List (Int × Int)) : Int :=
  if chkS s ≠ 0 then chkS s else if 200 < ns.length then 5 else if (List.range ns.length).all (noteB s ns) = true then 0 else 2
theorem nt_get {ns : List (Int × Int)} {i : Nat} (hi : i < ns.length) : ns[i]? = some (nt ns i) := by
  unfold nt
  simp [hi]
theorem all_find {n : Nat} {g : Nat → Bool} : (List.range n).all g = ((List.range n).find? fun i => !g i).isNone := by
  rw [Bool.eq_iff_iff, List.all_eq_true, Option.isNone_iff_eq_none, List.find?_eq_none]
  simp
theorem loop54_0 {s : Scr} (hs : ScrOk s) {ns : List (Int × Int)} (hl : ns.length ≤ 200) (hw : ∀ x ∈ ns, -9223372036854775808 ≤ x.1) (M : Nat) :
    iter (evC2 R M b54_0) (ns.length + 1) { fr := [(4, .box (eW s ns)), (7, I 0), (23, S 2 (eS2 ns)), (24, I ns.length), (25, I 0)], tk := [] } =
      if (List.range ns.length).all (noteB s ns) = true then some (.exit 0, { fr := [(4, .box (eW s ns)), (7, I (aftN ns ns.length)), (23, S 2 (eS2 ns)), (24, I ns.length), (25, I ns.length), (26, B false)], tk := [] })
      else some (.ret, { fr := [(4, .box (eW s ns)), (5, I 2)], tk := [] }) := by
  have L := loop_if (s := fun i => { fr := [(4, .box (eW s ns)), (7, I (aftN ns i)), (23, S 2 (eS2 ns)), (24, I ns.length), (25, I i)], tk := [] }) (f := evC2 R M b54_0) (n := ns.length) (g := fun i => !noteB s ns i) (E := fun _ => (.ret, { fr := [(4, .box (eW s ns)), (5, I 2)], tk := [] })) (X := (.exit 0, { fr := [(4, .box (eW s ns)), (7, I (aftN ns ns.length)), (23, S 2 (eS2 ns)), (24, I ns.length), (25, I ns.length), (26, B false)], tk := [] }))
    (fun i hi => by
      have h1 := nt_get hi
      have hwx := hw _ (List.mem_of_getElem? h1)
      have h1e : (eS2 ns)[i]? = some [I (nt ns i).1, I (nt ns i).2] := by rw [List.getElem?_map, h1]; rfl
      have hlt : (i : Int) < ns.length := by omega
      have haft : aftN ns (i + 1) = (nt ns i).1 + 1 := by simp [aftN]
      rw [haft]
      have e0 := p77 hs ns
      have hb := lastE_bd hs
      unfold noteB
      have hln : (eS2 ns).length = ns.length := by simp
      have wi := wrap64 (n := (i : Int) + 1) (by omega) (by omega)
      generalize nt ns i = x at *
      generalize aftN ns i = a at *
      have e1 := p53_1 a (lastE s) x.1
      have e2 := p53_1 (-20000) 20000 x.2
      simp only [eW] at *
      generalize lastE s = L at *
      generalize eS2 ns = ne at *
      generalize eS2 s.ts = te at *
      generalize eI s.dr = de at *
      by_cases c1 : a ≤ x.1 ∧ x.1 ≤ L
      · have wx := wrap64 (n := x.1 + 1)
        by_cases c2 : -20000 ≤ x.2 ∧ x.2 ≤ 20000
        · simp only [c1, c2, and_self, decide_true] at e1 e2
          have wx := wx (by omega) (by omega)
          simp (maxSteps := 2000000) (disch := first | omega | (simp; done) | (simp; omega)) [-getElem?_pos, b54_0, h1e, hi, hlt, hln, e0, e1, e2, c1, c2, wi, wx]
        · simp only [c1, c2, and_self, decide_true, decide_false] at e1 e2
          simp (maxSteps := 2000000) (disch := first | omega | (simp; done) | (simp; omega)) [-getElem?_pos, b54_0, h1e, hi, hlt, hln, e0, e1, e2, c1, c2, wi]
      · simp only [c1, decide_false] at e1
        simp (maxSteps := 2000000) (disch := first | omega | (simp; done) | (simp; omega)) [-getElem?_pos, b54_0, h1e, hi, hlt, hln, e0, e1, c1, wi]) (fun _ => by simp) (by simp (maxSteps := 2000000) (disch := first | omega | (simp; done) | (simp; omega)) [-getElem?_pos, b54_0]) (by simp)
  rw [← List.range_eq_range'] at L
  have h0 : aftN ns 0 = 0 := rfl
  simp only [h0] at L
  rw [show ((0 : Nat) : Int) = 0 from rfl] at L
  rw [L, all_find]
  cases (List.range ns.length).find? (fun i => !noteB s ns i) <;> simp
theorem p54 {s : Scr} {ns : List (Int × Int)} (h1 : s.ts.length < 4611686018427387904) (h2 : s.dr.length < 4611686018427387904) (hw : ∀ x ∈ ns, -9223372036854775808 ≤ x.1) :
    R 54 [.agg (eL s), S 2 (eS2 ns)] = some (.tup [.agg (eW s ns), I (opE s ns)]) := by
  have e1 := p18 h1 h2
  unfold opE
  by_cases c1 : chkS s = 0
  · rw [if_neg (not_not_intro c1)]
    rw [c1] at e1
    have hs := chkS_ok.1 c1
    by_cases c2 : (200 : Int) < ns.length
    · rw [if_pos (by omega)]
      have hln : (eS2 ns).length = ns.length := by simp
      refine run2_body 1 rfl rfl rfl rfl rfl ?_
      simp only [eL, eW] at *
      generalize eS2 ns = ne at *
      simp (maxSteps := 2000000) (disch := first | omega | (simp; done) | (simp; omega)) [-getElem?_pos, l54, e1, c2, hln]
    · rw [if_neg (by omega)]
      have L := loop54_0 hs (ns := ns) (by omega) hw (ns.length + 1)
      have hln : (eS2 ns).length = ns.length := by simp
      generalize (List.range ns.length).all (noteB s ns) = q at *
      simp only [eL, eW] at *
      generalize eS2 ns = ne at *
      generalize hF : evC2 R (ns.length + 1) b54_0 = F at *
      refine run2_body (ns.length + 1) rfl rfl rfl rfl rfl ?_
      cases q
      · simp only [Bool.false_eq_true, if_false] at L ⊢
        simp (maxSteps := 2000000) (disch := first | omega | (simp; done) | (simp; omega)) [-getElem?_pos, l54, e1, c2, hln, hF, L]
      · simp only [if_true] at L ⊢
        simp (maxSteps := 2000000) (disch := first | omega | (simp; done) | (simp; omega)) [-getElem?_pos, l54, e1, c2, hln, hF, L]
  · rw [if_pos c1]
    refine run2_body 1 rfl rfl rfl rfl rfl ?_
    simp only [eL, eW] at *
    generalize chkS s = c at *
    simp (maxSteps := 2000000) (disch := first | omega | (simp; done) | (simp; omega)) [-getElem?_pos, l54, e1, c1]
/-- Valid notches. -/
structure NotOk (s : Scr) (ns : List (Int × Int)) : Prop where
  len : ns.length ≤ 200
  up : ns.Pairwise fun x y => x.1 < y.1
  fr : ∀ x ∈ ns, 0 ≤ x.1 ∧ x.1 ≤ (lastE s : Int)
  ad : ∀ x ∈ ns, -20000 ≤ x.2 ∧ x.2 ≤ 20000
theorem notes_at {s : Scr} {ns : List (Int × Int)} (h : (List.range ns.length).all (noteB s ns) = true) {i : Nat} (hi : i < ns.length) : (aftN ns i ≤ (nt ns i).1 ∧ (nt ns i).1 ≤ (lastE s : Int)) ∧ (-20000 ≤ (nt ns i).2 ∧ (nt ns i).2 ≤ 20000) :=
  of_decide_eq_true (List.all_eq_true.1 h i (List.mem_range.2 hi))
theorem notes_lo {s : Scr} {ns : List (Int × Int)} (h : (List.range ns.length).all (noteB s ns) = true) : ∀ {i : Nat}, i < ns.length → 0 ≤ aftN ns i ∧ (i : Int) ≤ (nt ns i).1
  | 0, hi => by
    have := (notes_at h hi).1.1
    simp [aftN] at this ⊢
    exact this
  | i + 1, hi => by
    have h1 := notes_lo h (i := i) (by omega)
    have h2 := (notes_at h hi).1.1
    simp only [aftN, Nat.add_one_ne_zero, if_false, Nat.add_sub_cancel] at h2 ⊢
    omega
theorem notes_up {s : Scr} {ns : List (Int × Int)} (h : (List.range ns.length).all (noteB s ns) = true) : ∀ (d i : Nat), i + d + 1 < ns.length → (nt ns i).1 < (nt ns (i + d + 1)).1
  | 0, i, hi => by
    have h2 := (notes_at h hi).1.1
    simp only [aftN, Nat.add_zero, Nat.add_one_ne_zero, if_false, Nat.add_sub_cancel] at h2 ⊢
    omega
  | d + 1, i, hi => by
    have h1 := notes_up h d i (by omega)
    have h2 := (notes_at h hi).1.1
    rw [show i + (d + 1) + 1 = (i + d + 1) + 1 by omega] at h2 ⊢
    simp only [aftN, Nat.add_one_ne_zero, if_false, Nat.add_sub_cancel] at h2 ⊢
    omega
theorem opE_ok {s : Scr} {ns : List (Int × Int)} (h : opE s ns = 0) : ScrOk s ∧ NotOk s ns := by
  unfold opE at h
  split at h
  · rename_i h1; exact absurd h h1
  · rename_i h1
    split at h
    · cases h
    · rename_i h2
      split at h
      · rename_i h3
        refine ⟨chkS_ok.1 (Classical.byContradiction h1), by omega, ?_, fun x hx => ?_, fun x hx => ?_⟩
        · rw [List.pairwise_iff_getElem]
          intro i j hi hj hij
          obtain ⟨d, rfl⟩ : ∃ d, j = i + d + 1 := ⟨j - i - 1, by omega⟩
          have := notes_up h3 d i hj
          simpa [nt, hi, hj] using this
        · obtain ⟨i, hi, rfl⟩ := List.getElem_of_mem hx
          have k1 := (notes_lo h3 hi).2
          have k2 := (notes_at h3 hi).1.2
          have e : nt ns i = ns[i] := by simp [nt, hi]
          rw [e] at k1 k2
          omega
        · obtain ⟨i, hi, rfl⟩ := List.getElem_of_mem hx
          have k2 := (notes_at h3 hi).2
          have e : nt ns i = ns[i] := by simp [nt, hi]
          rw [e] at k2
          exact k2
      · cases h
theorem notOk_nil (s : Scr) : NotOk s [] := ⟨by simp, List.Pairwise.nil, fun _ h => (by cases h), fun _ h => (by cases h)⟩
end Go.Lo

/- What the corrector adds; the error at a step, and its ends. -/
namespace Go.Lo
open Go.Proofs
set_option linter.unusedSimpArgs false
set_option maxHeartbeats 8000000
set_option maxRecDepth 20000
theorem p91 (x : Int) : R 91 [I x] = some (B false) := by
  refine run2_body 1 rfl rfl rfl rfl rfl ?_
  simp (maxSteps := 2000000) (disch := first | omega | (simp; done) | (simp; omega)) [-getElem?_pos, l91]
def cmpE (x y : Int) : Int := if x < y then -1 else if y < x then 1 else 0
theorem p89 (x y : Int) : R 89 [I x, I y] = some (I (cmpE x y)) := by
  have e1 := p91 x
  have e2 := p91 y
  unfold cmpE
  refine run2_body 1 rfl rfl rfl rfl rfl ?_
  by_cases h1 : x < y
  · simp (maxSteps := 2000000) (disch := first | omega | (simp; done) | (simp; omega)) [-getElem?_pos, l89, e1, e2, h1]
  · by_cases h2 : y < x <;> simp (maxSteps := 2000000) (disch := first | omega | (simp; done) | (simp; omega)) [-getElem?_pos, l89, e1, e2, h1, h2]
theorem p88 (n : Int × Int) (y : Int) : R 88 [eS n, I y] = some (I (cmpE n.1 y)) := by
  have e1 := p89 n.1 y
  refine run2_body 1 rfl rfl rfl rfl rfl ?_
  simp (maxSteps := 2000000) (disch := first | omega | (simp; done) | (simp; omega)) [-getElem?_pos, l88, e1]
/-- Where a list that goes up comes to a number. -/
theorem up_split : ∀ {ns : List (Int × Int)}, ns.Pairwise (fun x y => x.1 < y.1) → ∀ y : Int, ∃ k, k ≤ ns.length ∧ ∀ i x, ns[i]? = some x → (x.1 < y ↔ i < k)
  | [], _, y => ⟨0, Nat.le_refl _, fun i x h => (by cases h)⟩
  | n :: ns, h, y => by
    obtain ⟨h1, h2⟩ := List.pairwise_cons.1 h
    by_cases hn : n.1 < y
    · obtain ⟨k, hk, hx⟩ := up_split h2 y
      refine ⟨k + 1, by simp; omega, fun i x hi => ?_⟩
      cases i with
      | zero => simp only [List.getElem?_cons_zero, Option.some.injEq] at hi; subst hi; simp [hn]
      | succ i => rw [hx i x (by simpa using hi)]; omega
    · refine ⟨0, Nat.zero_le _, fun i x hi => ?_⟩
      have : y ≤ x.1 := by
        cases i with
        | zero => simp only [List.getElem?_cons_zero, Option.some.injEq] at hi; subst hi; omega
        | succ i => have := h1 x (List.mem_of_getElem? (by simpa using hi)); omega
      omega
abbrev sBS (ns : List (Int × Int)) (y : Int) (i j : Int) : St := { fr := [(0, S 2 (eS2 ns)), (1, I y), (2, .fn (.f 88) []), (8, I ns.length), (9, I i), (10, I j)], tk := [] }
theorem shr_half {n : Int} (h0 : 0 ≤ n) (h1 : n ≤ 1000000000) : IntKind.i64.wrap ((IntKind.u64.wrap n).fdiv (2 ^ min 1 IntKind.u64.bits)) = n / 2 := by
  have h2 : IntKind.u64.wrap n = n := by
    simp [IntKind.wrap, IntKind.bits, IntKind.signed]
    omega
  rw [h2, show (2 : Int) ^ min 1 IntKind.u64.bits = 2 from rfl, Int.fdiv_eq_ediv_of_nonneg _ (by omega)]
  exact wrap64 (by omega) (by omega)
theorem bs_end {ns : List (Int × Int)} {y i : Int} {M : Nat} : evC2 R M b87_0 (sBS ns y i i) = some (.exit 0, { fr := [(0, S 2 (eS2 ns)), (1, I y), (2, .fn (.f 88) []), (8, I ns.length), (9, I i), (10, I i), (17, B false)], tk := [] }) := by
  simp (maxSteps := 2000000) (disch := first | omega | (simp; done) | (simp; omega)) [-getElem?_pos, b87_0]
theorem bs_round {ns : List (Int × Int)} {y i j : Int} {M : Nat} {x : Int × Int} (h0 : 0 ≤ i) (hij : i < j) (hj : j ≤ ns.length) (hl : ns.length ≤ 1000000) (hx : ns[((i + j) / 2).toNat]? = some x) :
    evC2 R M b87_0 (sBS ns y i j) = some (.normal, if x.1 < y then sBS ns y ((i + j) / 2 + 1) j else sBS ns y i ((i + j) / 2)) := by
  have w1 := wrap64 (n := i + j) (by omega) (by omega)
  have w2 := shr_half (n := i + j) (by omega) (by omega)
  have w3 := wrap64 (n := (i + j) / 2 + 1) (by omega) (by omega)
  have hm : 0 ≤ (i + j) / 2 ∧ (i + j) / 2 < ns.length := by omega
  have hx1 : (eS2 ns)[((i + j) / 2).toNat]? = some [I x.1, I x.2] := by rw [List.getElem?_map, hx]; rfl
  have hln : (eS2 ns).length = ns.length := by simp
  have e1 := p88 x y
  unfold cmpE at e1
  generalize (i + j) / 2 = m at *
  clear h0 hj hl
  obtain ⟨m1, m2⟩ := hm
  by_cases c1 : x.1 < y
  · rw [if_pos c1] at e1
    simp only [eS] at e1
    simp (maxSteps := 2000000) (disch := first | omega | (simp; done) | (simp; omega)) [-getElem?_pos, b87_0, hij, w1, w2, w3, m1, m2, hx, e1, c1]
  · by_cases c2 : y < x.1
    · rw [if_neg c1, if_pos c2] at e1
      simp only [eS] at e1
      simp (maxSteps := 2000000) (disch := first | omega | (simp; done) | (simp; omega)) [-getElem?_pos, b87_0, hij, w1, w2, w3, m1, m2, hx, e1, c1]
    · rw [if_neg c1, if_neg c2] at e1
      simp only [eS] at e1
      simp (maxSteps := 2000000) (disch := first | omega | (simp; done) | (simp; omega)) [-getElem?_pos, b87_0, hij, w1, w2, w3, m1, m2, hx, e1, c1]
theorem bs_loop {ns : List (Int × Int)} {y : Int} {k : Nat} (hk : k ≤ ns.length) (hx : ∀ i x, ns[i]? = some x → (x.1 < y ↔ i < k)) (hl : ns.length ≤ 1000000) {M : Nat} : ∀ (d : Nat) (i j : Int), 0 ≤ i → i ≤ k → k ≤ j → j ≤ ns.length → j - i ≤ d →
    iter (evC2 R M b87_0) (d + 1) (sBS ns y i j) = some (.exit 0, { fr := [(0, S 2 (eS2 ns)), (1, I y), (2, .fn (.f 88) []), (8, I ns.length), (9, I k), (10, I k), (17, B false)], tk := [] }) := by
  have stop : ∀ (d : Nat) (i : Int), i = k → iter (evC2 R M b87_0) (d + 1) (sBS ns y i i) = some (.exit 0, { fr := [(0, S 2 (eS2 ns)), (1, I y), (2, .fn (.f 88) []), (8, I ns.length), (9, I k), (10, I k), (17, B false)], tk := [] }) := by
    intro d i e
    subst e
    rw [iter_succ, bs_end]
  intro d
  induction d with
  | zero =>
    intro i j h0 h1 h2 h3 h4
    have e1 : i = k := by omega
    have e2 : j = i := by omega
    rw [e2]
    exact stop 0 i e1
  | succ d ih =>
    intro i j h0 h1 h2 h3 h4
    by_cases hij : i < j
    · obtain ⟨x, hg⟩ : ∃ x, ns[((i + j) / 2).toNat]? = some x := ⟨_, List.getElem?_eq_getElem (by omega)⟩
      rw [iter_succ, bs_round h0 hij h3 hl hg]
      have := hx _ x hg
      by_cases c : x.1 < y
      · simp only [c, if_true]
        have := this.1 c
        exact ih _ _ (by omega) (by omega) h2 h3 (by omega)
      · simp only [c, if_false]
        have : ¬ ((i + j) / 2).toNat < k := fun h => c (this.2 h)
        exact ih _ _ h0 h1 (by omega) (by omega) (by omega)
    · have e1 : i = k := by omega
      have e2 : j = i := by omega
      rw [e2]
      exact stop (d + 1) i e1
theorem p87 {ns : List (Int × Int)} {y : Int} {k : Nat} (hk : k ≤ ns.length) (hx : ∀ i x, ns[i]? = some x → (x.1 < y ↔ i < k)) (hl : ns.length ≤ 1000000) :
    R 87 [S 2 (eS2 ns), I y, .fn (.f 88) []] = some (.tup [I k, B (decide (k < ns.length ∧ (nt ns k).1 = y))]) := by
  have L : iter (evC2 R (ns.length + 1) b87_0) (ns.length + 1) { fr := [(0, S 2 (eS2 ns)), (1, I y), (2, .fn (.f 88) []), (8, I ns.length), (9, I 0), (10, I ns.length)], tk := [] } = _ := bs_loop hk hx hl (M := ns.length + 1) ns.length 0 ns.length (by omega) (by omega) (by omega) (by omega) (by omega)
  refine run2_body (ns.length + 1) rfl rfl rfl rfl rfl ?_
  by_cases c1 : k < ns.length
  · have h1 := nt_get c1
    have e1 := p88 (nt ns k) y
    have hge := hx k _ h1
    generalize nt ns k = x at *
    unfold cmpE at e1
    rw [if_neg (by omega)] at e1
    have c1' : (k : Int) < ns.length := by omega
    generalize hF : evC2 R (ns.length + 1) b87_0 = F at *
    clear hx hl hk
    by_cases c2 : y < x.1
    · rw [if_pos c2] at e1
      simp only [eS] at e1
      have c3 : ¬ x.1 = y := by omega
      simp (maxSteps := 2000000) (disch := first | omega | (simp; done) | (simp; omega)) [-getElem?_pos, l87, hF, L, h1, e1, c1, c1', c3]
    · rw [if_neg c2] at e1
      simp only [eS] at e1
      obtain rfl : x.1 = y := by omega
      clear hge c2
      simp (maxSteps := 2000000) (disch := first | omega | (simp; done) | (simp; omega)) [-getElem?_pos, l87, hF, L, h1, e1, c1, c1']
  · have c1' : ¬ (k : Int) < ns.length := by omega
    generalize hF : evC2 R (ns.length + 1) b87_0 = F at *
    clear hx hl hk
    simp (maxSteps := 2000000) (disch := first | omega | (simp; done) | (simp; omega)) [-getElem?_pos, l87, hF, L, c1, c1']
/-- What the corrector adds at a step. -/
def addE (ns : List (Int × Int)) (y : Int) : Int := ns.foldl (fun a x => if x.1 ≤ y then x.2 else a) 0
theorem fold_at : ∀ {ns : List (Int × Int)} {y a : Int} {m : Nat}, m ≤ ns.length → (∀ i x, ns[i]? = some x → (x.1 ≤ y ↔ i < m)) → ns.foldl (fun a x => if x.1 ≤ y then x.2 else a) a = if m = 0 then a else (nt ns (m - 1)).2
  | [], y, a, m, hm, _ => by
    have : m = 0 := by simpa using hm
    simp [this]
  | n :: ns, y, a, m, hm, hx => by
    rw [List.foldl_cons]
    have h0 := hx 0 n (by simp)
    cases m with
    | zero =>
      rw [if_neg (by omega), fold_at (m := 0) (Nat.zero_le _) (fun i x hi => by have := hx (i + 1) x (by simpa using hi); omega)]
      simp
    | succ m =>
      rw [if_pos (by omega), fold_at (m := m) (by simp at hm; omega) (fun i x hi => by have := hx (i + 1) x (by simpa using hi); omega)]
      cases m with
      | zero => simp [nt]
      | succ m => simp [nt]
theorem p80 {s : Scr} {ns : List (Int × Int)} (h : NotOk s ns) (y : Int) : R 80 [.agg (eW s ns), I y] = some (I (addE ns y)) := by
  have hl := h.len
  obtain ⟨k, hk, hx⟩ := up_split h.up y
  have e1 := p87 hk hx (by omega)
  unfold addE
  by_cases c1 : k < ns.length ∧ (nt ns k).1 = y
  · rw [decide_eq_true c1] at e1
    have h1 := nt_get c1.1
    have c1' : (k : Int) < ns.length := by omega
    rw [fold_at (m := k + 1) (by omega) (fun i x hi => by
      have h2 := hx i x hi
      rcases Nat.lt_trichotomy i k with h3 | h3 | h3
      · omega
      · subst h3; rw [h1] at hi; injection hi with hi; subst hi; omega
      · have h4 := (List.pairwise_iff_getElem.1 h.up) k i c1.1 (List.getElem?_eq_some_iff.1 hi).1 h3
        have h5 : ns[k].1 = y := by have := c1.2; simpa [nt, c1.1] using this
        have h6 := (List.getElem?_eq_some_iff.1 hi).2
        rw [h6, h5] at h4
        omega), if_neg (by omega), Nat.add_sub_cancel]
    generalize nt ns k = x at *
    clear hx hk h
    refine run2_body 1 rfl rfl rfl rfl rfl ?_
    simp only [eW]
    simp (maxSteps := 2000000) (disch := first | omega | (simp; done) | (simp; omega)) [-getElem?_pos, l80, e1, h1, c1', hl]
  · rw [decide_eq_false c1] at e1
    rw [fold_at (m := k) hk (fun i x hi => by
      have h2 := hx i x hi
      by_cases e : x.1 = y
      · have h3 : ¬ i < k := fun h3 => by have := h2.2 h3; omega
        by_cases h4 : i = k
        · subst h4
          have h5 := (List.getElem?_eq_some_iff.1 hi).1
          have h6 := nt_get h5
          rw [hi] at h6; injection h6 with h6
          exact absurd ⟨h5, by rw [← h6]; exact e⟩ c1
        · have h5 := (List.getElem?_eq_some_iff.1 hi).1
          have h7 : k < ns.length := by omega
          have h8 := hx k _ (nt_get h7)
          have h9 := (List.pairwise_iff_getElem.1 h.up) k i h7 h5 (by omega)
          have h6 := (List.getElem?_eq_some_iff.1 hi).2
          have h10 : (nt ns k).1 = ns[k].1 := by simp [nt, h7]
          rw [h6] at h9
          omega
      · omega)]
    by_cases c2 : k = 0
    · subst c2
      rw [if_pos rfl]
      clear hx hk h
      refine run2_body 1 rfl rfl rfl rfl rfl ?_
      simp only [eW]
      simp (maxSteps := 2000000) (disch := first | omega | (simp; done) | (simp; omega)) [-getElem?_pos, l80, e1]
    · rw [if_neg c2]
      have h1 := nt_get (ns := ns) (i := k - 1) (by omega)
      have w1 := wrap64 (n := (k : Int) - 1) (by omega) (by omega)
      have c3 : (0 : Int) ≤ (k : Int) - 1 := by omega
      have c4 : (k : Int) - 1 < ns.length := by omega
      have c5 : ((k : Int) - 1).toNat = k - 1 := by omega
      generalize nt ns (k - 1) = x at *
      clear hx hk h c1
      refine run2_body 1 rfl rfl rfl rfl rfl ?_
      simp only [eW]
      simp (maxSteps := 2000000) (disch := first | omega | (simp; done) | (simp; omega)) [-getElem?_pos, l80, e1, w1, h1, c2, c3, c4, c5]
end Go.Lo

/- The error at a step: its shares, its ends, as a span. -/
namespace Go.Lo
open Go.Proofs
set_option linter.unusedSimpArgs false
set_option maxHeartbeats 8000000
set_option maxRecDepth 20000
theorem md1 {n q : Int} (hq : 0 < q) : (n.tmod q + q).tmod q = n % q := by
  have hne : q ≠ 0 := by omega
  have h1 := Int.emod_nonneg n hne
  have h2 := Int.emod_lt_of_pos n hq
  rcases Int.le_total 0 n with h | h
  · rw [Int.tmod_eq_emod_of_nonneg h, Int.tmod_eq_emod_of_nonneg (by omega), Int.add_emod_right, Int.emod_emod]
  · have h3 := Int.emod_nonneg (-n) hne
    have h4 := Int.emod_lt_of_pos (-n) hq
    have h5 : n.tmod q = -((-n) % q) := by
      rw [show n = -(-n) by omega, Int.neg_tmod, Int.tmod_eq_emod_of_nonneg (by omega)]
      simp
    have h6 := Int.mul_ediv_add_emod (-n) q
    rw [h5, Int.tmod_eq_emod_of_nonneg (by omega)]
    have h7 : -((-n) % q) + q = n + q * ((-n) / q + 1) := by rw [Int.mul_add]; omega
    rw [h7, Int.add_mul_emod_self_left]
theorem md2 {n q : Int} (hq : 0 < q) : (n - n % q).tdiv q = n / q := by
  have h6 := Int.mul_ediv_add_emod n q
  rw [show n - n % q = q * (n / q) by omega, Int.mul_tdiv_cancel_left _ (by omega)]
/-- The shares of an error at a step, and its number. -/
def shE (s : Scr) (y : Nat) : List (Int × Int) := [((y / s.dr.length : Nat), (s.dr.length : Int) - (y % s.dr.length : Nat)), ((y / s.dr.length : Nat) + 1, (y % s.dr.length : Nat))]
def drE (s : Scr) (y : Nat) : Int := s.dr.getD (y % s.dr.length) 0
def rsE (s : Scr) (ns : List (Int × Int)) (y : Nat) : Int := s.dr.length * (drE s y + addE ns y)
theorem addE_bd {ns : List (Int × Int)} {y : Int} (h : ∀ x ∈ ns, -20000 ≤ x.2 ∧ x.2 ≤ 20000) : -20000 ≤ addE ns y ∧ addE ns y ≤ 20000 := by
  unfold addE
  have : ∀ (l : List (Int × Int)) (a : Int), (∀ x ∈ l, -20000 ≤ x.2 ∧ x.2 ≤ 20000) → -20000 ≤ a ∧ a ≤ 20000 → -20000 ≤ l.foldl (fun a x => if x.1 ≤ y then x.2 else a) a ∧ l.foldl (fun a x => if x.1 ≤ y then x.2 else a) a ≤ 20000 := by
    intro l
    induction l with
    | nil => intro a _ ha; exact ha
    | cons x l ih =>
      intro a hl ha
      rw [List.foldl_cons]
      refine ih _ (fun z hz => hl z (List.mem_cons_of_mem _ hz)) ?_
      split
      · exact hl x List.mem_cons_self
      · exact ha
  exact this ns 0 h (by omega)
theorem drE_bd {s : Scr} (h : ScrOk s) (y : Nat) : s.dr[y % s.dr.length]? = some (drE s y) ∧ -10000 ≤ drE s y ∧ drE s y ≤ 10000 := by
  have h1 := h.dl
  have h2 : y % s.dr.length < s.dr.length := Nat.mod_lt _ (by omega)
  have h3 : s.dr[y % s.dr.length]? = some (drE s y) := by unfold drE; simp [h2]
  exact ⟨h3, h.dr _ (List.mem_of_getElem? h3)⟩
theorem rsE_bd {s : Scr} {ns : List (Int × Int)} (h : ScrOk s) (hn : NotOk s ns) (y : Nat) : -720000 ≤ rsE s ns y ∧ rsE s ns y ≤ 720000 := by
  have h1 := h.dl
  have h2 := (drE_bd h y).2
  have h3 := addE_bd (y := y) hn.ad
  unfold rsE
  have a1 : (s.dr.length : Int) * (drE s y + addE ns y) ≤ s.dr.length * 30000 := Int.mul_le_mul_of_nonneg_left (by omega) (by omega)
  have a2 : (s.dr.length : Int) * -30000 ≤ (s.dr.length : Int) * (drE s y + addE ns y) := Int.mul_le_mul_of_nonneg_left (by omega) (by omega)
  omega
theorem p58 {s : Scr} {ns : List (Int × Int)} (h : ScrOk s) (hn : NotOk s ns) {y : Nat} (hy : y ≤ 1000000) : R 58 [.agg (eW s ns), I y] = some (.agg [.sl (some 0) 2 (eS2 (shE s y)), I 0, I (rsE s ns y)]) := by
  have e1 := p79 s ns
  have e2 := p80 hn (y : Int)
  have h1 := h.dl
  obtain ⟨hd, hdb⟩ := drE_bd h y
  have ha := addE_bd (y := y) hn.ad
  have hr := rsE_bd h hn y
  have q1 : (y : Int).tdiv s.dr.length = (y / s.dr.length : Nat) := by rw [Int.tdiv_eq_ediv_of_nonneg (by omega)]; exact (Int.natCast_ediv y s.dr.length).symm
  have q2 : (y : Int).tmod s.dr.length = (y % s.dr.length : Nat) := by rw [Int.tmod_eq_emod_of_nonneg (by omega)]; exact (Int.natCast_emod y s.dr.length).symm
  have q3 : y % s.dr.length < s.dr.length := Nat.mod_lt _ (by omega)
  have q4 : y / s.dr.length ≤ y := Nat.div_le_self _ _
  have nz : ¬ s.dr = [] := fun e => by rw [e] at h1; simp at h1
  unfold shE rsE at *
  generalize drE s y = d at *
  generalize addE ns y = a at *
  generalize hqq : y / s.dr.length = q at *
  generalize hrr : y % s.dr.length = r at *
  have w1 := wrap64 (n := (q : Int)) (by omega) (by omega)
  have w2 := wrap64 (n := (r : Int)) (by omega) (by omega)
  have w3 := wrap64 (n := (s.dr.length : Int) - r) (by omega) (by omega)
  have w4 := wrap64 (n := (q : Int) + 1) (by omega) (by omega)
  have w5 := wrap64 (n := d + a) (by omega) (by omega)
  have w6 := wrap64 (n := (s.dr.length : Int) * (d + a)) (by omega) (by omega)
  have c1 : (r : Int) < s.dr.length := by omega
  simp only [eW] at *
  clear hr hdb ha q3 q4 hqq hrr h1 hy h hn
  refine run2_body 1 rfl rfl rfl rfl rfl ?_
  simp (maxSteps := 2000000) (disch := first | omega | (simp; done) | (simp; omega)) [-getElem?_pos, l58, e1, e2, q1, q2, nz, w1, w2, w3, w4, w5, w6, hd, c1]
theorem endsB_of {ts : List (Int × Int)} {lash : Int × Int} {rows : List (Int × Int)} {l r : Int} (h : P6.EndsOk ts lash rows l r) : P6.endsB ts lash rows l r = true := by
  obtain ⟨h1, h2, h3, h4, h5, h6⟩ := h
  unfold P6.endsB P6.milB P6.bigB
  simp only [Bool.and_eq_true, Bool.or_eq_true, decide_eq_true_eq, List.all_eq_true]
  refine ⟨⟨⟨⟨⟨⟨h1, h2.1⟩, h2.2⟩, fun x hx => ⟨(h3 x hx).1, ?_⟩⟩, h4⟩, h5⟩, h6⟩
  by_cases h0 : x.2 = 0
  · exact .inl h0
  · exact .inr ((h3 x hx).2 h0)
theorem flat_ints (xs : List Int) : ((eI xs).all fun c => c.all V.flat) = true := by simp [List.all_map, V.flat]
theorem endsF_at {s : Scr} {ns : List (Int × Int)} (h : ScrOk s) {sh : V} {rows : List (Int × Int)} (hsh : P6.rowsOf sh = some rows) {l r : Int} (he : P6.EndsOk s.ts s.la rows l r) :
    P6.endsF [.agg (eW s ns), .agg [sh, I l, I r]] = some (eS (P6.endsE s.ts s.la rows l r)) := by
  have hb := endsB_of he
  have ht := h.tl
  obtain ⟨ts, dr, la⟩ := s
  simp only at *
  match ts, ht with
  | t :: ts, _ =>
    unfold P6.endsF
    simp only [eW]
    rw [if_pos (by simp only [P6.slB]; rw [flat_ints, P6.flat_pairs]; rfl), hsh, show P6.shL (eS2 (t :: ts)) = some (t :: ts) from P6.shL_map _]
    simp only
    rw [if_pos hb]
theorem p57 {s : Scr} {ns : List (Int × Int)} (h : ScrOk s) {rows : List (Int × Int)} (hne : rows ≠ []) {l r : Int} (he : P6.EndsOk s.ts s.la rows l r) :
    R 57 [.agg (eW s ns), .agg [S 2 (eS2 rows), I l, I r]] = some (eS (P6.endsE s.ts s.la rows l r)) := by
  refine (run2_told (F := F2) (C := C2) (f := 57) (g := P6.endsF) rfl).trans (endsF_at h ?_ he)
  unfold P6.rowsOf
  simp only
  rw [show P6.shL (eS2 rows) = some rows from P6.shL_map _]
  cases rows with
  | nil => exact absurd rfl hne
  | cons x l => rfl
theorem p57_bag {s : Scr} {ns : List (Int × Int)} (h : ScrOk s) {rows : List (Int × Int)} (hne : rows ≠ []) {l r : Int} (he : P6.EndsOk s.ts s.la rows l r) :
    R 57 [.agg (eW s ns), .agg [.bag 2 (rows.map fun x => [x.1, x.2]), I l, I r]] = some (eS (P6.endsE s.ts s.la rows l r)) := by
  refine (run2_told (F := F2) (C := C2) (f := 57) (g := P6.endsF) rfl).trans (endsF_at h ?_ he)
  unfold P6.rowsOf
  simp only
  rw [P6.bagL_map]
  cases rows with
  | nil => exact absurd rfl hne
  | cons x l => rfl
theorem p65 (s : Scr) (ns : List (Int × Int)) (h : ScrOk s) {n : Int} (hn : -1000000000000000000 ≤ n ∧ n ≤ 1000000000000000000) : R 65 [.agg (eW s ns), I n] = some (I (n / s.dr.length)) := by
  have e1 := p79 s ns
  have h1 := h.dl
  have hq : (0 : Int) < s.dr.length := by omega
  have m1 := md1 (n := n) hq
  have m2 := md2 (n := n) hq
  have r1 := Int.emod_nonneg n (show (s.dr.length : Int) ≠ 0 by omega)
  have r2 := Int.emod_lt_of_pos n hq
  have t1 : -(s.dr.length : Int) < n.tmod s.dr.length ∧ n.tmod s.dr.length < s.dr.length := by
    rcases Int.le_total 0 n with h | h
    · rw [Int.tmod_eq_emod_of_nonneg h]; omega
    · have h3 := Int.emod_nonneg (-n) (show (s.dr.length : Int) ≠ 0 by omega)
      have h4 := Int.emod_lt_of_pos (-n) hq
      rw [show n = -(-n) by omega, Int.neg_tmod, Int.tmod_eq_emod_of_nonneg (by omega)]
      omega
  have d1 : -1000000000000000000 ≤ n / s.dr.length ∧ n / s.dr.length ≤ 1000000000000000000 := by
    constructor
    · refine (Int.le_ediv_iff_mul_le hq).2 ?_
      have : -1000000000000000000 * (s.dr.length : Int) ≤ -1000000000000000000 * 1 := Int.mul_le_mul_of_nonpos_left (by decide) (by omega)
      omega
    · refine Int.le_trans (Int.ediv_le_ediv hq hn.2) ?_
      exact Int.ediv_le_self _ (by decide)
  have w1 := wrap64 (n := n.tmod s.dr.length) (by omega) (by omega)
  have w2 := wrap64 (n := n.tmod s.dr.length + s.dr.length) (by omega) (by omega)
  have w3 := wrap64 (n := n % s.dr.length) (by omega) (by omega)
  have w4 := wrap64 (n := n - n % s.dr.length) (by omega) (by omega)
  have w5 := wrap64 (n := n / s.dr.length) (by omega) (by omega)
  have nz : ¬ (s.dr.length : Int) = 0 := by omega
  simp only [eW] at *
  generalize (s.dr.length : Int) = q at *
  generalize n / q = D at *
  generalize n % q = E at *
  clear hn hq r1 r2 t1 d1 h1 h
  refine run2_body 1 rfl rfl rfl rfl rfl ?_
  simp (maxSteps := 2000000) (disch := first | omega | (simp; done) | (simp; omega)) [-getElem?_pos, l65, e1, nz, w1, w2, w3, w4, w5, m1, m2]
theorem p66 (s : Scr) (ns : List (Int × Int)) (h : ScrOk s) {n : Int} (hn : -1000000000000000000 ≤ n ∧ n ≤ 1000000000000000000) : R 66 [.agg (eW s ns), I n] = some (I (-((-n) / s.dr.length))) := by
  have e1 := p65 s ns h (n := -n) (by omega)
  have h1 := h.dl
  have hq : (0 : Int) < s.dr.length := by omega
  have d1 : -1000000000000000000 ≤ -n / s.dr.length ∧ -n / s.dr.length ≤ 1000000000000000000 := by
    constructor
    · refine (Int.le_ediv_iff_mul_le hq).2 ?_
      have : -1000000000000000000 * (s.dr.length : Int) ≤ -1000000000000000000 * 1 := Int.mul_le_mul_of_nonpos_left (by decide) (by omega)
      omega
    · refine Int.le_trans (Int.ediv_le_ediv hq (show -n ≤ 1000000000000000000 by omega)) ?_
      exact Int.ediv_le_self _ (by decide)
  have w1 := wrap64 (n := -n) (by omega) (by omega)
  have w2 := wrap64 (n := -(-n / s.dr.length)) (by omega) (by omega)
  simp only [eW] at *
  generalize -n / (s.dr.length : Int) = D at *
  clear hn hq d1 h1 h
  refine run2_body 1 rfl rfl rfl rfl rfl ?_
  simp (maxSteps := 2000000) (disch := first | omega | (simp; done) | (simp; omega)) [-getElem?_pos, l66, e1, w1, w2]
/-- Ends as a span: rounded outward. -/
def spanOf (s : Scr) (e : Int × Int) : Int × Int := (e.1 / s.dr.length, -((-e.2) / s.dr.length))
theorem p56 (s : Scr) (ns : List (Int × Int)) (h : ScrOk s) {e : Int × Int} (h1 : -1000000000000000000 ≤ e.1 ∧ e.1 ≤ 1000000000000000000) (h2 : -1000000000000000000 ≤ e.2 ∧ e.2 ≤ 1000000000000000000) : R 56 [.agg (eW s ns), eS e] = some (eS (spanOf s e)) := by
  have e1 := p65 s ns h h1
  have e2 := p66 s ns h h2
  unfold spanOf
  simp only [eW] at *
  generalize e.1 / (s.dr.length : Int) = D at *
  generalize -((-e.2) / (s.dr.length : Int)) = E at *
  clear h1 h2
  refine run2_body 1 rfl rfl rfl rfl rfl ?_
  simp (maxSteps := 2000000) (disch := first | omega | (simp; done) | (simp; omega)) [-getElem?_pos, l56, e1, e2]
end Go.Lo

/- The error at a step. -/
namespace Go.Lo
open Go.Proofs
set_option linter.unusedSimpArgs false
set_option maxHeartbeats 8000000
set_option maxRecDepth 20000
theorem endsOk_at {s : Scr} {ns : List (Int × Int)} (h : ScrOk s) (hn : NotOk s ns) {y : Nat} (hy : y ≤ lastE s) : P6.EndsOk s.ts s.la (shE s y) 0 (rsE s ns y) := by
  have h1 := h.tl
  have h2 := h.dl
  have h3 := rsE_bd h hn y
  have q3 : y % s.dr.length < s.dr.length := Nat.mod_lt _ (by omega)
  have q1 : y / s.dr.length ≤ s.ts.length - 1 := by
    refine (Nat.div_le_iff_le_mul_add_pred (by omega)).2 ?_
    unfold lastE at hy
    rw [Nat.mul_comm]
    omega
  have q2 : y % s.dr.length ≠ 0 → y / s.dr.length < s.ts.length - 1 := fun hne => by
    refine Nat.lt_of_le_of_ne q1 fun e => ?_
    have h5 := Nat.div_add_mod y s.dr.length
    rw [e, Nat.mul_comm] at h5
    unfold lastE at hy
    omega
  refine ⟨fun x hx => ?_, ?_, fun x hx => ?_, by simp [shE], by unfold P6.mil; omega, by omega⟩
  · have := h.ts x hx; unfold P6.mil; omega
  · have := h.la; unfold P6.mil; omega
  · simp only [shE, List.mem_cons, List.not_mem_nil, or_false] at hx
    unfold P6.mil
    generalize y / s.dr.length = q at *
    generalize y % s.dr.length = r at *
    rcases hx with rfl | rfl
    · refine ⟨by simp only; omega, fun _ => by simp only; omega⟩
    · refine ⟨by simp only; omega, fun h0 => ?_⟩
      simp only at h0 ⊢
      have := q2 (by omega)
      omega
theorem foldEnds_bd {ts : List (Int × Int)} (ht : ∀ s ∈ ts, P6.mil s.1 ∧ P6.mil s.2) : ∀ (rows : List (Int × Int)) (e : Int × Int), (∀ x ∈ rows, P6.mil x.2 ∧ (x.2 ≠ 0 → 0 ≤ x.1 ∧ x.1 < ts.length)) →
    (e.1 - rows.length * 1000000000000 ≤ (rows.foldl (P6.stepEnds ts) e).1 ∧ (rows.foldl (P6.stepEnds ts) e).1 ≤ e.1 + rows.length * 1000000000000) ∧ (e.2 - rows.length * 1000000000000 ≤ (rows.foldl (P6.stepEnds ts) e).2 ∧ (rows.foldl (P6.stepEnds ts) e).2 ≤ e.2 + rows.length * 1000000000000)
  | [], e, _ => by simp
  | x :: rows, e, h => by
    have h1 := foldEnds_bd ht rows (P6.stepEnds ts e x) (fun y hy => h y (List.mem_cons_of_mem _ hy))
    have h2 : (e.1 - 1000000000000 ≤ (P6.stepEnds ts e x).1 ∧ (P6.stepEnds ts e x).1 ≤ e.1 + 1000000000000) ∧ (e.2 - 1000000000000 ≤ (P6.stepEnds ts e x).2 ∧ (P6.stepEnds ts e x).2 ≤ e.2 + 1000000000000) := by
      obtain ⟨k1, k2⟩ := h x List.mem_cons_self
      unfold P6.stepEnds
      split
      · rename_i h0
        obtain ⟨k3, k4⟩ := k2 h0
        obtain ⟨s, hs⟩ : ∃ s, ts[x.1.toNat]? = some s := ⟨_, List.getElem?_eq_getElem (by omega)⟩
        rw [List.getD_eq_getElem?_getD, hs, Option.getD_some]
        exact P6.plus_bd (ht s (List.mem_of_getElem? hs)) k1
      · omega
    rw [List.foldl_cons, List.length_cons]
    omega
theorem endsE_bd {ts : List (Int × Int)} {lash : Int × Int} {rows : List (Int × Int)} {l r : Int} (h : P6.EndsOk ts lash rows l r) : (-100000000000000000 ≤ (P6.endsE ts lash rows l r).1 ∧ (P6.endsE ts lash rows l r).1 ≤ 100000000000000000) ∧ (-100000000000000000 ≤ (P6.endsE ts lash rows l r).2 ∧ (P6.endsE ts lash rows l r).2 ≤ 100000000000000000) := by
  have h1 := foldEnds_bd h.hts rows (P6.plusE (r, r) lash l) h.hrows
  have h2 := P6.plus_bd (e := (r, r)) h.hlash h.hl
  have h3 := h.hr
  have h4 := h.hlen
  unfold P6.endsE
  simp only at h2
  omega
/-- The ends of the error at a step. -/
def errE (s : Scr) (ns : List (Int × Int)) (y : Nat) : Int × Int := P6.endsE s.ts s.la (shE s y) 0 (rsE s ns y)
def erE (s : Scr) (ns : List (Int × Int)) (y : Int) : (Int × Int) × Int :=
  if opE s ns ≠ 0 then ((0, 0), opE s ns) else if 0 ≤ y ∧ y ≤ (lastE s : Int) then (spanOf s (errE s ns y.toNat), 0) else ((0, 0), 3)
theorem p19 {s : Scr} {ns : List (Int × Int)} (h1 : s.ts.length < 4611686018427387904) (h2 : s.dr.length < 4611686018427387904) (hw : ∀ x ∈ ns, -9223372036854775808 ≤ x.1) (y : Int) :
    R 19 [.agg (eL s), S 2 (eS2 ns), I y] = some (.tup [eS (erE s ns y).1, I (erE s ns y).2]) := by
  have e1 := p54 h1 h2 hw
  unfold erE
  by_cases c1 : opE s ns = 0
  · rw [if_neg (not_not_intro c1)]
    rw [c1] at e1
    obtain ⟨hs, hn⟩ := opE_ok c1
    have hb := lastE_bd hs
    have e2 := p55 hs ns (l := [y]) (by simp)
    simp only [List.map_cons, List.map_nil, List.all_cons, List.all_nil, Bool.and_true] at e2
    by_cases c2 : 0 ≤ y ∧ y ≤ (lastE s : Int)
    · rw [if_pos c2]
      rw [decide_eq_true c2] at e2
      have e3 := p58 hs hn (y := y.toNat) (by omega)
      rw [show ((y.toNat : Nat) : Int) = y by omega] at e3
      have ho := endsOk_at hs hn (y := y.toNat) (by omega)
      have e4 := p57 (ns := ns) hs (by simp [shE]) ho
      have hbd := endsE_bd ho
      have e5 := p56 s ns hs (e := errE s ns y.toNat) (by unfold errE; omega) (by unfold errE; omega)
      rw [show P6.endsE s.ts s.la (shE s y.toNat) 0 (rsE s ns y.toNat) = errE s ns y.toNat from rfl] at e4
      generalize spanOf s (errE s ns y.toNat) = z at *
      generalize errE s ns y.toNat = e at *
      generalize rsE s ns y.toNat = r at *
      simp only [eL, eW] at *
      have fl : flatE (eS2 (shE s y.toNat)) = true := P6.flat_pairs _
      generalize eS2 (shE s y.toNat) = sh at *
      generalize eS2 ns = ne at *
      generalize eS2 s.ts = te at *
      generalize eI s.dr = de at *
      clear hbd ho c2 hb hs hn h1 h2 hw c1
      refine run2_body 1 rfl rfl rfl rfl rfl ?_
      simp (maxSteps := 2000000) (disch := first | omega | (simp; done) | (simp; omega)) [-getElem?_pos, l19, e1, e2, e3, e4, e5, fl]
    · rw [if_neg c2]
      rw [decide_eq_false c2] at e2
      simp only [eL, eW] at *
      generalize eS2 ns = ne at *
      generalize eS2 s.ts = te at *
      generalize eI s.dr = de at *
      clear c2 hb hs hn h1 h2 hw c1
      refine run2_body 1 rfl rfl rfl rfl rfl ?_
      simp (maxSteps := 2000000) (disch := first | omega | (simp; done) | (simp; omega)) [-getElem?_pos, l19, e1, e2]
  · rw [if_pos c1]
    generalize opE s ns = c at *
    simp only [eL, eW] at *
    generalize eS2 ns = ne at *
    generalize eS2 s.ts = te at *
    generalize eI s.dr = de at *
    clear h1 h2 hw
    refine run2_body 1 rfl rfl rfl rfl rfl ?_
    simp (maxSteps := 2000000) (disch := first | omega | (simp; done) | (simp; omega)) [-getElem?_pos, l19, e1, c1]
end Go.Lo

/- The reference: screws and notches are checked; sums are added and rounded. -/
namespace Go.Lo
open Go.Proofs
set_option linter.unusedSimpArgs false
set_option maxHeartbeats 8000000
set_option maxRecDepth 20000
theorem p24 (n lo hi : Int) : R 24 [I n, I lo, I hi] = some (B (decide (lo ≤ n ∧ n ≤ hi))) := by
  refine run2_body 1 rfl rfl rfl rfl rfl ?_
  by_cases c1 : lo ≤ n <;> simp (maxSteps := 2000000) (disch := first | omega | (simp; done) | (simp; omega)) [-getElem?_pos, l24, c1]
theorem p59 (s : Int × Int) (lo hi : Int) : R 59 [eS s, I lo, I hi] = some (B (spB s lo hi)) := by
  have e1 := p24 s.1 lo s.2
  unfold spB
  refine run2_body 1 rfl rfl rfl rfl rfl ?_
  by_cases c1 : lo ≤ s.1 ∧ s.1 ≤ s.2
  · rw [decide_eq_true c1] at e1
    simp (maxSteps := 2000000) (disch := first | omega | (simp; done) | (simp; omega)) [-getElem?_pos, l59, e1, c1]
  · rw [decide_eq_false c1] at e1
    have c2 : ¬ (lo ≤ s.1 ∧ s.1 ≤ s.2 ∧ s.2 ≤ hi) := fun h => c1 ⟨h.1, h.2.1⟩
    simp (maxSteps := 2000000) (disch := first | omega | (simp; done) | (simp; omega)) [-getElem?_pos, l59, e1, c2]
theorem p25 {s : Scr} (h : ScrOk s) : R 25 [.agg (eL s)] = some (I (lastE s)) := by
  have hb := lastE_bd h
  have h1 := h.tl
  have hz : ((s.ts.length : Int) - 1) * s.dr.length = (lastE s : Nat) := by
    unfold lastE
    rw [Int.natCast_mul, Int.natCast_sub (by omega)]; rfl
  have w1 := wrap64 (n := (s.ts.length : Int) - 1) (by omega) (by omega)
  have w2 := wrap64 (n := (lastE s : Int)) (by omega) (by omega)
  generalize lastE s = L at *
  clear hb
  refine run2_body 1 rfl rfl rfl rfl rfl ?_
  simp (maxSteps := 2000000) (disch := first | omega | (simp; done) | (simp; omega)) [-getElem?_pos, l25, w1, w2, hz]
theorem all_prAt {α : Type} (pr : α → Bool) (xs : List α) : ((List.range' 0 xs.length).find? (prAt pr xs)).isNone = !xs.any pr := by
  rw [find_idx, List.findIdx?_isNone]
  rw [Bool.eq_iff_iff]
  simp
theorem loop22_0 (s : Scr) (hl : s.ts.length ≤ 200) (M : Nat) : iter (evC2 R M b22_0) (s.ts.length + 1) { fr := [(1, .box (eL s)), (3, I 0)], tk := [] } =
    if (s.ts.any fun x => !spB x (-10000) 10000) = true then some (.ret, { fr := [(2, I 2)], tk := [] }) else some (.exit 0, { fr := [(1, .box (eL s)), (3, I s.ts.length), (19, B false)], tk := [] }) := by
  have L := loop_if (s := fun i => { fr := [(1, .box (eL s)), (3, I i)], tk := [] }) (f := evC2 R M b22_0) (n := s.ts.length) (g := prAt (fun x => !spB x (-10000) 10000) s.ts) (E := fun _ => (.ret, { fr := [(2, I 2)], tk := [] })) (X := (.exit 0, { fr := [(1, .box (eL s)), (3, I s.ts.length), (19, B false)], tk := [] }))
    (fun i hi => by
      have h1 : s.ts[i]? = some s.ts[i] := List.getElem?_eq_getElem hi
      have hlt : (i : Int) < s.ts.length := by omega
      have wi := wrap64 (n := (i : Int) + 1) (by omega) (by omega)
      rw [prAt_some h1]
      generalize s.ts[i] = x at *
      have e1 := p59 x (-10000) 10000
      simp only [eL]
      generalize spB x (-10000) 10000 = q at *
      cases q <;> simp (maxSteps := 2000000) (disch := first | omega | (simp; done) | (simp; omega)) [-getElem?_pos, b22_0, h1, hlt, e1, wi]) (fun _ => by simp) (by simp (maxSteps := 2000000) (disch := first | omega | (simp; done) | (simp; omega)) [-getElem?_pos, b22_0, eL]) (by simp)
  have L : iter (evC2 R M b22_0) (s.ts.length + 1) { fr := [(1, .box (eL s)), (3, I 0)], tk := [] } = _ := L
  rw [L]
  have h := all_prAt (fun x => !spB x (-10000) 10000) s.ts
  cases hf : (List.range' 0 s.ts.length).find? (prAt (fun x => !spB x (-10000) 10000) s.ts) <;> rw [hf] at h <;> cases hq : (s.ts.any fun x => !spB x (-10000) 10000) <;> rw [hq] at h <;> simp at h ⊢
theorem loop22_1 (s : Scr) (hl : s.dr.length ≤ 200) (M : Nat) : iter (evC2 R M b22_1) (s.dr.length + 1) { fr := [(1, .box (eL s)), (4, I 0)], tk := [] } =
    if (s.dr.all fun x => decide (-10000 ≤ x ∧ x ≤ 10000)) = true then some (.exit 2, { fr := [(1, .box (eL s)), (4, I s.dr.length), (33, B false)], tk := [] }) else some (.ret, { fr := [(2, I 2)], tk := [] }) := by
  have L := loop_if (s := fun i => { fr := [(1, .box (eL s)), (4, I i)], tk := [] }) (f := evC2 R M b22_1) (n := s.dr.length) (g := prAt (fun x => !decide (-10000 ≤ x ∧ x ≤ 10000)) s.dr) (E := fun _ => (.ret, { fr := [(2, I 2)], tk := [] })) (X := (.exit 2, { fr := [(1, .box (eL s)), (4, I s.dr.length), (33, B false)], tk := [] }))
    (fun i hi => by
      have h1 : s.dr[i]? = some s.dr[i] := List.getElem?_eq_getElem hi
      have hlt : (i : Int) < s.dr.length := by omega
      have wi := wrap64 (n := (i : Int) + 1) (by omega) (by omega)
      rw [prAt_some h1]
      generalize s.dr[i] = x at *
      have e1 := p24 x (-10000) 10000
      simp only [eL]
      generalize decide (-10000 ≤ x ∧ x ≤ 10000) = q at *
      cases q <;> simp (maxSteps := 2000000) (disch := first | omega | (simp; done) | (simp; omega)) [-getElem?_pos, b22_1, h1, hlt, e1, wi]) (fun _ => by simp) (by simp (maxSteps := 2000000) (disch := first | omega | (simp; done) | (simp; omega)) [-getElem?_pos, b22_1, eL]) (by simp)
  have L : iter (evC2 R M b22_1) (s.dr.length + 1) { fr := [(1, .box (eL s)), (4, I 0)], tk := [] } = _ := L
  rw [L]
  have h := all_prAt (fun x => !decide (-10000 ≤ x ∧ x ≤ 10000)) s.dr
  rw [show (s.dr.any fun x => !decide (-10000 ≤ x ∧ x ≤ 10000)) = !(s.dr.all fun x => decide (-10000 ≤ x ∧ x ≤ 10000)) from (List.not_all_eq_any_not).symm, Bool.not_not] at h
  cases hf : (List.range' 0 s.dr.length).find? (prAt (fun x => !decide (-10000 ≤ x ∧ x ≤ 10000)) s.dr) <;> rw [hf] at h <;> cases hq : (s.dr.all fun x => decide (-10000 ≤ x ∧ x ≤ 10000)) <;> rw [hq] at h <;> simp at h ⊢
end Go.Lo

/- The reference: notches, rounding, sums. -/
namespace Go.Lo
open Go.Proofs
set_option linter.unusedSimpArgs false
set_option maxHeartbeats 8000000
set_option maxRecDepth 20000
theorem p22 {s : Scr} : R 22 [.agg (eL s)] = some (I (chkS s)) := by
  have e3 := p59 s.la 0 10000
  unfold chkS
  by_cases c1 : (200 : Int) < s.ts.length
  · rw [if_pos (.inl (by omega))]
    refine run2_body 1 rfl rfl rfl rfl rfl ?_
    simp only [eL]
    simp (maxSteps := 2000000) (disch := first | omega | (simp; done) | (simp; omega)) [-getElem?_pos, l22, c1]
  · by_cases c2 : (24 : Int) < s.dr.length
    · rw [if_pos (.inr (by omega))]
      refine run2_body 1 rfl rfl rfl rfl rfl ?_
      simp only [eL]
      simp (maxSteps := 2000000) (disch := first | omega | (simp; done) | (simp; omega)) [-getElem?_pos, l22, c1, c2]
    · rw [if_neg (by omega)]
      have L0 := loop22_0 s (by omega) (s.ts.length + s.dr.length + 1)
      have L1 := loop22_1 s (by omega) (s.ts.length + s.dr.length + 1)
      have L0 := fun x (h : _ = some x) => iter_le (fun σ x h => h) (show s.ts.length + 1 ≤ s.ts.length + s.dr.length + 1 by omega) (L0.trans h)
      have L1 := fun x (h : _ = some x) => iter_le (fun σ x h => h) (show s.dr.length + 1 ≤ s.ts.length + s.dr.length + 1 by omega) (L1.trans h)
      have hz : s.dr.length ≠ 0 → s.dr[0]? = some (s.dr.getD 0 0) := fun hne => by cases h : s.dr with | nil => rw [h] at hne; exact absurd rfl hne | cons a r => simp
      generalize (s.ts.any fun x => !spB x (-10000) 10000) = q1 at *
      generalize (s.dr.all fun x => decide (-10000 ≤ x ∧ x ≤ 10000)) = q2 at *
      generalize spB s.la 0 10000 = q3 at *
      generalize hN : s.ts.length + s.dr.length + 1 = N at *
      generalize hF0 : evC2 R N b22_0 = F0 at *
      generalize hF1 : evC2 R N b22_1 = F1 at *
      refine run2_body N rfl rfl rfl rfl rfl ?_
      simp only [eL] at *
      cases q1
      · have L0 := L0 _ rfl
        cases q2
        · have L1 := L1 _ rfl
          rw [if_pos (.inr (.inr (.inr rfl)))]
          simp (maxSteps := 2000000) (disch := first | omega | (simp; done) | (simp; omega)) [-getElem?_pos, l22, c1, c2, hF0, hF1, L0, L1]
        · have L1 := L1 _ rfl
          generalize s.dr.getD 0 0 = d0 at *
          by_cases c3 : (s.ts.length : Int) < 2
          · rw [if_pos (.inl (by omega))]
            simp (maxSteps := 2000000) (disch := first | omega | (simp; done) | (simp; omega)) [-getElem?_pos, l22, c1, c2, hF0, hF1, L0, L1, c3]
          · by_cases c4 : s.dr.length = 0
            · rw [if_pos (.inr (.inl c4))]
              have c4' : (s.dr.length : Int) < 1 := by omega
              simp (maxSteps := 2000000) (disch := first | omega | (simp; done) | (simp; omega)) [-getElem?_pos, l22, c1, c2, hF0, hF1, L0, L1, c3, c4']
            · have hz := hz c4
              have c4' : ¬ (s.dr.length : Int) < 1 := by omega
              have c4'' : (0 : Int) < s.dr.length := by omega
              rw [if_neg (by simp only [Bool.false_eq_true, reduceCtorEq, or_false]; omega)]
              by_cases c5 : d0 = 0
              · cases q3 <;> simp (maxSteps := 2000000) (disch := first | omega | (simp; done) | (simp; omega)) [-getElem?_pos, l22, c1, c2, hF0, hF1, L0, L1, c3, c4', c4'', c5, hz, e3]
              · simp (maxSteps := 2000000) (disch := first | omega | (simp; done) | (simp; omega)) [-getElem?_pos, l22, c1, c2, hF0, hF1, L0, L1, c3, c4', c4'', c5, hz]
      · have L0 := L0 _ rfl
        rw [if_pos (.inr (.inr (.inl rfl)))]
        simp (maxSteps := 2000000) (disch := first | omega | (simp; done) | (simp; omega)) [-getElem?_pos, l22, c1, c2, hF0, L0]
theorem quo_fl {n q : Int} (hq : 0 < q) : n.tdiv q = n / q ∧ (n / q * q ≤ n ∧ n < n / q * q + q) ∨ n % q ≠ 0 ∧ n.tdiv q = n / q + 1 ∧ (n / q * q ≤ n ∧ n < n / q * q + q) := by
  have h1 := Int.mul_ediv_add_emod n q
  have h2 := Int.emod_nonneg n (show q ≠ 0 by omega)
  have h3 := Int.emod_lt_of_pos n hq
  rw [Int.mul_comm] at h1
  by_cases h0 : 0 ≤ n ∨ q ∣ n
  · left
    exact ⟨by rw [Int.tdiv_eq_ediv, if_pos h0]; omega, by omega, by omega⟩
  · right
    refine ⟨fun h4 => h0 (.inr (Int.dvd_of_emod_eq_zero h4)), ?_, by omega, by omega⟩
    rw [Int.tdiv_eq_ediv, if_neg h0, Int.sign_eq_one_of_pos hq]
theorem ediv_bd {n q : Int} (hq : 1 ≤ q) (hn : -1000000000000000000 ≤ n ∧ n ≤ 1000000000000000000) : -1000000000000000000 ≤ n / q ∧ n / q ≤ 1000000000000000000 := by
  constructor
  · refine (Int.le_ediv_iff_mul_le (by omega)).2 ?_
    have : -1000000000000000000 * q ≤ -1000000000000000000 * 1 := Int.mul_le_mul_of_nonpos_left (by decide) (by omega)
    omega
  · exact Int.le_trans (Int.ediv_le_ediv (by omega) hn.2) (Int.ediv_le_self _ (by decide))
theorem p60 {n q : Int} (hq : 1 ≤ q ∧ q ≤ 1000) (hn : -1000000000000000000 ≤ n ∧ n ≤ 1000000000000000000) : R 60 [I n, I q] = some (I (n / q)) := by
  have d1 := ediv_bd hq.1 hn
  have nz : ¬ q = 0 := by omega
  have w0 := wrap64 (n := n / q) (by omega) (by omega)
  rcases quo_fl (n := n) (q := q) (by omega) with ⟨t1, t2, t3⟩ | ⟨t0, t1, t2, t3⟩
  · generalize n / q = D at *
    have w1 := wrap64 (n := D * q) (by omega) (by omega)
    have c1 : ¬ n < D * q := by omega
    generalize hz : D * q = z at *
    clear t2 t3 hn hq d1
    refine run2_body 1 rfl rfl rfl rfl rfl ?_
    simp (maxSteps := 2000000) (disch := first | omega | (simp; done) | (simp; omega)) [-getElem?_pos, l60, nz, t1, w0, w1, c1, hz]
  · have t4 : n < (n / q + 1) * q := by rw [Int.add_mul]; omega
    have w1 := wrap64 (n := (n / q + 1) * q) (by rw [Int.add_mul]; omega) (by rw [Int.add_mul]; omega)
    have w2 := wrap64 (n := n / q + 1) (by omega) (by omega)
    generalize n / q = D at *
    generalize hz : (D + 1) * q = z at *
    clear t2 t3 hn hq d1 t0
    refine run2_body 1 rfl rfl rfl rfl rfl ?_
    simp (maxSteps := 2000000) (disch := first | omega | (simp; done) | (simp; omega)) [-getElem?_pos, l60, nz, t1, w0, w1, w2, t4, hz]
theorem p61 {n q : Int} (hq : 1 ≤ q ∧ q ≤ 1000) (hn : -1000000000000000000 ≤ n ∧ n ≤ 1000000000000000000) : R 61 [I n, I q] = some (I (-((-n) / q))) := by
  have d1 := ediv_bd (n := -n) hq.1 (by omega)
  have nz : ¬ q = 0 := by omega
  have hn2 : n.tdiv q = -((-n).tdiv q) := by rw [Int.neg_tdiv, Int.neg_neg]
  have w0 := wrap64 (n := -(-n / q)) (by omega) (by omega)
  rcases quo_fl (n := -n) (q := q) (by omega) with ⟨t1, t2, t3⟩ | ⟨t0, t1, t2, t3⟩
  · rw [t1] at hn2
    generalize -n / q = D at *
    have w1 := wrap64 (n := -D * q) (by rw [Int.neg_mul]; omega) (by rw [Int.neg_mul]; omega)
    have c1 : ¬ -D * q < n := by rw [Int.neg_mul]; omega
    generalize hz : -D * q = z at *
    clear t2 t3 hn hq d1 t1
    refine run2_body 1 rfl rfl rfl rfl rfl ?_
    simp (maxSteps := 2000000) (disch := first | omega | (simp; done) | (simp; omega)) [-getElem?_pos, l61, nz, hn2, w0, w1, c1, hz]
  · rw [t1] at hn2
    generalize -n / q = D at *
    have w1 := wrap64 (n := -(D + 1) * q) (by rw [Int.neg_mul, Int.add_mul]; omega) (by rw [Int.neg_mul, Int.add_mul]; omega)
    have w2 := wrap64 (n := -(D + 1)) (by omega) (by omega)
    have w3 := wrap64 (n := -(D + 1) + 1) (by omega) (by omega)
    have c1 : -(D + 1) * q < n := by rw [Int.neg_mul, Int.add_mul]; omega
    have c2 : -(D + 1) + 1 = -D := by omega
    generalize hz : -(D + 1) * q = z at *
    rw [c2] at w3
    generalize hE : -(D + 1) = E at *
    clear t2 t3 hn hq d1 t1
    refine run2_body 1 rfl rfl rfl rfl rfl ?_
    simp (maxSteps := 2000000) (disch := first | omega | (simp; done) | (simp; omega)) [-getElem?_pos, l61, nz, hn2, w1, w2, c1, c2, w3, hz]
theorem p26 {s : Scr} (h : ScrOk s) {e : Int × Int} (h1 : -1000000000000000000 ≤ e.1 ∧ e.1 ≤ 1000000000000000000) (h2 : -1000000000000000000 ≤ e.2 ∧ e.2 ≤ 1000000000000000000) : R 26 [.agg (eL s), eS e] = some (eS (spanOf s e)) := by
  have hd := h.dl
  have e1 := p60 (n := e.1) (q := s.dr.length) (by omega) h1
  have e2 := p61 (n := e.2) (q := s.dr.length) (by omega) h2
  unfold spanOf
  generalize e.1 / (s.dr.length : Int) = D at *
  generalize -((-e.2) / (s.dr.length : Int)) = E at *
  clear h1 h2
  refine run2_body 1 rfl rfl rfl rfl rfl ?_
  simp only [eL]
  simp (maxSteps := 2000000) (disch := first | omega | (simp; done) | (simp; omega)) [-getElem?_pos, l26, e1, e2]
theorem p62 {e s : Int × Int} {t : Int} (he : P6.far18 e.1 ∧ P6.far18 e.2) (hs : P6.mil s.1 ∧ P6.mil s.2) (hle : s.1 ≤ s.2) (ht : P6.mil t) : R 62 [eS e, eS s, I t] = some (eS (P6.plusE e s t)) := by
  have h1 := P6.mil_mul hs.1 ht
  have h2 := P6.mil_mul hs.2 ht
  have w1 := wrap64 (n := s.1 * t) (by omega) (by omega)
  have w2 := wrap64 (n := s.2 * t) (by omega) (by omega)
  have w3 := wrap64 (n := e.1 + s.1 * t) (by omega) (by omega)
  have w4 := wrap64 (n := e.1 + s.2 * t) (by omega) (by omega)
  have w5 := wrap64 (n := e.2 + s.1 * t) (by omega) (by omega)
  have w6 := wrap64 (n := e.2 + s.2 * t) (by omega) (by omega)
  have k1 := Int.mul_comm t s.1
  have k2 := Int.mul_comm t s.2
  unfold P6.plusE
  by_cases c1 : t < 0
  · have h3 : s.2 * t ≤ s.1 * t := Int.mul_le_mul_of_nonpos_right hle (by omega)
    rw [show min (s.1 * t) (s.2 * t) = s.2 * t by omega, show max (s.1 * t) (s.2 * t) = s.1 * t by omega]
    clear h1 h2 h3 he hs hle ht
    refine run2_body 1 rfl rfl rfl rfl rfl ?_
    simp (maxSteps := 2000000) (disch := first | omega | (simp; done) | (simp; omega)) [-getElem?_pos, l62, c1, k1, k2, w1, w2, w3, w4, w5, w6]
  · have h3 : s.1 * t ≤ s.2 * t := Int.mul_le_mul_of_nonneg_right hle (by omega)
    rw [show min (s.1 * t) (s.2 * t) = s.1 * t by omega, show max (s.1 * t) (s.2 * t) = s.2 * t by omega]
    clear h1 h2 h3 he hs hle ht
    refine run2_body 1 rfl rfl rfl rfl rfl ?_
    simp (maxSteps := 2000000) (disch := first | omega | (simp; done) | (simp; omega)) [-getElem?_pos, l62, c1, k1, k2, w1, w2, w3, w4, w5, w6]
end Go.Lo

/- Copies of what a law is given; what it compares; how large it may be. -/
namespace Go.Lo
open Go.Proofs
set_option linter.unusedSimpArgs false
set_option maxHeartbeats 8000000
set_option maxRecDepth 20000
theorem p29 {xs : List Int} (h : xs.length ≤ 1000000000) : R 29 [S 1 (eI xs)] = some (.sl (some 0) 1 (eI xs)) := by
  refine run2_body 1 rfl rfl rfl rfl rfl ?_
  simp (maxSteps := 2000000) (disch := first | omega | (simp; done) | (simp; omega)) [-getElem?_pos, l29]
theorem p17 {ns : List (Int × Int)} (h : ns.length ≤ 1000000000) : R 17 [S 2 (eS2 ns)] = some (.sl (some 0) 2 (eS2 ns)) := by
  have fl : flatE (eS2 ns) = true := P6.flat_pairs _
  refine run2_body 1 rfl rfl rfl rfl rfl ?_
  simp (maxSteps := 2000000) (disch := first | omega | (simp; done) | (simp; omega)) [-getElem?_pos, l17, fl]
theorem p16 {s : Scr} (h1 : s.ts.length ≤ 1000000000) (h2 : s.dr.length ≤ 1000000000) : R 16 [.agg (eL s)] = some (.agg [.sl (some 0) 2 (eS2 s.ts), .sl (some 1) 1 (eI s.dr), I s.la.1, I s.la.2]) := by
  have e1 := p29 h2
  have fl : flatE (eS2 s.ts) = true := P6.flat_pairs _
  simp only [eL]
  refine run2_body 1 rfl rfl rfl rfl rfl ?_
  simp (maxSteps := 2000000) (disch := first | omega | (simp; done) | (simp; omega)) [-getElem?_pos, l16, fl, e1]
theorem p21 {l : List (Int × Int)} (h : l.length ≤ 1000000000) : R 21 [S 2 (eS2 l), S 2 (eS2 l)] = some (B true) := by
  have L := loop_all (s := fun i => { fr := [(0, S 2 (eS2 l)), (1, S 2 (eS2 l)), (5, I i)], tk := [] }) (f := evC2 R (l.length + 1) b21_0) (n := l.length) (X := (.exit 0, { fr := [(0, S 2 (eS2 l)), (1, S 2 (eS2 l)), (5, I l.length), (14, B false)], tk := [] }))
    (fun i hi => by
      have h1 : l[i]? = some l[i] := List.getElem?_eq_getElem hi
      generalize l[i] = x at *
      simp (maxSteps := 2000000) (disch := first | omega | (simp; done) | (simp; omega)) [-getElem?_pos, b21_0, h1, hi, wrap64]) (by simp (maxSteps := 2000000) (disch := first | omega | (simp; done) | (simp; omega)) [-getElem?_pos, b21_0]) (by simp)
  refine run2_body (l.length + 1) rfl rfl rfl rfl rfl ?_
  simp at L
  simp (maxSteps := 2000000) (disch := first | omega | (simp; done) | (simp; omega)) [-getElem?_pos, l21, L]
theorem p33 {l : List (Int × Int)} (h : l.length ≤ 1000000000) : R 33 [S 2 (eS2 l), S 2 (eS2 l)] = some (B true) := by
  have L := loop_all (s := fun i => { fr := [(0, S 2 (eS2 l)), (1, S 2 (eS2 l)), (5, I i)], tk := [] }) (f := evC2 R (l.length + 1) b33_0) (n := l.length) (X := (.exit 0, { fr := [(0, S 2 (eS2 l)), (1, S 2 (eS2 l)), (5, I l.length), (14, B false)], tk := [] }))
    (fun i hi => by
      have h1 : l[i]? = some l[i] := List.getElem?_eq_getElem hi
      generalize l[i] = x at *
      simp (maxSteps := 2000000) (disch := first | omega | (simp; done) | (simp; omega)) [-getElem?_pos, b33_0, h1, hi, wrap64]) (by simp (maxSteps := 2000000) (disch := first | omega | (simp; done) | (simp; omega)) [-getElem?_pos, b33_0]) (by simp)
  refine run2_body (l.length + 1) rfl rfl rfl rfl rfl ?_
  simp at L
  simp (maxSteps := 2000000) (disch := first | omega | (simp; done) | (simp; omega)) [-getElem?_pos, l33, L]
theorem p31 {l : List Int} (h : l.length ≤ 1000000000) : R 31 [S 1 (eI l), S 1 (eI l)] = some (B true) := by
  have L := loop_all (s := fun i => { fr := [(0, S 1 (eI l)), (1, S 1 (eI l)), (5, I i)], tk := [] }) (f := evC2 R (l.length + 1) b31_0) (n := l.length) (X := (.exit 0, { fr := [(0, S 1 (eI l)), (1, S 1 (eI l)), (5, I l.length), (14, B false)], tk := [] }))
    (fun i hi => by
      have h1 : l[i]? = some l[i] := List.getElem?_eq_getElem hi
      generalize l[i] = x at *
      simp (maxSteps := 2000000) (disch := first | omega | (simp; done) | (simp; omega)) [-getElem?_pos, b31_0, h1, hi, wrap64]) (by simp (maxSteps := 2000000) (disch := first | omega | (simp; done) | (simp; omega)) [-getElem?_pos, b31_0]) (by simp)
  refine run2_body (l.length + 1) rfl rfl rfl rfl rfl ?_
  simp at L
  simp (maxSteps := 2000000) (disch := first | omega | (simp; done) | (simp; omega)) [-getElem?_pos, l31, L]
theorem p20 {s : Scr} (h1 : s.ts.length ≤ 1000000000) (h2 : s.dr.length ≤ 1000000000) : R 20 [.agg (eL s), .agg (eL s)] = some (B true) := by
  have e1 := p33 h1
  have e2 := p31 h2
  simp only [eL]
  generalize eS2 s.ts = te at *
  generalize eI s.dr = de at *
  refine run2_body 1 rfl rfl rfl rfl rfl ?_
  simp (maxSteps := 2000000) (disch := first | omega | (simp; done) | (simp; omega)) [-getElem?_pos, l20, e1, e2]
end Go.Lo

/- How large the arguments may be. -/
namespace Go.Lo
open Go.Proofs
set_option linter.unusedSimpArgs false
set_option maxHeartbeats 8000000
set_option maxRecDepth 20000
theorem p14 (s : Scr) (ns : List (Int × Int)) : ∃ q, R 14 [.agg (eL s), S 2 (eS2 ns)] = some (B q) ∧ (q = false → s.ts.length ≤ 205 ∧ s.dr.length ≤ 30 ∧ ns.length ≤ 205) := by
  have x1 : (eS2 s.ts).length = s.ts.length := List.length_map _
  have x2 : (eI s.dr).length = s.dr.length := List.length_map _
  have x3 : (eS2 ns).length = ns.length := List.length_map _
  simp only [eL]
  generalize eS2 s.ts = te at *
  generalize eI s.dr = de at *
  generalize eS2 ns = ne at *
  rw [← x1, ← x2, ← x3]
  clear x1 x2 x3
  by_cases c2 : (25 : Int) < te.length ∧ (te.length : Int) ≤ 200
  · refine ⟨true, ?_, fun h => by cases h⟩
    refine run2_body 1 rfl rfl rfl rfl rfl ?_
    simp (maxSteps := 2000000) (disch := first | omega | (simp; done) | (simp; omega)) [-getElem?_pos, l14, c2]
  · by_cases c3 : (205 : Int) < te.length
    · have d1 : (25 : Int) < te.length := by omega
      have d2 : ¬ (te.length : Int) ≤ 200 := by omega
      refine ⟨true, ?_, fun h => by cases h⟩
      refine run2_body 1 rfl rfl rfl rfl rfl ?_
      simp (maxSteps := 2000000) (disch := first | omega | (simp; done) | (simp; omega)) [-getElem?_pos, l14, c3, d1, d2]
    · by_cases d1 : (25 : Int) < te.length
      · have d2 : ¬ (te.length : Int) ≤ 200 := fun h => c2 ⟨d1, h⟩
        by_cases c4 : (30 : Int) < de.length
        · skip
          refine ⟨true, ?_, fun h => by cases h⟩
          refine run2_body 1 rfl rfl rfl rfl rfl ?_
          simp (maxSteps := 2000000) (disch := first | omega | (simp; done) | (simp; omega)) [-getElem?_pos, l14, c3, d1, d2, c4]
        · by_cases c5 : (12 : Int) < ne.length
          · by_cases c6 : (ne.length : Int) ≤ 200
            · skip
              refine ⟨true, ?_, fun h => by cases h⟩
              refine run2_body 1 rfl rfl rfl rfl rfl ?_
              simp (maxSteps := 2000000) (disch := first | omega | (simp; done) | (simp; omega)) [-getElem?_pos, l14, c3, d1, d2, c4, c5, c6]
            · by_cases c7 : (205 : Int) < ne.length
              · skip
                refine ⟨true, ?_, fun h => by cases h⟩
                refine run2_body 1 rfl rfl rfl rfl rfl ?_
                simp (maxSteps := 2000000) (disch := first | omega | (simp; done) | (simp; omega)) [-getElem?_pos, l14, c3, d1, d2, c4, c5, c6, c7]
              · skip
                refine ⟨false, ?_, fun _ => ⟨by omega, by omega, by omega⟩⟩
                refine run2_body 1 rfl rfl rfl rfl rfl ?_
                simp (maxSteps := 2000000) (disch := first | omega | (simp; done) | (simp; omega)) [-getElem?_pos, l14, c3, d1, d2, c4, c5, c6, c7]
          · have c7 : ¬ (205 : Int) < ne.length := by omega
            refine ⟨false, ?_, fun _ => ⟨by omega, by omega, by omega⟩⟩
            refine run2_body 1 rfl rfl rfl rfl rfl ?_
            simp (maxSteps := 2000000) (disch := first | omega | (simp; done) | (simp; omega)) [-getElem?_pos, l14, c3, d1, d2, c4, c5, c7]
      · skip
        by_cases c4 : (30 : Int) < de.length
        · skip
          refine ⟨true, ?_, fun h => by cases h⟩
          refine run2_body 1 rfl rfl rfl rfl rfl ?_
          simp (maxSteps := 2000000) (disch := first | omega | (simp; done) | (simp; omega)) [-getElem?_pos, l14, c3, d1, c4]
        · by_cases c5 : (12 : Int) < ne.length
          · by_cases c6 : (ne.length : Int) ≤ 200
            · skip
              refine ⟨true, ?_, fun h => by cases h⟩
              refine run2_body 1 rfl rfl rfl rfl rfl ?_
              simp (maxSteps := 2000000) (disch := first | omega | (simp; done) | (simp; omega)) [-getElem?_pos, l14, c3, d1, c4, c5, c6]
            · by_cases c7 : (205 : Int) < ne.length
              · skip
                refine ⟨true, ?_, fun h => by cases h⟩
                refine run2_body 1 rfl rfl rfl rfl rfl ?_
                simp (maxSteps := 2000000) (disch := first | omega | (simp; done) | (simp; omega)) [-getElem?_pos, l14, c3, d1, c4, c5, c6, c7]
              · skip
                refine ⟨false, ?_, fun _ => ⟨by omega, by omega, by omega⟩⟩
                refine run2_body 1 rfl rfl rfl rfl rfl ?_
                simp (maxSteps := 2000000) (disch := first | omega | (simp; done) | (simp; omega)) [-getElem?_pos, l14, c3, d1, c4, c5, c6, c7]
          · have c7 : ¬ (205 : Int) < ne.length := by omega
            refine ⟨false, ?_, fun _ => ⟨by omega, by omega, by omega⟩⟩
            refine run2_body 1 rfl rfl rfl rfl rfl ?_
            simp (maxSteps := 2000000) (disch := first | omega | (simp; done) | (simp; omega)) [-getElem?_pos, l14, c3, d1, c4, c5, c7]
end Go.Lo

/- What the backlash can be after reads: the program. -/
namespace Go.Lo
open Go.Proofs
set_option linter.unusedSimpArgs false
set_option maxHeartbeats 8000000
set_option maxRecDepth 20000
/-- A read: from below, and from above. -/
abbrev Rd := (Int × Int) × (Int × Int)
abbrev eS4 (l : List Rd) : List (List V) := l.map fun x => [I x.1.1, I x.1.2, I x.2.1, I x.2.2]
def rdB (x : Rd) : Bool := spB x.1 (-10000000) 10000000 && spB x.2 (-10000000) 10000000
def narE (o : Int × Int) (x : Rd) : Int × Int := (max o.1 (x.2.1 - x.1.2), min o.2 (x.2.2 - x.1.1))
def narP (s : Scr) (rs : List Rd) (i : Nat) : Int × Int := (rs.take i).foldl narE s.la
def lshE (s : Scr) (rs : List Rd) : (Int × Int) × Int :=
  if chkS s ≠ 0 then ((0, 0), chkS s) else if 50 < rs.length then ((0, 0), 5) else if rs.all rdB = true then (if (rs.foldl narE s.la).2 < (rs.foldl narE s.la).1 then ((0, 0), 9) else (rs.foldl narE s.la, 0)) else ((0, 0), 2)
theorem narP_succ {s : Scr} {rs : List Rd} {i : Nat} {x : Rd} (h : rs[i]? = some x) : narP s rs (i + 1) = narE (narP s rs i) x := by
  unfold narP
  rw [List.take_add_one, h, List.foldl_append]
  rfl
abbrev sLi (o : Int × Int) (x : Rd) (rs : List (List V)) (n i k : Int) : St := { fr := [(4, .box [I 0, I 0]), (7, .box [I o.1, I o.2]), (9, .box [I x.1.1, I x.1.2, I x.2.1, I x.2.2]), (24, S 4 rs), (25, I n), (26, I i), (34, .agg [I x.1.1, I x.1.2, I x.2.1, I x.2.2]), (35, I k)], tk := [] }
theorem loop40_1 {o : Int × Int} {x : Rd} {rs : List (List V)} {n i : Int} {m M : Nat} : iter (evC2 R M b40_1) (m + 3) (sLi o x rs n i 0) =
    if rdB x = true then some (.exit 2, { (sLi o x rs n i 2) with fr := (sLi o x rs n i 2).fr ++ [(36, B false)] }) else some (.ret, { fr := [(4, .box [I 0, I 0]), (5, I 2)], tk := [] }) := by
  have e1 := p51 x.1 (-10000000) 10000000
  have e2 := p51 x.2 (-10000000) 10000000
  simp only [eS] at e1 e2
  have s1 : evC2 R M b40_1 (sLi o x rs n i 0) = if spB x.1 (-10000000) 10000000 = true then some (.normal, sLi o x rs n i 1) else some (.ret, { fr := [(4, .box [I 0, I 0]), (5, I 2)], tk := [] }) := by
    unfold sLi
    generalize spB x.1 (-10000000) 10000000 = q at *
    cases q <;> simp (maxSteps := 2000000) (disch := first | omega | (simp; done) | (simp; omega)) [-getElem?_pos, b40_1, e1, wrap64]
  have s2 : evC2 R M b40_1 (sLi o x rs n i 1) = if spB x.2 (-10000000) 10000000 = true then some (.normal, sLi o x rs n i 2) else some (.ret, { fr := [(4, .box [I 0, I 0]), (5, I 2)], tk := [] }) := by
    unfold sLi
    generalize spB x.2 (-10000000) 10000000 = q at *
    cases q <;> simp (maxSteps := 2000000) (disch := first | omega | (simp; done) | (simp; omega)) [-getElem?_pos, b40_1, e2, wrap64]
  have s3 : evC2 R M b40_1 (sLi o x rs n i 2) = some (.exit 2, { (sLi o x rs n i 2) with fr := (sLi o x rs n i 2).fr ++ [(36, B false)] }) := by
    unfold sLi
    simp (maxSteps := 2000000) (disch := first | omega | (simp; done) | (simp; omega)) [-getElem?_pos, b40_1]
  unfold rdB
  rw [iter_succ, s1]
  generalize spB x.1 (-10000000) 10000000 = q1 at *
  generalize spB x.2 (-10000000) 10000000 = q2 at *
  cases q1
  · rfl
  · simp only [if_true]
    rw [iter_succ, s2]
    cases q2
    · rfl
    · simp only [if_true]
      rw [iter_succ, s3]
      rfl
theorem loop40_0 {s : Scr} {rs : List Rd} (hl : rs.length ≤ 50) {m : Nat} : iter (evC2 R (m + 3) b40_0) (rs.length + 1) { fr := [(4, .box [I 0, I 0]), (7, .box [I s.la.1, I s.la.2]), (24, S 4 (eS4 rs)), (25, I rs.length), (26, I 0)], tk := [] } =
    if rs.all rdB = true then some (.exit 0, { fr := [(4, .box [I 0, I 0]), (7, .box [I (rs.foldl narE s.la).1, I (rs.foldl narE s.la).2]), (24, S 4 (eS4 rs)), (25, I rs.length), (26, I rs.length), (27, B false)], tk := [] }) else some (.ret, { fr := [(4, .box [I 0, I 0]), (5, I 2)], tk := [] }) := by
  have L := loop_if (s := fun i => { fr := [(4, .box [I 0, I 0]), (7, .box [I (narP s rs i).1, I (narP s rs i).2]), (24, S 4 (eS4 rs)), (25, I rs.length), (26, I i)], tk := [] }) (f := evC2 R (m + 3) b40_0) (n := rs.length) (g := prAt (fun x => !rdB x) rs) (E := fun _ => (.ret, { fr := [(4, .box [I 0, I 0]), (5, I 2)], tk := [] })) (X := (.exit 0, { fr := [(4, .box [I 0, I 0]), (7, .box [I (narP s rs rs.length).1, I (narP s rs rs.length).2]), (24, S 4 (eS4 rs)), (25, I rs.length), (26, I rs.length), (27, B false)], tk := [] }))
    (fun i hi => by
      have h1 : rs[i]? = some rs[i] := List.getElem?_eq_getElem hi
      have h1e : (eS4 rs)[i]? = some [I rs[i].1.1, I rs[i].1.2, I rs[i].2.1, I rs[i].2.2] := by rw [List.getElem?_map, h1]; rfl
      have hlt : (i : Int) < rs.length := by omega
      have wi := wrap64 (n := (i : Int) + 1) (by omega) (by omega)
      have hln : (eS4 rs).length = rs.length := by simp
      rw [prAt_some h1, narP_succ h1]
      generalize rs[i] = x at *
      have L1 := loop40_1 (o := narP s rs i) (x := x) (rs := eS4 rs) (n := rs.length) (i := i) (m := m) (M := m + 3)
      unfold sLi at L1
      generalize narP s rs i = o at *
      unfold narE
      generalize hF : evC2 R (m + 3) b40_1 = F at *
      generalize eS4 rs = re at *
      by_cases hq : rdB x = true
      · rw [if_pos hq] at L1
        have hb : (-10000000 ≤ x.1.1 ∧ x.1.1 ≤ x.1.2 ∧ x.1.2 ≤ 10000000) ∧ (-10000000 ≤ x.2.1 ∧ x.2.1 ≤ x.2.2 ∧ x.2.2 ≤ 10000000) := by
          unfold rdB spB at hq
          rw [Bool.and_eq_true, decide_eq_true_eq, decide_eq_true_eq] at hq
          exact hq
        have w1 := wrap64 (n := x.2.1 - x.1.2) (by omega) (by omega)
        have w2 := wrap64 (n := x.2.2 - x.1.1) (by omega) (by omega)
        rw [hq]
        clear hb
        simp only [Bool.not_true, Bool.false_eq_true, if_false]
        simp (maxSteps := 2000000) (disch := first | omega | (simp; done) | (simp; omega)) [-getElem?_pos, b40_0, h1e, hlt, hln, hF, L1, w1, w2, wi, mxE, mnE, maxL, minL]
        constructor <;> (split <;> omega)
      · rw [if_neg hq] at L1
        have hq' : rdB x = false := by cases h : rdB x with | true => exact absurd h hq | false => rfl
        rw [hq']
        simp only [Bool.not_false, if_true]
        simp (maxSteps := 2000000) (disch := first | omega | (simp; done) | (simp; omega)) [-getElem?_pos, b40_0, h1e, hlt, hln, hF, L1]) (fun _ => by simp) (by simp (maxSteps := 2000000) (disch := first | omega | (simp; done) | (simp; omega)) [-getElem?_pos, b40_0]) (by simp)
  have h0 : narP s rs 0 = s.la := rfl
  have h9 : narP s rs rs.length = rs.foldl narE s.la := by unfold narP; rw [List.take_length]
  rw [h9] at L
  have L : iter (evC2 R (m + 3) b40_0) (rs.length + 1) { fr := [(4, .box [I 0, I 0]), (7, .box [I s.la.1, I s.la.2]), (24, S 4 (eS4 rs)), (25, I rs.length), (26, I 0)], tk := [] } = _ := L
  rw [L]
  have h := all_prAt (fun x => !rdB x) rs
  rw [show (rs.any fun x => !rdB x) = !(rs.all rdB) from (List.not_all_eq_any_not).symm, Bool.not_not] at h
  cases hf : (List.range' 0 rs.length).find? (prAt (fun x => !rdB x) rs) <;> rw [hf] at h <;> cases hq : rs.all rdB <;> rw [hq] at h <;> simp at h ⊢
theorem p40 {s : Scr} {rs : List Rd} (h1 : s.ts.length < 4611686018427387904) (h2 : s.dr.length < 4611686018427387904) : R 40 [.agg (eL s), S 4 (eS4 rs)] = some (.tup [eS (lshE s rs).1, I (lshE s rs).2]) := by
  have e1 := p18 h1 h2
  unfold lshE
  have hln : (eS4 rs).length = rs.length := by simp
  by_cases c1 : chkS s = 0
  · rw [if_neg (not_not_intro c1)]
    rw [c1] at e1
    by_cases c2 : (50 : Int) < rs.length
    · rw [if_pos (by omega)]
      simp only [eL, eS]
      generalize eS4 rs = re at *
      refine run2_body 1 rfl rfl rfl rfl rfl ?_
      simp (maxSteps := 2000000) (disch := first | omega | (simp; done) | (simp; omega)) [-getElem?_pos, l40, e1, c2, hln]
    · rw [if_neg (by omega)]
      have L := loop40_0 (s := s) (rs := rs) (by omega) (m := rs.length + 1)
      have L := fun x (h : _ = some x) => iter_le (fun σ x h => h) (show rs.length + 1 ≤ rs.length + 1 + 3 by omega) (L.trans h)
      generalize rs.all rdB = q at *
      generalize rs.foldl narE s.la = o at *
      simp only [eL, eS] at *
      generalize eS4 rs = re at *
      generalize hF : evC2 R (rs.length + 1 + 3) b40_0 = F at *
      refine run2_body (rs.length + 1 + 3) rfl rfl rfl rfl rfl ?_
      cases q
      · have L := L _ rfl
        simp only [Bool.false_eq_true, if_false]
        simp (maxSteps := 2000000) (disch := first | omega | (simp; done) | (simp; omega)) [-getElem?_pos, l40, e1, c2, hln, hF, L]
      · have L := L _ rfl
        simp only [if_true]
        by_cases c3 : o.2 < o.1 <;> simp (maxSteps := 2000000) (disch := first | omega | (simp; done) | (simp; omega)) [-getElem?_pos, l40, e1, c2, hln, hF, L, c3]
  · rw [if_pos c1]
    generalize chkS s = c at *
    simp only [eL, eS] at *
    generalize eS4 rs = re at *
    clear h1 h2
    refine run2_body 1 rfl rfl rfl rfl rfl ?_
    simp (maxSteps := 2000000) (disch := first | omega | (simp; done) | (simp; omega)) [-getElem?_pos, l40, e1, c1]
end Go.Lo

/- What the backlash can be after reads: the reference. -/
namespace Go.Lo
open Go.Proofs
set_option linter.unusedSimpArgs false
set_option maxHeartbeats 8000000
set_option maxRecDepth 20000
theorem loop41_0 (s : Scr) (rs : List Rd) (hl : rs.length ≤ 200) (M : Nat) : iter (evC2 R M b41_0) (rs.length + 1) { fr := [(1, S 4 (eS4 rs)), (2, .box (eL s)), (4, .box [I 0, I 0]), (7, I 0)], tk := [] } =
    if rs.all rdB = true then some (.exit 0, { fr := [(1, S 4 (eS4 rs)), (2, .box (eL s)), (4, .box [I 0, I 0]), (7, I rs.length), (25, B false)], tk := [] }) else some (.ret, { fr := [(4, .box [I 0, I 0]), (5, I 2)], tk := [] }) := by
  have L := loop_if (s := fun i => { fr := [(1, S 4 (eS4 rs)), (2, .box (eL s)), (4, .box [I 0, I 0]), (7, I i)], tk := [] }) (f := evC2 R M b41_0) (n := rs.length) (g := prAt (fun x => !rdB x) rs) (E := fun _ => (.ret, { fr := [(4, .box [I 0, I 0]), (5, I 2)], tk := [] })) (X := (.exit 0, { fr := [(1, S 4 (eS4 rs)), (2, .box (eL s)), (4, .box [I 0, I 0]), (7, I rs.length), (25, B false)], tk := [] }))
    (fun i hi => by
      have h1 : rs[i]? = some rs[i] := List.getElem?_eq_getElem hi
      have h1e : (eS4 rs)[i]? = some [I rs[i].1.1, I rs[i].1.2, I rs[i].2.1, I rs[i].2.2] := by rw [List.getElem?_map, h1]; rfl
      have hlt : (i : Int) < rs.length := by omega
      have wi := wrap64 (n := (i : Int) + 1) (by omega) (by omega)
      have hln : (eS4 rs).length = rs.length := by simp
      rw [prAt_some h1]
      unfold rdB
      generalize rs[i] = x at *
      have e1 := p59 x.1 (-10000000) 10000000
      have e2 := p59 x.2 (-10000000) 10000000
      simp only [eS, eL] at *
      generalize eS4 rs = re at *
      generalize spB x.1 (-10000000) 10000000 = q at *
      generalize spB x.2 (-10000000) 10000000 = q2 at *
      cases q
      · simp (maxSteps := 2000000) (disch := first | omega | (simp; done) | (simp; omega)) [-getElem?_pos, b41_0, h1e, hlt, hln, e1, wi]
      · cases q2 <;> simp (maxSteps := 2000000) (disch := first | omega | (simp; done) | (simp; omega)) [-getElem?_pos, b41_0, h1e, hlt, hln, e1, e2, wi]) (fun _ => by simp) (by simp (maxSteps := 2000000) (disch := first | omega | (simp; done) | (simp; omega)) [-getElem?_pos, b41_0, eL]) (by simp)
  have L : iter (evC2 R M b41_0) (rs.length + 1) { fr := [(1, S 4 (eS4 rs)), (2, .box (eL s)), (4, .box [I 0, I 0]), (7, I 0)], tk := [] } = _ := L
  rw [L]
  have h := all_prAt (fun x => !rdB x) rs
  rw [show (rs.any fun x => !rdB x) = !(rs.all rdB) from (List.not_all_eq_any_not).symm, Bool.not_not] at h
  cases hf : (List.range' 0 rs.length).find? (prAt (fun x => !rdB x) rs) <;> rw [hf] at h <;> cases hq : rs.all rdB <;> rw [hq] at h <;> simp at h ⊢
/-- Whether a backlash goes with a read. -/
def okR (b : Int) (x : Rd) : Bool := decide (x.1.1 + b ≤ x.2.2 ∧ x.2.1 ≤ x.1.2 + b)
theorem take_all {rs : List Rd} {b : Int} {i : Nat} {x : Rd} (h : rs[i]? = some x) : (rs.take (i + 1)).all (okR b) = ((rs.take i).all (okR b) && okR b x) := by
  rw [List.take_add_one, h, List.all_append]
  simp
theorem loop41_2 (s : Scr) {rs : List Rd} (hl : rs.length ≤ 200) (hv : rs.all rdB = true) (o : Int × Int) {b : Int} (hb : 0 ≤ b ∧ b ≤ 10000) (M : Nat) : iter (evC2 R M b41_2) (rs.length + 1) { fr := [(1, S 4 (eS4 rs)), (2, .box (eL s)), (4, .box [I 0, I 0]), (8, .box [I o.1, I o.2]), (9, I b), (10, B true), (11, I 0)], tk := [] } =
    some (.exit 4, { fr := [(1, S 4 (eS4 rs)), (2, .box (eL s)), (4, .box [I 0, I 0]), (8, .box [I o.1, I o.2]), (9, I b), (10, B (rs.all (okR b))), (11, I rs.length), (59, B false)], tk := [] }) := by
  have L := loop_all (s := fun i => { fr := [(1, S 4 (eS4 rs)), (2, .box (eL s)), (4, .box [I 0, I 0]), (8, .box [I o.1, I o.2]), (9, I b), (10, B ((rs.take i).all (okR b))), (11, I i)], tk := [] }) (f := evC2 R M b41_2) (n := rs.length) (X := (.exit 4, { fr := [(1, S 4 (eS4 rs)), (2, .box (eL s)), (4, .box [I 0, I 0]), (8, .box [I o.1, I o.2]), (9, I b), (10, B ((rs.take rs.length).all (okR b))), (11, I rs.length), (59, B false)], tk := [] }))
    (fun i hi => by
      have h1 : rs[i]? = some rs[i] := List.getElem?_eq_getElem hi
      have h1e : (eS4 rs)[i]? = some [I rs[i].1.1, I rs[i].1.2, I rs[i].2.1, I rs[i].2.2] := by rw [List.getElem?_map, h1]; rfl
      have hlt : (i : Int) < rs.length := by omega
      have wi := wrap64 (n := (i : Int) + 1) (by omega) (by omega)
      have hln : (eS4 rs).length = rs.length := by simp
      rw [take_all h1]
      have hx := List.all_eq_true.1 hv rs[i] (List.getElem_mem hi)
      unfold rdB spB at hx
      rw [Bool.and_eq_true, decide_eq_true_eq, decide_eq_true_eq] at hx
      unfold okR
      generalize rs[i] = x at *
      have w1 := wrap64 (n := x.1.1 + b) (by omega) (by omega)
      have w2 := wrap64 (n := x.1.2 + b) (by omega) (by omega)
      simp only [eL]
      generalize eS4 rs = re at *
      change evC2 R M b41_2 { fr := [(1, S 4 re), (2, .box (eL s)), (4, .box [I 0, I 0]), (8, .box [I o.1, I o.2]), (9, I b), (10, B ((rs.take i).all (okR b))), (11, I i)], tk := [] } = some (_, { fr := [(1, S 4 re), (2, .box (eL s)), (4, .box [I 0, I 0]), (8, .box [I o.1, I o.2]), (9, I b), (10, B ((rs.take i).all (okR b) && _)), (11, I (i + 1 : Nat))], tk := [] })
      generalize (rs.take i).all (okR b) = q at *
      clear hx hb hv
      cases q
      · simp (maxSteps := 2000000) (disch := first | omega | (simp; done) | (simp; omega)) [-getElem?_pos, b41_2, h1e, hlt, hln, wi]
      · by_cases c1 : x.1.1 + b ≤ x.2.2
        · by_cases c2 : x.2.1 ≤ x.1.2 + b <;> simp (maxSteps := 2000000) (disch := first | omega | (simp; done) | (simp; omega)) [-getElem?_pos, b41_2, h1e, hlt, hln, wi, w1, w2, c1, c2]
        · simp (maxSteps := 2000000) (disch := first | omega | (simp; done) | (simp; omega)) [-getElem?_pos, b41_2, h1e, hlt, hln, wi, w1, w2, c1]) (by simp only [eL]; simp (maxSteps := 2000000) (disch := first | omega | (simp; done) | (simp; omega)) [-getElem?_pos, b41_2]) (by simp)
  rw [List.take_length] at L
  exact L
/-- What has been found when so many integers are tried. -/
def outK (o : Int × Int) (lo : Int) (k : Nat) : Int × Int := if o.1 ≤ o.2 ∧ o.1 < lo + k then (o.1, min o.2 (lo + k - 1)) else (1, 0)
def outS (o : Int × Int) (b : Int) (ok : Bool) : Int × Int := if ok = true then (if o.2 < o.1 then (b, b) else (o.1, b)) else o
theorem outK_succ {o : Int × Int} {lo : Int} (_ : lo ≤ o.1) (k : Nat) : outK o lo (k + 1) = outS (outK o lo k) (lo + k) (decide (o.1 ≤ lo + k ∧ lo + k ≤ o.2)) := by
  unfold outK outS
  simp only [decide_eq_true_eq]
  by_cases c1 : o.1 ≤ lo + k ∧ lo + k ≤ o.2
  · rw [if_pos c1, if_pos (by omega)]
    by_cases c2 : o.1 ≤ o.2 ∧ o.1 < lo + k
    · rw [if_pos c2, if_neg (by simp only; omega)]
      simp only [Prod.mk.injEq, true_and]; omega
    · rw [if_neg c2, if_pos (by decide)]
      simp only [Prod.mk.injEq]; omega
  · rw [if_neg c1]
    by_cases c2 : o.1 ≤ o.2 ∧ o.1 < lo + k
    · rw [if_pos c2, if_pos (by omega)]
      simp only [Prod.mk.injEq, true_and]; omega
    · rw [if_neg c2, if_neg (by omega)]
theorem nar_ok : ∀ (rs : List Rd) (o : Int × Int) (b : Int), (((rs.foldl narE o).1 ≤ b ∧ b ≤ (rs.foldl narE o).2) ↔ (o.1 ≤ b ∧ b ≤ o.2) ∧ rs.all (okR b) = true)
  | [], o, b => by simp
  | x :: rs, o, b => by
    rw [List.foldl_cons, nar_ok rs, List.all_cons, Bool.and_eq_true]
    unfold narE okR
    simp only [decide_eq_true_eq]
    constructor
    · rintro ⟨h1, h2⟩; exact ⟨by omega, by omega, h2⟩
    · rintro ⟨h1, h2, h3⟩; exact ⟨by omega, h3⟩
theorem nar_lo : ∀ (rs : List Rd) (o : Int × Int), o.1 ≤ (rs.foldl narE o).1 ∧ (rs.foldl narE o).2 ≤ o.2
  | [], o => by simp
  | x :: rs, o => by
    have := nar_lo rs (narE o x)
    rw [List.foldl_cons]
    unfold narE at *
    simp only at this
    omega
end Go.Lo

/- What the document's examples say, but for Least. -/
namespace Go.Lo
open Go.Proofs
set_option maxRecDepth 100000
def two6 : V := .agg [S 2 [[I 0, I 0], [I 10, I 12], [I (-4), I 0]], S 1 [[I 0], [I 3], [I 0], [I (-3)]], I 5, I 8]
theorem kn_two : R 49 [] = some (.agg [.sl (some 0) 2 [[I 0, I 0], [I 10, I 12], [I (-4), I 0]], .sl (some 1) 1 [[I 0], [I 3], [I 0], [I (-3)]], I 5, I 8]) := run2_of (n := 20) (by kernel_rfl)
theorem kn_Error1 : R 19 [two6, S 2 [], I 5] = some (.tup [.agg [I 9, I 12], I 0]) := run2_of (n := 20) (by kernel_rfl)
theorem kn_Error2 : R 19 [two6, S 2 [[I 4, I (-5)]], I 4] = some (.tup [.agg [I 5, I 7], I 0]) := run2_of (n := 20) (by kernel_rfl)
theorem kn_Travel : R 30 [two6, S 2 [], S 1 [[I 0], [I 4], [I 8], [I 4]]] = some (.tup [.sl (some 2000000) 2 [[I 10, I 12], [I (-16), I (-10)], [I 15, I 24]], I 0]) := run2_of (n := 20) (by kernel_rfl)
theorem kn_Worst : R 34 [two6, S 2 [], I 0, I 4] = some (.tup [.agg [I (-1), I 12, I 1, I 3, I 0, I 4], I 0]) := run2_of (n := 20) (by kernel_rfl)
theorem kn_Cut : R 35 [two6, I 6] = some (.tup [.sl (some 2000000) 2 [[I 4, I (-6)], [I 7, I 0]], I 0]) := run2_of (n := 20) (by kernel_rfl)
theorem kn_Split : R 38 [S 1 [[I 0], [I 6], [I 4], [I 8], [I 4]], I 2] = some (.tup [.sl (some 2000000) 1 [[I 0], [I 4], [I 4]], .sl (some 1) 1 [[I 0], [I 4]], I 0]) := run2_of (n := 20) (by kernel_rfl)
theorem kn_Lash : R 40 [two6, S 4 [[I 100, I 101, I 107, I 108]]] = some (.tup [.agg [I 6, I 8], I 0]) := run2_of (n := 20) (by kernel_rfl)
end Go.Lo

/- Least of the document's example: a search, round by round. -/
namespace Go.Lo
open Go.Proofs
set_option linter.unusedSimpArgs false
set_option maxHeartbeats 8000000
set_option maxRecDepth 100000
def I6 : List V := [S 2 [[I 0, I 0], [I 10, I 12], [I (-4), I 0]], S 1 [[I 0], [I 3], [I 0], [I (-3)]], I 5, I 8, S 2 []]
def cs6 : List V := [.cref I6, .cref [I 2]]
theorem kn_open : R 54 [two6, .sl none 2 []] = some (.tup [.agg I6, I 0]) := run2_of (n := 20) (by kernel_rfl)
theorem kn_within : R 53 [I 0, I 200, S 1 [[I 2]]] = some (B true) := run2_of (n := 20) (by kernel_rfl)
theorem kn_L20000 : R 71 (I 20000 :: cs6) = some (B true) := run2_of (n := 20) (by kernel_rfl)
theorem kn_L10000 : R 71 (I 10000 :: cs6) = some (B true) := run2_of (n := 20) (by kernel_rfl)
theorem kn_L5000 : R 71 (I 5000 :: cs6) = some (B true) := run2_of (n := 20) (by kernel_rfl)
theorem kn_L2500 : R 71 (I 2500 :: cs6) = some (B true) := run2_of (n := 20) (by kernel_rfl)
theorem kn_L1250 : R 71 (I 1250 :: cs6) = some (B true) := run2_of (n := 20) (by kernel_rfl)
theorem kn_L625 : R 71 (I 625 :: cs6) = some (B true) := run2_of (n := 20) (by kernel_rfl)
theorem kn_L312 : R 71 (I 312 :: cs6) = some (B true) := run2_of (n := 20) (by kernel_rfl)
theorem kn_L156 : R 71 (I 156 :: cs6) = some (B true) := run2_of (n := 20) (by kernel_rfl)
theorem kn_L78 : R 71 (I 78 :: cs6) = some (B true) := run2_of (n := 20) (by kernel_rfl)
theorem kn_L39 : R 71 (I 39 :: cs6) = some (B true) := run2_of (n := 20) (by kernel_rfl)
theorem kn_L19 : R 71 (I 19 :: cs6) = some (B true) := run2_of (n := 20) (by kernel_rfl)
theorem kn_L9 : R 71 (I 9 :: cs6) = some (B true) := run2_of (n := 20) (by kernel_rfl)
theorem kn_L4 : R 71 (I 4 :: cs6) = some (B false) := run2_of (n := 20) (by kernel_rfl)
theorem kn_L7 : R 71 (I 7 :: cs6) = some (B true) := run2_of (n := 20) (by kernel_rfl)
theorem kn_L6 : R 71 (I 6 :: cs6) = some (B true) := run2_of (n := 20) (by kernel_rfl)
theorem kn_L5 : R 71 (I 5 :: cs6) = some (B true) := run2_of (n := 20) (by kernel_rfl)
abbrev sSe (f : Nat) (cs : List V) (i j : Int) : St := { fr := [(1, .fn (.f f) cs), (5, I i), (6, I j)], tk := [] }
theorem shr_halfK {n : Int} (h0 : 0 ≤ n) (h1 : n ≤ 1000000000) : IntKind.i64.wrap ((IntKind.u64.wrap n).fdiv (2 ^ min 1 IntKind.u64.bits)) = n / 2 := by
  have h2 : IntKind.u64.wrap n = n := by
    simp [IntKind.wrap, IntKind.bits, IntKind.signed]
    omega
  rw [h2, show (2 : Int) ^ min 1 IntKind.u64.bits = 2 from rfl, Int.fdiv_eq_ediv_of_nonneg _ (by omega)]
  exact wrap64 (by omega) (by omega)
theorem se_end {f : Nat} {cs : List V} {M : Nat} {i : Int} : evC2 R M b70_0 (sSe f cs i i) = some (.exit 0, { fr := [(1, .fn (.f f) cs), (5, I i), (6, I i), (11, B false)], tk := [] }) := by
  simp (maxSteps := 2000000) (disch := first | omega | (simp; done) | (simp; omega)) [-getElem?_pos, b70_0]
theorem se_round {f : Nat} {cs : List V} {M : Nat} {i j : Int} {q : Bool} (h0 : 0 ≤ i) (hij : i < j) (hj : j ≤ 1000000) (hz : ∀ rd, frzL rd cs = some cs) (hc : R f (I ((i + j) / 2) :: cs) = some (B q)) :
    evC2 R M b70_0 (sSe f cs i j) = some (.normal, if q then sSe f cs i ((i + j) / 2) else sSe f cs ((i + j) / 2 + 1) j) := by
  have w1 : IntKind.i64.wrap (i + j) = i + j := wrap64 (by omega) (by omega)
  have w2 := shr_halfK (n := i + j) (by omega) (by omega)
  have w3 : IntKind.i64.wrap ((i + j) / 2 + 1) = (i + j) / 2 + 1 := wrap64 (by omega) (by omega)
  generalize (i + j) / 2 = m at *
  clear h0 hj
  cases q <;> simp (maxSteps := 2000000) (disch := first | omega | (simp; done) | (simp; omega)) [-getElem?_pos, b70_0, hc, hz, hij, w1, w2, w3]
theorem kn_Search : R 70 [I 40001, .fn (.f 71) cs6] = some (I 5) := by
  generalize hM : 40001 + 1 = M
  have s20000 : evC2 R M b70_0 (sSe 71 cs6 0 40001) = some (.normal, sSe 71 cs6 0 20000) := se_round (q := true) (by omega) (by omega) (by omega) (fun _ => rfl) kn_L20000
  have s10000 : evC2 R M b70_0 (sSe 71 cs6 0 20000) = some (.normal, sSe 71 cs6 0 10000) := se_round (q := true) (by omega) (by omega) (by omega) (fun _ => rfl) kn_L10000
  have s5000 : evC2 R M b70_0 (sSe 71 cs6 0 10000) = some (.normal, sSe 71 cs6 0 5000) := se_round (q := true) (by omega) (by omega) (by omega) (fun _ => rfl) kn_L5000
  have s2500 : evC2 R M b70_0 (sSe 71 cs6 0 5000) = some (.normal, sSe 71 cs6 0 2500) := se_round (q := true) (by omega) (by omega) (by omega) (fun _ => rfl) kn_L2500
  have s1250 : evC2 R M b70_0 (sSe 71 cs6 0 2500) = some (.normal, sSe 71 cs6 0 1250) := se_round (q := true) (by omega) (by omega) (by omega) (fun _ => rfl) kn_L1250
  have s625 : evC2 R M b70_0 (sSe 71 cs6 0 1250) = some (.normal, sSe 71 cs6 0 625) := se_round (q := true) (by omega) (by omega) (by omega) (fun _ => rfl) kn_L625
  have s312 : evC2 R M b70_0 (sSe 71 cs6 0 625) = some (.normal, sSe 71 cs6 0 312) := se_round (q := true) (by omega) (by omega) (by omega) (fun _ => rfl) kn_L312
  have s156 : evC2 R M b70_0 (sSe 71 cs6 0 312) = some (.normal, sSe 71 cs6 0 156) := se_round (q := true) (by omega) (by omega) (by omega) (fun _ => rfl) kn_L156
  have s78 : evC2 R M b70_0 (sSe 71 cs6 0 156) = some (.normal, sSe 71 cs6 0 78) := se_round (q := true) (by omega) (by omega) (by omega) (fun _ => rfl) kn_L78
  have s39 : evC2 R M b70_0 (sSe 71 cs6 0 78) = some (.normal, sSe 71 cs6 0 39) := se_round (q := true) (by omega) (by omega) (by omega) (fun _ => rfl) kn_L39
  have s19 : evC2 R M b70_0 (sSe 71 cs6 0 39) = some (.normal, sSe 71 cs6 0 19) := se_round (q := true) (by omega) (by omega) (by omega) (fun _ => rfl) kn_L19
  have s9 : evC2 R M b70_0 (sSe 71 cs6 0 19) = some (.normal, sSe 71 cs6 0 9) := se_round (q := true) (by omega) (by omega) (by omega) (fun _ => rfl) kn_L9
  have s4 : evC2 R M b70_0 (sSe 71 cs6 0 9) = some (.normal, sSe 71 cs6 5 9) := se_round (q := false) (by omega) (by omega) (by omega) (fun _ => rfl) kn_L4
  have s7 : evC2 R M b70_0 (sSe 71 cs6 5 9) = some (.normal, sSe 71 cs6 5 7) := se_round (q := true) (by omega) (by omega) (by omega) (fun _ => rfl) kn_L7
  have s6 : evC2 R M b70_0 (sSe 71 cs6 5 7) = some (.normal, sSe 71 cs6 5 6) := se_round (q := true) (by omega) (by omega) (by omega) (fun _ => rfl) kn_L6
  have s5 : evC2 R M b70_0 (sSe 71 cs6 5 6) = some (.normal, sSe 71 cs6 5 5) := se_round (q := true) (by omega) (by omega) (by omega) (fun _ => rfl) kn_L5
  have L : ∀ d, iter (evC2 R M b70_0) (d + 17) (sSe 71 cs6 0 40001) = some (.exit 0, { fr := [(1, .fn (.f 71) cs6), (5, I 5), (6, I 5), (11, B false)], tk := [] }) := fun d => by
    rw [iter_succ]; simp only [s20000]
    rw [iter_succ]; simp only [s10000]
    rw [iter_succ]; simp only [s5000]
    rw [iter_succ]; simp only [s2500]
    rw [iter_succ]; simp only [s1250]
    rw [iter_succ]; simp only [s625]
    rw [iter_succ]; simp only [s312]
    rw [iter_succ]; simp only [s156]
    rw [iter_succ]; simp only [s78]
    rw [iter_succ]; simp only [s39]
    rw [iter_succ]; simp only [s19]
    rw [iter_succ]; simp only [s9]
    rw [iter_succ]; simp only [s4]
    rw [iter_succ]; simp only [s7]
    rw [iter_succ]; simp only [s6]
    rw [iter_succ]; simp only [s5]
    rw [iter_succ, se_end]
  have L := L 39985
  refine run2_body M rfl rfl rfl rfl rfl ?_
  rw [← hM] at *
  simp (maxSteps := 2000000) (disch := first | omega | (simp; done) | (simp; omega)) [-getElem?_pos, l70, L]
end Go.Lo

/- What the document's examples say. -/
namespace Go.Lo
open Go.Proofs
set_option linter.unusedSimpArgs false
set_option maxHeartbeats 8000000
set_option maxRecDepth 100000
theorem kn_Least : R 37 [two6, I 2] = some (.tup [I 5, I 0]) := by
  have e1 := kn_open
  have e2 := kn_within
  have e3 := kn_Search
  unfold cs6 at e3
  unfold two6 I6 at *
  refine run2_body 1 rfl rfl rfl rfl rfl ?_
  simp (maxSteps := 2000000) (disch := first | omega | (simp; done) | (simp; omega)) [-getElem?_pos, l37, e1, e2, e3]
theorem p48 (a b : Int) : R 48 [I a, I b] = some (.agg [I a, I b]) := by
  refine run2_body 1 rfl rfl rfl rfl rfl ?_
  simp (maxSteps := 2000000) (disch := first | omega | (simp; done) | (simp; omega)) [-getElem?_pos, l48]
mutual
def eqV : V → V → Bool
  | .int k n, .int k' n' => decide (k = k') && decide (n = n')
  | .agg l, .agg l' => eqVL l l'
  | .sl t w es, .sl t' w' es' => decide (t = t') && decide (w = w') && eqVM es es'
  | _, _ => false
def eqVL : List V → List V → Bool
  | [], [] => true
  | a :: l, b :: l' => eqV a b && eqVL l l'
  | _, _ => false
def eqVM : List (List V) → List (List V) → Bool
  | [], [] => true
  | a :: l, b :: l' => eqVL a b && eqVM l l'
  | _, _ => false
end
mutual
theorem eqV_ok : ∀ (a b : V), eqV a b = true → a = b
  | .int k n, b, h => by
    cases b <;> simp [eqV] at h
    simp [h]
  | .agg l, b, h => by
    cases b <;> simp [eqV] at h
    rw [eqVL_ok _ _ h]
  | .sl t w es, b, h => by
    cases b <;> simp [eqV] at h
    rw [eqVM_ok _ _ h.2, h.1.1, h.1.2]
  | .und, _, h | .dead, _, h | .bool _, _, h | .tup _, _, h | .nil, _, h | .fn _ _, _, h | .ref _ _, _, h | .cref _, _, h | .gref _, _, h | .np, _, h | .eref .., _, h | .box _, _, h | .mref _, _, h | .mbox _, _, h | .bag _ _, _, h => by simp [eqV] at h
theorem eqVL_ok : ∀ (a b : List V), eqVL a b = true → a = b
  | [], b, h => by cases b <;> simp [eqVL] at h; rfl
  | a :: l, b, h => by
    cases b <;> simp [eqVL] at h
    rw [eqV_ok _ _ h.1, eqVL_ok _ _ h.2]
theorem eqVM_ok : ∀ (a b : List (List V)), eqVM a b = true → a = b
  | [], b, h => by cases b <;> simp [eqVM] at h; rfl
  | a :: l, b, h => by
    cases b <;> simp [eqVM] at h
    rw [eqVL_ok _ _ h.1, eqVM_ok _ _ h.2]
end
/-- The calls of the examples, one by one. -/
def kT : List (Nat × List V × V) :=
  [(49, [], .agg [.sl (some 0) 2 [[I 0, I 0], [I 10, I 12], [I (-4), I 0]], .sl (some 1) 1 [[I 0], [I 3], [I 0], [I (-3)]], I 5, I 8]),
   (19, [two6, S 2 [], I 5], .tup [.agg [I 9, I 12], I 0]),
   (19, [two6, S 2 [[I 4, I (-5)]], I 4], .tup [.agg [I 5, I 7], I 0]),
   (30, [two6, S 2 [], S 1 [[I 0], [I 4], [I 8], [I 4]]], .tup [.sl (some 2000000) 2 [[I 10, I 12], [I (-16), I (-10)], [I 15, I 24]], I 0]),
   (34, [two6, S 2 [], I 0, I 4], .tup [.agg [I (-1), I 12, I 1, I 3, I 0, I 4], I 0]),
   (35, [two6, I 6], .tup [.sl (some 2000000) 2 [[I 4, I (-6)], [I 7, I 0]], I 0]),
   (38, [S 1 [[I 0], [I 6], [I 4], [I 8], [I 4]], I 2], .tup [.sl (some 2000000) 1 [[I 0], [I 4], [I 4]], .sl (some 1) 1 [[I 0], [I 4]], I 0]),
   (40, [two6, S 4 [[I 100, I 101, I 107, I 108]]], .tup [.agg [I 6, I 8], I 0]),
   (37, [two6, I 2], .tup [I 5, I 0]),
   (48, [I 9, I 12], .agg [I 9, I 12]), (48, [I 5, I 7], .agg [I 5, I 7]), (48, [I (-16), I (-10)], .agg [I (-16), I (-10)]), (48, [I 15, I 24], .agg [I 15, I 24]),
   (48, [I 100, I 101], .agg [I 100, I 101]), (48, [I 107, I 108], .agg [I 107, I 108]), (48, [I 6, I 8], .agg [I 6, I 8])]
theorem kT_ok : ∀ e ∈ kT, R e.1 e.2.1 = some e.2.2 := by
  unfold kT
  simp only [List.forall_mem_cons, List.not_mem_nil, false_implies, implies_true, and_true]
  exact ⟨kn_two, kn_Error1, kn_Error2, kn_Travel, kn_Worst, kn_Cut, kn_Split, kn_Lash, kn_Least, p48 _ _, p48 _ _, p48 _ _, p48 _ _, p48 _ _, p48 _ _, p48 _ _⟩
def rK (f : Nat) (as1 : List V) : Option V := (kT.find? fun e => e.1 == f && eqVL e.2.1 as1).map (·.2.2)
theorem rK_le : Le rK R := fun f as1 r h => by
  unfold rK at h
  obtain ⟨e, he, rfl⟩ := Option.map_eq_some_iff.1 h
  have h1 := List.find?_some he
  have h2 := List.mem_of_find?_eq_some he
  simp only [Bool.and_eq_true, beq_iff_eq] at h1
  rw [← h1.1, ← eqVL_ok _ _ h1.2]
  exact kT_ok e h2
theorem p15 : R 15 [] = some (B true) :=
  run2_of_body (N := 1) rfl rfl (evBody2_le rK_le (Nat.le_refl 1) (by kernel_rfl))
end Go.Lo

/- The reference of Lash; the law about backlashes on the machine of lists. -/
namespace Go.Lo
open Go.Proofs
set_option linter.unusedSimpArgs false
set_option maxHeartbeats 8000000
set_option maxRecDepth 20000
abbrev sB (s : Scr) (rs : List Rd) (o : Int × Int) (b : Int) : St := { fr := [(1, S 4 (eS4 rs)), (2, .box (eL s)), (4, .box [I 0, I 0]), (8, .box [I o.1, I o.2]), (9, I b)], tk := [] }
theorem loop41_1 {s : Scr} (hs : ScrOk s) {rs : List Rd} (hl : rs.length ≤ 50) (hv : rs.all rdB = true) {n M : Nat} (hn : (n : Int) = s.la.2 - s.la.1 + 1) (hM : rs.length + 1 ≤ M) : iter (evC2 R M b41_1) (n + 1) (sB s rs (1, 0) s.la.1) =
    some (.exit 2, { (sB s rs (outK (rs.foldl narE s.la) s.la.1 n) (s.la.1 + n)) with fr := (sB s rs (outK (rs.foldl narE s.la) s.la.1 n) (s.la.1 + n)).fr ++ [(53, B false)] }) := by
  have hla := hs.la
  have hlo := nar_lo rs s.la
  have h0 : outK (rs.foldl narE s.la) s.la.1 0 = (1, 0) := by unfold outK; rw [if_neg (by omega)]
  have L := loop_all (s := fun k => sB s rs (outK (rs.foldl narE s.la) s.la.1 k) (s.la.1 + k)) (f := evC2 R M b41_1) (n := n) (X := (.exit 2, { (sB s rs (outK (rs.foldl narE s.la) s.la.1 n) (s.la.1 + n)) with fr := (sB s rs (outK (rs.foldl narE s.la) s.la.1 n) (s.la.1 + n)).fr ++ [(53, B false)] }))
    (fun k hk => by
      have hok : rs.all (okR (s.la.1 + k)) = decide ((rs.foldl narE s.la).1 ≤ s.la.1 + k ∧ s.la.1 + k ≤ (rs.foldl narE s.la).2) := by
        rw [Bool.eq_iff_iff, decide_eq_true_eq, nar_ok]
        constructor
        · exact fun h => ⟨by omega, h⟩
        · exact fun h => h.2
      rw [outK_succ hlo.1, ← hok]
      have L2 := loop41_2 s (rs := rs) (by omega) hv (outK (rs.foldl narE s.la) s.la.1 k) (b := s.la.1 + k) (by omega) M
      have L2 := iter_le (fun σ x h => h) hM L2
      have wi := (wrap64 (n := s.la.1 + k + 1) (by omega) (by omega)).trans (show s.la.1 + k + 1 = s.la.1 + ((k + 1 : Nat) : Int) by omega)
      have hle : s.la.1 + (k : Int) ≤ s.la.2 := by omega
      rw [← (show s.la.1 + (k : Int) + 1 = s.la.1 + ((k + 1 : Nat) : Int) by omega)] at wi ⊢
      generalize outK (rs.foldl narE s.la) s.la.1 k = o at *
      generalize rs.all (okR (s.la.1 + k)) = q at *
      generalize s.la.1 + (k : Int) = b at *
      unfold sB outS
      simp only [eL] at *
      generalize hF : evC2 R M b41_2 = F at *
      generalize eS4 rs = re at *
      clear hok hlo hla
      cases q
      · simp (maxSteps := 2000000) (disch := first | omega | (simp; done) | (simp; omega)) [-getElem?_pos, b41_1, hF, L2, wi, hle]
      · by_cases c : o.2 < o.1 <;> simp (maxSteps := 2000000) (disch := first | omega | (simp; done) | (simp; omega)) [-getElem?_pos, b41_1, hF, L2, wi, hle, c]) (by
      have hle : ¬ s.la.1 + (n : Int) ≤ s.la.2 := by omega
      generalize s.la.1 + (n : Int) = b at *
      unfold sB
      simp only [eL]
      simp (maxSteps := 2000000) (disch := first | omega | (simp; done) | (simp; omega)) [-getElem?_pos, b41_1, hle]) (by simp)
  have L : iter (evC2 R M b41_1) (n + 1) (sB s rs (outK (rs.foldl narE s.la) s.la.1 0) (s.la.1 + ((0 : Nat) : Int))) = _ := L
  rw [h0, show s.la.1 + ((0 : Nat) : Int) = s.la.1 by omega] at L
  exact L
theorem p41 {s : Scr} {rs : List Rd} : R 41 [.agg (eL s), S 4 (eS4 rs)] = some (.tup [eS (lshE s rs).1, I (lshE s rs).2]) := by
  have e1 := p22 (s := s)
  unfold lshE
  have hln : (eS4 rs).length = rs.length := by simp
  by_cases c1 : chkS s = 0
  · rw [if_neg (not_not_intro c1)]
    rw [c1] at e1
    have hs := chkS_ok.1 c1
    by_cases c2 : (50 : Int) < rs.length
    · rw [if_pos (by omega)]
      simp only [eL, eS]
      generalize eS4 rs = re at *
      refine run2_body 1 rfl rfl rfl rfl rfl ?_
      simp (maxSteps := 2000000) (disch := first | omega | (simp; done) | (simp; omega)) [-getElem?_pos, l41, e1, c2, hln]
    · rw [if_neg (by omega)]
      have hla := hs.la
      obtain ⟨n, hn⟩ : ∃ n : Nat, (n : Int) = s.la.2 - s.la.1 + 1 := ⟨(s.la.2 - s.la.1 + 1).toNat, by omega⟩
      have L0 := loop41_0 s rs (by omega) (n + rs.length + 1)
      by_cases hv : rs.all rdB = true
      · have K0 := iter_le (fun σ x h => h) (show rs.length + 1 ≤ n + rs.length + 1 by omega) (L0.trans (if_pos hv))
        clear L0
        have L1 := iter_le (fun σ x h => h) (show n + 1 ≤ n + rs.length + 1 by omega) (loop41_1 hs (rs := rs) (by omega) hv hn (show rs.length + 1 ≤ n + rs.length + 1 by omega))
        rw [if_pos hv]
        have hlo := nar_lo rs s.la
        have ho : outK (rs.foldl narE s.la) s.la.1 n = if (rs.foldl narE s.la).2 < (rs.foldl narE s.la).1 then (1, 0) else rs.foldl narE s.la := by
          unfold outK
          by_cases c3 : (rs.foldl narE s.la).2 < (rs.foldl narE s.la).1
          · rw [if_pos c3, if_neg (by omega)]
          · rw [if_neg c3, if_pos (by omega)]
            refine Prod.ext rfl ?_
            simp only
            omega
        rw [ho] at L1
        generalize rs.foldl narE s.la = o at *
        unfold sB at L1
        simp only [eL, eS] at *
        generalize hF0 : evC2 R (n + rs.length + 1) b41_0 = F0 at *
        generalize hF1 : evC2 R (n + rs.length + 1) b41_1 = F1 at *
        generalize eS4 rs = re at *
        clear hlo ho hn hla hs
        refine run2_body (n + rs.length + 1) rfl rfl rfl rfl rfl ?_
        by_cases c3 : o.2 < o.1
        · rw [if_pos c3] at L1 ⊢
          simp (maxSteps := 2000000) (disch := first | omega | (simp; done) | (simp; omega)) [-getElem?_pos, l41, e1, c2, hln, hF0, hF1, K0, L1]
        · rw [if_neg c3] at L1 ⊢
          simp (maxSteps := 2000000) (disch := first | omega | (simp; done) | (simp; omega)) [-getElem?_pos, l41, e1, c2, hln, hF0, hF1, K0, L1, c3]
      · have K0 := iter_le (fun σ x h => h) (show rs.length + 1 ≤ n + rs.length + 1 by omega) (L0.trans (if_neg hv))
        clear L0
        rw [if_neg hv]
        simp only [eL, eS] at *
        generalize hF0 : evC2 R (n + rs.length + 1) b41_0 = F0 at *
        generalize eS4 rs = re at *
        clear hn hla hs
        refine run2_body (n + rs.length + 1) rfl rfl rfl rfl rfl ?_
        simp (maxSteps := 2000000) (disch := first | omega | (simp; done) | (simp; omega)) [-getElem?_pos, l41, e1, c2, hln, hF0, K0]
  · rw [if_pos c1]
    generalize chkS s = c at *
    simp only [eL, eS] at *
    generalize eS4 rs = re at *
    refine run2_body 1 rfl rfl rfl rfl rfl ?_
    simp (maxSteps := 2000000) (disch := first | omega | (simp; done) | (simp; omega)) [-getElem?_pos, l41, e1, c1]
end Go.Lo

/- The law about backlashes on the machine of lists. -/
namespace Go.Lo
open Go.Proofs
set_option linter.unusedSimpArgs false
set_option maxHeartbeats 8000000
set_option maxRecDepth 20000
theorem loop9_0 {s : Scr} {rs : List Rd} {z : Int × Int} {zb : Int} (hl : rs.length ≤ 200) (M : Nat) : iter (evC2 R M b9_0) (rs.length + 1) { fr := [(1, S 4 (eS4 rs)), (2, .box (eL s)), (5, .box [.sl (some 3600) 2 (eS2 s.ts), .sl (some 3601) 1 (eI s.dr), I s.la.1, I s.la.2]), (6, .sl (some 3700) 4 (eS4 rs)), (7, .box [I z.1, I z.2]), (8, I zb), (9, I 0)], tk := [] } =
    some (.exit 0, { fr := [(1, S 4 (eS4 rs)), (2, .box (eL s)), (5, .box [.sl (some 3600) 2 (eS2 s.ts), .sl (some 3601) 1 (eI s.dr), I s.la.1, I s.la.2]), (6, .sl (some 3700) 4 (eS4 rs)), (7, .box [I z.1, I z.2]), (8, I zb), (9, I rs.length), (49, B false)], tk := [] }) := by
  have L := loop_all (s := fun i => { fr := [(1, S 4 (eS4 rs)), (2, .box (eL s)), (5, .box [.sl (some 3600) 2 (eS2 s.ts), .sl (some 3601) 1 (eI s.dr), I s.la.1, I s.la.2]), (6, .sl (some 3700) 4 (eS4 rs)), (7, .box [I z.1, I z.2]), (8, I zb), (9, I i)], tk := [] }) (f := evC2 R M b9_0) (n := rs.length) (X := (.exit 0, { fr := [(1, S 4 (eS4 rs)), (2, .box (eL s)), (5, .box [.sl (some 3600) 2 (eS2 s.ts), .sl (some 3601) 1 (eI s.dr), I s.la.1, I s.la.2]), (6, .sl (some 3700) 4 (eS4 rs)), (7, .box [I z.1, I z.2]), (8, I zb), (9, I rs.length), (49, B false)], tk := [] }))
    (fun i hi => by
      have h1 : rs[i]? = some rs[i] := List.getElem?_eq_getElem hi
      have h1e : (eS4 rs)[i]? = some [I rs[i].1.1, I rs[i].1.2, I rs[i].2.1, I rs[i].2.2] := by rw [List.getElem?_map, h1]; rfl
      have hlt : (i : Int) < rs.length := by omega
      have wi := wrap64 (n := (i : Int) + 1) (by omega) (by omega)
      have hln : (eS4 rs).length = rs.length := by simp
      generalize rs[i] = x at *
      simp only [eL]
      generalize eS4 rs = re at *
      simp (maxSteps := 2000000) (disch := first | omega | (simp; done) | (simp; omega)) [-getElem?_pos, b9_0, h1e, hlt, hln, wi]) (by simp only [eL]; simp (maxSteps := 2000000) (disch := first | omega | (simp; done) | (simp; omega)) [-getElem?_pos, b9_0]) (by simp)
  exact L
theorem p9 (s : Scr) (rs : List Rd) : R 9 [.agg (eL s), S 4 (eS4 rs)] = some (B true) := by
  have hkn := p15
  have e22 := p22 (s := s)
  have hln : (eS4 rs).length = rs.length := by simp
  obtain ⟨q, e14, hq⟩ := p14 s []
  rw [show eS2 [] = [] from rfl] at e14
  cases q with
  | true =>
    simp only [eL] at *
    generalize eS4 rs = re at *
    clear hq
    refine run2_body 1 rfl rfl rfl rfl rfl ?_
    simp (maxSteps := 2000000) (disch := first | omega | (simp; done) | (simp; omega)) [-getElem?_pos, l9, e14, hkn]
  | false =>
    obtain ⟨t1, t2, _⟩ := hq rfl
    by_cases c1 : (60 : Int) < rs.length
    · simp only [eL] at *
      generalize eS4 rs = re at *
      clear hq t1 t2
      refine run2_body 1 rfl rfl rfl rfl rfl ?_
      simp (maxSteps := 2000000) (disch := first | omega | (simp; done) | (simp; omega)) [-getElem?_pos, l9, e14, hkn, hln, c1]
    have e36 := p16 (s := s) (by omega) (by omega)
    have e43 := p40 (s := s) (rs := rs) (by omega) (by omega)
    have e64 := p41 (s := s) (rs := rs)
    have e69 := p20 (s := s) (by omega) (by omega)
    have flt : flatE (eS2 s.ts) = true := P6.flat_pairs _
    have fld : flatE (eI s.dr) = true := by simp [flatE, V.flat]
    have fr : flatE (eS4 rs) = true := by simp [flatE, V.flat]
    by_cases c2 : chkS s = 0
    · have hla := (chkS_ok.1 c2).la
      have w := wrap64 (n := s.la.2 - s.la.1) (by omega) (by omega)
      rw [c2] at e22
      by_cases c3 : 300 < s.la.2 - s.la.1
      · simp only [eL] at *
        generalize eS4 rs = re at *
        clear hq t1 t2 hla e43 e64
        refine run2_body 1 rfl rfl rfl rfl rfl ?_
        simp (maxSteps := 2000000) (disch := first | omega | (simp; done) | (simp; omega)) [-getElem?_pos, l9, e14, e22, hkn, hln, c1, w, c3]
      · have L := loop9_0 (s := s) (rs := rs) (z := (lshE s rs).1) (zb := (lshE s rs).2) (by omega) (rs.length + 1)
        generalize lshE s rs = z at *
        generalize hF : evC2 R (rs.length + 1) b9_0 = F at *
        simp only [eL, eS] at *
        generalize eS4 rs = re at *
        generalize eS2 s.ts = te at *
        generalize eI s.dr = de at *
        clear hq t1 t2 hla c2
        refine run2_body (rs.length + 1) rfl rfl rfl rfl rfl ?_
        simp (maxSteps := 2000000) (disch := first | omega | (simp; done) | (simp; omega)) [-getElem?_pos, l9, e14, c1, e22, e36, e43, e64, e69, hkn, hln, fr, flt, fld, hF, L, w, c3]
    · generalize chkS s = c at *
      have L := loop9_0 (s := s) (rs := rs) (z := (lshE s rs).1) (zb := (lshE s rs).2) (by omega) (rs.length + 1)
      generalize lshE s rs = z at *
      generalize hF : evC2 R (rs.length + 1) b9_0 = F at *
      simp only [eL, eS] at *
      generalize eS4 rs = re at *
      generalize eS2 s.ts = te at *
      generalize eI s.dr = de at *
      clear hq t1 t2 
      refine run2_body (rs.length + 1) rfl rfl rfl rfl rfl ?_
      simp (maxSteps := 2000000) (disch := first | omega | (simp; done) | (simp; omega)) [-getElem?_pos, l9, e14, c1, e22, e36, e43, e64, e69, hkn, hln, fr, flt, fld, hF, L, c2]
end Go.Lo

/- Reads, as arguments. -/
namespace Go.Lo
open Go.Proofs
set_option linter.unusedSimpArgs false
abbrev rdTy : Ty := .st [spTy, spTy]
theorem can_rd {x : List V} (h : HasC rdTy x) : ∃ r : Rd, x = [I r.1.1, I r.1.2, I r.2.1, I r.2.2] := by
  rw [HasC] at h
  obtain ⟨x1, r1, rfl, h1, h⟩ := h.inv
  obtain ⟨x2, r2, rfl, h2, h⟩ := h.inv
  rw [HasCs] at h
  subst h
  obtain ⟨a, b, rfl, _, _⟩ := can_sp h1
  obtain ⟨c, d, rfl, _, _⟩ := can_sp h2
  exact ⟨((a, b), (c, d)), rfl⟩
theorem can_rs {v : V} (h : HasV (.sl rdTy) v) : ∃ l : List Rd, Rel (S 4 (eS4 l)) noT v := by
  simp only [HasV] at h
  obtain ⟨l, hl, _⟩ := can_sl (E := fun x : Rd => [I x.1.1, I x.1.2, I x.2.1, I x.2.2]) (Q := fun _ => True) h fun x hx => by
    obtain ⟨r, rfl⟩ := can_rd hx
    exact ⟨r, RelL.cons (rel_i _) (RelL.cons (rel_i _) (RelL.cons (rel_i _) (RelL.one (rel_i _)))), trivial⟩
  exact ⟨l, hl⟩
end Go.Lo
