/- Texts put together. -/
import Derived.Test.YtlohnophnggpaaaPg
/- slices.Repeat of one integer is what is told of it. -/
namespace Go.Lo.G1
open Go.Lo Go.Proofs
theorem rep_den {Ω : Own} {w : World} {g : Nat} {x : Int} : ∀ {m off n : Nat}, off + m ≤ n → Ω.lim g = n → w.heap[g]? = some (.cells (List.replicate n (.int .i64 x)).toArray 3 (0, 0)) → DenE Ω w (List.replicate m [I x]) 1 g off
  | 0, _, _, _, _, _ => trivial
  | m + 1, off, n, h, hl, hg => by
    have hm : off + m < n := by omega
    rw [List.replicate_succ]
    refine ⟨rfl, rfl, ⟨⟨.int .i64 x, by rw [hl]; omega, ?_, rfl, rfl, rfl⟩, trivial⟩, rep_den (n := n) (by omega) hl hg⟩
    rw [cell_of_row w g off _ 3 (0, 0) hg]
    simp [show off < n by omega]
theorem rep_enters : Enters Try.prog 91 := by
  refine ⟨Try.f91, _, Try.func91, ?_, rfl⟩
  intro h
  have : (Try.f91.name == "runtime.NumGoroutine") = false := by kernel_rfl
  rw [h] at this
  simp at this
theorem rep_callOk {x : Int} {n : Nat} (hn : 1 ≤ n ∧ n ≤ 200) : CallOk Try.prog 91 [.sl none 1 [[I x]], I n] (.sl (some 0) 1 (List.replicate n [I x])) := by
  refine ⟨fun _ Ω w xs hb hd => ?_, fun b pre post h => ?_, fun cs rest h => by cases h⟩
  · obtain ⟨x1, ys, rfl, h1, x2, zs, rfl, h2, rfl⟩ := hd
    rcases h1 with ⟨h, _⟩ | ⟨b, off, cap, rfl, hf, hE⟩
    · cases h
    · obtain ⟨_, _, ⟨⟨xv, _, hc, _, _, hx⟩, _⟩, _⟩ := hE
      have hx : xv = .int .i64 x := hx
      have h2 : x2 = .int .i64 n := h2
      subst hx; subst h2
      have hlt : b < w.heap.size := hb.bnd b (by rcases hf with h | ⟨t, h⟩ <;> rw [h] <;> simp)
      refine (rep_walk x b off (1 + cap) n w hn hlt hc).mono fun e w1 he => ?_
      obtain ⟨g, hg, rfl, hbl, hrow⟩ := he
      have hgl : g < w1.heap.size := by
        rcases Nat.lt_or_ge g w1.heap.size with h | h
        · exact h
        · rw [Array.getElem?_eq_none h] at hrow; cases hrow
      refine ⟨_, { Ω with o := fun c => if c = g then .arr 0 false else Ω.o c, lim := fun c => if c = g then n else Ω.lim c, cur := fun t => if t = 0 then some (g, n, n) else Ω.cur t, tsz := fun t => if t = 0 then 1 else Ω.tsz t }, rfl, hbl, ?_, ?_⟩
      · refine ⟨g, 0, false, by simp, by simp, by simp, fun c k m hc => ?_, rep_den (n := n) (by omega) (by simp) hrow⟩
        simp only [if_true, Option.some.injEq, Prod.mk.injEq] at hc
        obtain ⟨rfl, rfl, rfl⟩ := hc
        simp
      · refine ⟨fun c hc => ?_, fun c hc => ?_, fun k m hk => ?_⟩
        · have : c ≠ g := by omega
          simp [this]
        · by_cases h : c = g
          · rw [h]; exact hgl
          · simp only [if_neg h] at hc
            exact Nat.lt_of_lt_of_le (hb.bnd c hc) hbl.size
        · simp only [V.tks, List.mem_singleton, Prod.mk.injEq, List.length_replicate] at hk
          obtain ⟨rfl, rfl⟩ := hk
          refine ⟨g, m, 3, _, by simp, ⟨false, by simp⟩, hrow, by simp, Nat.le_refl _, by simp, by simp, fun _ c p hc => ?_⟩
          by_cases h : c = g
          · simp only [h, if_true] at hc
            injection hc with h1 h2
            exact h2.symm
          · simp only [if_neg h] at hc
            rcases hb.o c with h | h | h <;> rw [h] at hc <;> cases hc
  · have : V.fn (.y b) [] ∈ [V.sl none 1 [[I x]], I n] := by rw [h]; simp
    simp at this
theorem tab1 : TabOk Try.prog F1 Ct where
  mixed := tabOk.mixed
  code := tabOk.code
  told := by
    intro f g as9 r hf hr
    unfold F1 at hf
    split at hf
    · injection hf with hf
      subst hf
      unfold repG at hr
      split at hr
      · rename_i x n
        split at hr
        · rename_i hn
          injection hr with hr
          subst hr
          obtain ⟨m, rfl⟩ : ∃ m : Nat, n = m := ⟨n.toNat, by omega⟩
          exact ⟨rep_enters, rep_callOk (by omega)⟩
        · cases hr
      · cases hr
    · cases hf
end Go.Lo.G1

/- Lists put together: told. -/
namespace Go.Lo
open Go.Proofs
set_option linter.unusedSimpArgs false
theorem sl_inv {n : Nat} {e : List V} {es : List (List V)} {v : V} (h : Rel (.sl none n (e :: es)) noT v) : ∃ d r, v = .sl none n (d :: r) ∧ RelL e noT d ∧ RelE es r := by
  simp only [Rel] at h
  rcases h with ⟨h, _⟩ | ⟨es', rfl, he⟩
  · cases h
  · simp only [RelE] at he
    obtain ⟨d, r, rfl, h1, h2⟩ := he
    exact ⟨d, r, rfl, h1, h2⟩
/-- Rows of one integer each: one of them, or two. -/
def catI : List V → Option V
  | [.sl none 1 [[.sl none 1 [[.int .i64 a]]]]] => some (.sl (some 2000000) 1 [[.int .i64 a]])
  | [.sl none 1 [[.sl none 1 [[.int .i64 a]]], [.sl none 1 [[.int .i64 b]]]]] => some (.sl (some 2000000) 1 [[.int .i64 a], [.int .i64 b]])
  | _ => none
theorem run1_catI (a : Int) : run G1.F1 Ct 103 [.sl none 1 [[.sl none 1 [[.int .i64 a]]]]] = some (.sl (some 0) 1 [[.int .i64 a]]) := run_of (n := 30) (by kernel_rfl)
theorem run1_catI2 (a b : Int) : run G1.F1 Ct 103 [.sl none 1 [[.sl none 1 [[.int .i64 a]]], [.sl none 1 [[.int .i64 b]]]]] = some (.sl (some 0) 1 [[.int .i64 a], [.int .i64 b]]) := run_of (n := 30) (by kernel_rfl)
theorem int_inv {a : Int} {v : V} (h : Rel (.sl none 1 [[.int .i64 a]]) noT v) : v = .sl none 1 [[.int .i64 a]] := by
  obtain ⟨d, r, rfl, h1, h2⟩ := sl_inv h
  simp only [RelE] at h2
  subst h2
  obtain ⟨v, rfl, h3⟩ := RelL.inv1 h1
  simp only [Rel] at h3
  subst h3; rfl
theorem relE_ints : ∀ xs : List Int, RelE (xs.map fun x => [V.int .i64 x]) (xs.map fun x => [V.int .i64 x])
  | [] => RelE.nil
  | x :: xs => RelE.cons (RelL.one (by simp only [Rel])) (relE_ints xs)
theorem catI_rel {as2 as1 : List V} {r2 : V} (h : catI as2 = some r2) (ha : RelL as2 noT as1) : ∃ r, run G1.F1 Ct 103 as1 = some r ∧ RelR r2 r ∧ ∀ l2, itemsOf (some r2) = some l2 → ∃ l, itemsOf (some r) = some l ∧ RelE l2 l := by
  unfold catI at h
  split at h
  · rename_i a
    injection h with h
    subst h
    obtain ⟨v, rfl, hv⟩ := RelL.inv1 ha
    obtain ⟨d1, r1, rfl, hd1, hr1⟩ := sl_inv hv
    simp only [RelE] at hr1
    subst hr1
    obtain ⟨s1, rfl, hs1⟩ := RelL.inv1 hd1
    have := int_inv hs1
    subst this
    refine ⟨_, run1_catI _, ?_, fun l2 h => by simp [itemsOf] at h⟩
    have hr : ∀ ρ : TkF, ρ 0 = some (1, true) → Rel (.sl (some 2000000) 1 [[.int .i64 a]]) ρ (.sl (some 0) 1 [[.int .i64 a]]) := fun ρ hρ => by
      rw [Rel]; right
      exact ⟨_, rfl, relE_ints [a], true, hρ, fun _ => rfl, fun h => by simp [roX] at h, fun _ => by simp⟩
    exact ⟨⟨fun _ => some (1, true), hr _ rfl⟩, fun ρ h => hr ρ (h 0 _ (by simp [V.tks]))⟩
  · rename_i a b
    injection h with h
    subst h
    obtain ⟨v, rfl, hv⟩ := RelL.inv1 ha
    obtain ⟨d1, r1, rfl, hd1, hr1⟩ := sl_inv hv
    simp only [RelE] at hr1
    obtain ⟨d2, r2, rfl, hd2, rfl⟩ := hr1
    obtain ⟨s1, rfl, hs1⟩ := RelL.inv1 hd1
    obtain ⟨s2, rfl, hs2⟩ := RelL.inv1 hd2
    have := int_inv hs1
    subst this
    have := int_inv hs2
    subst this
    refine ⟨_, run1_catI2 _ _, ?_, fun l2 h => by simp [itemsOf] at h⟩
    have hr : ∀ ρ : TkF, ρ 0 = some (2, true) → Rel (.sl (some 2000000) 1 [[.int .i64 a], [.int .i64 b]]) ρ (.sl (some 0) 1 [[.int .i64 a], [.int .i64 b]]) := fun ρ hρ => by
      rw [Rel]; right
      exact ⟨_, rfl, relE_ints [a, b], true, hρ, fun _ => rfl, fun h => by simp [roX] at h, fun _ => by simp⟩
    exact ⟨⟨fun _ => some (2, true), hr _ rfl⟩, fun ρ h => hr ρ (h 0 _ (by simp [V.tks]))⟩
  · cases h
end Go.Lo

/- The base of the statements of gauges on the plain machine: newRules and Repeat are told. -/
namespace Go.Lo
open Go.Proofs
set_option linter.unusedSimpArgs false
def spL : List (List V) → Option (List (Int × Int))
  | [] => some []
  | [.int .i64 a, .int .i64 b] :: r => (match spL r with | some l => some ((a, b) :: l) | none => none)
  | _ => none
def evL : List (List V) → Option (List (Int × Int × Bool))
  | [] => some []
  | [.int .i64 a, .int .i64 b, .bool g] :: r => (match evL r with | some l => some ((a, b, g) :: l) | none => none)
  | _ => none
abbrev GOkP (n w : Int × Int) (ms : List (Int × Int)) (es : List (Int × Int × Bool)) : Prop := (G1.small n.1 ∧ G1.small n.2) ∧ (G1.small w.1 ∧ G1.small w.2) ∧ ms.length ≤ 1000 ∧ es.length ≤ 1000 ∧ (∀ s ∈ ms, G1.small s.1 ∧ G1.small s.2) ∧ ∀ x ∈ es, G1.evOkE x
/-- What newRules gives back. -/
def nrV (ring : Bool) (n w : Int × Int) (ms : List (Int × Int)) (es : List (Int × Int × Bool)) : V :=
  .gref [B ring, I n.1, I n.2, I w.1, I w.2, S 2 (ms.map fun s => [I s.1, I s.2]), S 3 ((G1.newT ring n w ms es).1.map G1.rl), I (G1.newT ring n w ms es).2]
def nrG : List V → Option V
  | [.agg [.bool ring, .int .i64 n1, .int .i64 n2, .int .i64 w1, .int .i64 w2, .sl none 2 me], .sl none 3 ee] =>
    (match spL me, evL ee with
    | some ms, some es => if GOkP (n1, n2) (w1, w2) ms es then some (nrV ring (n1, n2) (w1, w2) ms es) else none
    | _, _ => none)
  | _ => none
def F2 : Nat → Option (List V → Option V)
  | 32 => some nrG
  | 91 => some G1.repG
  | 103 => some catI
  | _ => none
noncomputable abbrev R : Nat → List V → Option V := run2 F2 C2
theorem spL_eq : ∀ {me : List (List V)} {ms : List (Int × Int)}, spL me = some ms → me = ms.map fun s => [I s.1, I s.2]
  | [], ms, h => by injection h with h; subst h; rfl
  | x :: r, ms, h => by
    unfold spL at h
    split at h
    · rename_i h0; cases h0
    · rename_i a b r' he
      injection he with e1 e2
      subst e1; subst e2
      split at h
      · rename_i l hl
        injection h with h
        subst h
        rw [List.map_cons, ← spL_eq hl]
      · cases h
    · cases h
theorem evL_eq : ∀ {me : List (List V)} {ms : List (Int × Int × Bool)}, evL me = some ms → me = ms.map fun s => [I s.1, I s.2.1, B s.2.2]
  | [], ms, h => by injection h with h; subst h; rfl
  | x :: r, ms, h => by
    unfold evL at h
    split at h
    · rename_i h0; cases h0
    · rename_i a b g r' he
      injection he with e1 e2
      subst e1; subst e2
      split at h
      · rename_i l hl
        injection h with h
        subst h
        rw [List.map_cons, ← evL_eq hl]
      · cases h
    · cases h
theorem relL_flat : ∀ {cs ds : List V}, cs.all V.flat = true → RelL cs noT ds → ds = cs
  | [], _, _, h => by simp only [RelL] at h; exact h
  | c :: cs, _, hf, h => by
    simp only [List.all_cons, Bool.and_eq_true] at hf
    simp only [RelL] at h
    obtain ⟨d, r, rfl, h1, h2⟩ := h
    rw [relL_flat hf.2 h2]
    congr 1
    cases c <;> simp only [V.flat, Bool.false_eq_true, false_and] at hf <;> simp only [Rel] at h1 <;> exact h1
theorem relE_flat : ∀ {cs ds : List (List V)}, (cs.all fun c => c.all V.flat) = true → RelE cs ds → ds = cs
  | [], _, _, h => by simp only [RelE] at h; exact h
  | c :: cs, _, hf, h => by
    simp only [List.all_cons, Bool.and_eq_true] at hf
    simp only [RelE] at h
    obtain ⟨d, r, rfl, h1, h2⟩ := h
    rw [relL_flat (by simpa using hf.1) h1, relE_flat hf.2 h2]
theorem relL_flat2 {tk : TkF} : ∀ {cs : List V}, cs.all V.flat = true → RelL cs tk cs
  | [], _ => RelL.nil
  | c :: cs, h => by
    simp only [List.all_cons, Bool.and_eq_true] at h
    refine RelL.cons ?_ (relL_flat2 h.2)
    cases c <;> simp only [V.flat, Bool.false_eq_true, false_and] at h <;> simp only [Rel]
theorem relE_flat2 : ∀ {cs : List (List V)}, (cs.all fun c => c.all V.flat) = true → RelE cs cs
  | [], _ => RelE.nil
  | c :: cs, h => by
    simp only [List.all_cons, Bool.and_eq_true] at h
    exact RelE.cons (relL_flat2 (by simpa using h.1)) (relE_flat2 h.2)
theorem sl_flat {n : Nat} {es : List (List V)} {v : V} (hf : (es.all fun c => c.all V.flat) = true) (h : Rel (.sl none n es) noT v) : v = .nil ∧ es = [] ∨ v = .sl none n es := by
  simp only [Rel] at h
  rcases h with ⟨h1, h2⟩ | ⟨es', rfl, h⟩
  · exact .inl ⟨h2, h1⟩
  · rw [relE_flat hf h]; exact .inr rfl
theorem nr_rel {as2 as9 : List V} {r2 : V} (h : nrG as2 = some r2) (ha : RelL as2 noT as9) : ∃ r, run G1.F1 Ct 32 as9 = some r ∧ RelR r2 r ∧ ∀ l2, itemsOf (some r2) = some l2 → ∃ l, itemsOf (some r) = some l ∧ RelE l2 l := by
  unfold nrG at h
  split at h
  · rename_i ring n1 n2 w1 w2 me ee
    split at h
    · rename_i ms es hm he
      split at h
      · rename_i hok
        injection h with h
        subst h
        have := spL_eq hm
        subst this
        have := evL_eq he
        subst this
        obtain ⟨v, u, rfl, hv, hu⟩ := RelL.inv2 ha
        simp only [Rel] at hv
        obtain ⟨ds, rfl, hd⟩ := hv
        obtain ⟨d1, r1, rfl, h1, hd⟩ := RelL.inv hd
        obtain ⟨d2, r2, rfl, h2, hd⟩ := RelL.inv hd
        obtain ⟨d3, r3, rfl, h3, hd⟩ := RelL.inv hd
        obtain ⟨d4, r4, rfl, h4, hd⟩ := RelL.inv hd
        obtain ⟨d5, r5, rfl, h5, hd⟩ := RelL.inv hd
        obtain ⟨mv, rfl, h6⟩ := RelL.inv1 hd
        simp only [Rel] at h1 h2 h3 h4 h5
        subst h1; subst h2; subst h3; subst h4; subst h5
        have hfm : ((ms.map fun s => [I s.1, I s.2]).all fun c => c.all V.flat) = true := by simp [List.all_map, V.flat]
        have hfe : ((es.map fun s => [I s.1, I s.2.1, B s.2.2]).all fun c => c.all V.flat) = true := by simp [List.all_map, V.flat]
        have hm2 := sl_flat hfm h6
        have he2 := sl_flat hfe hu
        have hrun := G1.new1 (ring := ring) (n := (n1, n2)) (w := (w1, w2)) (ms := ms) (es := es) (mv := mv) (ev := u) ⟨hok.1, hok.2.1, hok.2.2.1, hok.2.2.2.1, hok.2.2.2.2.1, hok.2.2.2.2.2⟩
          (hm2.imp (fun h => ⟨h.1, List.map_eq_nil_iff.1 h.2⟩) id) (he2.imp (fun h => ⟨h.1, List.map_eq_nil_iff.1 h.2⟩) id)
        refine ⟨_, hrun, ?_, fun l2 h => by simp [nrV, itemsOf] at h⟩
        have hr : ∀ ρ : TkF, Rel (nrV ring (n1, n2) (w1, w2) ms es) ρ (.gref [.bool ring, I n1, I n2, I w1, I w2, mv, .sl none 3 ((G1.newT ring (n1, n2) (w1, w2) ms es).1.map G1.rl), I (G1.newT ring (n1, n2) (w1, w2) ms es).2]) := fun ρ => by
          unfold nrV
          rw [Rel]
          refine ⟨_, rfl, RelL.cons (by simp only [Rel]) (RelL.cons (by simp only [Rel]) (RelL.cons (by simp only [Rel]) (RelL.cons (by simp only [Rel]) (RelL.cons (by simp only [Rel]) (RelL.cons h6 (RelL.cons ?_ (RelL.one (by simp only [Rel]))))))))⟩
          rw [Rel]
          exact .inr ⟨_, rfl, relE_flat2 (by simp [List.all_map, V.flat])⟩
        exact ⟨⟨noT, hr _⟩, fun ρ _ => hr ρ⟩
      · cases h
    · cases h
  · cases h
theorem rep_rel {as2 as9 : List V} {r2 : V} (h : G1.repG as2 = some r2) (ha : RelL as2 noT as9) : ∃ r, run G1.F1 Ct 91 as9 = some r ∧ RelR r2 r ∧ ∀ l2, itemsOf (some r2) = some l2 → ∃ l, itemsOf (some r) = some l ∧ RelE l2 l := by
  have h0 := h
  unfold G1.repG at h
  split at h
  · rename_i x n
    split at h
    · rename_i hn
      injection h with h
      subst h
      obtain ⟨v, u, rfl, hv, hu⟩ := RelL.inv2 ha
      have hv := sl_flat (by rfl) hv
      rcases hv with ⟨_, hv⟩ | rfl
      · cases hv
      · simp only [Rel] at hu
        subst hu
        refine ⟨_, run_of (n := 1) (by unfold evF; exact h0), ?_, fun l2 h => by simp [itemsOf] at h⟩
        have hr : ∀ ρ : TkF, ρ 0 = some (n.toNat, true) → Rel (.sl (some 0) 1 (List.replicate n.toNat [.int .i64 x])) ρ (.sl (some 0) 1 (List.replicate n.toNat [.int .i64 x])) := fun ρ hρ => by
          rw [Rel]; right
          exact ⟨_, rfl, relE_flat2 (by simp [V.flat]), true, by simpa using hρ, fun _ => rfl, fun h => by simp [roX] at h, fun h => by simp [mbT] at h⟩
        exact ⟨⟨fun _ => some (n.toNat, true), hr _ rfl⟩, fun ρ h => hr ρ (h 0 _ (by simp [V.tks]))⟩
    · cases h
  · cases h
theorem tabR : TabR F2 G1.F1 C2 Ct := by
  refine ⟨fun f g2 as2 r2 as1 h1 h2 h3 => ?_, fun f lf h1 h2 => ⟨?_, tabC f lf h2⟩⟩
  · unfold F2 at h1
    split at h1
    · injection h1 with h1
      subst h1
      exact nr_rel h2 h3
    · injection h1 with h1
      subst h1
      exact rep_rel h2 h3
    · injection h1 with h1
      subst h1
      exact catI_rel h2 h3
    · cases h1
  · unfold G1.F1
    split
    · cases h2
    · rfl
end Go.Lo

/- By how much sizes are greater at most: a round of the rules. -/
namespace Go.Lo
open Go.Proofs
set_option linter.unusedSimpArgs false
set_option maxHeartbeats 8000000
set_option maxRecDepth 20000
abbrev rT (T : List (Int × Int × Int)) : List (List V) := T.map G1.rl
abbrev sB (rb : List V) (T : List (Int × Int × Int)) (u : Nat) (l : List Int) (k2 k : Int) (c : Bool) (i : Nat) : St :=
  { fr := [(0, .gref rb), (4, .sl (some u) 1 (eI l)), (6, B c), (22, I k2), (23, I k), (28, S 3 (rT T)), (29, I T.length), (30, I i)], tk := [] }
theorem b_step {rb : List V} {T : List (Int × Int × Int)} {l : List Int} {k2 k : Int} {cb : Bool} {i a b : Nat} {c va vb : Int} (hi : T[i]? = some ((a : Int), (b : Int), c)) (ha : l[a]? = some va) (hb : l[b]? = some vb)
    (hT : T.length ≤ 1000000) (hw : IntKind.i64.wrap (vb + c) = vb + c) :
    evC2 R 1 b62_1 (sB rb T 1600 l k2 k cb i) = some (.normal, if vb < 1099511627776 ∧ vb + c < va then sB rb T 1600 (l.set a (vb + c)) k2 k true (i + 1) else sB rb T 1600 l k2 k cb (i + 1)) := by
  have hlt : i < T.length := (List.getElem?_eq_some_iff.1 hi).1
  have hi1 : (rT T)[i]? = some [I a, I b, I c] := by rw [List.getElem?_map, hi]; rfl
  have hi2 : ((i : Int) < T.length) := by omega
  have ha1 : (eI l)[a]? = some [I va] := by rw [List.getElem?_map, ha]; rfl
  have hb1 : (eI l)[b]? = some [I vb] := by rw [List.getElem?_map, hb]; rfl
  have ha2 : (a : Int) < l.length := by have := (List.getElem?_eq_some_iff.1 ha).1; omega
  have hb2 : (b : Int) < l.length := by have := (List.getElem?_eq_some_iff.1 hb).1; omega
  have hw2 : IntKind.i64.wrap ((i : Int) + 1) = (i : Int) + 1 := by simp [IntKind.wrap, IntKind.bits, IntKind.signed]; omega
  by_cases h1 : vb < 1099511627776
  · by_cases h2 : vb + c < va
    · simp (maxSteps := 2000000) (disch := first | omega | (simp; done) | (simp; omega)) [-getElem?_pos, b62_1, hi, ha, hb, hi2, ha2, hb2, hw, hw2, h1, h2]
    · simp (maxSteps := 2000000) (disch := first | omega | (simp; done) | (simp; omega)) [-getElem?_pos, b62_1, hi, ha, hb, hi2, ha2, hb2, hw, hw2, h1, h2]
  · simp (maxSteps := 2000000) (disch := first | omega | (simp; done) | (simp; omega)) [-getElem?_pos, b62_1, hi, ha, hb, hi2, ha2, hb2, hw, hw2, h1]
end Go.Lo

/- By how much sizes are greater at most. -/
namespace Go.Lo
open Go.Proofs
set_option linter.unusedSimpArgs false
set_option maxHeartbeats 8000000
set_option maxRecDepth 20000
abbrev Rul := List (Int × Int × Int)
/-- A rule is tried. -/
def relaxE (s : List Int × Bool) (x : Int × Int × Int) : List Int × Bool :=
  if s.1.getD x.2.1.toNat 0 < 1099511627776 ∧ s.1.getD x.2.1.toNat 0 + x.2.2 < s.1.getD x.1.toNat 0 then (s.1.set x.1.toNat (s.1.getD x.2.1.toNat 0 + x.2.2), true) else s
def rndE (T : Rul) (l : List Int) : List Int × Bool := T.foldl relaxE (l, false)
/-- So many rounds at most. -/
def mostE (T : Rul) : Nat → List Int → List Int × Bool
  | 0, l => (l, false)
  | k + 1, l => if (rndE T l).2 = true then mostE T k (rndE T l).1 else ((rndE T l).1, true)
/-- Rules of so many sizes, with numbers not above M. -/
def TOk (n : Nat) (M : Int) (T : Rul) : Prop := ∀ x ∈ T, (0 ≤ x.1 ∧ x.1 < n) ∧ (0 ≤ x.2.1 ∧ x.2.1 < n) ∧ -M ≤ x.2.2 ∧ x.2.2 ≤ M
def BdE (M : Int) (j : Nat) (l : List Int) : Prop := ∀ v ∈ l, -(j * M) ≤ v ∧ v ≤ 1099511627776
theorem getD_mem {l : List Int} {i : Nat} (h : i < l.length) : l[i]? = some (l.getD i 0) := by
  rw [List.getD_eq_getElem?_getD, List.getElem?_eq_getElem h]; rfl
theorem bd_get {M : Int} {j : Nat} {l : List Int} (h : BdE M j l) {i : Nat} (hi : i < l.length) : -(j * M) ≤ l.getD i 0 ∧ l.getD i 0 ≤ 1099511627776 :=
  h _ (List.mem_of_getElem? (getD_mem hi))
theorem bd_mono {M : Int} (hM : 0 ≤ M) {j k : Nat} (hjk : j ≤ k) {l : List Int} (h : BdE M j l) : BdE M k l := fun v hv => by
  have h1 := h v hv
  have h2 : (j : Int) * M ≤ k * M := Int.mul_le_mul_of_nonneg_right (by omega) hM
  omega
theorem relax_bd {M : Int} (hM : 0 ≤ M) {n j : Nat} {T : Rul} (hT : TOk n M T) {s : List Int × Bool} (hl : s.1.length = n) (hb : BdE M j s.1) {x : Int × Int × Int} (hx : x ∈ T) : (relaxE s x).1.length = n ∧ BdE M (j + 1) (relaxE s x).1 := by
  obtain ⟨⟨h1, h2⟩, ⟨h3, h4⟩, h5, h6⟩ := hT x hx
  unfold relaxE
  split
  · rename_i hc
    refine ⟨by simp [hl], fun v hv => ?_⟩
    rcases List.mem_or_eq_of_mem_set hv with hv | rfl
    · exact bd_mono hM (Nat.le_succ j) hb v hv
    · have k1 := bd_get hb (i := x.2.1.toNat) (by omega)
      have k2 := bd_get hb (i := x.1.toNat) (by omega)
      have k3 : ((j + 1 : Nat) : Int) * M = j * M + M := by rw [Int.natCast_add, Int.add_mul]; simp
      omega
  · exact ⟨hl, bd_mono hM (Nat.le_succ j) hb⟩
theorem fold_relax {M : Int} (hM : 0 ≤ M) {n : Nat} {T : Rul} (hT : TOk n M T) : ∀ (Q : Rul) (s : List Int × Bool) (j : Nat), (∀ x ∈ Q, x ∈ T) → s.1.length = n → BdE M j s.1 → (Q.foldl relaxE s).1.length = n ∧ BdE M (j + Q.length) (Q.foldl relaxE s).1
  | [], s, j, _, hl, hb => ⟨hl, hb⟩
  | x :: Q, s, j, hq, hl, hb => by
    have h1 := relax_bd hM hT hl hb (hq x List.mem_cons_self)
    have h2 := fold_relax hM hT Q (relaxE s x) (j + 1) (fun y hy => hq y (List.mem_cons_of_mem _ hy)) h1.1 h1.2
    rw [List.foldl_cons, List.length_cons, show j + (Q.length + 1) = j + 1 + Q.length by omega]
    exact h2
section
variable {rb : List V} {T : Rul} {n : Nat} {M : Int}
theorem b_step2 {l : List Int} {k2 k : Int} {cb : Bool} {i j : Nat} {x : Int × Int × Int} (hM : 0 ≤ M) (hT : TOk n M T) (hl : l.length = n) (hb : BdE M j l) (hi : T[i]? = some x) (hTl : T.length ≤ 1000000) (hj : (j : Int) * M + M ≤ 4000000000000000000) :
    evC2 R 1 b62_1 (sB rb T 1600 l k2 k cb i) = some (.normal, sB rb T 1600 (relaxE (l, cb) x).1 k2 k (relaxE (l, cb) x).2 (i + 1)) := by
  obtain ⟨⟨h1, h2⟩, ⟨h3, h4⟩, h5, h6⟩ := hT x (List.mem_of_getElem? hi)
  obtain ⟨xa, xb, c⟩ := x
  simp only at h1 h2 h3 h4 h5 h6
  have hb2 := bd_get hb (i := xb.toNat) (by omega)
  have hjM : 0 ≤ (j : Int) * M := Int.mul_nonneg (by omega) hM
  have := b_step (rb := rb) (T := T) (l := l) (k2 := k2) (k := k) (cb := cb) (i := i) (a := xa.toNat) (b := xb.toNat) (c := c) (by rw [hi, Int.toNat_of_nonneg h1, Int.toNat_of_nonneg h3]) (getD_mem (by omega)) (getD_mem (by omega)) hTl (G1.wr1 (by omega))
  rw [this]
  unfold relaxE
  simp only
  split <;> rfl
theorem b_stop {l : List Int} {k2 k : Int} {cb : Bool} : evC2 R 1 b62_1 (sB rb T 1600 l k2 k cb T.length) = some (.exit 2, { fr := [(0, .gref rb), (4, .sl (some 1600) 1 (eI l)), (6, B cb), (22, I k2), (23, I k), (28, S 3 (rT T)), (29, I T.length), (30, I T.length), (31, B false)], tk := [] }) := by
  simp (maxSteps := 2000000) (disch := first | omega | (simp; done) | (simp; omega)) [-getElem?_pos, b62_1]
theorem round_loop {l : List Int} {k2 k : Int} {j N : Nat} (hM : 0 ≤ M) (hT : TOk n M T) (hl : l.length = n) (hb : BdE M j l) (hTl : T.length ≤ 1000000) (hj : ((j + T.length : Nat) : Int) * M ≤ 4000000000000000000) (hN : T.length + 1 ≤ N) :
    iter (evC2 R N b62_1) N (sB rb T 1600 l k2 k false 0) = some (.exit 2, { fr := [(0, .gref rb), (4, .sl (some 1600) 1 (eI (rndE T l).1)), (6, B (rndE T l).2), (22, I k2), (23, I k), (28, S 3 (rT T)), (29, I T.length), (30, I T.length), (31, B false)], tk := [] }) := by
  have h := loop_all (f := evC2 R N b62_1) (s := fun i => sB rb T 1600 ((T.take i).foldl relaxE (l, false)).1 k2 k ((T.take i).foldl relaxE (l, false)).2 i) (n := T.length) (X := (.exit 2, { fr := [(0, .gref rb), (4, .sl (some 1600) 1 (eI (rndE T l).1)), (6, B (rndE T l).2), (22, I k2), (23, I k), (28, S 3 (rT T)), (29, I T.length), (30, I T.length), (31, B false)], tk := [] }))
    (fun i hi => by
      have h1 : T[i]? = some T[i] := List.getElem?_eq_getElem hi
      generalize T[i] = x at h1
      have hf := fold_relax hM hT (T.take i) (l, false) j (fun y hy => List.mem_of_mem_take hy) hl hb
      have hlt : (T.take i).length = i := by rw [List.length_take]; omega
      rw [hlt] at hf
      have hj2 : ((j + i : Nat) : Int) * M + M ≤ 4000000000000000000 := by
        have h2 : ((j + i + 1 : Nat) : Int) * M ≤ ((j + T.length : Nat) : Int) * M := Int.mul_le_mul_of_nonneg_right (by omega) hM
        have h3 : ((j + i + 1 : Nat) : Int) * M = ((j + i : Nat) : Int) * M + M := by rw [Int.natCast_add (j + i) 1, Int.add_mul]; simp
        omega
      have := b_step2 (rb := rb) (k2 := k2) (k := k) (cb := ((T.take i).foldl relaxE (l, false)).2) hM hT hf.1 hf.2 h1 hTl hj2
      rw [G1.take_succ_of h1, List.foldl_append]
      exact this)
    (by rw [List.take_length]; exact b_stop) (by simp)
  exact iter_le (fun _ _ h => h) hN h
end
end Go.Lo

/- By how much sizes are greater at most: most. -/
namespace Go.Lo
open Go.Proofs
set_option linter.unusedSimpArgs false
set_option maxHeartbeats 8000000
set_option maxRecDepth 20000
abbrev rvG (r : Bool) (a b c d : Int) (me : List (List V)) (T : Rul) (now : Int) : List V := [B r, I a, I b, I c, I d, S 2 me, S 3 (rT T), I now]
abbrev sO (rb : List V) (l : List Int) (k2 k : Int) (r : List (Nat × V)) : St := { fr := [(0, .gref rb), (4, .sl (some 1600) 1 (eI l)), (22, I k2), (23, I k)] ++ r, tk := [] }
section
variable {r : Bool} {a b c d now : Int} {me : List (List V)} {T : Rul} {n : Nat} {M : Int}
theorem o_step {l : List Int} {k2 k : Int} {j N : Nat} (hM : 0 ≤ M) (hT : TOk n M T) (hl : l.length = n) (hb : BdE M j l) (hTl : T.length ≤ 1000000) (hj : ((j + T.length : Nat) : Int) * M ≤ 4000000000000000000) (hN : T.length + 1 ≤ N) (hk : k < k2) (hk2 : 0 ≤ k ∧ k2 ≤ 1000000) :
    evC2 R N b62_0 (sO (rvG r a b c d me T now) l k2 k []) = some (if (rndE T l).2 = true then (.normal, sO (rvG r a b c d me T now) (rndE T l).1 k2 (k + 1) []) else (.ret, { fr := [(4, .sl (some 1600) 1 (eI (rndE T l).1)), (5, B true)], tk := [] })) := by
  have L : iter (evC2 R N b62_1) N { fr := [(0, .gref (rvG r a b c d me T now)), (4, .sl (some 1600) 1 (eI l)), (6, B false), (22, I k2), (23, I k), (28, S 3 (rT T)), (29, I T.length), (30, I 0)], tk := [] } = _ := round_loop (rb := rvG r a b c d me T now) (k2 := k2) (k := k) hM hT hl hb hTl hj hN
  have hw : IntKind.i64.wrap (k + 1) = k + 1 := G1.wr1 (by omega)
  generalize rndE T l = q at *
  generalize hF : evC2 R N b62_1 = F at *
  cases hq : q.2 <;> rw [hq] at L <;> simp (maxSteps := 2000000) (disch := first | omega | (simp; done) | (simp; omega)) [-getElem?_pos, b62_0, hF, L, hk, hw]
theorem o_stop {l : List Int} {k2 : Int} {N : Nat} :
    evC2 R N b62_0 (sO (rvG r a b c d me T now) l k2 k2 []) = some (.exit 0, sO (rvG r a b c d me T now) l k2 k2 [(24, B false)]) := by
  generalize hF : evC2 R N b62_1 = F at *
  simp (maxSteps := 2000000) (disch := first | omega | (simp; done) | (simp; omega)) [-getElem?_pos, b62_0, hF]
theorem o_loop {k2 : Int} {N : Nat} (hM : 0 ≤ M) (hT : TOk n M T) (hTl : T.length ≤ 1000000) (hN : T.length + 1 ≤ N) (hk2 : k2 ≤ 1000000) :
    ∀ (m j : Nat) (l : List Int) (k : Int) (F : Nat), k + m = k2 → 0 ≤ k → l.length = n → BdE M j l → ((j + m * T.length : Nat) : Int) * M ≤ 4000000000000000000 → m + 1 ≤ F →
      iter (evC2 R N b62_0) F (sO (rvG r a b c d me T now) l k2 k []) = some (if (mostE T m l).2 = true then (.ret, { fr := [(4, .sl (some 1600) 1 (eI (mostE T m l).1)), (5, B true)], tk := [] }) else (.exit 0, sO (rvG r a b c d me T now) (mostE T m l).1 k2 k2 [(24, B false)]))
  | 0, j, l, k, F, hk, _, _, _, _, hF => by
    obtain ⟨F, rfl⟩ : ∃ F', F = F' + 1 := ⟨F - 1, by omega⟩
    have : k = k2 := by omega
    subst this
    rw [iter_succ, o_stop]
    rfl
  | m + 1, j, l, k, F, hk, hk0, hl, hb, hj, hF => by
    obtain ⟨F, rfl⟩ : ∃ F', F = F' + 1 := ⟨F - 1, by omega⟩
    have hj1 : ((j + T.length : Nat) : Int) * M ≤ 4000000000000000000 := by
      have h2 : ((j + T.length : Nat) : Int) * M ≤ ((j + (m + 1) * T.length : Nat) : Int) * M := Int.mul_le_mul_of_nonneg_right (by rw [Nat.add_mul]; omega) hM
      omega
    have hf := fold_relax hM hT T (l, false) j (fun y hy => hy) hl hb
    rw [iter_succ, o_step hM hT hl hb hTl hj1 hN (by omega) ⟨hk0, hk2⟩]
    cases hq : (rndE T l).2
    · simp [mostE, hq]
    · simp only [if_true, mostE, hq]
      exact o_loop hM hT hTl hN hk2 m (j + T.length) _ (k + 1) F (by omega) (by omega) hf.1 hf.2 (by rw [show j + T.length + m * T.length = j + (m + 1) * T.length by rw [Nat.add_mul]; omega]; exact hj) (by omega)
/-- The numbers at the start. -/
def l0E (n : Nat) : List Int := (List.replicate n 1099511627776).set 0 0
theorem p62 (hM : 0 ≤ M) (hT : TOk n M T) (hn : now + 1 = n) (hn2 : 1 ≤ n ∧ n ≤ 200) (hTl : T.length ≤ 1000000) (hj : (((n + 1) * T.length : Nat) : Int) * M ≤ 4000000000000000000) :
    R 62 [.gref (rvG r a b c d me T now), I 0] = some (if (mostE T (n + 1) (l0E n)).2 = true then .tup [.sl (some 0) 1 (eI (mostE T (n + 1) (l0E n)).1), B true] else .tup [S 1 [], B false]) := by
  have hb0 : BdE M 0 (l0E n) := fun v hv => by
    rcases List.mem_or_eq_of_mem_set hv with hv | rfl
    · have := (List.mem_replicate.1 hv).2; subst this; simp
    · simp
  have hl0 : (l0E n).length = n := by simp [l0E]
  have L : iter (evC2 R (T.length + n + 5) b62_0) (T.length + n + 5) { fr := [(0, .gref (rvG r a b c d me T now)), (4, .sl (some 1600) 1 (eI (l0E n))), (22, I ((n : Int) + 1)), (23, I 0)], tk := [] } = _ :=
    o_loop (r := r) (a := a) (b := b) (c := c) (d := d) (me := me) (now := now) (k2 := (n : Int) + 1) (N := T.length + n + 5) hM hT hTl (by omega) (by omega) (n + 1) 0 (l0E n) 0 (T.length + n + 5) (by omega) (by omega) hl0 hb0 (by simpa using hj) (by omega)
  have e1 : R 91 [S 1 [[I 1099511627776]], I (now + 1)] = some (.sl (some 0) 1 (List.replicate n [I 1099511627776])) := by
    rw [hn]
    refine (run2_told (F := F2) (C := C2) (f := 91) (g := G1.repG) rfl).trans ?_
    show (if 1 ≤ (n : Int) ∧ (n : Int) ≤ 200 then some (V.sl (some 0) 1 (List.replicate (n : Int).toNat [V.int IntKind.i64 1099511627776])) else none) = _
    rw [if_pos (by omega)]
    rfl
  have hr : (List.replicate n (1099511627776 : Int)).map (fun x => [I x]) = List.replicate n [I 1099511627776] := by simp
  have hs : (List.replicate n [I 1099511627776]).set 0 [I 0] = eI (l0E n) := by
    simp [l0E, List.map_set]
  have hw : IntKind.i64.wrap (now + 1) = now + 1 := G1.wr1 (by omega)
  have hw2 : IntKind.i64.wrap ((n : Int) + 1) = (n : Int) + 1 := G1.wr1 (by omega)
  have hlen : (List.replicate n [I 1099511627776]).length = n := by simp
  have hz : (List.replicate n [I 1099511627776])[0]? = some [I 1099511627776] := by rw [List.getElem?_replicate, if_pos (by omega)]
  have h0 : (0 : Int) < n := by omega
  refine run2_body (T.length + n + 5) rfl rfl rfl rfl rfl ?_
  generalize hq : mostE T (n + 1) (l0E n) = q at *
  generalize hF : evC2 R (T.length + n + 5) b62_0 = F at *
  generalize List.replicate n [I 1099511627776] = z at *
  cases h2 : q.2 <;> rw [h2] at L <;> simp (maxSteps := 2000000) (disch := first | omega | (simp; done) | (simp; omega)) [-getElem?_pos, l62, hF, L, e1, hw, hw2, hs, hlen, hz, hl0, h0]
end
end Go.Lo

/- The rules of the sizes with the opposite sign; what a size can be. -/
namespace Go.Lo
open Go.Proofs
set_option linter.unusedSimpArgs false
set_option maxHeartbeats 8000000
set_option maxRecDepth 20000
theorem slT2_int {ts : List Nat} {k : IntKind} {n : Int} : slT2 ts (.int k n) = some false := rfl
theorem slT2_bool {ts : List Nat} {b : Bool} : slT2 ts (.bool b) = some false := rfl
theorem slT2_none {ts : List Nat} {n : Nat} {es : List (List V)} : slT2 ts (.sl none n es) = some false := rfl
def oppE (T : Rul) : Rul := T.map fun x => (x.2.1, x.1, x.2.2)
abbrev sQ (now : Int) (T L : Rul) (i : Nat) : St := { fr := [(3, .ref 11 0), (11, .box [B false, I 0, I 0, I 0, I 0, S 2 [], .sl (some 2003400) 3 (rT L), I now]), (15, S 3 (rT T)), (16, I T.length), (17, I i)], tk := [] }
theorem q_step {now : Int} {T L : Rul} {i : Nat} {x : Int × Int × Int} (hi : T[i]? = some x) (hT : T.length ≤ 1000000) (hL : L.length ≤ 1000000) :
    evC2 R 1 b63_0 (sQ now T L i) = some (.normal, sQ now T (L ++ [(x.2.1, x.1, x.2.2)]) (i + 1)) := by
  have hlt : i < T.length := (List.getElem?_eq_some_iff.1 hi).1
  have hi2 : ((i : Int) < T.length) := by omega
  have hw2 : IntKind.i64.wrap ((i : Int) + 1) = (i : Int) + 1 := G1.wr1 (by omega)
  obtain ⟨p, q, c⟩ := x
  cases L with
  | nil => simp (maxSteps := 2000000) (disch := first | omega | (simp; done) | (simp; omega)) [-getElem?_pos, b63_0, slT2_int, slT2_bool, slT2_none, hi, hi2, hw2]
  | cons y L => 
    simp only [List.length_cons] at hL
    simp (maxSteps := 2000000) (disch := first | omega | (simp; done) | (simp; omega)) [-getElem?_pos, b63_0, slT2_int, slT2_bool, slT2_none, hi, hi2, hw2, hL, x_appo (hne := List.cons_ne_nil (G1.rl y) (L.map G1.rl))]
theorem q_stop {now : Int} {T L : Rul} : evC2 R 1 b63_0 (sQ now T L T.length) = some (.exit 0, { fr := [(3, .ref 11 0), (11, .box [B false, I 0, I 0, I 0, I 0, S 2 [], .sl (some 2003400) 3 (rT L), I now]), (15, S 3 (rT T)), (16, I T.length), (17, I T.length), (18, B false)], tk := [] }) := by
  simp (maxSteps := 2000000) (disch := first | omega | (simp; done) | (simp; omega)) [-getElem?_pos, b63_0]
theorem p63 {r : Bool} {a b c d now : Int} {me : List (List V)} {T : Rul} (hT : T.length ≤ 1000000) (hne : T ≠ []) :
    R 63 [.gref (rvG r a b c d me T now)] = some (.gref (rvG false 0 0 0 0 [] (oppE T) now)) := by
  have L : iter (evC2 R (T.length + 1) b63_0) (T.length + 1) { fr := [(3, .ref 11 0), (11, .box [B false, I 0, I 0, I 0, I 0, S 2 [], .sl (some 2003400) 3 [], I now]), (15, S 3 (rT T)), (16, I T.length), (17, I 0)], tk := [] } = some (.exit 0, { fr := [(3, .ref 11 0), (11, .box [B false, I 0, I 0, I 0, I 0, S 2 [], .sl (some 2003400) 3 (rT (oppE T)), I now]), (15, S 3 (rT T)), (16, I T.length), (17, I T.length), (18, B false)], tk := [] }) :=
    loop_all (f := evC2 R (T.length + 1) b63_0) (s := fun i => sQ now T (oppE (T.take i)) i) (n := T.length) (fun i hi => by
      have h1 : T[i]? = some T[i] := List.getElem?_eq_getElem hi
      generalize T[i] = x at h1
      have := q_step (now := now) (L := oppE (T.take i)) h1 hT (by simp only [oppE, List.length_map, List.length_take]; omega)
      have e : oppE (T.take (i + 1)) = oppE (T.take i) ++ [(x.2.1, x.1, x.2.2)] := by
        rw [G1.take_succ_of h1]; simp only [oppE, List.map_append, List.map_cons, List.map_nil]
      rw [e]
      exact this) (by rw [List.take_length]; exact q_stop) (by simp)
  have hne2 : rT (oppE T) ≠ [] := by simp [oppE, hne]
  generalize hF : evC2 R (T.length + 1) b63_0 = F at *
  refine run2_body (T.length + 1) rfl rfl rfl rfl rfl ?_
  generalize hO : rT (oppE T) = O at *
  cases O with
  | nil => exact absurd rfl hne2
  | cons o O => simp (maxSteps := 2000000) (disch := first | omega | (simp; done) | (simp; omega)) [-getElem?_pos, l63, hF, L, hO]
theorem p60 {ring : Bool} {a b c d now x y : Int} {me : List (List V)} {T : Rul} (h : (-9223372036854775807 ≤ x ∧ x ≤ 9223372036854775807) ∧ -9223372036854775807 ≤ y ∧ y ≤ 9223372036854775807) :
    R 60 [.gref (rvG ring a b c d me T now), .agg [I x, I y]] = some (.agg [I (G1.tn ring (x, y)).1, I (G1.tn ring (x, y)).2]) := by
  have h1 : IntKind.i64.wrap (-x) = -x := G1.wr1 (by omega)
  have h2 : IntKind.i64.wrap (-y) = -y := G1.wr1 (by omega)
  refine run2_body 1 rfl rfl rfl rfl rfl ?_
  cases ring <;> simp (maxSteps := 2000000) (disch := first | omega | (simp; done) | (simp; omega)) [-getElem?_pos, l60, h1, h2, G1.tn]
theorem most_bd {M : Int} (hM : 0 ≤ M) {n : Nat} {T : Rul} (hT : TOk n M T) : ∀ (m j : Nat) (l : List Int), l.length = n → BdE M j l → (mostE T m l).1.length = n ∧ BdE M (j + m * T.length) (mostE T m l).1
  | 0, j, l, hl, hb => ⟨hl, by simpa [mostE] using hb⟩
  | m + 1, j, l, hl, hb => by
    have hf := fold_relax hM hT T (l, false) j (fun y hy => hy) hl hb
    have e : j + (m + 1) * T.length = j + T.length + m * T.length := by rw [Nat.add_mul]; omega
    rw [e]
    unfold mostE
    split
    · exact most_bd hM hT m (j + T.length) _ hf.1 hf.2
    · exact ⟨hf.1, bd_mono hM (by omega) hf.2⟩
theorem opp_ok {M : Int} {n : Nat} {T : Rul} (hT : TOk n M T) : TOk n M (oppE T) := fun x hx => by
  obtain ⟨y, hy, rfl⟩ := List.mem_map.1 hx
  obtain ⟨h1, h2, h3⟩ := hT y hy
  exact ⟨h2, h1, h3⟩
theorem l0_ok {M : Int} {n : Nat} : (l0E n).length = n ∧ BdE M 0 (l0E n) := ⟨by simp [l0E], fun v hv => by
  rcases List.mem_or_eq_of_mem_set hv with hv | rfl
  · have := (List.mem_replicate.1 hv).2; subst this; simp
  · simp⟩
/-- What a size can be, or the error. -/
def spanE (ring : Bool) (T : Rul) (n k : Nat) : (Int × Int) × Int :=
  if (mostE T (n + 1) (l0E n)).2 = true ∧ (mostE (oppE T) (n + 1) (l0E n)).2 = true then (G1.tn ring (-((mostE (oppE T) (n + 1) (l0E n)).1.getD k 0), (mostE T (n + 1) (l0E n)).1.getD k 0), 0) else ((0, 0), 9)
theorem p33 {ring : Bool} {a b c d now : Int} {me : List (List V)} {T : Rul} {n k : Nat} {M : Int} (hM : 0 ≤ M) (hT : TOk n M T) (hn : now + 1 = n) (hn2 : 1 ≤ n ∧ n ≤ 200) (hTl : T.length ≤ 1000000) (hne : T ≠ []) (hj : (((n + 1) * T.length : Nat) : Int) * M ≤ 4000000000000000000) (hk : k < n) :
    R 33 [.gref (rvG ring a b c d me T now), I k] = some (.tup [.agg [I (spanE ring T n k).1.1, I (spanE ring T n k).1.2], I (spanE ring T n k).2]) := by
  have hol : (oppE T).length = T.length := by simp [oppE]
  have m1 := p62 (r := ring) (a := a) (b := b) (c := c) (d := d) (me := me) hM hT hn hn2 hTl hj
  have m2 := p62 (r := false) (a := 0) (b := 0) (c := 0) (d := 0) (me := []) hM (opp_ok hT) hn hn2 (by rw [hol]; exact hTl) (by rw [hol]; exact hj)
  have o1 := p63 (r := ring) (a := a) (b := b) (c := c) (d := d) (now := now) (me := me) hTl hne
  have b1 := most_bd hM hT (n + 1) 0 (l0E n) (l0_ok (M := M)).1 (l0_ok (M := M)).2
  have b2 := most_bd hM (opp_ok hT) (n + 1) 0 (l0E n) (l0_ok (M := M)).1 (l0_ok (M := M)).2
  rw [hol] at b2
  have hj2 : ((0 + (n + 1) * T.length : Nat) : Int) * M ≤ 4000000000000000000 := by simpa using hj
  unfold spanE
  generalize mostE T (n + 1) (l0E n) = q1 at *
  generalize mostE (oppE T) (n + 1) (l0E n) = q2 at *
  have c1 := bd_get b1.2 (i := k) (by omega)
  have c2 := bd_get b2.2 (i := k) (by omega)
  have g1 := getD_mem (l := q1.1) (i := k) (by omega)
  have g2 := getD_mem (l := q2.1) (i := k) (by omega)
  have t1 := p60 (ring := ring) (a := a) (b := b) (c := c) (d := d) (now := now) (me := me) (T := T) (x := -(q2.1.getD k 0)) (y := q1.1.getD k 0) (by omega)
  have hw : IntKind.i64.wrap (-(q2.1.getD k 0)) = -(q2.1.getD k 0) := G1.wr1 (by omega)
  have hk1 : (k : Int) < q1.1.length := by omega
  have hk2 : (k : Int) < q2.1.length := by omega
  clear c1 c2
  generalize q1.1.getD k 0 = x1 at *
  generalize q2.1.getD k 0 = x2 at *
  refine run2_body 1 rfl rfl rfl rfl rfl ?_
  cases h1 : q1.2 <;> cases h2 : q2.2 <;> rw [h1] at m1 <;> rw [h2] at m2 <;> simp only [if_true, Bool.false_eq_true, if_false] at m1 m2 <;> simp (maxSteps := 2000000) (disch := first | omega | (simp; done) | (simp; omega)) [-getElem?_pos, l33, m1, m2, o1, g1, g2, t1, hw, hk1, hk2]
end Go.Lo

/- Rules and events are checked; the size of a gauge. -/
namespace Go.Lo
open Go.Proofs
set_option linter.unusedSimpArgs false
set_option maxHeartbeats 8000000
set_option maxRecDepth 20000
/-! ### The first of a list for which a function says so -/
theorem p92 {α : Type} {E : α → List V} {W : α → V} {g : Nat} {caps : List V} {pr : α → Bool} (hc : ∀ rd, frzL rd caps = some caps) {xs : List α} (hE : ∀ x ∈ xs, partV (E x) 0 none = some (W x) ∧ (∀ rd, (W x).frz rd = some (W x)) ∧ ∀ s, opV s (some (W x)) = some (W x)) (hp : ∀ x ∈ xs, R g (W x :: caps) = some (B (pr x))) (hl : xs.length < 4611686018427387904) :
    R 92 [S 1 (xs.map E), .fn (.f g) caps] = some (I (match xs.findIdx? pr with | none => -1 | some k => k)) := by
  have L := loop_find (s := fun i => { fr := [(0, S 1 (xs.map E)), (1, .fn (.f g) caps), (7, I xs.length), (8, I i)], tk := [] }) (f := evC2 R (xs.length + 1) b92_0) (n := xs.length) (g := prAt pr xs) (E := fun i => (.ret, { fr := [(4, I i)], tk := [] })) (X := (.exit 0, { fr := [(0, S 1 (xs.map E)), (1, .fn (.f g) caps), (7, I xs.length), (8, I xs.length), (9, B false)], tk := [] }))
    (fun i hi => by
      have h1 : xs[i]? = some xs[i] := List.getElem?_eq_getElem hi
      have hm : xs[i] ∈ xs := List.getElem_mem hi
      have hp' := hp _ hm
      obtain ⟨h2, h3, h4⟩ := hE _ hm
      have hlt : (i : Int) < xs.length := by omega
      clear hp hE
      generalize xs[i] = x at *
      rw [prAt_some h1]
      generalize hw : W x = w at *
      cases hx : pr x <;> rw [hx] at hp' <;> simp (maxSteps := 2000000) (disch := first | omega | (simp; done) | (simp; omega)) [-getElem?_pos, -partV, b92_0, h1, h2, h3, h4, hc, hp', hlt, wrap64]) (fun _ => by simp) (by simp [b92_0]) (by simp) xs.length 0 (by omega)
  rw [find_idx] at L
  refine run2_body (xs.length + 1) rfl rfl rfl rfl rfl ?_
  cases hf : xs.findIdx? pr with
  | none =>
    rw [hf] at L
    simp at L
    simp [l92, L]
  | some k =>
    rw [hf] at L
    simp at L
    simp [l92, L]
theorem p67 {α : Type} {E : α → List V} {W : α → V} {g : Nat} {caps : List V} {pr : α → Bool} (hc : ∀ rd, frzL rd caps = some caps) {xs : List α} (hE : ∀ x ∈ xs, partV (E x) 0 none = some (W x) ∧ (∀ rd, (W x).frz rd = some (W x)) ∧ ∀ s, opV s (some (W x)) = some (W x)) (hp : ∀ x ∈ xs, R g (W x :: caps) = some (B (pr x))) (hl : xs.length < 4611686018427387904) :
    R 67 [S 1 (xs.map E), .fn (.f g) caps] = some (B (xs.any pr)) := by
  have h := p92 hc hE hp hl
  refine run2_body 1 rfl rfl rfl rfl rfl ?_
  cases hf : xs.findIdx? pr with
  | none =>
    rw [hf] at h
    have : xs.any pr = false := by
      rw [List.findIdx?_eq_none_iff] at hf
      rw [List.any_eq_false]; simpa using hf
    simp [l67, h, hc, this]
  | some k =>
    rw [hf] at h
    have : xs.any pr = true := by
      have := List.findIdx?_isSome (xs := xs) (p := pr)
      rw [hf] at this
      exact this.symm
    simp (maxSteps := 2000000) (disch := first | omega | (simp; done) | (simp; omega)) [l67, h, hc, this]

theorem p85 (x lo hi : Int) : R 85 [I x, .cref [I lo], .cref [I hi]] = some (B (decide (x < lo) || decide (x > hi))) := by
  refine run2_body 1 rfl rfl rfl rfl rfl ?_
  by_cases h : x < lo <;> simp [l85, h]
theorem p50 (lo hi : Int) {xs : List Int} (hl : xs.length < 4611686018427387904) : R 50 [I lo, I hi, S 1 (eI xs)] = some (B (xs.all fun x => decide (lo ≤ x ∧ x ≤ hi))) := by
  have h := p67 (g := 85) (caps := [.cref [I lo], .cref [I hi]]) (pr := fun x => decide (x < lo) || decide (x > hi)) (E := fun x => [I x]) (W := fun x => I x) (xs := xs) (fun _ => rfl) (fun _ _ => ⟨rfl, fun _ => rfl, fun _ => rfl⟩) (fun x _ => p85 x lo hi) hl
  refine run2_body 1 rfl rfl rfl rfl rfl ?_
  have e : (xs.all fun x => decide (lo ≤ x ∧ x ≤ hi)) = !(xs.any fun x => decide (x < lo) || decide (x > hi)) := by
    rw [List.not_any_eq_all_not]
    congr 1
    funext x
    by_cases h1 : x < lo <;> by_cases h2 : x > hi <;> simp [h1, h2] <;> omega
  rw [e]
  simp [l50, h]

/-! ### The first of a list for which a function says so -/
theorem p105 {α : Type} {E : α → List V} {W : α → V} {g : Nat} {caps : List V} {pr : α → Bool} (hc : ∀ rd, frzL rd caps = some caps) {xs : List α} (hE : ∀ x ∈ xs, partV (E x) 0 (some 2) = some (W x) ∧ (∀ rd, (W x).frz rd = some (W x)) ∧ ∀ s, opV s (some (W x)) = some (W x)) (hp : ∀ x ∈ xs, R g (W x :: caps) = some (B (pr x))) (hl : xs.length < 4611686018427387904) :
    R 105 [S 2 (xs.map E), .fn (.f g) caps] = some (I (match xs.findIdx? pr with | none => -1 | some k => k)) := by
  have L := loop_find (s := fun i => { fr := [(0, S 2 (xs.map E)), (1, .fn (.f g) caps), (7, I xs.length), (8, I i)], tk := [] }) (f := evC2 R (xs.length + 1) b105_0) (n := xs.length) (g := prAt pr xs) (E := fun i => (.ret, { fr := [(4, I i)], tk := [] })) (X := (.exit 0, { fr := [(0, S 2 (xs.map E)), (1, .fn (.f g) caps), (7, I xs.length), (8, I xs.length), (9, B false)], tk := [] }))
    (fun i hi => by
      have h1 : xs[i]? = some xs[i] := List.getElem?_eq_getElem hi
      have hm : xs[i] ∈ xs := List.getElem_mem hi
      have hp' := hp _ hm
      obtain ⟨h2, h3, h4⟩ := hE _ hm
      have hlt : (i : Int) < xs.length := by omega
      clear hp hE
      generalize xs[i] = x at *
      rw [prAt_some h1]
      generalize hw : W x = w at *
      cases hx : pr x <;> rw [hx] at hp' <;> simp (maxSteps := 2000000) (disch := first | omega | (simp; done) | (simp; omega)) [-getElem?_pos, -partV, b105_0, h1, h2, h3, h4, hc, hp', hlt, wrap64]) (fun _ => by simp) (by simp [b105_0]) (by simp) xs.length 0 (by omega)
  rw [find_idx] at L
  refine run2_body (xs.length + 1) rfl rfl rfl rfl rfl ?_
  cases hf : xs.findIdx? pr with
  | none =>
    rw [hf] at L
    simp at L
    simp [l105, L]
  | some k =>
    rw [hf] at L
    simp at L
    simp [l105, L]
theorem p90 {α : Type} {E : α → List V} {W : α → V} {g : Nat} {caps : List V} {pr : α → Bool} (hc : ∀ rd, frzL rd caps = some caps) {xs : List α} (hE : ∀ x ∈ xs, partV (E x) 0 (some 2) = some (W x) ∧ (∀ rd, (W x).frz rd = some (W x)) ∧ ∀ s, opV s (some (W x)) = some (W x)) (hp : ∀ x ∈ xs, R g (W x :: caps) = some (B (pr x))) (hl : xs.length < 4611686018427387904) :
    R 90 [S 2 (xs.map E), .fn (.f g) caps] = some (B (xs.any pr)) := by
  have h := p105 hc hE hp hl
  refine run2_body 1 rfl rfl rfl rfl rfl ?_
  cases hf : xs.findIdx? pr with
  | none =>
    rw [hf] at h
    have : xs.any pr = false := by
      rw [List.findIdx?_eq_none_iff] at hf
      rw [List.any_eq_false]; simpa using hf
    simp [l90, h, hc, this]
  | some k =>
    rw [hf] at h
    have : xs.any pr = true := by
      have := List.findIdx?_isSome (xs := xs) (p := pr)
      rw [hf] at this
      exact this.symm
    simp (maxSteps := 2000000) (disch := first | omega | (simp; done) | (simp; omega)) [l90, h, hc, this]

theorem gW_1 (lo hi x : Int) : R 50 [I lo, I hi, S 1 [[I x]]] = some (B (decide (lo ≤ x ∧ x ≤ hi))) := by
  have := p50 lo hi (xs := [x]) (by simp)
  simpa using this
theorem gW_2 (lo hi x y : Int) : R 50 [I lo, I hi, S 1 [[I x], [I y]]] = some (B (decide ((lo ≤ x ∧ x ≤ hi) ∧ (lo ≤ y ∧ y ≤ hi)))) := by
  have := p50 lo hi (xs := [x, y]) (by simp)
  simpa using this
theorem p57 (p m : Int) (g : Bool) : R 57 [.agg [I p, I m, B g]] = some (I (G0.kindE p m g)) := by
  have h := gW_1 1 100000 p
  refine run2_body 1 rfl rfl rfl rfl rfl ?_
  unfold G0.kindE
  by_cases h3 : p = 0
  · subst h3
    have h0 : ¬ (1 ≤ (0 : Int) ∧ (0 : Int) ≤ 100000) := by omega
    rw [decide_eq_false h0] at h
    by_cases h1 : m = -1 <;> cases g <;> simp [l57, h, h1]
  · by_cases h1 : m = -1 <;> by_cases h2 : 1 ≤ p ∧ p ≤ 100000 <;> cases g <;> simp [l57, h, h1, h2, h3]
abbrev eS (x : Int × Int) : V := .agg [I x.1, I x.2]
abbrev eS2 (l : List (Int × Int)) : List (List V) := l.map fun x => [I x.1, I x.2]
theorem p49 (s : Int × Int) (hi : Int) : R 49 [eS s, I hi] = some (B (decide (0 ≤ s.1 ∧ s.1 ≤ s.2 ∧ s.2 ≤ hi))) := by
  have e1 := gW_2 0 hi s.1 s.2
  refine run2_body 1 rfl rfl rfl rfl rfl ?_
  by_cases hq : (0 ≤ s.1 ∧ s.1 ≤ hi) ∧ (0 ≤ s.2 ∧ s.2 ≤ hi)
  · rw [decide_eq_true hq] at e1
    by_cases h : s.1 ≤ s.2
    · rw [decide_eq_true (show 0 ≤ s.1 ∧ s.1 ≤ s.2 ∧ s.2 ≤ hi by omega)]
      simp (maxSteps := 2000000) (disch := first | omega | (simp; done) | (simp; omega)) [-getElem?_pos, l49, e1, h]
    · rw [decide_eq_false (show ¬ (0 ≤ s.1 ∧ s.1 ≤ s.2 ∧ s.2 ≤ hi) by omega)]
      simp (maxSteps := 2000000) (disch := first | omega | (simp; done) | (simp; omega)) [-getElem?_pos, l49, e1, h]
  · rw [decide_eq_false hq] at e1
    rw [decide_eq_false (show ¬ (0 ≤ s.1 ∧ s.1 ≤ s.2 ∧ s.2 ≤ hi) by omega)]
    simp (maxSteps := 2000000) (disch := first | omega | (simp; done) | (simp; omega)) [-getElem?_pos, l49, e1]
def lenB (s : Int × Int) : Bool := decide (0 ≤ s.1 ∧ s.1 ≤ s.2 ∧ s.2 ≤ 10000000)
def wearB (s : Int × Int) : Bool := decide (0 ≤ s.1 ∧ s.1 ≤ s.2 ∧ s.2 ≤ 10000)
theorem p52 (s : Int × Int) : R 52 [eS s] = some (B (!lenB s)) := by
  have e1 := p49 s 10000000
  rw [show decide (0 ≤ s.1 ∧ s.1 ≤ s.2 ∧ s.2 ≤ 10000000) = lenB s from rfl] at e1
  refine run2_body 1 rfl rfl rfl rfl rfl ?_
  simp (maxSteps := 2000000) (disch := first | omega | (simp; done) | (simp; omega)) [-getElem?_pos, l52, e1]
/-- The error of rules. -/
def chkR (n w : Int × Int) (ms : List (Int × Int)) : Int := if 10 < ms.length then 5 else if lenB n = true ∧ wearB w = true ∧ (ms.any fun s => !lenB s) = false then 0 else 2
abbrev eR (ring : Bool) (n w : Int × Int) (ms : List (Int × Int)) : V := .agg [B ring, I n.1, I n.2, I w.1, I w.2, S 2 (eS2 ms)]
theorem p56 (ring : Bool) (n w : Int × Int) {ms : List (Int × Int)} (hl : ms.length ≤ 1000000) : R 56 [eR ring n w ms] = some (I (chkR n w ms)) := by
  have e1 := p52 n
  have e2 := p49 w 10000
  have e3 := p90 (g := 52) (caps := []) (pr := fun s => !lenB s) (E := fun s : Int × Int => [I s.1, I s.2]) (W := eS) (xs := ms) (fun _ => rfl) (fun _ _ => ⟨rfl, fun _ => rfl, fun _ => rfl⟩) (fun s _ => p52 s) (by omega)
  rw [show decide (0 ≤ w.1 ∧ w.1 ≤ w.2 ∧ w.2 ≤ 10000) = wearB w from rfl] at e2
  refine run2_body 1 rfl rfl rfl rfl rfl ?_
  unfold chkR
  generalize (ms.any fun s => !lenB s) = q at *
  by_cases h : 10 < ms.length
  · have h2 : (10 : Int) < ms.length := by omega
    simp (maxSteps := 2000000) (disch := first | omega | (simp; done) | (simp; omega)) [-getElem?_pos, l56, h, h2]
  · have h2 : ¬ (10 : Int) < ms.length := by omega
    cases h3 : lenB n <;> cases h4 : wearB w <;> cases q <;> simp (maxSteps := 2000000) (disch := first | omega | (simp; done) | (simp; omega)) [-getElem?_pos, l56, h, h2, e1, e2, e3, h3, h4]
end Go.Lo

/- Events are checked; the size of a gauge. -/
namespace Go.Lo
open Go.Proofs
set_option linter.unusedSimpArgs false
set_option maxHeartbeats 8000000
set_option maxRecDepth 20000
abbrev Evt := Int × Int × Bool
abbrev eV (l : List Evt) : List (List V) := l.map fun x => [I x.1, I x.2.1, B x.2.2]
theorem find_prAt {α : Type} (pr : α → Bool) (xs : List α) : (match (List.range' 0 xs.length).find? (prAt pr xs) with | some i => xs[i]? | none => none) = xs.find? pr := by
  rw [find_idx]
  cases h : xs.findIdx? pr with
  | none =>
    rw [List.findIdx?_eq_none_iff] at h
    symm
    rw [List.find?_eq_none]
    intro x hx
    rw [h x hx]; simp
  | some k =>
    obtain ⟨hk, h1, h2⟩ := List.findIdx?_eq_some_iff_getElem.1 h
    show xs[k]? = _
    rw [List.getElem?_eq_getElem hk]
    symm
    rw [List.find?_eq_some_iff_append]
    refine ⟨h1, xs.take k, xs.drop (k + 1), by rw [List.getElem_cons_drop]; exact (List.take_append_drop k xs).symm, fun a ha => ?_⟩
    obtain ⟨j, hj, rfl⟩ := List.mem_iff_getElem.1 ha
    rw [List.length_take] at hj
    have := h2 j (by omega)
    rw [List.getElem_take]
    simpa using this
/-- The error of an event. -/
def evErr (m : Nat) (x : Evt) : Int := if -1 ≤ x.2.1 ∧ x.2.1 ≤ (m : Int) - 1 then (if G0.kindE x.1 x.2.1 x.2.2 = 0 then 2 else 0) else 7
/-- The error of rules and events. -/
def chkE (n w : Int × Int) (ms : List (Int × Int)) (es : List Evt) : Int :=
  if chkR n w ms ≠ 0 then chkR n w ms else if 100 < es.length then 5 else match es.find? fun x => decide (evErr ms.length x ≠ 0) with
    | some x => evErr ms.length x
    | none => 0
theorem p31 (ring : Bool) (n w : Int × Int) {ms : List (Int × Int)} {es : List Evt} (hm : ms.length ≤ 1000000) (hl : es.length ≤ 1000000) : R 31 [eR ring n w ms, S 3 (eV es)] = some (I (chkE n w ms es)) := by
  have L := loop_if (s := fun i => { fr := [(2, .box [B ring, I n.1, I n.2, I w.1, I w.2, S 2 (eS2 ms)]), (16, S 3 (eV es)), (17, I es.length), (18, I i)], tk := [] }) (f := evC2 R (es.length + 1) b31_0) (n := es.length) (g := prAt (fun x => decide (evErr ms.length x ≠ 0)) es) (E := fun i => (.ret, { fr := [(4, I (evErr ms.length (es.getD i (0, 0, false))))], tk := [] })) (X := (.exit 0, { fr := [(2, .box [B ring, I n.1, I n.2, I w.1, I w.2, S 2 (eS2 ms)]), (16, S 3 (eV es)), (17, I es.length), (18, I es.length), (19, B false)], tk := [] }))
    (fun i hi => by
      have h1 : es[i]? = some es[i] := List.getElem?_eq_getElem hi
      have h2 : (i : Int) < es.length := by omega
      have hw : IntKind.i64.wrap ((i : Int) + 1) = (i : Int) + 1 := G1.wr1 (by omega)
      have hw2 : IntKind.i64.wrap ((ms.length : Int) - 1) = (ms.length : Int) - 1 := G1.wr1 (by omega)
      rw [prAt_some h1, show es.getD i (0, 0, false) = es[i] by simp [hi]]
      generalize es[i] = x at *
      have e1 := gW_1 (-1) ((ms.length : Int) - 1) x.2.1
      have e2 := p57 x.1 x.2.1 x.2.2
      unfold evErr
      generalize G0.kindE x.1 x.2.1 x.2.2 = q at *
      by_cases hx : -1 ≤ x.2.1 ∧ x.2.1 ≤ (ms.length : Int) - 1
      · rw [decide_eq_true hx] at e1
        by_cases hq : q = 0 <;> simp (maxSteps := 2000000) (disch := first | omega | (simp; done) | (simp; omega)) [-getElem?_pos, b31_0, h1, h2, hw, hw2, e1, e2, hx, hq]
      · rw [decide_eq_false hx] at e1
        simp (maxSteps := 2000000) (disch := first | omega | (simp; done) | (simp; omega)) [-getElem?_pos, b31_0, h1, h2, hw, hw2, e1, hx]) (fun _ => by simp) (by simp (maxSteps := 2000000) (disch := first | omega | (simp; done) | (simp; omega)) [-getElem?_pos, b31_0]) (by simp)
  have hf := find_prAt (fun x => decide (evErr ms.length x ≠ 0)) es
  have e3 := p56 ring n w (ms := ms) hm
  unfold chkE
  generalize hF : evC2 R (es.length + 1) b31_0 = F at *
  have hfin : ∀ q : Int, (match es.find? fun x => decide (evErr ms.length x ≠ 0) with | some x => evErr ms.length x | none => 0) = q → R 31 [eR ring n w ms, S 3 (eV es)] = some (I (if chkR n w ms ≠ 0 then chkR n w ms else if 100 < es.length then 5 else q)) := fun q hq => by
    refine run2_body (es.length + 1) rfl rfl rfl rfl rfl ?_
    generalize chkR n w ms = c at *
    by_cases hc : c = 0
    · subst hc
      by_cases h100 : 100 < es.length
      · have h101 : (100 : Int) < es.length := by omega
        simp (maxSteps := 2000000) (disch := first | omega | (simp; done) | (simp; omega)) [-getElem?_pos, l31, e3, h100, h101]
      · have h101 : ¬ (100 : Int) < es.length := by omega
        cases hk : (List.range' 0 es.length).find? (prAt (fun x => decide (evErr ms.length x ≠ 0)) es) with
        | none =>
          rw [hk] at L hf
          simp only at L hf
          rw [← hf] at hq
          simp only at hq
          subst hq
          simp at L
          simp (maxSteps := 2000000) (disch := first | omega | (simp; done) | (simp; omega)) [-getElem?_pos, l31, hF, e3, h100, h101, L]
        | some k =>
          rw [hk] at L hf
          simp only at L hf
          rw [← hf] at hq
          have hk2 : k < es.length := by
            have := List.mem_of_find?_eq_some hk
            simp at this; omega
          rw [List.getElem?_eq_getElem hk2] at hq
          simp only at hq
          rw [show es.getD k (0, 0, false) = es[k] by simp [hk2], hq] at L
          simp at L
          simp (maxSteps := 2000000) (disch := first | omega | (simp; done) | (simp; omega)) [-getElem?_pos, l31, hF, e3, h100, h101, L]
    · simp (maxSteps := 2000000) (disch := first | omega | (simp; done) | (simp; omega)) [-getElem?_pos, l31, e3, hc]
  exact hfin _ rfl
end Go.Lo

/- The size of a gauge. -/
namespace Go.Lo
open Go.Proofs
set_option linter.unusedSimpArgs false
set_option maxHeartbeats 8000000
set_option maxRecDepth 20000
theorem TOk.mono {n m : Nat} {M : Int} {T : Rul} (h : TOk n M T) (hn : n ≤ m) : TOk m M T := fun x hx => by
  obtain ⟨h1, h2, h3⟩ := h x hx
  omega
theorem TOk.app {n : Nat} {M : Int} {T Q : Rul} (h : TOk n M T) (k : TOk n M Q) : TOk n M (T ++ Q) := fun x hx => by
  rcases List.mem_append.1 hx with hx | hx
  · exact h x hx
  · exact k x hx
/-- What is checked of rules. -/
structure ROk (n w : Int × Int) (ms : List (Int × Int)) : Prop where
  n : 0 ≤ n.1 ∧ n.1 ≤ n.2 ∧ n.2 ≤ 10000000
  w : 0 ≤ w.1 ∧ w.1 ≤ w.2 ∧ w.2 ≤ 10000
  ml : ms.length ≤ 10
  m : ∀ s ∈ ms, 0 ≤ s.1 ∧ s.1 ≤ s.2 ∧ s.2 ≤ 10000000
theorem chkR_ok {n w : Int × Int} {ms : List (Int × Int)} : chkR n w ms = 0 ↔ ROk n w ms := by
  unfold chkR
  constructor
  · intro h
    split at h
    · cases h
    · split at h
      · rename_i h1 h2
        obtain ⟨k1, k2, k3⟩ := h2
        refine ⟨by simpa [lenB] using k1, by simpa [wearB] using k2, by omega, fun s hs => ?_⟩
        rw [List.any_eq_false] at k3
        have := k3 s hs
        simpa [lenB] using this
      · cases h
  · rintro ⟨h1, h2, h3, h4⟩
    rw [if_neg (by omega), if_pos]
    refine ⟨by simpa [lenB] using h1, by simpa [wearB] using h2, ?_⟩
    rw [List.any_eq_false]
    intro s hs
    have := h4 s hs
    simpa [lenB] using this
/-- What is checked of events. -/
def EOk (m : Nat) (es : List Evt) : Prop := es.length ≤ 100 ∧ ∀ x ∈ es, (-1 ≤ x.2.1 ∧ x.2.1 ≤ (m : Int) - 1) ∧ G0.kindE x.1 x.2.1 x.2.2 ≠ 0
theorem evErr_ok {m : Nat} {x : Evt} : evErr m x = 0 ↔ (-1 ≤ x.2.1 ∧ x.2.1 ≤ (m : Int) - 1) ∧ G0.kindE x.1 x.2.1 x.2.2 ≠ 0 := by
  unfold evErr
  by_cases h1 : -1 ≤ x.2.1 ∧ x.2.1 ≤ (m : Int) - 1
  · by_cases h2 : G0.kindE x.1 x.2.1 x.2.2 = 0 <;> simp [h1, h2]
  · simp [h1]
theorem chkE_ok {n w : Int × Int} {ms : List (Int × Int)} {es : List Evt} : chkE n w ms es = 0 ↔ ROk n w ms ∧ EOk ms.length es := by
  unfold chkE EOk
  rw [← chkR_ok]
  by_cases h1 : chkR n w ms = 0
  · by_cases h2 : 100 < es.length
    · simp [h1, h2]; intro; omega
    · simp only [h1, ne_eq, not_true_eq_false, if_false, h2, true_and]
      cases hk : es.find? (fun x => decide (¬ evErr ms.length x = 0)) with
      | none =>
        rw [List.find?_eq_none] at hk
        simp only [true_iff]
        exact ⟨by omega, fun x hx => evErr_ok.1 (by simpa using hk x hx)⟩
      | some x =>
        have hx := List.find?_some hk
        have hm := List.mem_of_find?_eq_some hk
        simp only [decide_eq_true_eq] at hx
        constructor
        · intro h; exact absurd h hx
        · intro h; exact absurd (evErr_ok.2 (h.2 x hm)) hx
  · simp [h1]
/-- Of which kind an event is, by its parts. -/
theorem kind_cases {m : Nat} {x : Evt} (h : (-1 ≤ x.2.1 ∧ x.2.1 ≤ (m : Int) - 1) ∧ G0.kindE x.1 x.2.1 x.2.2 ≠ 0) : (G0.kindE x.1 x.2.1 x.2.2 = 1 ∧ 1 ≤ x.1 ∧ x.1 ≤ 100000) ∨ (G0.kindE x.1 x.2.1 x.2.2 ≠ 1 ∧ 0 ≤ x.2.1) := by
  obtain ⟨h1, h2⟩ := h
  unfold G0.kindE at *
  split at h2
  · rename_i h3
    exact .inl ⟨by rw [if_pos h3], h3.2.1⟩
  · rename_i h3
    split at h2
    · exact absurd rfl h2
    · rename_i h4
      rw [if_neg h3, if_neg h4]
      refine .inr ⟨by split <;> decide, ?_⟩
      omega
theorem worn_bd {w : Int × Int} {p : Int} (hw : 0 ≤ w.1 ∧ w.1 ≤ w.2 ∧ w.2 ≤ 10000) (hp : 0 ≤ p ∧ p ≤ 100000) : 0 ≤ (G1.wornE w p).1 ∧ (G1.wornE w p).1 ≤ (G1.wornE w p).2 ∧ (G1.wornE w p).2 ≤ 1000000 := by
  have h1 : 0 ≤ w.1 * p := Int.mul_nonneg (by omega) (by omega)
  have h2 : w.1 * p ≤ w.2 * p := Int.mul_le_mul_of_nonneg_right (by omega) (by omega)
  have h3 : w.2 * p ≤ 10000 * p := Int.mul_le_mul_of_nonneg_right (by omega) (by omega)
  unfold G1.wornE
  rw [Int.tdiv_eq_ediv_of_nonneg h1, Int.tdiv_eq_ediv_of_nonneg (by omega)]
  simp only
  omega
theorem add_ok {w : Int × Int} {s : Rul × Int} {x : Evt} {m : Nat} (hw : 0 ≤ w.1 ∧ w.1 ≤ w.2 ∧ w.2 ≤ 10000) (hx : (-1 ≤ x.2.1 ∧ x.2.1 ≤ (m : Int) - 1) ∧ G0.kindE x.1 x.2.1 x.2.2 ≠ 0) (hs : (m : Int) + 1 ≤ s.2) (hT : TOk (s.2 + 1).toNat 10000000 s.1) : (m : Int) + 1 ≤ (G1.addE w s x).2 ∧ TOk ((G1.addE w s x).2 + 1).toNat 10000000 (G1.addE w s x).1 := by
  unfold G1.addE
  rcases kind_cases hx with ⟨h1, h2⟩ | ⟨h1, h2⟩
  · rw [if_pos h1]
    have := worn_bd hw (p := x.1) (by omega)
    refine ⟨by simp only; omega, (hT.mono (by omega)).app fun y hy => ?_⟩
    simp only [List.mem_cons, List.not_mem_nil, or_false] at hy
    rcases hy with rfl | rfl <;> simp only <;> omega
  · rw [if_neg h1]
    split
    · refine ⟨hs, hT.app fun y hy => ?_⟩
      simp only [List.mem_cons, List.not_mem_nil, or_false] at hy
      subst hy
      simp only; omega
    · refine ⟨hs, hT.app fun y hy => ?_⟩
      simp only [List.mem_cons, List.not_mem_nil, or_false] at hy
      subst hy
      simp only; omega
theorem fold_ok {w : Int × Int} {m : Nat} (hw : 0 ≤ w.1 ∧ w.1 ≤ w.2 ∧ w.2 ≤ 10000) : ∀ (es : List Evt) (s : Rul × Int), (∀ x ∈ es, (-1 ≤ x.2.1 ∧ x.2.1 ≤ (m : Int) - 1) ∧ G0.kindE x.1 x.2.1 x.2.2 ≠ 0) → (m : Int) + 1 ≤ s.2 → TOk (s.2 + 1).toNat 10000000 s.1 → TOk ((es.foldl (G1.addE w) s).2 + 1).toNat 10000000 (es.foldl (G1.addE w) s).1
  | [], _, _, _, h => h
  | x :: es, s, hx, hs, hT => by
    obtain ⟨h1, h2⟩ := add_ok hw (hx x List.mem_cons_self) hs hT
    exact fold_ok hw es _ (fun y hy => hx y (List.mem_cons_of_mem _ hy)) h1 h2
theorem tn_bd {ring : Bool} {s : Int × Int} (h : 0 ≤ s.1 ∧ s.1 ≤ s.2 ∧ s.2 ≤ 10000000) : (-10000000 ≤ (G1.tn ring s).1 ∧ (G1.tn ring s).1 ≤ 10000000) ∧ -10000000 ≤ (G1.tn ring s).2 ∧ (G1.tn ring s).2 ≤ 10000000 := by
  unfold G1.tn
  cases ring <;> simp <;> omega
theorem ms_ok {ring : Bool} {m : Nat} : ∀ {ms : List (Int × Int)} {i : Nat}, (∀ s ∈ ms, 0 ≤ s.1 ∧ s.1 ≤ s.2 ∧ s.2 ≤ 10000000) → i + ms.length ≤ m → TOk (m + 2) 10000000 (G1.msT ring ms i)
  | [], _, _, _ => fun x hx => by cases hx
  | s :: ms, i, h, hi => by
    have h1 := tn_bd (ring := ring) (h s List.mem_cons_self)
    have h2 := ms_ok (ring := ring) (m := m) (ms := ms) (i := i + 1) (fun y hy => h y (List.mem_cons_of_mem _ hy)) (by simp only [List.length_cons] at hi; omega)
    simp only [List.length_cons] at hi
    intro x hx
    simp only [G1.msT, List.mem_cons] at hx
    rcases hx with rfl | rfl | hx
    · simp only; omega
    · simp only; omega
    · exact h2 x hx
theorem new_ok {ring : Bool} {n w : Int × Int} {ms : List (Int × Int)} {es : List Evt} (hr : ROk n w ms) (he : EOk ms.length es) : TOk ((G1.newT ring n w ms es).2 + 1).toNat 10000000 (G1.newT ring n w ms es).1 := by
  refine fold_ok (m := ms.length) hr.w es _ he.2 (Int.le_refl _) ?_
  have h1 := tn_bd (ring := ring) hr.n
  refine ((ms_ok (m := ms.length) hr.m (by omega)).mono (by simp only; omega)).app fun x hx => ?_
  simp only [List.mem_cons, List.not_mem_nil, or_false] at hx
  rcases hx with rfl | rfl <;> simp only <;> omega
theorem spL_map (ms : List (Int × Int)) : spL (eS2 ms) = some ms := by
  induction ms with
  | nil => rfl
  | cons s ms ih => simp only [eS2, List.map_cons] at ih ⊢; unfold spL; rw [ih]
theorem evL_map (es : List Evt) : evL (eV es) = some es := by
  induction es with
  | nil => rfl
  | cons s ms ih => simp only [eV, List.map_cons] at ih ⊢; unfold evL; rw [ih]
theorem p32 {ring : Bool} {n w : Int × Int} {ms : List (Int × Int)} {es : List Evt} (hr : ROk n w ms) (he : EOk ms.length es) : R 32 [eR ring n w ms, S 3 (eV es)] = some (.gref (rvG ring n.1 n.2 w.1 w.2 (eS2 ms) (G1.newT ring n w ms es).1 (G1.newT ring n w ms es).2)) := by
  refine (run2_told (F := F2) (C := C2) (f := 32) (g := nrG) rfl).trans ?_
  show (match spL (eS2 ms), evL (eV es) with
    | some ms, some es => if GOkP (n.1, n.2) (w.1, w.2) ms es then some (nrV ring (n.1, n.2) (w.1, w.2) ms es) else none
    | _, _ => none) = _
  rw [spL_map, evL_map]
  simp only
  have h1 := hr.n
  have h2 := hr.w
  have h3 := hr.ml
  rw [if_pos]
  · rfl
  · refine ⟨?_, ?_, by omega, by have := he.1; omega, fun s hs => ?_, fun x hx => ?_⟩
    · unfold G1.small; simp only; omega
    · unfold G1.small; simp only; omega
    · have := hr.m s hs
      unfold G1.small; omega
    · have := he.2 x hx
      refine ⟨this.2, ?_⟩
      unfold G1.small; omega
/-- The size of a gauge, or the error. -/
def sizeE (ring : Bool) (n w : Int × Int) (ms : List (Int × Int)) (es : List Evt) : (Int × Int) × Int :=
  if chkE n w ms es = 0 then spanE ring (G1.newT ring n w ms es).1 ((G1.newT ring n w ms es).2 + 1).toNat (G1.newT ring n w ms es).2.toNat else ((0, 0), chkE n w ms es)
theorem p13 (ring : Bool) (n w : Int × Int) {ms : List (Int × Int)} {es : List Evt} (hm : ms.length ≤ 1000000) (hl : es.length ≤ 1000000) : R 13 [eR ring n w ms, S 3 (eV es)] = some (.tup [eS (sizeE ring n w ms es).1, I (sizeE ring n w ms es).2]) := by
  have e1 := p31 ring n w hm hl
  unfold sizeE
  by_cases hc : chkE n w ms es = 0
  · rw [hc] at e1
    obtain ⟨hr, he⟩ := chkE_ok.1 hc
    have e2 := p32 (ring := ring) hr he
    have hT := new_ok (ring := ring) hr he
    have hb := G1.newT_bd (ring := ring) (n := n) (w := w) (ms := ms) (es := es)
    have h10 := hr.ml
    have h100 := he.1
    rw [if_pos hc]
    generalize G1.newT ring n w ms es = q at *
    have e3 := p33 (ring := ring) (a := n.1) (b := n.2) (c := w.1) (d := w.2) (me := eS2 ms) (T := q.1) (now := q.2) (n := (q.2 + 1).toNat) (k := q.2.toNat) (M := 10000000) (by omega) hT (by omega) (by omega) (by omega) (by intro h; rw [h] at hb; simp at hb)
      (by
        have h1 : ((q.2 + 1).toNat + 1) * q.1.length ≤ 200 * 300 := Nat.mul_le_mul (by omega) (by omega)
        omega) (by omega)
    rw [show ((q.2.toNat : Nat) : Int) = q.2 by omega] at e3
    generalize spanE ring q.1 (q.2 + 1).toNat q.2.toNat = z at *
    refine run2_body 1 rfl rfl rfl rfl rfl ?_
    simp (maxSteps := 2000000) (disch := first | omega | (simp; done) | (simp; omega)) [-getElem?_pos, l13, e1, e2, e3]
  · rw [if_neg hc]
    generalize chkE n w ms es = c at *
    refine run2_body 1 rfl rfl rfl rfl rfl ?_
    simp (maxSteps := 2000000) (disch := first | omega | (simp; done) | (simp; omega)) [-getElem?_pos, l13, e1, hc]
end Go.Lo

/- A gauge and its limit. -/
namespace Go.Lo
open Go.Proofs
set_option linter.unusedSimpArgs false
set_option maxHeartbeats 8000000
set_option maxRecDepth 20000
theorem p51 {w : Int × Int} {p : Int} (hw : 0 ≤ w.1 ∧ w.1 ≤ w.2 ∧ w.2 ≤ 10000) (hp : 0 ≤ p ∧ p ≤ 100000) : R 51 [eS w, I p] = some (eS (G1.wornE w p)) := by
  have h1 : 0 ≤ w.1 * p := Int.mul_nonneg (by omega) (by omega)
  have h2 : w.1 * p ≤ w.2 * p := Int.mul_le_mul_of_nonneg_right (by omega) (by omega)
  have h3 : w.2 * p ≤ 10000 * p := Int.mul_le_mul_of_nonneg_right (by omega) (by omega)
  have h4 := worn_bd hw hp
  have e1 : IntKind.i64.wrap (w.1 * p) = w.1 * p := G1.wr1 (by omega)
  have e2 : IntKind.i64.wrap (w.2 * p) = w.2 * p := G1.wr1 (by omega)
  have e3 : IntKind.i64.wrap (w.2 * p + 1000) = w.2 * p + 1000 := G1.wr1 (by omega)
  have e4 : IntKind.i64.wrap (w.2 * p + 1000 - 1) = w.2 * p + 1000 - 1 := G1.wr1 (by omega)
  have e5 : IntKind.i64.wrap (G1.wornE w p).1 = (G1.wornE w p).1 := G1.wr1 (by omega)
  have e6 : IntKind.i64.wrap (G1.wornE w p).2 = (G1.wornE w p).2 := G1.wr1 (by omega)
  unfold G1.wornE at *
  simp only at e5 e6
  clear h1 h2 h3 h4 hw hp
  generalize hx : w.1 * p = x at *
  generalize hy : w.2 * p = y at *
  refine run2_body 1 rfl rfl rfl rfl rfl ?_
  simp (maxSteps := 2000000) (disch := first | omega | (simp; done) | (simp; omega)) [-getElem?_pos, l51, hx, hy, e1, e2, e3, e4, e5, e6]
/-- A gauge: its sizes, its wear, its limit; or the error. -/
def ngV (ring : Bool) (n w : Int × Int) (ms : List (Int × Int)) (es : List Evt) (limit : Int) : V :=
  if chkE n w ms es ≠ 0 then .tup [.agg [I 0, I 0, I 0, I 0, I 0, B false], I (chkE n w ms es)]
  else if 0 ≤ limit ∧ limit ≤ 10000000 then .tup [.agg [I (sizeE ring n w ms es).1.1, I (sizeE ring n w ms es).1.2, I w.1, I w.2, I limit, B ring], I (sizeE ring n w ms es).2]
  else .tup [.agg [I 0, I 0, I 0, I 0, I 0, B false], I 3]
theorem p29 (ring : Bool) (n w : Int × Int) {ms : List (Int × Int)} {es : List Evt} (limit : Int) (hm : ms.length ≤ 1000000) (hl : es.length ≤ 1000000) : R 29 [eR ring n w ms, S 3 (eV es), I limit] = some (ngV ring n w ms es limit) := by
  have e1 := p31 ring n w hm hl
  have e2 := gW_1 0 10000000 limit
  have e3 := p13 ring n w hm hl
  unfold ngV
  generalize chkE n w ms es = c at *
  generalize sizeE ring n w ms es = s at *
  refine run2_body 1 rfl rfl rfl rfl rfl ?_
  by_cases hc : c = 0
  · subst hc
    by_cases hk : 0 ≤ limit ∧ limit ≤ 10000000
    · rw [decide_eq_true hk] at e2
      simp (maxSteps := 2000000) (disch := first | omega | (simp; done) | (simp; omega)) [-getElem?_pos, l29, e1, e2, e3, hk]
    · rw [decide_eq_false hk] at e2
      simp (maxSteps := 2000000) (disch := first | omega | (simp; done) | (simp; omega)) [-getElem?_pos, l29, e1, e2, e3, hk]
  · simp (maxSteps := 2000000) (disch := first | omega | (simp; done) | (simp; omega)) [-getElem?_pos, l29, e1, e2, e3, hc]
/-- How far each end is from the limit. -/
def roomE (ring : Bool) (s : Int × Int) (limit : Int) : Int × Int := if ring = true then (limit - s.2, limit - s.1) else (s.1 - limit, s.2 - limit)
def bd12 (x : Int) : Prop := -2000000000000 ≤ x ∧ x ≤ 2000000000000
theorem p30 {ring : Bool} {s w : Int × Int} {limit : Int} (h1 : bd12 s.1) (h2 : bd12 s.2) (h3 : bd12 limit) : R 30 [.agg [I s.1, I s.2, I w.1, I w.2, I limit, B ring]] = some (.tup [I (roomE ring s limit).1, I (roomE ring s limit).2]) := by
  unfold bd12 at *
  have e1 : IntKind.i64.wrap (limit - s.1) = limit - s.1 := G1.wr1 (by omega)
  have e2 : IntKind.i64.wrap (limit - s.2) = limit - s.2 := G1.wr1 (by omega)
  have e3 : IntKind.i64.wrap (s.1 - limit) = s.1 - limit := G1.wr1 (by omega)
  have e4 : IntKind.i64.wrap (s.2 - limit) = s.2 - limit := G1.wr1 (by omega)
  unfold roomE
  clear h1 h2 h3
  refine run2_body 1 rfl rfl rfl rfl rfl ?_
  cases ring <;> simp (maxSteps := 2000000) (disch := first | omega | (simp; done) | (simp; omega)) [-getElem?_pos, l30, e1, e2, e3, e4]
theorem size_bd {ring : Bool} {n w : Int × Int} {ms : List (Int × Int)} {es : List Evt} : bd12 (sizeE ring n w ms es).1.1 ∧ bd12 (sizeE ring n w ms es).1.2 := by
  unfold sizeE
  by_cases hc : chkE n w ms es = 0
  · rw [if_pos hc]
    obtain ⟨hr, he⟩ := chkE_ok.1 hc
    have hT := new_ok (ring := ring) hr he
    have hb := G1.newT_bd (ring := ring) (n := n) (w := w) (ms := ms) (es := es)
    have h10 := hr.ml
    have h100 := he.1
    generalize G1.newT ring n w ms es = q at *
    have hM : (0 : Int) ≤ 10000000 := by decide
    have b1 := most_bd hM hT ((q.2 + 1).toNat + 1) 0 (l0E (q.2 + 1).toNat) (l0_ok (M := 10000000)).1 (l0_ok (M := 10000000)).2
    have b2 := most_bd hM (opp_ok hT) ((q.2 + 1).toNat + 1) 0 (l0E (q.2 + 1).toNat) (l0_ok (M := 10000000)).1 (l0_ok (M := 10000000)).2
    rw [show (oppE q.1).length = q.1.length by simp [oppE]] at b2
    have h1 : ((q.2 + 1).toNat + 1) * q.1.length ≤ 200 * 222 := Nat.mul_le_mul (by omega) (by omega)
    unfold spanE
    split
    · have c1 := bd_get b1.2 (i := q.2.toNat) (by omega)
      have c2 := bd_get b2.2 (i := q.2.toNat) (by omega)
      generalize (mostE q.1 ((q.2 + 1).toNat + 1) (l0E (q.2 + 1).toNat)).1.getD q.2.toNat 0 = x at *
      generalize (mostE (oppE q.1) ((q.2 + 1).toNat + 1) (l0E (q.2 + 1).toNat)).1.getD q.2.toNat 0 = y at *
      generalize ((q.2 + 1).toNat + 1) * q.1.length = z at *
      unfold bd12 G1.tn
      cases ring <;> simp <;> omega
    · unfold bd12; simp
  · rw [if_neg hc]; unfold bd12; simp
/-- Whether a gauge is beyond its limit. -/
def bynE (ring : Bool) (n w : Int × Int) (ms : List (Int × Int)) (es : List Evt) (limit : Int) : Bool × Bool × Int :=
  if chkE n w ms es ≠ 0 then (false, false, chkE n w ms es) else if 0 ≤ limit ∧ limit ≤ 10000000 then
    (if (sizeE ring n w ms es).2 ≠ 0 then (false, false, (sizeE ring n w ms es).2) else (decide ((roomE ring (sizeE ring n w ms es).1 limit).2 < 0), decide ((roomE ring (sizeE ring n w ms es).1 limit).1 < 0), 0)) else (false, false, 3)
theorem p11 (ring : Bool) (n w : Int × Int) {ms : List (Int × Int)} {es : List Evt} (limit : Int) (hm : ms.length ≤ 1000000) (hl : es.length ≤ 1000000) : R 11 [eR ring n w ms, S 3 (eV es), I limit] = some (.tup [B (bynE ring n w ms es limit).1, B (bynE ring n w ms es limit).2.1, I (bynE ring n w ms es limit).2.2]) := by
  have e1 := p29 ring n w limit hm hl
  have hs := size_bd (ring := ring) (n := n) (w := w) (ms := ms) (es := es)
  unfold ngV at e1
  unfold bynE
  generalize chkE n w ms es = c at *
  generalize sizeE ring n w ms es = s at *
  by_cases hc : c = 0
  · subst hc
    simp only [ne_eq, not_true_eq_false, if_false] at e1 ⊢
    by_cases hk : 0 ≤ limit ∧ limit ≤ 10000000
    · rw [if_pos hk] at e1 ⊢
      have e2 := p30 (ring := ring) (s := s.1) (w := w) (limit := limit) hs.1 hs.2 (by unfold bd12; omega)
      generalize roomE ring s.1 limit = q at *
      clear hs
      refine run2_body 1 rfl rfl rfl rfl rfl ?_
      by_cases h0 : s.2 = 0 <;> simp (maxSteps := 2000000) (disch := first | omega | (simp; done) | (simp; omega)) [-getElem?_pos, l11, e1, e2, h0]
    · rw [if_neg hk] at e1 ⊢
      refine run2_body 1 rfl rfl rfl rfl rfl ?_
      simp (maxSteps := 2000000) (disch := first | omega | (simp; done) | (simp; omega)) [-getElem?_pos, l11, e1]
  · rw [if_pos hc] at e1 ⊢
    refine run2_body 1 rfl rfl rfl rfl rfl ?_
    simp (maxSteps := 2000000) (disch := first | omega | (simp; done) | (simp; omega)) [-getElem?_pos, l11, e1, hc]
end Go.Lo

/- The size of a gauge after some pieces. -/
namespace Go.Lo
open Go.Proofs
set_option linter.unusedSimpArgs false
set_option maxHeartbeats 8000000
set_option maxRecDepth 20000
theorem p7 (a b : Int) : R 7 [I a, I b] = some (.agg [I a, I b]) := by
  refine run2_body 1 rfl rfl rfl rfl rfl ?_
  simp (maxSteps := 2000000) (disch := first | omega | (simp; done) | (simp; omega)) [-getElem?_pos, l7]
theorem p12 (a : Int) : R 12 [I a] = some (.agg [I a, I (-1), B false]) := by
  refine run2_body 1 rfl rfl rfl rfl rfl ?_
  simp (maxSteps := 2000000) (disch := first | omega | (simp; done) | (simp; omega)) [-getElem?_pos, l12]
abbrev far : Int := 1099511627776
theorem hit {l : List Int} {c : Bool} {x : Int × Int × Int} (h : l.getD x.2.1.toNat 0 < 1099511627776 ∧ l.getD x.2.1.toNat 0 + x.2.2 < l.getD x.1.toNat 0) : relaxE (l, c) x = (l.set x.1.toNat (l.getD x.2.1.toNat 0 + x.2.2), true) := by
  unfold relaxE; exact if_pos h
theorem miss {l : List Int} {c : Bool} {x : Int × Int × Int} (h : ¬ (l.getD x.2.1.toNat 0 < 1099511627776 ∧ l.getD x.2.1.toNat 0 + x.2.2 < l.getD x.1.toNat 0)) : relaxE (l, c) x = (l, c) := by
  unfold relaxE; exact if_neg h
section
variable {l h a b : Int}
theorem most_one (h1 : -100000000 ≤ l ∧ l ≤ h ∧ h ≤ 100000000) (h2 : 0 ≤ a ∧ a ≤ b ∧ b ≤ 100000000) : mostE [(1, 0, h), (0, 1, -l), (1, 2, b), (2, 1, -a)] 4 (l0E 3) = ([0, h, h + -a], true) := by
  have r1 : rndE [(1, 0, h), (0, 1, -l), (1, 2, b), (2, 1, -a)] [0, 1099511627776, 1099511627776] = ([0, h, h + -a], true) := by
    unfold rndE
    simp only [List.foldl_cons, List.foldl_nil]
    rw [hit (x := (1, 0, h)) (by simp; omega)]
    simp
    rw [miss (x := (0, 1, -l)) (by simp; omega), miss (x := (1, 2, b)) (by simp), hit (x := (2, 1, -a)) (by simp; omega)]
    simp
  have r2 : rndE [(1, 0, h), (0, 1, -l), (1, 2, b), (2, 1, -a)] [0, h, h + -a] = ([0, h, h + -a], false) := by
    unfold rndE
    simp only [List.foldl_cons, List.foldl_nil]
    rw [miss (x := (1, 0, h)) (by simp), miss (x := (0, 1, -l)) (by simp; omega), miss (x := (1, 2, b)) (by simp; omega), miss (x := (2, 1, -a)) (by simp)]
  rw [show l0E 3 = [0, 1099511627776, 1099511627776] from rfl]
  unfold mostE
  rw [r1]
  simp only [if_true]
  unfold mostE
  rw [r2]
  simp
theorem most_opp (h1 : -100000000 ≤ l ∧ l ≤ h ∧ h ≤ 100000000) (h2 : 0 ≤ a ∧ a ≤ b ∧ b ≤ 100000000) : mostE [(0, 1, h), (1, 0, -l), (2, 1, b), (1, 2, -a)] 4 (l0E 3) = ([0, -l, -l + b], true) := by
  have r1 : rndE [(0, 1, h), (1, 0, -l), (2, 1, b), (1, 2, -a)] [0, 1099511627776, 1099511627776] = ([0, -l, -l + b], true) := by
    unfold rndE
    simp only [List.foldl_cons, List.foldl_nil]
    rw [miss (x := (0, 1, h)) (by simp), hit (x := (1, 0, -l)) (by simp; omega)]
    simp
    rw [hit (x := (2, 1, b)) (by simp; omega)]
    simp
    rw [miss (x := (1, 2, -a)) (by simp; omega)]
  have r2 : rndE [(0, 1, h), (1, 0, -l), (2, 1, b), (1, 2, -a)] [0, -l, -l + b] = ([0, -l, -l + b], false) := by
    unfold rndE
    simp only [List.foldl_cons, List.foldl_nil]
    rw [miss (x := (0, 1, h)) (by simp; omega), miss (x := (1, 0, -l)) (by simp), miss (x := (2, 1, b)) (by simp), miss (x := (1, 2, -a)) (by simp; omega)]
  rw [show l0E 3 = [0, 1099511627776, 1099511627776] from rfl]
  unfold mostE
  rw [r1]
  simp only [if_true]
  unfold mostE
  rw [r2]
  simp
end
/-- The size of a gauge after some pieces. -/
theorem size_one {ring : Bool} {n w : Int × Int} {p : Int} (hr : ROk n w []) (hp : 1 ≤ p ∧ p ≤ 100000) :
    chkE n w [] [(p, -1, false)] = 0 ∧ sizeE ring n w [] [(p, -1, false)] = ((if ring = true then (n.1 + (G1.wornE w p).1, n.2 + (G1.wornE w p).2) else (n.1 - (G1.wornE w p).2, n.2 - (G1.wornE w p).1)), 0) := by
  have hk : G0.kindE p (-1) false = 1 := by unfold G0.kindE; rw [if_pos ⟨rfl, hp, rfl⟩]
  have hc : chkE n w [] [(p, -1, false)] = 0 := chkE_ok.2 ⟨hr, by simp, fun x hx => by
    rw [List.mem_singleton] at hx
    subst hx
    exact ⟨by simp, by rw [hk]; decide⟩⟩
  have hwb := worn_bd hr.w (p := p) (by omega)
  have hn := hr.n
  refine ⟨hc, ?_⟩
  unfold sizeE
  rw [if_pos hc]
  have hT : G1.newT ring n w [] [(p, -1, false)] = ([(1, 0, (G1.tn ring n).2), (0, 1, -(G1.tn ring n).1), (1, 2, (G1.wornE w p).2), (2, 1, -(G1.wornE w p).1)], 2) := by
    simp [G1.newT, G1.msT, G1.addE, hk]
  rw [hT]
  generalize G1.wornE w p = x at *
  have ht : -100000000 ≤ (G1.tn ring n).1 ∧ (G1.tn ring n).1 ≤ (G1.tn ring n).2 ∧ (G1.tn ring n).2 ≤ 100000000 := by
    unfold G1.tn; cases ring <;> simp <;> omega
  have m1 := most_one (a := x.1) (b := x.2) ht (by omega)
  have m2 := most_opp (a := x.1) (b := x.2) ht (by omega)
  unfold spanE
  simp only [oppE, List.map_cons, List.map_nil]
  rw [show (2 + 1 : Int).toNat + 1 = 4 from rfl, show (2 + 1 : Int).toNat = 3 from rfl, m1, m2]
  unfold G1.tn
  cases ring <;> simp <;> omega
end Go.Lo

/- Forms of threads. -/
namespace Go.Lo
open Go.Proofs
set_option linter.unusedSimpArgs false
set_option maxHeartbeats 8000000
set_option maxRecDepth 20000
theorem p75 (x lo hi : Int) : R 75 [I x, .cref [I lo], .cref [I hi]] = some (B (decide (x < lo) || decide (x > hi))) := by
  refine run2_body 1 rfl rfl rfl rfl rfl ?_
  by_cases h : x < lo <;> simp [l75, h]
theorem p42 (lo hi : Int) {xs : List Int} (hl : xs.length < 4611686018427387904) : R 42 [I lo, I hi, S 1 (eI xs)] = some (B (xs.all fun x => decide (lo ≤ x ∧ x ≤ hi))) := by
  have h := p67 (g := 75) (caps := [.cref [I lo], .cref [I hi]]) (pr := fun x => decide (x < lo) || decide (x > hi)) (E := fun x => [I x]) (W := fun x => I x) (xs := xs) (fun _ => rfl) (fun _ _ => ⟨rfl, fun _ => rfl, fun _ => rfl⟩) (fun x _ => p75 x lo hi) hl
  refine run2_body 1 rfl rfl rfl rfl rfl ?_
  have e : (xs.all fun x => decide (lo ≤ x ∧ x ≤ hi)) = !(xs.any fun x => decide (x < lo) || decide (x > hi)) := by
    rw [List.not_any_eq_all_not]
    congr 1
    funext x
    by_cases h1 : x < lo <;> by_cases h2 : x > hi <;> simp [h1, h2] <;> omega
  rw [e]
  simp [l42, h]

theorem abs_mul {a b A C : Int} (h1 : -A ≤ a ∧ a ≤ A) (h2 : -C ≤ b ∧ b ≤ C) : -(A * C) ≤ a * b ∧ a * b ≤ A * C := by
  have hA : 0 ≤ A := by omega
  have hC : 0 ≤ C := by omega
  have key : ∀ {x y : Int}, 0 ≤ x → x ≤ A → -C ≤ y → y ≤ C → -(A * C) ≤ x * y ∧ x * y ≤ A * C := fun {x y} p1 p2 p3 p4 => by
    have e1 := Int.mul_le_mul_of_nonneg_left p4 p1
    have e2 := Int.mul_le_mul_of_nonneg_right p2 hC
    have e3 := Int.mul_le_mul_of_nonneg_left p3 p1
    have e4 : x * -C = -(x * C) := Int.mul_neg x C
    omega
  by_cases h : 0 ≤ a
  · exact key h h1.2 h2.1 h2.2
  · have := key (x := -a) (y := b) (by omega) (by omega) h2.1 h2.2
    rw [Int.neg_mul] at this
    omega
structure Frm where
  pitch : Int
  left : Int
  right : Int
  above : Int
  below : Int
  starts : Int
  hand : Bool
  taper : Int
abbrev eF (f : Frm) : List V := [I f.pitch, I f.left, I f.right, I f.above, I f.below, I f.starts, B f.hand, I f.taper]
abbrev eX (f : Frm) (d : Int × Int) : List V := eF f ++ [I d.1, I d.2]
theorem t42_1 (lo hi x : Int) : R 42 [I lo, I hi, S 1 [[I x]]] = some (B (decide (lo ≤ x ∧ x ≤ hi))) := by
  have := p42 lo hi (xs := [x]) (by simp)
  simpa using this
theorem t42_2 (lo hi x y : Int) : R 42 [I lo, I hi, S 1 [[I x], [I y]]] = some (B (decide ((lo ≤ x ∧ x ≤ hi) ∧ (lo ≤ y ∧ y ≤ hi)))) := by
  have := p42 lo hi (xs := [x, y]) (by simp)
  simpa using this
def wid (f : Frm) (y : Int) : Int := 1000 * f.pitch - 2 * y * (f.left + f.right)
/-- Numbers that make no sum too great. -/
structure FNum (f : Frm) : Prop where
  pitch : 100 ≤ f.pitch ∧ f.pitch ≤ 200000
  left : 0 ≤ f.left ∧ f.left ≤ 3000
  right : 0 ≤ f.right ∧ f.right ≤ 3000
  above : 0 ≤ f.above ∧ f.above ≤ 200000
  below : 0 ≤ f.below ∧ f.below ≤ 200000
def frmN (f : Frm) : Bool := decide ((((((100 ≤ f.pitch ∧ f.pitch ≤ 200000) ∧ ((0 ≤ f.left ∧ f.left ≤ 3000) ∧ (0 ≤ f.right ∧ f.right ≤ 3000))) ∧ ((0 ≤ f.above ∧ f.above ≤ 200000) ∧ (0 ≤ f.below ∧ f.below ≤ 200000))) ∧ f.above + f.below ≥ 1) ∧ (1 ≤ f.starts ∧ f.starts ≤ 8)) ∧ (0 ≤ f.taper ∧ f.taper ≤ 100))
/-- Is it a form? -/
def frmB (f : Frm) : Bool := frmN f && decide (0 ≤ wid f f.above ∧ 0 ≤ wid f f.below)
theorem frmN_num {f : Frm} (h : frmN f = true) : FNum f := by
  unfold frmN at h
  rw [decide_eq_true_eq] at h
  exact ⟨h.1.1.1.1.1, h.1.1.1.1.2.1, h.1.1.1.1.2.2, h.1.1.1.2.1, h.1.1.1.2.2⟩
theorem p66 {f : Frm} (h : FNum f) {y : Int} (hy : -200000 ≤ y ∧ y ≤ 200000) : R 66 [.agg (eF f), I y] = some (I (wid f y)) := by
  have h1 := h.pitch
  have h2 := h.left
  have h3 := h.right
  have m := abs_mul (a := 2 * y) (b := f.left + f.right) (A := 400000) (C := 6000) (by omega) (by omega)
  have e1 : R 81 [.agg (eF f)] = some (I (f.left + f.right)) := by
    refine run2_body 1 rfl rfl rfl rfl rfl ?_
    simp (maxSteps := 2000000) (disch := first | omega | (simp; done) | (simp; omega)) [-getElem?_pos, l81, eF, wrap64]
  unfold wid
  have w1 := wrap64 (n := 2 * y * (f.left + f.right)) (by omega) (by omega)
  have w2 := wrap64 (n := f.left + f.right) (by omega) (by omega)
  generalize hz : 2 * y * (f.left + f.right) = z at *
  refine run2_body 1 rfl rfl rfl rfl rfl ?_
  simp only [eF] at e1
  simp (maxSteps := 2000000) (disch := first | omega | (simp; done) | (simp; omega)) [-getElem?_pos, l66, eF, e1, hz, w1, w2, wrap64]
theorem p35 (f : Frm) : R 35 [.agg (eF f)] = some (I (if frmB f = true then 0 else 2)) := by
  have e1 := t42_1 100 200000 f.pitch
  have e2 := t42_2 0 3000 f.left f.right
  have e3 := t42_2 0 200000 f.above f.below
  have e4 := t42_1 1 8 f.starts
  have e5 := t42_1 0 100 f.taper
  unfold frmB
  by_cases c1 : 100 ≤ f.pitch ∧ f.pitch ≤ 200000
  · by_cases c2 : (0 ≤ f.left ∧ f.left ≤ 3000) ∧ (0 ≤ f.right ∧ f.right ≤ 3000)
    · by_cases c3 : (0 ≤ f.above ∧ f.above ≤ 200000) ∧ (0 ≤ f.below ∧ f.below ≤ 200000)
      · by_cases c4 : f.above + f.below ≥ 1
        · by_cases c5 : 1 ≤ f.starts ∧ f.starts ≤ 8
          · by_cases c6 : 0 ≤ f.taper ∧ f.taper ≤ 100
            · have hn : FNum f := ⟨c1, c2.1, c2.2, c3.1, c3.2⟩
              have w1 := p66 hn (y := f.above) (by omega)
              have w2 := p66 hn (y := f.below) (by omega)
              have hN : frmN f = true := by unfold frmN; rw [decide_eq_true_eq]; exact ⟨⟨⟨⟨⟨c1, c2⟩, c3⟩, c4⟩, c5⟩, c6⟩
              rw [hN]
              generalize wid f f.above = z1 at *
              generalize wid f f.below = z2 at *
              simp only [c1, c2, c3, c5, c6, and_self, decide_true] at e1 e2 e3 e4 e5
              simp only [eF] at w1 w2
              refine run2_body 1 rfl rfl rfl rfl rfl ?_
              by_cases k1 : z1 < 0
              · have k1' : ¬ 0 ≤ z1 := by omega
                simp (maxSteps := 2000000) (disch := first | omega | (simp; done) | (simp; omega)) [-getElem?_pos, l35, eF, e1, e2, e3, e4, e5, w1, w2, c4, k1, k1', wrap64]
              · have k1' : 0 ≤ z1 := by omega
                by_cases k2 : z2 < 0
                · have k2' : ¬ 0 ≤ z2 := by omega
                  simp (maxSteps := 2000000) (disch := first | omega | (simp; done) | (simp; omega)) [-getElem?_pos, l35, eF, e1, e2, e3, e4, e5, w1, w2, c4, k1, k1', k2, k2', wrap64]
                · have k2' : 0 ≤ z2 := by omega
                  simp (maxSteps := 2000000) (disch := first | omega | (simp; done) | (simp; omega)) [-getElem?_pos, l35, eF, e1, e2, e3, e4, e5, w1, w2, c4, k1, k1', k2, k2', wrap64]
            · have hN : frmN f = false := by unfold frmN; rw [decide_eq_false_iff_not]; exact fun h => c6 h.2
              rw [hN]
              simp only [c1, c2, c3, c5, c6, and_self, decide_true, decide_false] at e1 e2 e3 e4 e5
              refine run2_body 1 rfl rfl rfl rfl rfl ?_
              simp (maxSteps := 2000000) (disch := first | omega | (simp; done) | (simp; omega)) [-getElem?_pos, l35, eF, e1, e2, e3, e4, e5, c4, wrap64]
          · have hN : frmN f = false := by unfold frmN; rw [decide_eq_false_iff_not]; exact fun h => c5 h.1.2
            rw [hN]
            simp only [c1, c2, c3, c5, and_self, decide_true, decide_false] at e1 e2 e3 e4
            refine run2_body 1 rfl rfl rfl rfl rfl ?_
            simp (maxSteps := 2000000) (disch := first | omega | (simp; done) | (simp; omega)) [-getElem?_pos, l35, eF, e1, e2, e3, e4, c4, wrap64]
        · have hN : frmN f = false := by unfold frmN; rw [decide_eq_false_iff_not]; exact fun h => c4 h.1.1.2
          rw [hN]
          simp only [c1, c2, c3, and_self, decide_true] at e1 e2 e3
          refine run2_body 1 rfl rfl rfl rfl rfl ?_
          simp (maxSteps := 2000000) (disch := first | omega | (simp; done) | (simp; omega)) [-getElem?_pos, l35, eF, e1, e2, e3, c4, wrap64]
      · have hN : frmN f = false := by unfold frmN; rw [decide_eq_false_iff_not]; exact fun h => c3 h.1.1.1.2
        rw [hN]
        simp only [c1, c2, c3, and_self, decide_true, decide_false] at e1 e2 e3
        refine run2_body 1 rfl rfl rfl rfl rfl ?_
        simp (maxSteps := 2000000) (disch := first | omega | (simp; done) | (simp; omega)) [-getElem?_pos, l35, eF, e1, e2, e3, wrap64]
    · have hN : frmN f = false := by unfold frmN; rw [decide_eq_false_iff_not]; exact fun h => c2 h.1.1.1.1.2
      rw [hN]
      simp only [c1, c2, and_self, decide_true, decide_false] at e1 e2
      refine run2_body 1 rfl rfl rfl rfl rfl ?_
      simp (maxSteps := 2000000) (disch := first | omega | (simp; done) | (simp; omega)) [-getElem?_pos, l35, eF, e1, e2, wrap64]
  · have hN : frmN f = false := by unfold frmN; rw [decide_eq_false_iff_not]; exact fun h => c1 h.1.1.1.1.1
    rw [hN]
    simp only [c1, decide_false] at e1
    refine run2_body 1 rfl rfl rfl rfl rfl ?_
    simp (maxSteps := 2000000) (disch := first | omega | (simp; done) | (simp; omega)) [-getElem?_pos, l35, eF, e1, wrap64]
theorem tmodB {v k : Int} (h0 : 0 ≤ v) (hk : 0 < k) : 0 ≤ v.tmod k ∧ v.tmod k < k := by
  rw [Int.tmod_eq_emod_of_nonneg h0]
  exact ⟨Int.emod_nonneg _ (by omega), Int.emod_lt_of_pos _ hk⟩
end Go.Lo

/- For how many pieces a gauge lasts. -/
namespace Go.Lo
open Go.Proofs
set_option linter.unusedSimpArgs false
set_option maxHeartbeats 8000000
set_option maxRecDepth 20000
abbrev sSe (f : Nat) (cs : List V) (i j : Int) : St := { fr := [(1, .fn (.f f) cs), (5, I i), (6, I j)], tk := [] }
theorem shr_half {n : Int} (h0 : 0 ≤ n) (h1 : n ≤ 1000000000) : IntKind.i64.wrap ((IntKind.u64.wrap n).fdiv (2 ^ min 1 IntKind.u64.bits)) = n / 2 := by
  have h2 : IntKind.u64.wrap n = n := by
    simp [IntKind.wrap, IntKind.bits, IntKind.signed]
    omega
  rw [h2, show (2 : Int) ^ min 1 IntKind.u64.bits = 2 from rfl, Int.fdiv_eq_ediv_of_nonneg _ (by omega)]
  exact G1.wr1 (by omega)
theorem se_end {f : Nat} {cs : List V} {M : Nat} {i : Int} : evC2 R M b64_0 (sSe f cs i i) = some (.exit 0, { fr := [(1, .fn (.f f) cs), (5, I i), (6, I i), (11, B false)], tk := [] }) := by
  simp (maxSteps := 2000000) (disch := first | omega | (simp; done) | (simp; omega)) [-getElem?_pos, b64_0]
theorem se_round {f : Nat} {cs : List V} {M : Nat} {i j : Int} {q : Bool} (h0 : 0 ≤ i) (hij : i < j) (hj : j ≤ 1000000) (hz : ∀ rd, frzL rd cs = some cs) (hc : R f (I ((i + j) / 2) :: cs) = some (B q)) :
    evC2 R M b64_0 (sSe f cs i j) = some (.normal, if q then sSe f cs i ((i + j) / 2) else sSe f cs ((i + j) / 2 + 1) j) := by
  have w1 : IntKind.i64.wrap (i + j) = i + j := G1.wr1 (by omega)
  have w2 := shr_half (n := i + j) (by omega) (by omega)
  have w3 : IntKind.i64.wrap ((i + j) / 2 + 1) = (i + j) / 2 + 1 := G1.wr1 (by omega)
  generalize (i + j) / 2 = m at *
  clear h0 hj
  cases q <;> simp (maxSteps := 2000000) (disch := first | omega | (simp; done) | (simp; omega)) [-getElem?_pos, b64_0, hc, hz, hij, w1, w2, w3]
theorem se_loop {f : Nat} {cs : List V} {n k : Int} (hk : 0 ≤ k ∧ k ≤ n) (hn : n ≤ 1000000) (hz : ∀ rd, frzL rd cs = some cs) (hc : ∀ i, 0 ≤ i → i < n → R f (I i :: cs) = some (B (decide (k ≤ i)))) {M : Nat} : ∀ (d : Nat) (i j : Int), 0 ≤ i → i ≤ k → k ≤ j → j ≤ n → j - i ≤ d →
    iter (evC2 R M b64_0) (d + 1) (sSe f cs i j) = some (.exit 0, { fr := [(1, .fn (.f f) cs), (5, I k), (6, I k), (11, B false)], tk := [] }) := by
  have stop : ∀ (d : Nat) (i : Int), i = k → iter (evC2 R M b64_0) (d + 1) (sSe f cs i i) = some (.exit 0, { fr := [(1, .fn (.f f) cs), (5, I k), (6, I k), (11, B false)], tk := [] }) := by
    intro d i e
    subst e
    rw [iter_succ, se_end]
  intro d
  induction d with
  | zero =>
    intro i j h0 h1 h2 h3 h4
    have e1 : i = k := by omega
    have e2 : j = i := by omega
    rw [e2]
    exact stop 0 i e1
  | succ d ih =>
    intro i j h0 h1 h2 h3 h4
    by_cases hij : i < j
    · rw [iter_succ, se_round h0 hij (by omega) hz (hc _ (by omega) (by omega))]
      by_cases hl : k ≤ (i + j) / 2
      · simp only [hl, decide_true, if_true]
        exact ih _ _ h0 h1 (by omega) (by omega) (by omega)
      · simp only [hl, decide_false, Bool.false_eq_true, if_false]
        exact ih _ _ (by omega) (by omega) h2 h3 (by omega)
    · have e1 : i = k := by omega
      have e2 : j = i := by omega
      rw [e2]
      exact stop (d + 1) i e1
theorem p64 {f : Nat} {cs : List V} {n k : Int} (hk : 0 ≤ k ∧ k ≤ n) (hn : n ≤ 1000000) (hz : ∀ rd, frzL rd cs = some cs) (hc : ∀ i, 0 ≤ i → i < n → R f (I i :: cs) = some (B (decide (k ≤ i)))) : R 64 [I n, .fn (.f f) cs] = some (I k) := by
  have L := se_loop hk hn hz hc (M := n.toNat + 1) n.toNat 0 n (by omega) (by omega) (by omega) (by omega) (by omega)
  refine run2_body (n.toNat + 1) rfl rfl rfl rfl rfl ?_
  simp (maxSteps := 2000000) (disch := first | omega | (simp; done) | (simp; omega)) [-getElem?_pos, l64, L]
/-- On how many pieces a gauge can be tried. -/
def lastE (w : Int × Int) (room : Int) : Int := if room < 0 then 0 else if w.2 = 0 then 100000 else min 100000 (1000 * room / w.2)
theorem worn_le {w : Int × Int} {p r : Int} (hw : 0 ≤ w.1 ∧ w.1 ≤ w.2 ∧ w.2 ≤ 10000) (hp : 0 ≤ p) : (G1.wornE w p).2 ≤ r ↔ w.2 * p ≤ 1000 * r := by
  have h1 : 0 ≤ w.2 * p := Int.mul_nonneg (by omega) hp
  unfold G1.wornE
  simp only
  rw [Int.tdiv_eq_ediv_of_nonneg (by omega)]
  omega
theorem last_iff {w : Int × Int} {r p : Int} (hw : 0 ≤ w.1 ∧ w.1 ≤ w.2 ∧ w.2 ≤ 10000) (hp : 0 ≤ p ∧ p ≤ 100000) (hr : 0 ≤ r) : (G1.wornE w p).2 ≤ r ↔ p ≤ lastE w r := by
  rw [worn_le hw hp.1]
  unfold lastE
  rw [if_neg (by omega)]
  by_cases hz : w.2 = 0
  · rw [if_pos hz, hz, Int.zero_mul]; omega
  · rw [if_neg hz]
    have : p ≤ 1000 * r / w.2 ↔ p * w.2 ≤ 1000 * r := Int.le_ediv_iff_mul_le (by omega)
    rw [Int.mul_comm p] at this
    omega
theorem last_bd {w : Int × Int} {r : Int} (hw : 0 ≤ w.1 ∧ w.1 ≤ w.2 ∧ w.2 ≤ 10000) : 0 ≤ lastE w r ∧ lastE w r ≤ 100000 := by
  unfold lastE
  split
  · omega
  · split
    · omega
    · have := Int.ediv_nonneg (show 0 ≤ 1000 * r by omega) (show 0 ≤ w.2 by omega)
      omega
abbrev eGa (s w : Int × Int) (limit : Int) (ring : Bool) : List V := [I s.1, I s.2, I w.1, I w.2, I limit, B ring]
theorem p65 {s w : Int × Int} {limit least p : Int} {ring : Bool} (hw : 0 ≤ w.1 ∧ w.1 ≤ w.2 ∧ w.2 ≤ 10000) (hp : 0 ≤ p ∧ p ≤ 100000) :
    R 65 [I p, .cref (eGa s w limit ring), .cref [I least]] = some (B (decide (least < (G1.wornE w p).2))) := by
  have e1 := p51 hw hp
  generalize G1.wornE w p = x at *
  simp only [eS] at e1
  refine run2_body 1 rfl rfl rfl rfl rfl ?_
  simp (maxSteps := 2000000) (disch := first | omega | (simp; done) | (simp; omega)) [-getElem?_pos, l65, e1]
theorem p34 {s w : Int × Int} {limit : Int} {ring : Bool} (h1 : bd12 s.1) (h2 : bd12 s.2) (h3 : bd12 limit) (hw : 0 ≤ w.1 ∧ w.1 ≤ w.2 ∧ w.2 ≤ 10000) :
    R 34 [.agg (eGa s w limit ring)] = some (.tup [I (lastE w (roomE ring s limit).1), B (decide (0 ≤ (roomE ring s limit).1))]) := by
  have e1 := p30 (ring := ring) (w := w) h1 h2 h3
  generalize roomE ring s limit = q at *
  have hb := last_bd (r := q.1) hw
  have e2 : R 64 [I 100001, .fn (.f 65) [.cref (eGa s w limit ring), .cref [I q.1]]] = some (I (if q.1 < 0 then 0 else lastE w q.1 + 1)) := by
    refine p64 (by split <;> omega) (by omega) (fun _ => rfl) (fun i h0 h1 => ?_)
    rw [p65 hw (by omega)]
    refine congrArg (fun b => some (V.bool b)) (decide_eq_decide.2 ?_)
    have hb := worn_bd (p := i) hw (by omega)
    split
    · omega
    · have := last_iff (r := q.1) (p := i) hw (by omega) (by omega)
      omega
  have w1 : IntKind.i64.wrap ((if q.1 < 0 then 0 else lastE w q.1 + 1) - 1) = (if q.1 < 0 then 0 else lastE w q.1 + 1) - 1 := G1.wr1 (by split <;> omega)
  have hm : (if 1 < (if q.1 < 0 then 0 else lastE w q.1 + 1) then (if q.1 < 0 then 0 else lastE w q.1 + 1) - 1 else 0) = lastE w q.1 := by
    by_cases h0 : q.1 < 0
    · rw [if_pos h0]; unfold lastE; rw [if_pos h0]; rfl
    · rw [if_neg h0]; split <;> omega
  generalize (if q.1 < 0 then 0 else lastE w q.1 + 1) = x at *
  generalize lastE w q.1 = y at *
  clear h1 h2 h3 hw hb
  refine run2_body 1 rfl rfl rfl rfl rfl ?_
  by_cases h0 : 0 ≤ q.1 <;> simp (maxSteps := 2000000) (disch := first | omega | (simp; done) | (simp; omega)) [-getElem?_pos, l34, e1, e2, w1, hm, h0]
/-- On how many pieces a gauge can be tried yet, or the error. -/
def lstE (ring : Bool) (n w : Int × Int) (ms : List (Int × Int)) (es : List Evt) (limit : Int) : Int × Int :=
  if chkE n w ms es ≠ 0 then (0, chkE n w ms es) else if 0 ≤ limit ∧ limit ≤ 10000000 then
    (if (sizeE ring n w ms es).2 ≠ 0 then (0, (sizeE ring n w ms es).2) else if 0 ≤ (roomE ring (sizeE ring n w ms es).1 limit).1 then (lastE w (roomE ring (sizeE ring n w ms es).1 limit).1, 0) else (0, 7)) else (0, 3)
theorem p16 (ring : Bool) (n w : Int × Int) {ms : List (Int × Int)} {es : List Evt} (limit : Int) (hm : ms.length ≤ 1000000) (hl : es.length ≤ 1000000) : R 16 [eR ring n w ms, S 3 (eV es), I limit] = some (.tup [I (lstE ring n w ms es limit).1, I (lstE ring n w ms es limit).2]) := by
  have e1 := p29 ring n w limit hm hl
  have hs := size_bd (ring := ring) (n := n) (w := w) (ms := ms) (es := es)
  unfold ngV at e1
  unfold lstE
  have hok : chkE n w ms es = 0 → ROk n w ms := fun h => (chkE_ok.1 h).1
  generalize chkE n w ms es = c at *
  generalize sizeE ring n w ms es = s at *
  by_cases hc : c = 0
  · have hw := (hok hc).w
    subst hc
    simp only [ne_eq, not_true_eq_false, if_false] at e1 ⊢
    by_cases hk : 0 ≤ limit ∧ limit ≤ 10000000
    · rw [if_pos hk] at e1 ⊢
      have e2 := p34 (ring := ring) (s := s.1) (w := w) (limit := limit) hs.1 hs.2 (by unfold bd12; omega) hw
      generalize roomE ring s.1 limit = q at *
      generalize lastE w q.1 = y at *
      simp only [eGa] at e2
      clear hs hok hw
      refine run2_body 1 rfl rfl rfl rfl rfl ?_
      by_cases h0 : s.2 = 0
      · by_cases h5 : 0 ≤ q.1 <;> simp (maxSteps := 2000000) (disch := first | omega | (simp; done) | (simp; omega)) [-getElem?_pos, l16, e1, e2, h0, h5]
      · simp (maxSteps := 2000000) (disch := first | omega | (simp; done) | (simp; omega)) [-getElem?_pos, l16, e1, h0]
    · rw [if_neg hk] at e1 ⊢
      refine run2_body 1 rfl rfl rfl rfl rfl ?_
      simp (maxSteps := 2000000) (disch := first | omega | (simp; done) | (simp; omega)) [-getElem?_pos, l16, e1]
  · rw [if_pos hc] at e1 ⊢
    refine run2_body 1 rfl rfl rfl rfl rfl ?_
    simp (maxSteps := 2000000) (disch := first | omega | (simp; done) | (simp; omega)) [-getElem?_pos, l16, e1, hc]
end Go.Lo

/- An integer of a span. -/
namespace Go.Lo
open Go.Proofs
set_option linter.unusedSimpArgs false
theorem p18 {s : Int × Int} {n : Int} (hs : 0 ≤ s.1 ∧ s.1 ≤ s.2 ∧ s.2 ≤ 100000000) (hn : 0 ≤ n ∧ n ≤ 100000) : R 18 [eS s, I n] = some (I (s.1 + n % (s.2 - s.1 + 1))) := by
  have h1 := Int.emod_nonneg n (show s.2 - s.1 + 1 ≠ 0 by omega)
  have h2 := Int.emod_lt_of_pos n (show 0 < s.2 - s.1 + 1 by omega)
  have h3 : n.tmod (s.2 - s.1 + 1) = n % (s.2 - s.1 + 1) := Int.tmod_eq_emod_of_nonneg hn.1
  have w1 : IntKind.i64.wrap (s.2 - s.1) = s.2 - s.1 := G1.wr1 (by omega)
  have w2 : IntKind.i64.wrap (s.2 - s.1 + 1) = s.2 - s.1 + 1 := G1.wr1 (by omega)
  have w3 : IntKind.i64.wrap (n % (s.2 - s.1 + 1)) = n % (s.2 - s.1 + 1) := G1.wr1 (by omega)
  have w4 : IntKind.i64.wrap (s.1 + n % (s.2 - s.1 + 1)) = s.1 + n % (s.2 - s.1 + 1) := G1.wr1 (by omega)
  have h0 : ¬ s.2 - s.1 + 1 = 0 := by omega
  generalize n % (s.2 - s.1 + 1) = r at *
  clear h1 h2 hs hn
  refine run2_body 1 rfl rfl rfl rfl rfl ?_
  simp (maxSteps := 2000000) (disch := first | omega | (simp; done) | (simp; omega)) [-getElem?_pos, l18, w1, w2, w3, w4, h3, h0]
end Go.Lo

/- Turns of standards' screws and nuts, by the program. -/
namespace Go.Lo
open Go.Proofs
set_option linter.unusedSimpArgs false
set_option maxHeartbeats 8000000
theorem maxL2 {a b : Int} : maxL a [b] = max a b := by simp only [maxL]; split <;> omega
theorem minL2 {a b : Int} : minL a [b] = min a b := by simp only [minL]; split <;> omega
def dOk (d : Int × Int) : Bool := decide (-200000 ≤ d.1 ∧ d.1 ≤ d.2 ∧ d.2 ≤ 200000)
/-- A height is one of those at which flanks can touch. -/
structure DOk (d : Int × Int) : Prop where
  lo : -200000 ≤ d.1
  le : d.1 ≤ d.2
  hi : d.2 ≤ 200000
theorem dOk_iff {d : Int × Int} : dOk d = true ↔ DOk d := by
  unfold dOk
  rw [decide_eq_true_eq]
  exact ⟨fun h => ⟨h.1, h.2.1, h.2.2⟩, fun h => ⟨h.1, h.2, h.3⟩⟩
theorem p68 (x lo hi : Int) : R 68 [I x, .cref [I lo], .cref [I hi]] = some (B (decide (x < lo) || decide (x > hi))) := by
  refine run2_body 1 rfl rfl rfl rfl rfl ?_
  by_cases h : x < lo <;> simp [l68, h]
theorem p36 (lo hi : Int) {xs : List Int} (hl : xs.length < 4611686018427387904) : R 36 [I lo, I hi, S 1 (eI xs)] = some (B (xs.all fun x => decide (lo ≤ x ∧ x ≤ hi))) := by
  have h := p67 (g := 68) (caps := [.cref [I lo], .cref [I hi]]) (pr := fun x => decide (x < lo) || decide (x > hi)) (E := fun x => [I x]) (W := fun x => I x) (xs := xs) (fun _ => rfl) (fun _ _ => ⟨rfl, fun _ => rfl, fun _ => rfl⟩) (fun x _ => p68 x lo hi) hl
  refine run2_body 1 rfl rfl rfl rfl rfl ?_
  have e : (xs.all fun x => decide (lo ≤ x ∧ x ≤ hi)) = !(xs.any fun x => decide (x < lo) || decide (x > hi)) := by
    rw [List.not_any_eq_all_not]
    congr 1
    funext x
    by_cases h1 : x < lo <;> by_cases h2 : x > hi <;> simp [h1, h2] <;> omega
  rw [e]
  simp [l36, h]

theorem p36_2 (lo hi x y : Int) : R 36 [I lo, I hi, S 1 [[I x], [I y]]] = some (B (decide ((lo ≤ x ∧ x ≤ hi) ∧ (lo ≤ y ∧ y ≤ hi)))) := by
  have := p36 lo hi (xs := [x, y]) (by simp)
  simpa using this
theorem p69 (s : Int × Int) (lo hi : Int) : R 69 [eS s, I lo, I hi] = some (B (decide (lo ≤ s.1 ∧ s.1 ≤ s.2 ∧ s.2 ≤ hi))) := by
  have e1 := p36_2 lo hi s.1 s.2
  refine run2_body 1 rfl rfl rfl rfl rfl ?_
  rw [show decide (lo ≤ s.1 ∧ s.1 ≤ s.2 ∧ s.2 ≤ hi) = (decide ((lo ≤ s.1 ∧ s.1 ≤ hi) ∧ (lo ≤ s.2 ∧ s.2 ≤ hi)) && decide (s.1 ≤ s.2)) from by rw [Bool.eq_iff_iff]; simp; omega]
  generalize decide ((lo ≤ s.1 ∧ s.1 ≤ hi) ∧ (lo ≤ s.2 ∧ s.2 ≤ hi)) = q at *
  cases q <;> by_cases h : s.1 ≤ s.2 <;> simp (maxSteps := 2000000) (disch := first | omega | (simp; done) | (simp; omega)) [-getElem?_pos, l69, e1, h]
theorem p37 (d : Int × Int) : R 37 [eS d] = some (B (dOk d)) := by
  have e1 := p69 d (-200000) 200000
  rw [show decide (-200000 ≤ d.1 ∧ d.1 ≤ d.2 ∧ d.2 ≤ 200000) = dOk d from rfl] at e1
  generalize dOk d = q at *
  refine run2_body 1 rfl rfl rfl rfl rfl ?_
  simp (maxSteps := 2000000) (disch := first | omega | (simp; done) | (simp; omega)) [-getElem?_pos, l37, e1]
abbrev eP (f : Frm) (c : Int) : List V := eF f ++ [I c]
def pcL (f : Frm) (c y : Int) : Int := 4 * (y - c) * f.left - 1000 * f.pitch
def pcR (f : Frm) (c y : Int) : Int := 1000 * f.pitch - 4 * (y - c) * f.right
theorem pc_bd {f : Frm} (hf : FNum f) {c y : Int} (hc : -10000 ≤ c ∧ c ≤ 10000) (hy : -200000 ≤ y ∧ y ≤ 200000) : ((-2520000000 ≤ 4 * (y - c) * f.left ∧ 4 * (y - c) * f.left ≤ 2520000000) ∧ (-2520000000 ≤ 4 * (y - c) * f.right ∧ 4 * (y - c) * f.right ≤ 2520000000)) ∧ (-3000000000 ≤ pcL f c y ∧ pcL f c y ≤ 3000000000) ∧ (-3000000000 ≤ pcR f c y ∧ pcR f c y ≤ 3000000000) := by
  have h1 := hf.pitch
  have h2 := hf.left
  have h3 := hf.right
  have m1 := abs_mul (a := 4 * (y - c)) (b := f.left) (A := 840000) (C := 3000) (by omega) (by omega)
  have m2 := abs_mul (a := 4 * (y - c)) (b := f.right) (A := 840000) (C := 3000) (by omega) (by omega)
  unfold pcL pcR
  omega
theorem p93 {f : Frm} (hf : FNum f) {c y : Int} (hc : -10000 ≤ c ∧ c ≤ 10000) (hy : -200000 ≤ y ∧ y ≤ 200000) : R 93 [.agg (eP f c), I y] = some (I (pcL f c y)) := by
  have hb := pc_bd hf hc hy
  have h1 := hf.pitch
  unfold pcL at hb ⊢
  have w := wrap64 (n := 4 * (y - c) * f.left) (by omega) (by omega)
  generalize hz : 4 * (y - c) * f.left = z at *
  refine run2_body 1 rfl rfl rfl rfl rfl ?_
  simp (maxSteps := 2000000) (disch := first | omega | (simp; done) | (simp; omega)) [-getElem?_pos, l93, eP, eF, hz, w, wrap64]
theorem p94 {f : Frm} (hf : FNum f) {c y : Int} (hc : -10000 ≤ c ∧ c ≤ 10000) (hy : -200000 ≤ y ∧ y ≤ 200000) : R 94 [.agg (eP f c), I y] = some (I (pcR f c y)) := by
  have hb := pc_bd hf hc hy
  have h1 := hf.pitch
  unfold pcR at hb ⊢
  have w := wrap64 (n := 4 * (y - c) * f.right) (by omega) (by omega)
  generalize hz : 4 * (y - c) * f.right = z at *
  refine run2_body 1 rfl rfl rfl rfl rfl ?_
  simp (maxSteps := 2000000) (disch := first | omega | (simp; done) | (simp; omega)) [-getElem?_pos, l94, eP, eF, hz, w, wrap64]
def plV (f : Frm) (c : Int) (g : Frm) (e : Int) (d : Int × Int) : Int :=
  min (pcR g e d.1 - pcR f c d.1) (pcR g e d.2 - pcR f c d.2) - max (pcL g e d.1 - pcL f c d.1) (pcL g e d.2 - pcL f c d.2)
theorem p70 {f g : Frm} (hf : FNum f) (hg : FNum g) {c e : Int} (hc : -10000 ≤ c ∧ c ≤ 10000) (he : -10000 ≤ e ∧ e ≤ 10000) {d : Int × Int} (hd : DOk d) :
    R 70 [.agg (eP f c), .agg (eP g e), eS d] = some (I (plV f c g e d)) ∧ (-12000000000 ≤ plV f c g e d ∧ plV f c g e d ≤ 12000000000) := by
  obtain ⟨d1, d2, d3⟩ := hd
  have b1 := pc_bd hf hc (y := d.1) (by omega)
  have b2 := pc_bd hf hc (y := d.2) (by omega)
  have b3 := pc_bd hg he (y := d.1) (by omega)
  have b4 := pc_bd hg he (y := d.2) (by omega)
  have l1 := p93 hf hc (y := d.1) (by omega)
  have l2 := p93 hf hc (y := d.2) (by omega)
  have l3 := p93 hg he (y := d.1) (by omega)
  have l4 := p93 hg he (y := d.2) (by omega)
  have r1 := p94 hf hc (y := d.1) (by omega)
  have r2 := p94 hf hc (y := d.2) (by omega)
  have r3 := p94 hg he (y := d.1) (by omega)
  have r4 := p94 hg he (y := d.2) (by omega)
  unfold plV
  generalize pcL f c d.1 = x1 at *
  generalize pcL f c d.2 = x2 at *
  generalize pcL g e d.1 = x3 at *
  generalize pcL g e d.2 = x4 at *
  generalize pcR f c d.1 = y1 at *
  generalize pcR f c d.2 = y2 at *
  generalize pcR g e d.1 = y3 at *
  generalize pcR g e d.2 = y4 at *
  refine ⟨?_, by omega⟩
  simp only [eP, eF, List.cons_append, List.nil_append] at l1 l2 l3 l4 r1 r2 r3 r4 ⊢
  refine run2_body 1 rfl rfl rfl rfl rfl ?_
  simp (maxSteps := 2000000) (disch := first | omega | (simp; done) | (simp; omega)) [-getElem?_pos, -maxL, -minL, maxL2, minL2, l70, l1, l2, l3, l4, r1, r2, r3, r4, wrap64]
def agB (f g : Frm) : Bool := decide (f.starts = g.starts) && decide (f.hand = g.hand) && decide (f.taper = g.taper)
theorem p71 (f g : Frm) (c e : Int) : R 71 [.agg (eP f c), .agg (eP g e)] = some (B (agB f g)) := by
  unfold agB
  simp only [eP, eF, List.cons_append, List.nil_append]
  refine run2_body 1 rfl rfl rfl rfl rfl ?_
  by_cases h1 : f.starts = g.starts
  · by_cases h2 : f.hand = g.hand
    · by_cases h3 : f.taper = g.taper <;> simp (maxSteps := 2000000) (disch := first | omega | (simp; done) | (simp; omega)) [-getElem?_pos, l71, h1, h2, h3]
    · have h2' : (f.hand == g.hand) = false := by simpa using h2
      simp (maxSteps := 2000000) (disch := first | omega | (simp; done) | (simp; omega)) [-getElem?_pos, l71, h1, h2, h2']
  · simp (maxSteps := 2000000) (disch := first | omega | (simp; done) | (simp; omega)) [-getElem?_pos, l71, h1]
def swV (f : Frm) (c : Int) (g : Frm) (e : Int) (d : Int × Int) : Int :=
  if agB f g = false ∨ plV f c g e d < 0 then 0 else if f.pitch = g.pitch then 100 else min 100 (1 + plV f c g e d / max (4000 * (g.pitch - f.pitch)) (-(4000 * (g.pitch - f.pitch))))
theorem p38 {f g : Frm} (hf : FNum f) (hg : FNum g) {c e : Int} (hc : -10000 ≤ c ∧ c ≤ 10000) (he : -10000 ≤ e ∧ e ≤ 10000) {d : Int × Int} (hd : DOk d) : R 38 [.agg (eP f c), .agg (eP g e), eS d] = some (I (swV f c g e d)) := by
  obtain ⟨e1, hb⟩ := p70 hf hg hc he hd
  have e2 := p71 f g c e
  have h1 := hf.pitch
  have h2 := hg.pitch
  unfold swV
  generalize plV f c g e d = p at *
  generalize agB f g = a at *
  have hq : ¬ p < 0 → ¬ f.pitch = g.pitch → p.tdiv (max (4000 * (g.pitch - f.pitch)) (-(4000 * (g.pitch - f.pitch)))) = p / max (4000 * (g.pitch - f.pitch)) (-(4000 * (g.pitch - f.pitch))) := fun h _ => Int.tdiv_eq_ediv_of_nonneg (by omega)
  have hq2 : ¬ p < 0 → ¬ f.pitch = g.pitch → 0 ≤ p / max (4000 * (g.pitch - f.pitch)) (-(4000 * (g.pitch - f.pitch))) ∧ p / max (4000 * (g.pitch - f.pitch)) (-(4000 * (g.pitch - f.pitch))) ≤ p := fun h _ => ⟨Int.ediv_nonneg (by omega) (by omega), Int.ediv_le_self _ (by omega)⟩
  have w1 := wrap64 (n := g.pitch - f.pitch) (by omega) (by omega)
  have w2 := wrap64 (n := 4000 * (g.pitch - f.pitch)) (by omega) (by omega)
  have w3 := wrap64 (n := -(4000 * (g.pitch - f.pitch))) (by omega) (by omega)
  have hz : max (4000 * (g.pitch - f.pitch)) (-(4000 * (g.pitch - f.pitch))) = 0 ↔ f.pitch = g.pitch := by omega
  generalize hdr : max (4000 * (g.pitch - f.pitch)) (-(4000 * (g.pitch - f.pitch))) = dr at *
  simp only [eP, eF, List.cons_append, List.nil_append] at e1 e2 ⊢
  refine run2_body 1 rfl rfl rfl rfl rfl ?_
  cases a
  · simp (maxSteps := 2000000) (disch := first | omega | (simp; done) | (simp; omega)) [-getElem?_pos, -maxL, -minL, maxL2, minL2, l38, e1, e2, w1, w2, w3, hdr]
  · by_cases c1 : p < 0
    · simp (maxSteps := 2000000) (disch := first | omega | (simp; done) | (simp; omega)) [-getElem?_pos, -maxL, -minL, maxL2, minL2, l38, e1, e2, w1, w2, w3, hdr, c1]
    · by_cases c2 : f.pitch = g.pitch
      · have c3 := hz.2 c2
        simp only [c1, if_pos c2, if_false, Bool.true_eq_false, false_or]
        clear c2
        simp (maxSteps := 2000000) (disch := first | omega | (simp; done) | (simp; omega)) [-getElem?_pos, -maxL, -minL, maxL2, minL2, l38, e1, e2, w1, w2, w3, hdr, c1, c3]
      · have c3 : ¬ dr = 0 := fun h => c2 (hz.1 h)
        have hq := hq c1 c2
        have hq2 := hq2 c1 c2
        generalize p / dr = q at *
        have w4 := wrap64 (n := q) (by omega) (by omega)
        have w5 := wrap64 (n := 1 + q) (by omega) (by omega)
        simp (maxSteps := 2000000) (disch := first | omega | (simp; done) | (simp; omega)) [-getElem?_pos, -maxL, -minL, maxL2, minL2, l38, e1, e2, w1, w2, w3, w4, w5, hdr, c1, c2, c3, hq]
def swE (f : Frm) (c : Int) (g : Frm) (e : Int) (d : Int × Int) : Int × Int :=
  if frmB f = false ∨ frmB g = false then (0, 2) else if ¬ ((-10000 ≤ c ∧ c ≤ 10000) ∧ (-10000 ≤ e ∧ e ≤ 10000)) ∨ dOk d = false then (0, 3) else (swV f c g e d, 0)
theorem p17 (f : Frm) (c : Int) (g : Frm) (e : Int) (d : Int × Int) : R 17 [.agg (eF f), .agg (eF g), I c, I e, eS d] = some (.tup [I (swE f c g e d).1, I (swE f c g e d).2]) := by
  have e1 := p35 f
  have e2 := p35 g
  have e3 := p36_2 (-10000) 10000 c e
  have e4 := p37 d
  unfold swE
  by_cases c1 : frmB f = true
  · by_cases c2 : frmB g = true
    · have hf : FNum f := frmN_num (by unfold frmB at c1; simp only [Bool.and_eq_true] at c1; exact c1.1)
      have hg : FNum g := frmN_num (by unfold frmB at c2; simp only [Bool.and_eq_true] at c2; exact c2.1)
      simp only [c1, c2, if_true] at e1 e2
      rw [if_neg (by simp [c1, c2])]
      by_cases c3 : (-10000 ≤ c ∧ c ≤ 10000) ∧ (-10000 ≤ e ∧ e ≤ 10000)
      · simp only [c3, and_self, decide_true] at e3
        by_cases c4 : dOk d = true
        · rw [if_neg (by simp [c3, c4])]
          have e5 := p38 hf hg c3.1 c3.2 (dOk_iff.1 c4)
          rw [c4] at e4
          generalize swV f c g e d = z at *
          simp only [eP, eF, List.cons_append, List.nil_append] at e1 e2 e5 ⊢
          refine run2_body 1 rfl rfl rfl rfl rfl ?_
          simp (maxSteps := 2000000) (disch := first | omega | (simp; done) | (simp; omega)) [-getElem?_pos, l17, e1, e2, e3, e4, e5]
        · rw [if_pos (.inr (by simpa using c4))]
          have c4 : dOk d = false := by simpa using c4
          rw [c4] at e4
          simp only [eF] at e1 e2 ⊢
          refine run2_body 1 rfl rfl rfl rfl rfl ?_
          simp (maxSteps := 2000000) (disch := first | omega | (simp; done) | (simp; omega)) [-getElem?_pos, l17, e1, e2, e3, e4]
      · rw [if_pos (.inl c3)]
        simp only [c3, decide_false] at e3
        simp only [eF] at e1 e2 ⊢
        refine run2_body 1 rfl rfl rfl rfl rfl ?_
        simp (maxSteps := 2000000) (disch := first | omega | (simp; done) | (simp; omega)) [-getElem?_pos, l17, e1, e2, e3]
    · rw [if_pos (.inr (by simpa using c2))]
      simp only [c1, c2, if_true, if_false] at e1 e2
      simp only [eF] at e1 e2 ⊢
      refine run2_body 1 rfl rfl rfl rfl rfl ?_
      simp (maxSteps := 2000000) (disch := first | omega | (simp; done) | (simp; omega)) [-getElem?_pos, l17, e1, e2]
  · rw [if_pos (.inl (by simpa using c1))]
    simp only [c1, if_false] at e1
    simp only [eF] at e1 ⊢
    refine run2_body 1 rfl rfl rfl rfl rfl ?_
    simp (maxSteps := 2000000) (disch := first | omega | (simp; done) | (simp; omega)) [-getElem?_pos, l17, e1]

end Go.Lo

/- The examples of chapters 2 and 4. -/
namespace Go.Lo
open Go.Proofs
set_option linter.unusedSimpArgs false
set_option maxRecDepth 100000
theorem p10 : R 10 [] = some (B true) := run2_of (n := 60) (by kernel_rfl)
end Go.Lo

/- The examples of chapter 8. -/
namespace Go.Lo
open Go.Proofs
set_option linter.unusedSimpArgs false
set_option maxRecDepth 100000
theorem p19 : R 19 [] = some (B true) := run2_of (n := 60) (by kernel_rfl)
end Go.Lo

/- The law: a ring for a standard. -/
namespace Go.Lo
open Go.Proofs
set_option linter.unusedSimpArgs false
set_option maxHeartbeats 8000000
set_option maxRecDepth 20000
theorem size_new {ring : Bool} {n w : Int × Int} (hr : ROk n w []) : chkE n w [] [] = 0 ∧ sizeE ring n w [] [] = (n, 0) := by
  have hc : chkE n w [] [] = 0 := chkE_ok.2 ⟨hr, by simp, fun x hx => by cases hx⟩
  have hn := hr.n
  refine ⟨hc, ?_⟩
  unfold sizeE
  rw [if_pos hc]
  have hT : G1.newT ring n w [] [] = ([(1, 0, (G1.tn ring n).2), (0, 1, -(G1.tn ring n).1)], 1) := by simp [G1.newT, G1.msT]
  rw [hT]
  have ht : -100000000 ≤ (G1.tn ring n).1 ∧ (G1.tn ring n).1 ≤ (G1.tn ring n).2 ∧ (G1.tn ring n).2 ≤ 100000000 := by
    unfold G1.tn; cases ring <;> simp <;> omega
  have m1 : ∀ l h : Int, -100000000 ≤ l ∧ l ≤ h ∧ h ≤ 100000000 → mostE [(1, 0, h), (0, 1, -l)] 3 (l0E 2) = ([0, h], true) := by
    intro l h h1
    have r1 : rndE [(1, 0, h), (0, 1, -l)] [0, 1099511627776] = ([0, h], true) := by
      unfold rndE
      simp only [List.foldl_cons, List.foldl_nil]
      rw [hit (x := (1, 0, h)) (by simp; omega)]
      simp
      rw [miss (x := (0, 1, -l)) (by simp; omega)]
    have r2 : rndE [(1, 0, h), (0, 1, -l)] [0, h] = ([0, h], false) := by
      unfold rndE
      simp only [List.foldl_cons, List.foldl_nil]
      rw [miss (x := (1, 0, h)) (by simp), miss (x := (0, 1, -l)) (by simp; omega)]
    rw [show l0E 2 = [0, 1099511627776] from rfl]
    unfold mostE
    rw [r1]
    simp only [if_true]
    unfold mostE
    rw [r2]
    simp
  have m2 : ∀ l h : Int, -100000000 ≤ l ∧ l ≤ h ∧ h ≤ 100000000 → mostE [(0, 1, h), (1, 0, -l)] 3 (l0E 2) = ([0, -l], true) := by
    intro l h h1
    have r1 : rndE [(0, 1, h), (1, 0, -l)] [0, 1099511627776] = ([0, -l], true) := by
      unfold rndE
      simp only [List.foldl_cons, List.foldl_nil]
      rw [miss (x := (0, 1, h)) (by simp), hit (x := (1, 0, -l)) (by simp; omega)]
      simp
    have r2 : rndE [(0, 1, h), (1, 0, -l)] [0, -l] = ([0, -l], false) := by
      unfold rndE
      simp only [List.foldl_cons, List.foldl_nil]
      rw [miss (x := (0, 1, h)) (by simp; omega), miss (x := (1, 0, -l)) (by simp)]
    rw [show l0E 2 = [0, 1099511627776] from rfl]
    unfold mostE
    rw [r1]
    simp only [if_true]
    unfold mostE
    rw [r2]
    simp
  unfold spanE
  simp only [oppE, List.map_cons, List.map_nil]
  rw [show (1 + 1 : Int).toNat + 1 = 3 from rfl, show (1 + 1 : Int).toNat = 2 from rfl, m1 _ _ ht, m2 _ _ ht]
  unfold G1.tn
  cases ring <;> simp
abbrev U (n : Int) : V := .int .u8 n
abbrev u8r (n : Int) : Prop := 0 ≤ n ∧ n ≤ 255
def dpD (a b : Int) : Int × Int := (8 * a - 1200, 8 * a - 1200 + 8 * b)
theorem dpD_ok {a b : Int} (ha : u8r a) (hb : u8r b) : DOk (dpD a b) := by
  refine ⟨?_, ?_, ?_⟩ <;> simp only [dpD] <;> omega
theorem p15 {a b : Int} (ha : u8r a) (hb : u8r b) : R 15 [.agg [U a, U b]] = some (eS (dpD a b)) := by
  have e1 := p7 (8 * a - 1200) (8 * a - 1200 + 8 * b)
  have w0 := wrap64 (n := a) (by omega) (by omega)
  have w1 := wrap64 (n := b) (by omega) (by omega)
  unfold dpD
  refine run2_body 1 rfl rfl rfl rfl rfl ?_
  simp (maxSteps := 2000000) (disch := first | omega | (simp; done) | (simp; omega)) [-getElem?_pos, l15, e1, w0, w1, wrap64]
def pubF (v0 v1 v2 v3 : Int) : Frm := { pitch := 9000 + 4 * v0, left := 400 + v1, right := 400 + v2, above := 1 + 5 * v3, below := 5 * v3, starts := 1, hand := false, taper := 0 }
theorem p14 {v0 v1 v2 v3 : Int} (h0 : u8r v0) (h1 : u8r v1) (h2 : u8r v2) (h3 : u8r v3) : R 14 [.agg [U v0, U v1, U v2, U v3]] = some (.agg (eF (pubF v0 v1 v2 v3))) := by
  have c0 := wrap64 (n := v0) (by omega) (by omega)
  have c1 := wrap64 (n := v1) (by omega) (by omega)
  have c2 := wrap64 (n := v2) (by omega) (by omega)
  have c3 := wrap64 (n := v3) (by omega) (by omega)
  unfold pubF
  refine run2_body 1 rfl rfl rfl rfl rfl ?_
  simp (maxSteps := 2000000) (disch := first | omega | (simp; done) | (simp; omega)) [-getElem?_pos, l14, eF, c0, c1, c2, c3, wrap64]
theorem pubF_ok {v0 v1 v2 v3 : Int} (h0 : u8r v0) (h1 : u8r v1) (h2 : u8r v2) (h3 : u8r v3) : frmB (pubF v0 v1 v2 v3) = true := by
  have m1 := Int.mul_le_mul_of_nonneg_right (show 2 * (1 + 5 * v3) ≤ 2552 by omega) (show 0 ≤ 400 + v1 + (400 + v2) by omega)
  have m2 := Int.mul_le_mul_of_nonneg_right (show 2 * (5 * v3) ≤ 2552 by omega) (show 0 ≤ 400 + v1 + (400 + v2) by omega)
  simp only [frmB, frmN, wid, pubF, Bool.and_eq_true]
  refine ⟨decide_eq_true ?_, decide_eq_true ?_⟩ <;> omega
/-- Turns of one form: all or none. -/
theorem sw_same {f : Frm} (hf : frmB f = true) (hl : 0 < f.left + f.right) {c e : Int} (hc : -10000 ≤ c ∧ c ≤ 10000) (he : -10000 ≤ e ∧ e ≤ 10000) {d : Int × Int} (hd : DOk d) : swE f c f e d = (if c ≤ e then 100 else 0, 0) := by
  have hp : ∀ y, pcR f e y - pcR f c y = 4 * ((e - c) * f.right) * -1 * -1 := fun y => by
    unfold pcR
    rw [show 4 * (y - e) * f.right = 4 * (y * f.right) - 4 * (e * f.right) by rw [Int.mul_assoc, Int.sub_mul]; omega, show 4 * (y - c) * f.right = 4 * (y * f.right) - 4 * (c * f.right) by rw [Int.mul_assoc, Int.sub_mul]; omega, Int.sub_mul]
    omega
  have hq : ∀ y, pcL f e y - pcL f c y = -(4 * ((e - c) * f.left)) := fun y => by
    unfold pcL
    rw [show 4 * (y - e) * f.left = 4 * (y * f.left) - 4 * (e * f.left) by rw [Int.mul_assoc, Int.sub_mul]; omega, show 4 * (y - c) * f.left = 4 * (y * f.left) - 4 * (c * f.left) by rw [Int.mul_assoc, Int.sub_mul]; omega, Int.sub_mul]
    omega
  have hv : plV f c f e d = 4 * ((e - c) * (f.left + f.right)) := by
    unfold plV
    rw [hp, hp, hq, hq, Int.mul_add]
    omega
  have ha : agB f f = true := by simp [agB]
  have hs : (e - c) * (f.left + f.right) < 0 ↔ ¬ c ≤ e := by
    constructor
    · intro h hle
      have := Int.mul_nonneg (show 0 ≤ e - c by omega) (Int.le_of_lt hl)
      omega
    · intro h
      exact Int.mul_neg_of_neg_of_pos (by omega) hl
  unfold swE swV
  rw [if_neg (by simp [hf]), if_neg (by rw [dOk_iff.2 hd]; simp; omega), hv, ha]
  by_cases h : c ≤ e
  · have h1 : ¬ (e - c) * (f.left + f.right) < 0 := fun x => hs.1 x h
    rw [if_pos h, if_neg (by simp; omega), if_pos rfl]
  · have h1 := hs.2 h
    rw [if_neg h, if_pos (.inr (by omega))]
theorem p4 {v0 v1 v2 v3 s0 s1 s2 d0 d1 : Int} (h0 : u8r v0) (h1 : u8r v1) (h2 : u8r v2) (h3 : u8r v3) (k0 : u8r s0) (k1 : u8r s1) (k2 : u8r s2) (g0 : u8r d0) (g1 : u8r d1) :
    R 4 [.agg [U v0, U v1, U v2, U v3], .agg [U s0, U s1, U s2], .agg [U d0, U d1]] = some (B true) := by
  have c0 := wrap64 (n := v0) (by omega) (by omega)
  have c1 := wrap64 (n := v1) (by omega) (by omega)
  have c2 := wrap64 (n := v2) (by omega) (by omega)
  have c3 := wrap64 (n := s0) (by omega) (by omega)
  have c4 := wrap64 (n := s1) (by omega) (by omega)
  have c5 := wrap64 (n := s2) (by omega) (by omega)
  have hd := dpD_ok g0 g1
  have hf := pubF_ok h0 h1 h2 h3
  have hl : 0 < (pubF v0 v1 v2 v3).left + (pubF v0 v1 v2 v3).right := by simp only [pubF]; omega
  have e1 := p14 h0 h1 h2 h3
  have e2 := p15 g0 g1
  generalize pubF v0 v1 v2 v3 = f at *
  generalize dpD d0 d1 = d at *
  have b0 := tmodB h0.1 (show (0 : Int) < 20 by decide)
  have b1 := tmodB h1.1 (show (0 : Int) < 9 by decide)
  have b2 := tmodB h1.1 (show (0 : Int) < 50 by decide)
  have b3 := tmodB k1.1 (show (0 : Int) < 30 by decide)
  generalize t0 : v0.tmod 20 = x0 at *
  generalize t1 : v1.tmod 9 = x1 at *
  generalize t2 : v1.tmod 50 = x2 at *
  generalize t3 : s1.tmod 30 = x3 at *
  have hw : 0 ≤ 1 + x1 ∧ 1 + x1 ≤ 10 + x2 ∧ 10 + x2 ≤ 10000 := by omega
  have hr : ROk (5000 + s0 - 40, 5000 + s0 - 40 + x0) (1 + x1, 10 + x2) [] := ⟨by simp only; omega, hw, by decide, fun s hs => by cases hs⟩
  obtain ⟨q1, q2⟩ := size_new (ring := true) hr
  have e3 := p16 true (5000 + s0 - 40, 5000 + s0 - 40 + x0) (1 + x1, 10 + x2) (ms := []) (es := []) (5000 + s0) (by simp) (by simp)
  unfold lstE at e3
  rw [q1, q2] at e3
  have hlb := last_bd (w := (1 + x1, 10 + x2)) (r := 40 - x0) hw
  have hN1 := (last_iff (w := (1 + x1, 10 + x2)) (r := 40 - x0) (p := 1) hw (by omega) (by omega)).1 ((worn_le hw (by omega)).2 (by simp only; omega))
  have hN2 : lastE (1 + x1, 10 + x2) (40 - x0) < 100000 := by
    rcases Int.lt_or_le (lastE (1 + x1, 10 + x2) (40 - x0)) 100000 with h | h
    · exact h
    · have h5 := (last_iff (w := (1 + x1, 10 + x2)) (r := 40 - x0) (p := 100000) hw (by omega) (by omega)).2 h
      have h6 := (worn_le hw (by omega)).1 h5
      simp only at h6
      omega
  have hW0 := (last_iff (w := (1 + x1, 10 + x2)) (r := 40 - x0) (p := lastE (1 + x1, 10 + x2) (40 - x0)) hw (by omega) (by omega)).2 (Int.le_refl _)
  have hW1 : ¬ (G1.wornE (1 + x1, 10 + x2) (lastE (1 + x1, 10 + x2) (40 - x0) + 1)).2 ≤ 40 - x0 := fun h => by
    have := (last_iff (w := (1 + x1, 10 + x2)) (r := 40 - x0) hw (by omega) (by omega)).1 h
    omega
  have hW2 : (G1.wornE (1 + x1, 10 + x2) (lastE (1 + x1, 10 + x2) (40 - x0) + 1)).2 ≤ 40 - x0 + 1 := by
    refine (worn_le hw (by omega)).2 ?_
    have := (worn_le hw (by omega)).1 hW0
    rw [Int.mul_add]
    simp only at this ⊢
    omega
  simp only [roomE, if_true, ne_eq, not_true_eq_false, if_false, eR, eS2, eV, List.map_nil] at e3
  rw [if_pos (show 0 ≤ 5000 + s0 ∧ 5000 + s0 ≤ 10000000 by omega), if_pos (show 0 ≤ 5000 + s0 - (5000 + s0 - 40 + x0) by omega), show 5000 + s0 - (5000 + s0 - 40 + x0) = 40 - x0 by omega] at e3
  generalize lastE (1 + x1, 10 + x2) (40 - x0) = N at *
  simp only at e3
  obtain ⟨_, z0⟩ := size_one (ring := true) (p := N) hr (by omega)
  obtain ⟨_, z1⟩ := size_one (ring := true) (p := N + 1) hr (by omega)
  have wb0 := worn_bd (w := (1 + x1, 10 + x2)) (p := N) hw (by omega)
  have wb1 := worn_bd (w := (1 + x1, 10 + x2)) (p := N + 1) hw (by omega)
  have s1' := p13 true (5000 + s0 - 40, 5000 + s0 - 40 + x0) (1 + x1, 10 + x2) (ms := []) (es := [(N, -1, false)]) (by simp) (by simp)
  have s2' := p13 true (5000 + s0 - 40, 5000 + s0 - 40 + x0) (1 + x1, 10 + x2) (ms := []) (es := [(N + 1, -1, false)]) (by simp) (by simp)
  rw [z0] at s1'
  rw [z1] at s2'
  generalize G1.wornE (1 + x1, 10 + x2) N = W0 at *
  generalize G1.wornE (1 + x1, 10 + x2) (N + 1) = W1 at *
  simp only [if_true, eR, eS2, eV, List.map_cons, List.map_nil, eS] at s1' s2'
  generalize hA0 : 5000 + s0 - 40 + W0.1 = A0 at *
  generalize hA1 : 5000 + s0 - 40 + W1.1 = A1 at *
  generalize hB0 : 5000 + s0 - 40 + x0 + W0.2 = B0 at *
  generalize hB1 : 5000 + s0 - 40 + x0 + W1.2 = B1 at *
  have e4 := p18 (s := (s0, s0 + x3)) (n := v2) (by simp only; omega) (by omega)
  simp only at e4
  have hi1 := Int.emod_nonneg v2 (show s0 + x3 - s0 + 1 ≠ 0 by omega)
  have hi2 := Int.emod_lt_of_pos v2 (show 0 < s0 + x3 - s0 + 1 by omega)
  generalize v2 % (s0 + x3 - s0 + 1) = D at *
  have T0 := p17 f (B0 - 5000) f s0 d
  have T1 := p17 f (B0 - 5000 - s2) f (s0 + D) d
  have T2 := p17 f (B1 - 5000) f s0 d
  have T3 := p17 f (B1 - 5000 - s2) f (s0 + D) d
  rw [sw_same hf hl (by omega) (by omega) hd, if_pos (by omega)] at T0 T1
  rw [sw_same hf hl (by omega) (by omega) hd] at T2 T3
  rw [if_neg (by omega)] at T2
  generalize (if B1 - 5000 - s2 ≤ s0 + D then (100 : Int) else 0) = Z at *
  have u1 := p7 s0 (s0 + x3)
  have u2 := p7 (5000 + s0 - 40) (5000 + s0 - 40 + x0)
  have u3 := p7 (1 + x1) (10 + x2)
  have u4 := p12 N
  have u5 := p12 (N + 1)
  have y1 := p10
  have y2 := p19
  have w1 := wrap64 (n := x0) (by omega) (by omega)
  have w2 := wrap64 (n := x1) (by omega) (by omega)
  have w3 := wrap64 (n := x2) (by omega) (by omega)
  have w4 := wrap64 (n := x3) (by omega) (by omega)
  have w5 := wrap64 (n := s0 + x3) (by omega) (by omega)
  have w6 := wrap64 (n := 5000 + s0) (by omega) (by omega)
  have w7 := wrap64 (n := 5000 + s0 - 40) (by omega) (by omega)
  have w8 := wrap64 (n := 5000 + s0 - 40 + x0) (by omega) (by omega)
  have w9 := wrap64 (n := 1 + x1) (by omega) (by omega)
  have w10 := wrap64 (n := 10 + x2) (by omega) (by omega)
  have w11 := wrap64 (n := N + 1) (by omega) (by omega)
  have w12 := wrap64 (n := N) (by omega) (by omega)
  have w13 := wrap64 (n := B0 - 5000) (by omega) (by omega)
  have w14 := wrap64 (n := B0 - 5000 - s2) (by omega) (by omega)
  have w15 := wrap64 (n := B1 - 5000) (by omega) (by omega)
  have w16 := wrap64 (n := B1 - 5000 - s2) (by omega) (by omega)
  have n1 : ¬ N < 1 := by omega
  have n2 : ¬ 100000 ≤ N := by omega
  have EQ := fun (_ : Unit) => And.intro c0 (And.intro c1 (And.intro c2 (And.intro c3 (And.intro c4 (And.intro c5 (And.intro t0 (And.intro t1 (And.intro t2 (And.intro t3 (And.intro w1 (And.intro w2 (And.intro w3 (And.intro w4 (And.intro w5 (And.intro w6 (And.intro w7 (And.intro w8 (And.intro w9 (And.intro w10 (And.intro w11 (And.intro w12 (And.intro w13 (And.intro w14 (And.intro w15 w16))))))))))))))))))))))))
  clear c0 c1 c2 c3 c4 c5 t0 t1 t2 t3 w1 w2 w3 w4 w5 w6 w7 w8 w9 w10 w11 w12 w13 w14 w15 w16 hA0 hA1 hB0 hB1 h0 h1 h2 h3 k0 k1 k2 g0 g1 hd hf hl b0 b1 b2 b3 hw hr q1 q2 hlb hN1 hN2 hW0 hW1 hW2 z0 z1 wb0 wb1 hi1 hi2
  simp only [eF] at e1 T0 T1 T2 T3
  have L : iter (evC2 R 4 b4_0) 4 { fr := [(3, .box [U v0, U v1, U v2, U v3]), (4, .box [U s0, U s1, U s2]), (7, .box (eF f)), (8, .box [I s0, I (s0 + x3)]), (9, .box [I d.1, I d.2]), (10, .box [B true, I (5000 + s0 - 40), I (5000 + s0 - 40 + x0), I (1 + x1), I (10 + x2), S 2 []]), (11, I N), (13, I 0)], tk := [] } =
      some (.exit 0, { fr := [(3, .box [U v0, U v1, U v2, U v3]), (4, .box [U s0, U s1, U s2]), (7, .box (eF f)), (8, .box [I s0, I (s0 + x3)]), (9, .box [I d.1, I d.2]), (10, .box [B true, I (5000 + s0 - 40), I (5000 + s0 - 40 + x0), I (1 + x1), I (10 + x2), S 2 []]), (11, I N), (13, I 2), (81, B false)], tk := [] }) := by
    rw [iter_succ]
    simp (maxSteps := 2000000) (disch := first | omega | (simp; done) | (simp; omega)) [-getElem?_pos, b4_0, eF, EQ (), e4, s1', T0, T1, u4, wrap64]
    rw [iter_succ]
    simp (maxSteps := 2000000) (disch := first | omega | (simp; done) | (simp; omega)) [-getElem?_pos, b4_0, eF, EQ (), e4, s2', T2, T3, u5, wrap64]
    rw [iter_succ]
    simp (maxSteps := 2000000) (disch := first | omega | (simp; done) | (simp; omega)) [-getElem?_pos, b4_0, eF]
  simp only [eF] at L
  generalize hF : evC2 R 4 b4_0 = F at *
  refine run2_body 4 rfl rfl rfl rfl rfl ?_
  simp (maxSteps := 2000000) (disch := first | omega | (simp; done) | (simp; omega)) [-getElem?_pos, l4, hF, EQ (), L, e1, e2, e3, u1, u2, u3, y1, y2, n1, n2]
end Go.Lo

/- Small numbers as arguments; the law about a ring for a standard on the first machine. -/
namespace Go.Lo
open Go.Proofs
set_option linter.unusedSimpArgs false
theorem gaugeSwap_true {v1 v2 v3 : V} (h1 : HasV (.arr 4 (.int .u8)) v1) (h2 : HasV (.arr 3 (.int .u8)) v2) (h3 : HasV (.arr 2 (.int .u8)) v3) : run G1.F1 Ct 4 [v1, v2, v3] = some (.bool true) := by
  obtain ⟨xs, hl, rfl, hx⟩ := can_arr h1
  obtain ⟨ys, hm, rfl, hy⟩ := can_arr h2
  obtain ⟨zs, hn, rfl, hz⟩ := can_arr h3
  match xs, hl, ys, hm, zs, hn with
  | [a, b, c, d], _, [e, f, g], _, [h, i], _ =>
    exact run2_true tabR (p4 (wf_u8 (hx a (by simp))) (wf_u8 (hx b (by simp))) (wf_u8 (hx c (by simp))) (wf_u8 (hx d (by simp))) (wf_u8 (hy e (by simp))) (wf_u8 (hy f (by simp))) (wf_u8 (hy g (by simp))) (wf_u8 (hz h (by simp))) (wf_u8 (hz i (by simp))))
      (RelL.cons (rel_aggK .u8 [a, b, c, d]) (RelL.cons (rel_aggK .u8 [e, f, g]) (RelL.one (rel_aggK .u8 [h, i]))))
end Go.Lo
