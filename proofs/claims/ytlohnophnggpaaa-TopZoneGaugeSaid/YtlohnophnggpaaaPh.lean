/- Texts put together. -/
import Derived.Test.YtlohnophnggpaaaPg
/- slices.Repeat of one integer is what is told of it. -/
namespace Go.Lo.G1
open Go.Lo Go.Proofs
theorem rep_den {Ω : Own} {w : World} {g : Nat} {x : Int} : ∀ {m off n : Nat}, off + m ≤ n → Ω.lim g = n → w.heap[g]? = some (.cells (List.replicate n (.int .i64 x)).toArray 3 (0, 0)) → DenE Ω w (List.replicate m [I x]) 1 g off
  | 0, _, _, _, _, _ => trivial
  | m + 1, off, n, h, hl, hg => by
    have hm : off + m < n := by omega
    rw [List.replicate_succ]
    refine ⟨rfl, rfl, ⟨⟨.int .i64 x, by rw [hl]; omega, ?_, rfl, rfl, rfl⟩, trivial⟩, rep_den (n := n) (by omega) hl hg⟩
    rw [cell_of_row w g off _ 3 (0, 0) hg]
    simp [show off < n by omega]
theorem rep_enters : Enters Try.prog 91 := by
  refine ⟨Try.f91, _, Try.func91, ?_, rfl⟩
  intro h
  have : (Try.f91.name == "runtime.NumGoroutine") = false := by kernel_rfl
  rw [h] at this
  simp at this
theorem rep_callOk {x : Int} {n : Nat} (hn : 1 ≤ n ∧ n ≤ 200) : CallOk Try.prog 91 [.sl none 1 [[I x]], I n] (.sl (some 0) 1 (List.replicate n [I x])) := by
  refine ⟨fun _ Ω w xs hb hd => ?_, fun b pre post h => ?_, fun cs rest h => by cases h⟩
  · obtain ⟨x1, ys, rfl, h1, x2, zs, rfl, h2, rfl⟩ := hd
    rcases h1 with ⟨h, _⟩ | ⟨b, off, cap, rfl, hf, hE⟩
    · cases h
    · obtain ⟨_, _, ⟨⟨xv, _, hc, _, _, hx⟩, _⟩, _⟩ := hE
      have hx : xv = .int .i64 x := hx
      have h2 : x2 = .int .i64 n := h2
      subst hx; subst h2
      have hlt : b < w.heap.size := hb.bnd b (by rcases hf with h | ⟨t, h⟩ <;> rw [h] <;> simp)
      refine (rep_walk x b off (1 + cap) n w hn hlt hc).mono fun e w1 he => ?_
      obtain ⟨g, hg, rfl, hbl, hrow⟩ := he
      have hgl : g < w1.heap.size := by
        rcases Nat.lt_or_ge g w1.heap.size with h | h
        · exact h
        · rw [Array.getElem?_eq_none h] at hrow; cases hrow
      refine ⟨_, { Ω with o := fun c => if c = g then .arr 0 false else Ω.o c, lim := fun c => if c = g then n else Ω.lim c, cur := fun t => if t = 0 then some (g, n, n) else Ω.cur t, tsz := fun t => if t = 0 then 1 else Ω.tsz t }, rfl, hbl, ?_, ?_⟩
      · refine ⟨g, 0, false, by simp, by simp, by simp, fun c k m hc => ?_, rep_den (n := n) (by omega) (by simp) hrow⟩
        simp only [if_true, Option.some.injEq, Prod.mk.injEq] at hc
        obtain ⟨rfl, rfl, rfl⟩ := hc
        simp
      · refine ⟨fun c hc => ?_, fun c hc => ?_, fun k m hk => ?_⟩
        · have : c ≠ g := by omega
          simp [this]
        · by_cases h : c = g
          · rw [h]; exact hgl
          · simp only [if_neg h] at hc
            exact Nat.lt_of_lt_of_le (hb.bnd c hc) hbl.size
        · simp only [V.tks, List.mem_singleton, Prod.mk.injEq, List.length_replicate] at hk
          obtain ⟨rfl, rfl⟩ := hk
          refine ⟨g, m, 3, _, by simp, ⟨false, by simp⟩, hrow, by simp, Nat.le_refl _, by simp, by simp, fun _ c p hc => ?_⟩
          by_cases h : c = g
          · simp only [h, if_true] at hc
            injection hc with h1 h2
            exact h2.symm
          · simp only [if_neg h] at hc
            rcases hb.o c with h | h | h <;> rw [h] at hc <;> cases hc
  · have : V.fn (.y b) [] ∈ [V.sl none 1 [[I x]], I n] := by rw [h]; simp
    simp at this
theorem tab1 : TabOk Try.prog F1 Ct where
  mixed := tabOk.mixed
  code := tabOk.code
  told := by
    intro f g as9 r hf hr
    unfold F1 at hf
    split at hf
    · injection hf with hf
      subst hf
      unfold repG at hr
      split at hr
      · rename_i x n
        split at hr
        · rename_i hn
          injection hr with hr
          subst hr
          obtain ⟨m, rfl⟩ : ∃ m : Nat, n = m := ⟨n.toNat, by omega⟩
          exact ⟨rep_enters, rep_callOk (by omega)⟩
        · cases hr
      · cases hr
    · cases hf
end Go.Lo.G1

/- Lists put together: told. -/
namespace Go.Lo
open Go.Proofs
set_option linter.unusedSimpArgs false
theorem sl_inv {n : Nat} {e : List V} {es : List (List V)} {v : V} (h : Rel (.sl none n (e :: es)) noT v) : ∃ d r, v = .sl none n (d :: r) ∧ RelL e noT d ∧ RelE es r := by
  simp only [Rel] at h
  rcases h with ⟨h, _⟩ | ⟨es', rfl, he⟩
  · cases h
  · simp only [RelE] at he
    obtain ⟨d, r, rfl, h1, h2⟩ := he
    exact ⟨d, r, rfl, h1, h2⟩
/-- Rows of one integer each: one of them, or two. -/
def catI : List V → Option V
  | [.sl none 1 [[.sl none 1 [[.int .i64 a]]]]] => some (.sl (some 2000000) 1 [[.int .i64 a]])
  | [.sl none 1 [[.sl none 1 [[.int .i64 a]]], [.sl none 1 [[.int .i64 b]]]]] => some (.sl (some 2000000) 1 [[.int .i64 a], [.int .i64 b]])
  | _ => none
theorem run1_catI (a : Int) : run G1.F1 Ct 103 [.sl none 1 [[.sl none 1 [[.int .i64 a]]]]] = some (.sl (some 0) 1 [[.int .i64 a]]) := run_of (n := 30) (by kernel_rfl)
theorem run1_catI2 (a b : Int) : run G1.F1 Ct 103 [.sl none 1 [[.sl none 1 [[.int .i64 a]]], [.sl none 1 [[.int .i64 b]]]]] = some (.sl (some 0) 1 [[.int .i64 a], [.int .i64 b]]) := run_of (n := 30) (by kernel_rfl)
theorem int_inv {a : Int} {v : V} (h : Rel (.sl none 1 [[.int .i64 a]]) noT v) : v = .sl none 1 [[.int .i64 a]] := by
  obtain ⟨d, r, rfl, h1, h2⟩ := sl_inv h
  simp only [RelE] at h2
  subst h2
  obtain ⟨v, rfl, h3⟩ := RelL.inv1 h1
  simp only [Rel] at h3
  subst h3; rfl
theorem relE_ints : ∀ xs : List Int, RelE (xs.map fun x => [V.int .i64 x]) (xs.map fun x => [V.int .i64 x])
  | [] => RelE.nil
  | x :: xs => RelE.cons (RelL.one (by simp only [Rel])) (relE_ints xs)
theorem catI_rel {as2 as1 : List V} {r2 : V} (h : catI as2 = some r2) (ha : RelL as2 noT as1) : ∃ r, run G1.F1 Ct 103 as1 = some r ∧ RelR r2 r ∧ ∀ l2, itemsOf (some r2) = some l2 → ∃ l, itemsOf (some r) = some l ∧ RelE l2 l := by
  unfold catI at h
  split at h
  · rename_i a
    injection h with h
    subst h
    obtain ⟨v, rfl, hv⟩ := RelL.inv1 ha
    obtain ⟨d1, r1, rfl, hd1, hr1⟩ := sl_inv hv
    simp only [RelE] at hr1
    subst hr1
    obtain ⟨s1, rfl, hs1⟩ := RelL.inv1 hd1
    have := int_inv hs1
    subst this
    refine ⟨_, run1_catI _, ?_, fun l2 h => by simp [itemsOf] at h⟩
    have hr : ∀ ρ : TkF, ρ 0 = some (1, true) → Rel (.sl (some 2000000) 1 [[.int .i64 a]]) ρ (.sl (some 0) 1 [[.int .i64 a]]) := fun ρ hρ => by
      rw [Rel]; right
      exact ⟨_, rfl, relE_ints [a], true, hρ, fun _ => rfl, fun h => by simp [roX] at h, fun _ => by simp⟩
    exact ⟨⟨fun _ => some (1, true), hr _ rfl⟩, fun ρ h => hr ρ (h 0 _ (by simp [V.tks]))⟩
  · rename_i a b
    injection h with h
    subst h
    obtain ⟨v, rfl, hv⟩ := RelL.inv1 ha
    obtain ⟨d1, r1, rfl, hd1, hr1⟩ := sl_inv hv
    simp only [RelE] at hr1
    obtain ⟨d2, r2, rfl, hd2, rfl⟩ := hr1
    obtain ⟨s1, rfl, hs1⟩ := RelL.inv1 hd1
    obtain ⟨s2, rfl, hs2⟩ := RelL.inv1 hd2
    have := int_inv hs1
    subst this
    have := int_inv hs2
    subst this
    refine ⟨_, run1_catI2 _ _, ?_, fun l2 h => by simp [itemsOf] at h⟩
    have hr : ∀ ρ : TkF, ρ 0 = some (2, true) → Rel (.sl (some 2000000) 1 [[.int .i64 a], [.int .i64 b]]) ρ (.sl (some 0) 1 [[.int .i64 a], [.int .i64 b]]) := fun ρ hρ => by
      rw [Rel]; right
      exact ⟨_, rfl, relE_ints [a, b], true, hρ, fun _ => rfl, fun h => by simp [roX] at h, fun _ => by simp⟩
    exact ⟨⟨fun _ => some (2, true), hr _ rfl⟩, fun ρ h => hr ρ (h 0 _ (by simp [V.tks]))⟩
  · cases h
end Go.Lo

/- The base of the statements of gauges on the plain machine: newRules and Repeat are told. -/
namespace Go.Lo
open Go.Proofs
set_option linter.unusedSimpArgs false
def spL : List (List V) → Option (List (Int × Int))
  | [] => some []
  | [.int .i64 a, .int .i64 b] :: r => (match spL r with | some l => some ((a, b) :: l) | none => none)
  | _ => none
def evL : List (List V) → Option (List (Int × Int × Bool))
  | [] => some []
  | [.int .i64 a, .int .i64 b, .bool g] :: r => (match evL r with | some l => some ((a, b, g) :: l) | none => none)
  | _ => none
abbrev GOkP (n w : Int × Int) (ms : List (Int × Int)) (es : List (Int × Int × Bool)) : Prop := (G1.small n.1 ∧ G1.small n.2) ∧ (G1.small w.1 ∧ G1.small w.2) ∧ ms.length ≤ 1000 ∧ es.length ≤ 1000 ∧ (∀ s ∈ ms, G1.small s.1 ∧ G1.small s.2) ∧ ∀ x ∈ es, G1.evOkE x
/-- What newRules gives back. -/
def nrV (ring : Bool) (n w : Int × Int) (ms : List (Int × Int)) (es : List (Int × Int × Bool)) : V :=
  .gref [B ring, I n.1, I n.2, I w.1, I w.2, S 2 (ms.map fun s => [I s.1, I s.2]), S 3 ((G1.newT ring n w ms es).1.map G1.rl), I (G1.newT ring n w ms es).2]
def nrG : List V → Option V
  | [.agg [.bool ring, .int .i64 n1, .int .i64 n2, .int .i64 w1, .int .i64 w2, .sl none 2 me], .sl none 3 ee] =>
    (match spL me, evL ee with
    | some ms, some es => if GOkP (n1, n2) (w1, w2) ms es then some (nrV ring (n1, n2) (w1, w2) ms es) else none
    | _, _ => none)
  | _ => none
def F2 : Nat → Option (List V → Option V)
  | 32 => some nrG
  | 91 => some G1.repG
  | 103 => some catI
  | _ => none
noncomputable abbrev R : Nat → List V → Option V := run2 F2 C2
theorem spL_eq : ∀ {me : List (List V)} {ms : List (Int × Int)}, spL me = some ms → me = ms.map fun s => [I s.1, I s.2]
  | [], ms, h => by injection h with h; subst h; rfl
  | x :: r, ms, h => by
    unfold spL at h
    split at h
    · rename_i h0; cases h0
    · rename_i a b r' he
      injection he with e1 e2
      subst e1; subst e2
      split at h
      · rename_i l hl
        injection h with h
        subst h
        rw [List.map_cons, ← spL_eq hl]
      · cases h
    · cases h
theorem evL_eq : ∀ {me : List (List V)} {ms : List (Int × Int × Bool)}, evL me = some ms → me = ms.map fun s => [I s.1, I s.2.1, B s.2.2]
  | [], ms, h => by injection h with h; subst h; rfl
  | x :: r, ms, h => by
    unfold evL at h
    split at h
    · rename_i h0; cases h0
    · rename_i a b g r' he
      injection he with e1 e2
      subst e1; subst e2
      split at h
      · rename_i l hl
        injection h with h
        subst h
        rw [List.map_cons, ← evL_eq hl]
      · cases h
    · cases h
theorem relL_flat : ∀ {cs ds : List V}, cs.all V.flat = true → RelL cs noT ds → ds = cs
  | [], _, _, h => by simp only [RelL] at h; exact h
  | c :: cs, _, hf, h => by
    simp only [List.all_cons, Bool.and_eq_true] at hf
    simp only [RelL] at h
    obtain ⟨d, r, rfl, h1, h2⟩ := h
    rw [relL_flat hf.2 h2]
    congr 1
    cases c <;> simp only [V.flat, Bool.false_eq_true, false_and] at hf <;> simp only [Rel] at h1 <;> exact h1
theorem relE_flat : ∀ {cs ds : List (List V)}, (cs.all fun c => c.all V.flat) = true → RelE cs ds → ds = cs
  | [], _, _, h => by simp only [RelE] at h; exact h
  | c :: cs, _, hf, h => by
    simp only [List.all_cons, Bool.and_eq_true] at hf
    simp only [RelE] at h
    obtain ⟨d, r, rfl, h1, h2⟩ := h
    rw [relL_flat (by simpa using hf.1) h1, relE_flat hf.2 h2]
theorem relL_flat2 {tk : TkF} : ∀ {cs : List V}, cs.all V.flat = true → RelL cs tk cs
  | [], _ => RelL.nil
  | c :: cs, h => by
    simp only [List.all_cons, Bool.and_eq_true] at h
    refine RelL.cons ?_ (relL_flat2 h.2)
    cases c <;> simp only [V.flat, Bool.false_eq_true, false_and] at h <;> simp only [Rel]
theorem relE_flat2 : ∀ {cs : List (List V)}, (cs.all fun c => c.all V.flat) = true → RelE cs cs
  | [], _ => RelE.nil
  | c :: cs, h => by
    simp only [List.all_cons, Bool.and_eq_true] at h
    exact RelE.cons (relL_flat2 (by simpa using h.1)) (relE_flat2 h.2)
theorem sl_flat {n : Nat} {es : List (List V)} {v : V} (hf : (es.all fun c => c.all V.flat) = true) (h : Rel (.sl none n es) noT v) : v = .nil ∧ es = [] ∨ v = .sl none n es := by
  simp only [Rel] at h
  rcases h with ⟨h1, h2⟩ | ⟨es', rfl, h⟩
  · exact .inl ⟨h2, h1⟩
  · rw [relE_flat hf h]; exact .inr rfl
theorem nr_rel {as2 as9 : List V} {r2 : V} (h : nrG as2 = some r2) (ha : RelL as2 noT as9) : ∃ r, run G1.F1 Ct 32 as9 = some r ∧ RelR r2 r ∧ ∀ l2, itemsOf (some r2) = some l2 → ∃ l, itemsOf (some r) = some l ∧ RelE l2 l := by
  unfold nrG at h
  split at h
  · rename_i ring n1 n2 w1 w2 me ee
    split at h
    · rename_i ms es hm he
      split at h
      · rename_i hok
        injection h with h
        subst h
        have := spL_eq hm
        subst this
        have := evL_eq he
        subst this
        obtain ⟨v, u, rfl, hv, hu⟩ := RelL.inv2 ha
        simp only [Rel] at hv
        obtain ⟨ds, rfl, hd⟩ := hv
        obtain ⟨d1, r1, rfl, h1, hd⟩ := RelL.inv hd
        obtain ⟨d2, r2, rfl, h2, hd⟩ := RelL.inv hd
        obtain ⟨d3, r3, rfl, h3, hd⟩ := RelL.inv hd
        obtain ⟨d4, r4, rfl, h4, hd⟩ := RelL.inv hd
        obtain ⟨d5, r5, rfl, h5, hd⟩ := RelL.inv hd
        obtain ⟨mv, rfl, h6⟩ := RelL.inv1 hd
        simp only [Rel] at h1 h2 h3 h4 h5
        subst h1; subst h2; subst h3; subst h4; subst h5
        have hfm : ((ms.map fun s => [I s.1, I s.2]).all fun c => c.all V.flat) = true := by simp [List.all_map, V.flat]
        have hfe : ((es.map fun s => [I s.1, I s.2.1, B s.2.2]).all fun c => c.all V.flat) = true := by simp [List.all_map, V.flat]
        have hm2 := sl_flat hfm h6
        have he2 := sl_flat hfe hu
        have hrun := G1.new1 (ring := ring) (n := (n1, n2)) (w := (w1, w2)) (ms := ms) (es := es) (mv := mv) (ev := u) ⟨hok.1, hok.2.1, hok.2.2.1, hok.2.2.2.1, hok.2.2.2.2.1, hok.2.2.2.2.2⟩
          (hm2.imp (fun h => ⟨h.1, List.map_eq_nil_iff.1 h.2⟩) id) (he2.imp (fun h => ⟨h.1, List.map_eq_nil_iff.1 h.2⟩) id)
        refine ⟨_, hrun, ?_, fun l2 h => by simp [nrV, itemsOf] at h⟩
        have hr : ∀ ρ : TkF, Rel (nrV ring (n1, n2) (w1, w2) ms es) ρ (.gref [.bool ring, I n1, I n2, I w1, I w2, mv, .sl none 3 ((G1.newT ring (n1, n2) (w1, w2) ms es).1.map G1.rl), I (G1.newT ring (n1, n2) (w1, w2) ms es).2]) := fun ρ => by
          unfold nrV
          rw [Rel]
          refine ⟨_, rfl, RelL.cons (by simp only [Rel]) (RelL.cons (by simp only [Rel]) (RelL.cons (by simp only [Rel]) (RelL.cons (by simp only [Rel]) (RelL.cons (by simp only [Rel]) (RelL.cons h6 (RelL.cons ?_ (RelL.one (by simp only [Rel]))))))))⟩
          rw [Rel]
          exact .inr ⟨_, rfl, relE_flat2 (by simp [List.all_map, V.flat])⟩
        exact ⟨⟨noT, hr _⟩, fun ρ _ => hr ρ⟩
      · cases h
    · cases h
  · cases h
theorem rep_rel {as2 as9 : List V} {r2 : V} (h : G1.repG as2 = some r2) (ha : RelL as2 noT as9) : ∃ r, run G1.F1 Ct 91 as9 = some r ∧ RelR r2 r ∧ ∀ l2, itemsOf (some r2) = some l2 → ∃ l, itemsOf (some r) = some l ∧ RelE l2 l := by
  have h0 := h
  unfold G1.repG at h
  split at h
  · rename_i x n
    split at h
    · rename_i hn
      injection h with h
      subst h
      obtain ⟨v, u, rfl, hv, hu⟩ := RelL.inv2 ha
      have hv := sl_flat (by rfl) hv
      rcases hv with ⟨_, hv⟩ | rfl
      · cases hv
      · simp only [Rel] at hu
        subst hu
        refine ⟨_, run_of (n := 1) (by unfold evF; exact h0), ?_, fun l2 h => by simp [itemsOf] at h⟩
        have hr : ∀ ρ : TkF, ρ 0 = some (n.toNat, true) → Rel (.sl (some 0) 1 (List.replicate n.toNat [.int .i64 x])) ρ (.sl (some 0) 1 (List.replicate n.toNat [.int .i64 x])) := fun ρ hρ => by
          rw [Rel]; right
          exact ⟨_, rfl, relE_flat2 (by simp [V.flat]), true, by simpa using hρ, fun _ => rfl, fun h => by simp [roX] at h, fun h => by simp [mbT] at h⟩
        exact ⟨⟨fun _ => some (n.toNat, true), hr _ rfl⟩, fun ρ h => hr ρ (h 0 _ (by simp [V.tks]))⟩
    · cases h
  · cases h
theorem tabR : TabR F2 G1.F1 C2 Ct := by
  refine ⟨fun f g2 as2 r2 as1 h1 h2 h3 => ?_, fun f lf h1 h2 => ⟨?_, tabC f lf h2⟩⟩
  · unfold F2 at h1
    split at h1
    · injection h1 with h1
      subst h1
      exact nr_rel h2 h3
    · injection h1 with h1
      subst h1
      exact rep_rel h2 h3
    · injection h1 with h1
      subst h1
      exact catI_rel h2 h3
    · cases h1
  · unfold G1.F1
    split
    · cases h2
    · rfl
end Go.Lo

/- By how much sizes are greater at most: a round of the rules. -/
namespace Go.Lo
open Go.Proofs
set_option linter.unusedSimpArgs false
set_option maxHeartbeats 8000000
set_option maxRecDepth 20000
abbrev rT (T : List (Int × Int × Int)) : List (List V) := T.map G1.rl
abbrev sB (rb : List V) (T : List (Int × Int × Int)) (u : Nat) (l : List Int) (k2 k : Int) (c : Bool) (i : Nat) : St :=
  { fr := [(0, .gref rb), (4, .sl (some u) 1 (eI l)), (6, B c), (22, I k2), (23, I k), (28, S 3 (rT T)), (29, I T.length), (30, I i)], tk := [] }
theorem b_step {rb : List V} {T : List (Int × Int × Int)} {l : List Int} {k2 k : Int} {cb : Bool} {i a b : Nat} {c va vb : Int} (hi : T[i]? = some ((a : Int), (b : Int), c)) (ha : l[a]? = some va) (hb : l[b]? = some vb)
    (hT : T.length ≤ 1000000) (hw : IntKind.i64.wrap (vb + c) = vb + c) :
    evC2 R 1 b62_1 (sB rb T 1600 l k2 k cb i) = some (.normal, if vb < 1099511627776 ∧ vb + c < va then sB rb T 1600 (l.set a (vb + c)) k2 k true (i + 1) else sB rb T 1600 l k2 k cb (i + 1)) := by
  have hlt : i < T.length := (List.getElem?_eq_some_iff.1 hi).1
  have hi1 : (rT T)[i]? = some [I a, I b, I c] := by rw [List.getElem?_map, hi]; rfl
  have hi2 : ((i : Int) < T.length) := by omega
  have ha1 : (eI l)[a]? = some [I va] := by rw [List.getElem?_map, ha]; rfl
  have hb1 : (eI l)[b]? = some [I vb] := by rw [List.getElem?_map, hb]; rfl
  have ha2 : (a : Int) < l.length := by have := (List.getElem?_eq_some_iff.1 ha).1; omega
  have hb2 : (b : Int) < l.length := by have := (List.getElem?_eq_some_iff.1 hb).1; omega
  have hw2 : IntKind.i64.wrap ((i : Int) + 1) = (i : Int) + 1 := by simp [IntKind.wrap, IntKind.bits, IntKind.signed]; omega
  by_cases h1 : vb < 1099511627776
  · by_cases h2 : vb + c < va
    · simp (maxSteps := 2000000) (disch := first | omega | (simp; done) | (simp; omega)) [-getElem?_pos, b62_1, hi, ha, hb, hi2, ha2, hb2, hw, hw2, h1, h2]
    · simp (maxSteps := 2000000) (disch := first | omega | (simp; done) | (simp; omega)) [-getElem?_pos, b62_1, hi, ha, hb, hi2, ha2, hb2, hw, hw2, h1, h2]
  · simp (maxSteps := 2000000) (disch := first | omega | (simp; done) | (simp; omega)) [-getElem?_pos, b62_1, hi, ha, hb, hi2, ha2, hb2, hw, hw2, h1]
end Go.Lo

/- By how much sizes are greater at most. -/
namespace Go.Lo
open Go.Proofs
set_option linter.unusedSimpArgs false
set_option maxHeartbeats 8000000
set_option maxRecDepth 20000
abbrev Rul := List (Int × Int × Int)
/-- A rule is tried. -/
def relaxE (s : List Int × Bool) (x : Int × Int × Int) : List Int × Bool :=
  if s.1.getD x.2.1.toNat 0 < 1099511627776 ∧ s.1.getD x.2.1.toNat 0 + x.2.2 < s.1.getD x.1.toNat 0 then (s.1.set x.1.toNat (s.1.getD x.2.1.toNat 0 + x.2.2), true) else s
def rndE (T : Rul) (l : List Int) : List Int × Bool := T.foldl relaxE (l, false)
/-- So many rounds at most. -/
def mostE (T : Rul) : Nat → List Int → List Int × Bool
  | 0, l => (l, false)
  | k + 1, l => if (rndE T l).2 = true then mostE T k (rndE T l).1 else ((rndE T l).1, true)
/-- Rules of so many sizes, with numbers not above M. -/
def TOk (n : Nat) (M : Int) (T : Rul) : Prop := ∀ x ∈ T, (0 ≤ x.1 ∧ x.1 < n) ∧ (0 ≤ x.2.1 ∧ x.2.1 < n) ∧ -M ≤ x.2.2 ∧ x.2.2 ≤ M
def BdE (M : Int) (j : Nat) (l : List Int) : Prop := ∀ v ∈ l, -(j * M) ≤ v ∧ v ≤ 1099511627776
theorem getD_mem {l : List Int} {i : Nat} (h : i < l.length) : l[i]? = some (l.getD i 0) := by
  rw [List.getD_eq_getElem?_getD, List.getElem?_eq_getElem h]; rfl
theorem bd_get {M : Int} {j : Nat} {l : List Int} (h : BdE M j l) {i : Nat} (hi : i < l.length) : -(j * M) ≤ l.getD i 0 ∧ l.getD i 0 ≤ 1099511627776 :=
  h _ (List.mem_of_getElem? (getD_mem hi))
theorem bd_mono {M : Int} (hM : 0 ≤ M) {j k : Nat} (hjk : j ≤ k) {l : List Int} (h : BdE M j l) : BdE M k l := fun v hv => by
  have h1 := h v hv
  have h2 : (j : Int) * M ≤ k * M := Int.mul_le_mul_of_nonneg_right (by omega) hM
  omega
theorem relax_bd {M : Int} (hM : 0 ≤ M) {n j : Nat} {T : Rul} (hT : TOk n M T) {s : List Int × Bool} (hl : s.1.length = n) (hb : BdE M j s.1) {x : Int × Int × Int} (hx : x ∈ T) : (relaxE s x).1.length = n ∧ BdE M (j + 1) (relaxE s x).1 := by
  obtain ⟨⟨h1, h2⟩, ⟨h3, h4⟩, h5, h6⟩ := hT x hx
  unfold relaxE
  split
  · rename_i hc
    refine ⟨by simp [hl], fun v hv => ?_⟩
    rcases List.mem_or_eq_of_mem_set hv with hv | rfl
    · exact bd_mono hM (Nat.le_succ j) hb v hv
    · have k1 := bd_get hb (i := x.2.1.toNat) (by omega)
      have k2 := bd_get hb (i := x.1.toNat) (by omega)
      have k3 : ((j + 1 : Nat) : Int) * M = j * M + M := by rw [Int.natCast_add, Int.add_mul]; simp
      omega
  · exact ⟨hl, bd_mono hM (Nat.le_succ j) hb⟩
theorem fold_relax {M : Int} (hM : 0 ≤ M) {n : Nat} {T : Rul} (hT : TOk n M T) : ∀ (Q : Rul) (s : List Int × Bool) (j : Nat), (∀ x ∈ Q, x ∈ T) → s.1.length = n → BdE M j s.1 → (Q.foldl relaxE s).1.length = n ∧ BdE M (j + Q.length) (Q.foldl relaxE s).1
  | [], s, j, _, hl, hb => ⟨hl, hb⟩
  | x :: Q, s, j, hq, hl, hb => by
    have h1 := relax_bd hM hT hl hb (hq x List.mem_cons_self)
    have h2 := fold_relax hM hT Q (relaxE s x) (j + 1) (fun y hy => hq y (List.mem_cons_of_mem _ hy)) h1.1 h1.2
    rw [List.foldl_cons, List.length_cons, show j + (Q.length + 1) = j + 1 + Q.length by omega]
    exact h2
section
variable {rb : List V} {T : Rul} {n : Nat} {M : Int}
theorem b_step2 {l : List Int} {k2 k : Int} {cb : Bool} {i j : Nat} {x : Int × Int × Int} (hM : 0 ≤ M) (hT : TOk n M T) (hl : l.length = n) (hb : BdE M j l) (hi : T[i]? = some x) (hTl : T.length ≤ 1000000) (hj : (j : Int) * M + M ≤ 4000000000000000000) :
    evC2 R 1 b62_1 (sB rb T 1600 l k2 k cb i) = some (.normal, sB rb T 1600 (relaxE (l, cb) x).1 k2 k (relaxE (l, cb) x).2 (i + 1)) := by
  obtain ⟨⟨h1, h2⟩, ⟨h3, h4⟩, h5, h6⟩ := hT x (List.mem_of_getElem? hi)
  obtain ⟨xa, xb, c⟩ := x
  simp only at h1 h2 h3 h4 h5 h6
  have hb2 := bd_get hb (i := xb.toNat) (by omega)
  have hjM : 0 ≤ (j : Int) * M := Int.mul_nonneg (by omega) hM
  have := b_step (rb := rb) (T := T) (l := l) (k2 := k2) (k := k) (cb := cb) (i := i) (a := xa.toNat) (b := xb.toNat) (c := c) (by rw [hi, Int.toNat_of_nonneg h1, Int.toNat_of_nonneg h3]) (getD_mem (by omega)) (getD_mem (by omega)) hTl (G1.wr1 (by omega))
  rw [this]
  unfold relaxE
  simp only
  split <;> rfl
theorem b_stop {l : List Int} {k2 k : Int} {cb : Bool} : evC2 R 1 b62_1 (sB rb T 1600 l k2 k cb T.length) = some (.exit 2, { fr := [(0, .gref rb), (4, .sl (some 1600) 1 (eI l)), (6, B cb), (22, I k2), (23, I k), (28, S 3 (rT T)), (29, I T.length), (30, I T.length), (31, B false)], tk := [] }) := by
  simp (maxSteps := 2000000) (disch := first | omega | (simp; done) | (simp; omega)) [-getElem?_pos, b62_1]
theorem round_loop {l : List Int} {k2 k : Int} {j N : Nat} (hM : 0 ≤ M) (hT : TOk n M T) (hl : l.length = n) (hb : BdE M j l) (hTl : T.length ≤ 1000000) (hj : ((j + T.length : Nat) : Int) * M ≤ 4000000000000000000) (hN : T.length + 1 ≤ N) :
    iter (evC2 R N b62_1) N (sB rb T 1600 l k2 k false 0) = some (.exit 2, { fr := [(0, .gref rb), (4, .sl (some 1600) 1 (eI (rndE T l).1)), (6, B (rndE T l).2), (22, I k2), (23, I k), (28, S 3 (rT T)), (29, I T.length), (30, I T.length), (31, B false)], tk := [] }) := by
  have h := loop_all (f := evC2 R N b62_1) (s := fun i => sB rb T 1600 ((T.take i).foldl relaxE (l, false)).1 k2 k ((T.take i).foldl relaxE (l, false)).2 i) (n := T.length) (X := (.exit 2, { fr := [(0, .gref rb), (4, .sl (some 1600) 1 (eI (rndE T l).1)), (6, B (rndE T l).2), (22, I k2), (23, I k), (28, S 3 (rT T)), (29, I T.length), (30, I T.length), (31, B false)], tk := [] }))
    (fun i hi => by
      have h1 : T[i]? = some T[i] := List.getElem?_eq_getElem hi
      generalize T[i] = x at h1
      have hf := fold_relax hM hT (T.take i) (l, false) j (fun y hy => List.mem_of_mem_take hy) hl hb
      have hlt : (T.take i).length = i := by rw [List.length_take]; omega
      rw [hlt] at hf
      have hj2 : ((j + i : Nat) : Int) * M + M ≤ 4000000000000000000 := by
        have h2 : ((j + i + 1 : Nat) : Int) * M ≤ ((j + T.length : Nat) : Int) * M := Int.mul_le_mul_of_nonneg_right (by omega) hM
        have h3 : ((j + i + 1 : Nat) : Int) * M = ((j + i : Nat) : Int) * M + M := by rw [Int.natCast_add (j + i) 1, Int.add_mul]; simp
        omega
      have := b_step2 (rb := rb) (k2 := k2) (k := k) (cb := ((T.take i).foldl relaxE (l, false)).2) hM hT hf.1 hf.2 h1 hTl hj2
      rw [G1.take_succ_of h1, List.foldl_append]
      exact this)
    (by rw [List.take_length]; exact b_stop) (by simp)
  exact iter_le (fun _ _ h => h) hN h
end
end Go.Lo

/- By how much sizes are greater at most: most. -/
namespace Go.Lo
open Go.Proofs
set_option linter.unusedSimpArgs false
set_option maxHeartbeats 8000000
set_option maxRecDepth 20000
abbrev rvG (r : Bool) (a b c d : Int) (me : List (List V)) (T : Rul) (now : Int) : List V := [B r, I a, I b, I c, I d, S 2 me, S 3 (rT T), I now]
abbrev sO (rb : List V) (l : List Int) (k2 k : Int) (r : List (Nat × V)) : St := { fr := [(0, .gref rb), (4, .sl (some 1600) 1 (eI l)), (22, I k2), (23, I k)] ++ r, tk := [] }
section
variable {r : Bool} {a b c d now : Int} {me : List (List V)} {T : Rul} {n : Nat} {M : Int}
theorem o_step {l : List Int} {k2 k : Int} {j N : Nat} (hM : 0 ≤ M) (hT : TOk n M T) (hl : l.length = n) (hb : BdE M j l) (hTl : T.length ≤ 1000000) (hj : ((j + T.length : Nat) : Int) * M ≤ 4000000000000000000) (hN : T.length + 1 ≤ N) (hk : k < k2) (hk2 : 0 ≤ k ∧ k2 ≤ 1000000) :
    evC2 R N b62_0 (sO (rvG r a b c d me T now) l k2 k []) = some (if (rndE T l).2 = true then (.normal, sO (rvG r a b c d me T now) (rndE T l).1 k2 (k + 1) []) else (.ret, { fr := [(4, .sl (some 1600) 1 (eI (rndE T l).1)), (5, B true)], tk := [] })) := by
  have L : iter (evC2 R N b62_1) N { fr := [(0, .gref (rvG r a b c d me T now)), (4, .sl (some 1600) 1 (eI l)), (6, B false), (22, I k2), (23, I k), (28, S 3 (rT T)), (29, I T.length), (30, I 0)], tk := [] } = _ := round_loop (rb := rvG r a b c d me T now) (k2 := k2) (k := k) hM hT hl hb hTl hj hN
  have hw : IntKind.i64.wrap (k + 1) = k + 1 := G1.wr1 (by omega)
  generalize rndE T l = q at *
  generalize hF : evC2 R N b62_1 = F at *
  cases hq : q.2 <;> rw [hq] at L <;> simp (maxSteps := 2000000) (disch := first | omega | (simp; done) | (simp; omega)) [-getElem?_pos, b62_0, hF, L, hk, hw]
theorem o_stop {l : List Int} {k2 : Int} {N : Nat} :
    evC2 R N b62_0 (sO (rvG r a b c d me T now) l k2 k2 []) = some (.exit 0, sO (rvG r a b c d me T now) l k2 k2 [(24, B false)]) := by
  generalize hF : evC2 R N b62_1 = F at *
  simp (maxSteps := 2000000) (disch := first | omega | (simp; done) | (simp; omega)) [-getElem?_pos, b62_0, hF]
theorem o_loop {k2 : Int} {N : Nat} (hM : 0 ≤ M) (hT : TOk n M T) (hTl : T.length ≤ 1000000) (hN : T.length + 1 ≤ N) (hk2 : k2 ≤ 1000000) :
    ∀ (m j : Nat) (l : List Int) (k : Int) (F : Nat), k + m = k2 → 0 ≤ k → l.length = n → BdE M j l → ((j + m * T.length : Nat) : Int) * M ≤ 4000000000000000000 → m + 1 ≤ F →
      iter (evC2 R N b62_0) F (sO (rvG r a b c d me T now) l k2 k []) = some (if (mostE T m l).2 = true then (.ret, { fr := [(4, .sl (some 1600) 1 (eI (mostE T m l).1)), (5, B true)], tk := [] }) else (.exit 0, sO (rvG r a b c d me T now) (mostE T m l).1 k2 k2 [(24, B false)]))
  | 0, j, l, k, F, hk, _, _, _, _, hF => by
    obtain ⟨F, rfl⟩ : ∃ F', F = F' + 1 := ⟨F - 1, by omega⟩
    have : k = k2 := by omega
    subst this
    rw [iter_succ, o_stop]
    rfl
  | m + 1, j, l, k, F, hk, hk0, hl, hb, hj, hF => by
    obtain ⟨F, rfl⟩ : ∃ F', F = F' + 1 := ⟨F - 1, by omega⟩
    have hj1 : ((j + T.length : Nat) : Int) * M ≤ 4000000000000000000 := by
      have h2 : ((j + T.length : Nat) : Int) * M ≤ ((j + (m + 1) * T.length : Nat) : Int) * M := Int.mul_le_mul_of_nonneg_right (by rw [Nat.add_mul]; omega) hM
      omega
    have hf := fold_relax hM hT T (l, false) j (fun y hy => hy) hl hb
    rw [iter_succ, o_step hM hT hl hb hTl hj1 hN (by omega) ⟨hk0, hk2⟩]
    cases hq : (rndE T l).2
    · simp [mostE, hq]
    · simp only [if_true, mostE, hq]
      exact o_loop hM hT hTl hN hk2 m (j + T.length) _ (k + 1) F (by omega) (by omega) hf.1 hf.2 (by rw [show j + T.length + m * T.length = j + (m + 1) * T.length by rw [Nat.add_mul]; omega]; exact hj) (by omega)
/-- The numbers at the start. -/
def l0E (n : Nat) : List Int := (List.replicate n 1099511627776).set 0 0
theorem p62 (hM : 0 ≤ M) (hT : TOk n M T) (hn : now + 1 = n) (hn2 : 1 ≤ n ∧ n ≤ 200) (hTl : T.length ≤ 1000000) (hj : (((n + 1) * T.length : Nat) : Int) * M ≤ 4000000000000000000) :
    R 62 [.gref (rvG r a b c d me T now), I 0] = some (if (mostE T (n + 1) (l0E n)).2 = true then .tup [.sl (some 0) 1 (eI (mostE T (n + 1) (l0E n)).1), B true] else .tup [S 1 [], B false]) := by
  have hb0 : BdE M 0 (l0E n) := fun v hv => by
    rcases List.mem_or_eq_of_mem_set hv with hv | rfl
    · have := (List.mem_replicate.1 hv).2; subst this; simp
    · simp
  have hl0 : (l0E n).length = n := by simp [l0E]
  have L : iter (evC2 R (T.length + n + 5) b62_0) (T.length + n + 5) { fr := [(0, .gref (rvG r a b c d me T now)), (4, .sl (some 1600) 1 (eI (l0E n))), (22, I ((n : Int) + 1)), (23, I 0)], tk := [] } = _ :=
    o_loop (r := r) (a := a) (b := b) (c := c) (d := d) (me := me) (now := now) (k2 := (n : Int) + 1) (N := T.length + n + 5) hM hT hTl (by omega) (by omega) (n + 1) 0 (l0E n) 0 (T.length + n + 5) (by omega) (by omega) hl0 hb0 (by simpa using hj) (by omega)
  have e1 : R 91 [S 1 [[I 1099511627776]], I (now + 1)] = some (.sl (some 0) 1 (List.replicate n [I 1099511627776])) := by
    rw [hn]
    refine (run2_told (F := F2) (C := C2) (f := 91) (g := G1.repG) rfl).trans ?_
    show (if 1 ≤ (n : Int) ∧ (n : Int) ≤ 200 then some (V.sl (some 0) 1 (List.replicate (n : Int).toNat [V.int IntKind.i64 1099511627776])) else none) = _
    rw [if_pos (by omega)]
    rfl
  have hr : (List.replicate n (1099511627776 : Int)).map (fun x => [I x]) = List.replicate n [I 1099511627776] := by simp
  have hs : (List.replicate n [I 1099511627776]).set 0 [I 0] = eI (l0E n) := by
    simp [l0E, List.map_set]
  have hw : IntKind.i64.wrap (now + 1) = now + 1 := G1.wr1 (by omega)
  have hw2 : IntKind.i64.wrap ((n : Int) + 1) = (n : Int) + 1 := G1.wr1 (by omega)
  have hlen : (List.replicate n [I 1099511627776]).length = n := by simp
  have hz : (List.replicate n [I 1099511627776])[0]? = some [I 1099511627776] := by rw [List.getElem?_replicate, if_pos (by omega)]
  have h0 : (0 : Int) < n := by omega
  refine run2_body (T.length + n + 5) rfl rfl rfl rfl rfl ?_
  generalize hq : mostE T (n + 1) (l0E n) = q at *
  generalize hF : evC2 R (T.length + n + 5) b62_0 = F at *
  generalize List.replicate n [I 1099511627776] = z at *
  cases h2 : q.2 <;> rw [h2] at L <;> simp (maxSteps := 2000000) (disch := first | omega | (simp; done) | (simp; omega)) [-getElem?_pos, l62, hF, L, e1, hw, hw2, hs, hlen, hz, hl0, h0]
end
end Go.Lo

/- The rules of the sizes with the opposite sign; what a size can be. -/
namespace Go.Lo
open Go.Proofs
set_option linter.unusedSimpArgs false
set_option maxHeartbeats 8000000
set_option maxRecDepth 20000
theorem slT2_int {ts : List Nat} {k : IntKind} {n : Int} : slT2 ts (.int k n) = some false := rfl
theorem slT2_bool {ts : List Nat} {b : Bool} : slT2 ts (.bool b) = some false := rfl
theorem slT2_none {ts : List Nat} {n : Nat} {es : List (List V)} : slT2 ts (.sl none n es) = some false := rfl
def oppE (T : Rul) : Rul := T.map fun x => (x.2.1, x.1, x.2.2)
abbrev sQ (now : Int) (T L : Rul) (i : Nat) : St := { fr := [(3, .ref 11 0), (11, .box [B false, I 0, I 0, I 0, I 0, S 2 [], .sl (some 2003400) 3 (rT L), I now]), (15, S 3 (rT T)), (16, I T.length), (17, I i)], tk := [] }
theorem q_step {now : Int} {T L : Rul} {i : Nat} {x : Int × Int × Int} (hi : T[i]? = some x) (hT : T.length ≤ 1000000) (hL : L.length ≤ 1000000) :
    evC2 R 1 b63_0 (sQ now T L i) = some (.normal, sQ now T (L ++ [(x.2.1, x.1, x.2.2)]) (i + 1)) := by
  have hlt : i < T.length := (List.getElem?_eq_some_iff.1 hi).1
  have hi2 : ((i : Int) < T.length) := by omega
  have hw2 : IntKind.i64.wrap ((i : Int) + 1) = (i : Int) + 1 := G1.wr1 (by omega)
  obtain ⟨p, q, c⟩ := x
  cases L with
  | nil => simp (maxSteps := 2000000) (disch := first | omega | (simp; done) | (simp; omega)) [-getElem?_pos, b63_0, slT2_int, slT2_bool, slT2_none, hi, hi2, hw2]
  | cons y L => 
    simp only [List.length_cons] at hL
    simp (maxSteps := 2000000) (disch := first | omega | (simp; done) | (simp; omega)) [-getElem?_pos, b63_0, slT2_int, slT2_bool, slT2_none, hi, hi2, hw2, hL, x_appo (hne := List.cons_ne_nil (G1.rl y) (L.map G1.rl))]
theorem q_stop {now : Int} {T L : Rul} : evC2 R 1 b63_0 (sQ now T L T.length) = some (.exit 0, { fr := [(3, .ref 11 0), (11, .box [B false, I 0, I 0, I 0, I 0, S 2 [], .sl (some 2003400) 3 (rT L), I now]), (15, S 3 (rT T)), (16, I T.length), (17, I T.length), (18, B false)], tk := [] }) := by
  simp (maxSteps := 2000000) (disch := first | omega | (simp; done) | (simp; omega)) [-getElem?_pos, b63_0]
theorem p63 {r : Bool} {a b c d now : Int} {me : List (List V)} {T : Rul} (hT : T.length ≤ 1000000) (hne : T ≠ []) :
    R 63 [.gref (rvG r a b c d me T now)] = some (.gref (rvG false 0 0 0 0 [] (oppE T) now)) := by
  have L : iter (evC2 R (T.length + 1) b63_0) (T.length + 1) { fr := [(3, .ref 11 0), (11, .box [B false, I 0, I 0, I 0, I 0, S 2 [], .sl (some 2003400) 3 [], I now]), (15, S 3 (rT T)), (16, I T.length), (17, I 0)], tk := [] } = some (.exit 0, { fr := [(3, .ref 11 0), (11, .box [B false, I 0, I 0, I 0, I 0, S 2 [], .sl (some 2003400) 3 (rT (oppE T)), I now]), (15, S 3 (rT T)), (16, I T.length), (17, I T.length), (18, B false)], tk := [] }) :=
    loop_all (f := evC2 R (T.length + 1) b63_0) (s := fun i => sQ now T (oppE (T.take i)) i) (n := T.length) (fun i hi => by
      have h1 : T[i]? = some T[i] := List.getElem?_eq_getElem hi
      generalize T[i] = x at h1
      have := q_step (now := now) (L := oppE (T.take i)) h1 hT (by simp only [oppE, List.length_map, List.length_take]; omega)
      have e : oppE (T.take (i + 1)) = oppE (T.take i) ++ [(x.2.1, x.1, x.2.2)] := by
        rw [G1.take_succ_of h1]; simp only [oppE, List.map_append, List.map_cons, List.map_nil]
      rw [e]
      exact this) (by rw [List.take_length]; exact q_stop) (by simp)
  have hne2 : rT (oppE T) ≠ [] := by simp [oppE, hne]
  generalize hF : evC2 R (T.length + 1) b63_0 = F at *
  refine run2_body (T.length + 1) rfl rfl rfl rfl rfl ?_
  generalize hO : rT (oppE T) = O at *
  cases O with
  | nil => exact absurd rfl hne2
  | cons o O => simp (maxSteps := 2000000) (disch := first | omega | (simp; done) | (simp; omega)) [-getElem?_pos, l63, hF, L, hO]
theorem p60 {ring : Bool} {a b c d now x y : Int} {me : List (List V)} {T : Rul} (h : (-9223372036854775807 ≤ x ∧ x ≤ 9223372036854775807) ∧ -9223372036854775807 ≤ y ∧ y ≤ 9223372036854775807) :
    R 60 [.gref (rvG ring a b c d me T now), .agg [I x, I y]] = some (.agg [I (G1.tn ring (x, y)).1, I (G1.tn ring (x, y)).2]) := by
  have h1 : IntKind.i64.wrap (-x) = -x := G1.wr1 (by omega)
  have h2 : IntKind.i64.wrap (-y) = -y := G1.wr1 (by omega)
  refine run2_body 1 rfl rfl rfl rfl rfl ?_
  cases ring <;> simp (maxSteps := 2000000) (disch := first | omega | (simp; done) | (simp; omega)) [-getElem?_pos, l60, h1, h2, G1.tn]
theorem most_bd {M : Int} (hM : 0 ≤ M) {n : Nat} {T : Rul} (hT : TOk n M T) : ∀ (m j : Nat) (l : List Int), l.length = n → BdE M j l → (mostE T m l).1.length = n ∧ BdE M (j + m * T.length) (mostE T m l).1
  | 0, j, l, hl, hb => ⟨hl, by simpa [mostE] using hb⟩
  | m + 1, j, l, hl, hb => by
    have hf := fold_relax hM hT T (l, false) j (fun y hy => hy) hl hb
    have e : j + (m + 1) * T.length = j + T.length + m * T.length := by rw [Nat.add_mul]; omega
    rw [e]
    unfold mostE
    split
    · exact most_bd hM hT m (j + T.length) _ hf.1 hf.2
    · exact ⟨hf.1, bd_mono hM (by omega) hf.2⟩
theorem opp_ok {M : Int} {n : Nat} {T : Rul} (hT : TOk n M T) : TOk n M (oppE T) := fun x hx => by
  obtain ⟨y, hy, rfl⟩ := List.mem_map.1 hx
  obtain ⟨h1, h2, h3⟩ := hT y hy
  exact ⟨h2, h1, h3⟩
theorem l0_ok {M : Int} {n : Nat} : (l0E n).length = n ∧ BdE M 0 (l0E n) := ⟨by simp [l0E], fun v hv => by
  rcases List.mem_or_eq_of_mem_set hv with hv | rfl
  · have := (List.mem_replicate.1 hv).2; subst this; simp
  · simp⟩
/-- What a size can be, or the error. -/
def spanE (ring : Bool) (T : Rul) (n k : Nat) : (Int × Int) × Int :=
  if (mostE T (n + 1) (l0E n)).2 = true ∧ (mostE (oppE T) (n + 1) (l0E n)).2 = true then (G1.tn ring (-((mostE (oppE T) (n + 1) (l0E n)).1.getD k 0), (mostE T (n + 1) (l0E n)).1.getD k 0), 0) else ((0, 0), 9)
theorem p33 {ring : Bool} {a b c d now : Int} {me : List (List V)} {T : Rul} {n k : Nat} {M : Int} (hM : 0 ≤ M) (hT : TOk n M T) (hn : now + 1 = n) (hn2 : 1 ≤ n ∧ n ≤ 200) (hTl : T.length ≤ 1000000) (hne : T ≠ []) (hj : (((n + 1) * T.length : Nat) : Int) * M ≤ 4000000000000000000) (hk : k < n) :
    R 33 [.gref (rvG ring a b c d me T now), I k] = some (.tup [.agg [I (spanE ring T n k).1.1, I (spanE ring T n k).1.2], I (spanE ring T n k).2]) := by
  have hol : (oppE T).length = T.length := by simp [oppE]
  have m1 := p62 (r := ring) (a := a) (b := b) (c := c) (d := d) (me := me) hM hT hn hn2 hTl hj
  have m2 := p62 (r := false) (a := 0) (b := 0) (c := 0) (d := 0) (me := []) hM (opp_ok hT) hn hn2 (by rw [hol]; exact hTl) (by rw [hol]; exact hj)
  have o1 := p63 (r := ring) (a := a) (b := b) (c := c) (d := d) (now := now) (me := me) hTl hne
  have b1 := most_bd hM hT (n + 1) 0 (l0E n) (l0_ok (M := M)).1 (l0_ok (M := M)).2
  have b2 := most_bd hM (opp_ok hT) (n + 1) 0 (l0E n) (l0_ok (M := M)).1 (l0_ok (M := M)).2
  rw [hol] at b2
  have hj2 : ((0 + (n + 1) * T.length : Nat) : Int) * M ≤ 4000000000000000000 := by simpa using hj
  unfold spanE
  generalize mostE T (n + 1) (l0E n) = q1 at *
  generalize mostE (oppE T) (n + 1) (l0E n) = q2 at *
  have c1 := bd_get b1.2 (i := k) (by omega)
  have c2 := bd_get b2.2 (i := k) (by omega)
  have g1 := getD_mem (l := q1.1) (i := k) (by omega)
  have g2 := getD_mem (l := q2.1) (i := k) (by omega)
  have t1 := p60 (ring := ring) (a := a) (b := b) (c := c) (d := d) (now := now) (me := me) (T := T) (x := -(q2.1.getD k 0)) (y := q1.1.getD k 0) (by omega)
  have hw : IntKind.i64.wrap (-(q2.1.getD k 0)) = -(q2.1.getD k 0) := G1.wr1 (by omega)
  have hk1 : (k : Int) < q1.1.length := by omega
  have hk2 : (k : Int) < q2.1.length := by omega
  clear c1 c2
  generalize q1.1.getD k 0 = x1 at *
  generalize q2.1.getD k 0 = x2 at *
  refine run2_body 1 rfl rfl rfl rfl rfl ?_
  cases h1 : q1.2 <;> cases h2 : q2.2 <;> rw [h1] at m1 <;> rw [h2] at m2 <;> simp only [if_true, Bool.false_eq_true, if_false] at m1 m2 <;> simp (maxSteps := 2000000) (disch := first | omega | (simp; done) | (simp; omega)) [-getElem?_pos, l33, m1, m2, o1, g1, g2, t1, hw, hk1, hk2]
end Go.Lo

/- Rules and events are checked; the size of a gauge. -/
namespace Go.Lo
open Go.Proofs
set_option linter.unusedSimpArgs false
set_option maxHeartbeats 8000000
set_option maxRecDepth 20000
/-! ### The first of a list for which a function says so -/
theorem p92 {α : Type} {E : α → List V} {W : α → V} {g : Nat} {caps : List V} {pr : α → Bool} (hc : ∀ rd, frzL rd caps = some caps) {xs : List α} (hE : ∀ x ∈ xs, partV (E x) 0 none = some (W x) ∧ (∀ rd, (W x).frz rd = some (W x)) ∧ ∀ s, opV s (some (W x)) = some (W x)) (hp : ∀ x ∈ xs, R g (W x :: caps) = some (B (pr x))) (hl : xs.length < 4611686018427387904) :
    R 92 [S 1 (xs.map E), .fn (.f g) caps] = some (I (match xs.findIdx? pr with | none => -1 | some k => k)) := by
  have L := loop_find (s := fun i => { fr := [(0, S 1 (xs.map E)), (1, .fn (.f g) caps), (7, I xs.length), (8, I i)], tk := [] }) (f := evC2 R (xs.length + 1) b92_0) (n := xs.length) (g := prAt pr xs) (E := fun i => (.ret, { fr := [(4, I i)], tk := [] })) (X := (.exit 0, { fr := [(0, S 1 (xs.map E)), (1, .fn (.f g) caps), (7, I xs.length), (8, I xs.length), (9, B false)], tk := [] }))
    (fun i hi => by
      have h1 : xs[i]? = some xs[i] := List.getElem?_eq_getElem hi
      have hm : xs[i] ∈ xs := List.getElem_mem hi
      have hp' := hp _ hm
      obtain ⟨h2, h3, h4⟩ := hE _ hm
      have hlt : (i : Int) < xs.length := by omega
      clear hp hE
      generalize xs[i] = x at *
      rw [prAt_some h1]
      generalize hw : W x = w at *
      cases hx : pr x <;> rw [hx] at hp' <;> simp (maxSteps := 2000000) (disch := first | omega | (simp; done) | (simp; omega)) [-getElem?_pos, -partV, b92_0, h1, h2, h3, h4, hc, hp', hlt, wrap64]) (fun _ => by simp) (by simp [b92_0]) (by simp) xs.length 0 (by omega)
  rw [find_idx] at L
  refine run2_body (xs.length + 1) rfl rfl rfl rfl rfl ?_
  cases hf : xs.findIdx? pr with
  | none =>
    rw [hf] at L
    simp at L
    simp [l92, L]
  | some k =>
    rw [hf] at L
    simp at L
    simp [l92, L]
theorem p67 {α : Type} {E : α → List V} {W : α → V} {g : Nat} {caps : List V} {pr : α → Bool} (hc : ∀ rd, frzL rd caps = some caps) {xs : List α} (hE : ∀ x ∈ xs, partV (E x) 0 none = some (W x) ∧ (∀ rd, (W x).frz rd = some (W x)) ∧ ∀ s, opV s (some (W x)) = some (W x)) (hp : ∀ x ∈ xs, R g (W x :: caps) = some (B (pr x))) (hl : xs.length < 4611686018427387904) :
    R 67 [S 1 (xs.map E), .fn (.f g) caps] = some (B (xs.any pr)) := by
  have h := p92 hc hE hp hl
  refine run2_body 1 rfl rfl rfl rfl rfl ?_
  cases hf : xs.findIdx? pr with
  | none =>
    rw [hf] at h
    have : xs.any pr = false := by
      rw [List.findIdx?_eq_none_iff] at hf
      rw [List.any_eq_false]; simpa using hf
    simp [l67, h, hc, this]
  | some k =>
    rw [hf] at h
    have : xs.any pr = true := by
      have := List.findIdx?_isSome (xs := xs) (p := pr)
      rw [hf] at this
      exact this.symm
    simp (maxSteps := 2000000) (disch := first | omega | (simp; done) | (simp; omega)) [l67, h, hc, this]

theorem p85 (x lo hi : Int) : R 85 [I x, .cref [I lo], .cref [I hi]] = some (B (decide (x < lo) || decide (x > hi))) := by
  refine run2_body 1 rfl rfl rfl rfl rfl ?_
  by_cases h : x < lo <;> simp [l85, h]
theorem p50 (lo hi : Int) {xs : List Int} (hl : xs.length < 4611686018427387904) : R 50 [I lo, I hi, S 1 (eI xs)] = some (B (xs.all fun x => decide (lo ≤ x ∧ x ≤ hi))) := by
  have h := p67 (g := 85) (caps := [.cref [I lo], .cref [I hi]]) (pr := fun x => decide (x < lo) || decide (x > hi)) (E := fun x => [I x]) (W := fun x => I x) (xs := xs) (fun _ => rfl) (fun _ _ => ⟨rfl, fun _ => rfl, fun _ => rfl⟩) (fun x _ => p85 x lo hi) hl
  refine run2_body 1 rfl rfl rfl rfl rfl ?_
  have e : (xs.all fun x => decide (lo ≤ x ∧ x ≤ hi)) = !(xs.any fun x => decide (x < lo) || decide (x > hi)) := by
    rw [List.not_any_eq_all_not]
    congr 1
    funext x
    by_cases h1 : x < lo <;> by_cases h2 : x > hi <;> simp [h1, h2] <;> omega
  rw [e]
  simp [l50, h]

/-! ### The first of a list for which a function says so -/
theorem p105 {α : Type} {E : α → List V} {W : α → V} {g : Nat} {caps : List V} {pr : α → Bool} (hc : ∀ rd, frzL rd caps = some caps) {xs : List α} (hE : ∀ x ∈ xs, partV (E x) 0 (some 2) = some (W x) ∧ (∀ rd, (W x).frz rd = some (W x)) ∧ ∀ s, opV s (some (W x)) = some (W x)) (hp : ∀ x ∈ xs, R g (W x :: caps) = some (B (pr x))) (hl : xs.length < 4611686018427387904) :
    R 105 [S 2 (xs.map E), .fn (.f g) caps] = some (I (match xs.findIdx? pr with | none => -1 | some k => k)) := by
  have L := loop_find (s := fun i => { fr := [(0, S 2 (xs.map E)), (1, .fn (.f g) caps), (7, I xs.length), (8, I i)], tk := [] }) (f := evC2 R (xs.length + 1) b105_0) (n := xs.length) (g := prAt pr xs) (E := fun i => (.ret, { fr := [(4, I i)], tk := [] })) (X := (.exit 0, { fr := [(0, S 2 (xs.map E)), (1, .fn (.f g) caps), (7, I xs.length), (8, I xs.length), (9, B false)], tk := [] }))
    (fun i hi => by
      have h1 : xs[i]? = some xs[i] := List.getElem?_eq_getElem hi
      have hm : xs[i] ∈ xs := List.getElem_mem hi
      have hp' := hp _ hm
      obtain ⟨h2, h3, h4⟩ := hE _ hm
      have hlt : (i : Int) < xs.length := by omega
      clear hp hE
      generalize xs[i] = x at *
      rw [prAt_some h1]
      generalize hw : W x = w at *
      cases hx : pr x <;> rw [hx] at hp' <;> simp (maxSteps := 2000000) (disch := first | omega | (simp; done) | (simp; omega)) [-getElem?_pos, -partV, b105_0, h1, h2, h3, h4, hc, hp', hlt, wrap64]) (fun _ => by simp) (by simp [b105_0]) (by simp) xs.length 0 (by omega)
  rw [find_idx] at L
  refine run2_body (xs.length + 1) rfl rfl rfl rfl rfl ?_
  cases hf : xs.findIdx? pr with
  | none =>
    rw [hf] at L
    simp at L
    simp [l105, L]
  | some k =>
    rw [hf] at L
    simp at L
    simp [l105, L]
theorem p90 {α : Type} {E : α → List V} {W : α → V} {g : Nat} {caps : List V} {pr : α → Bool} (hc : ∀ rd, frzL rd caps = some caps) {xs : List α} (hE : ∀ x ∈ xs, partV (E x) 0 (some 2) = some (W x) ∧ (∀ rd, (W x).frz rd = some (W x)) ∧ ∀ s, opV s (some (W x)) = some (W x)) (hp : ∀ x ∈ xs, R g (W x :: caps) = some (B (pr x))) (hl : xs.length < 4611686018427387904) :
    R 90 [S 2 (xs.map E), .fn (.f g) caps] = some (B (xs.any pr)) := by
  have h := p105 hc hE hp hl
  refine run2_body 1 rfl rfl rfl rfl rfl ?_
  cases hf : xs.findIdx? pr with
  | none =>
    rw [hf] at h
    have : xs.any pr = false := by
      rw [List.findIdx?_eq_none_iff] at hf
      rw [List.any_eq_false]; simpa using hf
    simp [l90, h, hc, this]
  | some k =>
    rw [hf] at h
    have : xs.any pr = true := by
      have := List.findIdx?_isSome (xs := xs) (p := pr)
      rw [hf] at this
      exact this.symm
    simp (maxSteps := 2000000) (disch := first | omega | (simp; done) | (simp; omega)) [l90, h, hc, this]

theorem gW_1 (lo hi x : Int) : R 50 [I lo, I hi, S 1 [[I x]]] = some (B (decide (lo ≤ x ∧ x ≤ hi))) := by
  have := p50 lo hi (xs := [x]) (by simp)
  simpa using this
theorem gW_2 (lo hi x y : Int) : R 50 [I lo, I hi, S 1 [[I x], [I y]]] = some (B (decide ((lo ≤ x ∧ x ≤ hi) ∧ (lo ≤ y ∧ y ≤ hi)))) := by
  have := p50 lo hi (xs := [x, y]) (by simp)
  simpa using this
theorem p57 (p m : Int) (g : Bool) : R 57 [.agg [I p, I m, B g]] = some (I (G0.kindE p m g)) := by
  have h := gW_1 1 100000 p
  refine run2_body 1 rfl rfl rfl rfl rfl ?_
  unfold G0.kindE
  by_cases h3 : p = 0
  · subst h3
    have h0 : ¬ (1 ≤ (0 : Int) ∧ (0 : Int) ≤ 100000) := by omega
    rw [decide_eq_false h0] at h
    by_cases h1 : m = -1 <;> cases g <;> simp [l57, h, h1]
  · by_cases h1 : m = -1 <;> by_cases h2 : 1 ≤ p ∧ p ≤ 100000 <;> cases g <;> simp [l57, h, h1, h2, h3]
abbrev eS (x : Int × Int) : V := .agg [I x.1, I x.2]
abbrev eS2 (l : List (Int × Int)) : List (List V) := l.map fun x => [I x.1, I x.2]
theorem p49 (s : Int × Int) (hi : Int) : R 49 [eS s, I hi] = some (B (decide (0 ≤ s.1 ∧ s.1 ≤ s.2 ∧ s.2 ≤ hi))) := by
  have e1 := gW_2 0 hi s.1 s.2
  refine run2_body 1 rfl rfl rfl rfl rfl ?_
  by_cases hq : (0 ≤ s.1 ∧ s.1 ≤ hi) ∧ (0 ≤ s.2 ∧ s.2 ≤ hi)
  · rw [decide_eq_true hq] at e1
    by_cases h : s.1 ≤ s.2
    · rw [decide_eq_true (show 0 ≤ s.1 ∧ s.1 ≤ s.2 ∧ s.2 ≤ hi by omega)]
      simp (maxSteps := 2000000) (disch := first | omega | (simp; done) | (simp; omega)) [-getElem?_pos, l49, e1, h]
    · rw [decide_eq_false (show ¬ (0 ≤ s.1 ∧ s.1 ≤ s.2 ∧ s.2 ≤ hi) by omega)]
      simp (maxSteps := 2000000) (disch := first | omega | (simp; done) | (simp; omega)) [-getElem?_pos, l49, e1, h]
  · rw [decide_eq_false hq] at e1
    rw [decide_eq_false (show ¬ (0 ≤ s.1 ∧ s.1 ≤ s.2 ∧ s.2 ≤ hi) by omega)]
    simp (maxSteps := 2000000) (disch := first | omega | (simp; done) | (simp; omega)) [-getElem?_pos, l49, e1]
def lenB (s : Int × Int) : Bool := decide (0 ≤ s.1 ∧ s.1 ≤ s.2 ∧ s.2 ≤ 10000000)
def wearB (s : Int × Int) : Bool := decide (0 ≤ s.1 ∧ s.1 ≤ s.2 ∧ s.2 ≤ 10000)
theorem p52 (s : Int × Int) : R 52 [eS s] = some (B (!lenB s)) := by
  have e1 := p49 s 10000000
  rw [show decide (0 ≤ s.1 ∧ s.1 ≤ s.2 ∧ s.2 ≤ 10000000) = lenB s from rfl] at e1
  refine run2_body 1 rfl rfl rfl rfl rfl ?_
  simp (maxSteps := 2000000) (disch := first | omega | (simp; done) | (simp; omega)) [-getElem?_pos, l52, e1]
/-- The error of rules. -/
def chkR (n w : Int × Int) (ms : List (Int × Int)) : Int := if 10 < ms.length then 5 else if lenB n = true ∧ wearB w = true ∧ (ms.any fun s => !lenB s) = false then 0 else 2
abbrev eR (ring : Bool) (n w : Int × Int) (ms : List (Int × Int)) : V := .agg [B ring, I n.1, I n.2, I w.1, I w.2, S 2 (eS2 ms)]
theorem p56 (ring : Bool) (n w : Int × Int) {ms : List (Int × Int)} (hl : ms.length ≤ 1000000) : R 56 [eR ring n w ms] = some (I (chkR n w ms)) := by
  have e1 := p52 n
  have e2 := p49 w 10000
  have e3 := p90 (g := 52) (caps := []) (pr := fun s => !lenB s) (E := fun s : Int × Int => [I s.1, I s.2]) (W := eS) (xs := ms) (fun _ => rfl) (fun _ _ => ⟨rfl, fun _ => rfl, fun _ => rfl⟩) (fun s _ => p52 s) (by omega)
  rw [show decide (0 ≤ w.1 ∧ w.1 ≤ w.2 ∧ w.2 ≤ 10000) = wearB w from rfl] at e2
  refine run2_body 1 rfl rfl rfl rfl rfl ?_
  unfold chkR
  generalize (ms.any fun s => !lenB s) = q at *
  by_cases h : 10 < ms.length
  · have h2 : (10 : Int) < ms.length := by omega
    simp (maxSteps := 2000000) (disch := first | omega | (simp; done) | (simp; omega)) [-getElem?_pos, l56, h, h2]
  · have h2 : ¬ (10 : Int) < ms.length := by omega
    cases h3 : lenB n <;> cases h4 : wearB w <;> cases q <;> simp (maxSteps := 2000000) (disch := first | omega | (simp; done) | (simp; omega)) [-getElem?_pos, l56, h, h2, e1, e2, e3, h3, h4]
end Go.Lo

/- Events are checked; the size of a gauge. -/
namespace Go.Lo
open Go.Proofs
set_option linter.unusedSimpArgs false
set_option maxHeartbeats 8000000
set_option maxRecDepth 20000
abbrev Evt := Int × Int × Bool
abbrev eV (l : List Evt) : List (List V) := l.map fun x => [I x.1, I x.2.1, B x.2.2]
theorem find_prAt {α : Type} (pr : α → Bool) (xs : List α) : (match (List.range' 0 xs.length).find? (prAt pr xs) with | some i => xs[i]? | none => none) = xs.find? pr := by
  rw [find_idx]
  cases h : xs.findIdx? pr with
  | none =>
    rw [List.findIdx?_eq_none_iff] at h
    symm
    rw [List.find?_eq_none]
    intro x hx
    rw [h x hx]; simp
  | some k =>
    obtain ⟨hk, h1, h2⟩ := List.findIdx?_eq_some_iff_getElem.1 h
    show xs[k]? = _
    rw [List.getElem?_eq_getElem hk]
    symm
    rw [List.find?_eq_some_iff_append]
    refine ⟨h1, xs.take k, xs.drop (k + 1), by rw [List.getElem_cons_drop]; exact (List.take_append_drop k xs).symm, fun a ha => ?_⟩
    obtain ⟨j, hj, rfl⟩ := List.mem_iff_getElem.1 ha
    rw [List.length_take] at hj
    have := h2 j (by omega)
    rw [List.getElem_take]
    simpa using this
/-- The error of an event. -/
def evErr (m : Nat) (x : Evt) : Int := if -1 ≤ x.2.1 ∧ x.2.1 ≤ (m : Int) - 1 then (if G0.kindE x.1 x.2.1 x.2.2 = 0 then 2 else 0) else 7
/-- The error of rules and events. -/
def chkE (n w : Int × Int) (ms : List (Int × Int)) (es : List Evt) : Int :=
  if chkR n w ms ≠ 0 then chkR n w ms else if 100 < es.length then 5 else match es.find? fun x => decide (evErr ms.length x ≠ 0) with
    | some x => evErr ms.length x
    | none => 0
theorem p31 (ring : Bool) (n w : Int × Int) {ms : List (Int × Int)} {es : List Evt} (hm : ms.length ≤ 1000000) (hl : es.length ≤ 1000000) : R 31 [eR ring n w ms, S 3 (eV es)] = some (I (chkE n w ms es)) := by
  have L := loop_if (s := fun i => { fr := [(2, .box [B ring, I n.1, I n.2, I w.1, I w.2, S 2 (eS2 ms)]), (16, S 3 (eV es)), (17, I es.length), (18, I i)], tk := [] }) (f := evC2 R (es.length + 1) b31_0) (n := es.length) (g := prAt (fun x => decide (evErr ms.length x ≠ 0)) es) (E := fun i => (.ret, { fr := [(4, I (evErr ms.length (es.getD i (0, 0, false))))], tk := [] })) (X := (.exit 0, { fr := [(2, .box [B ring, I n.1, I n.2, I w.1, I w.2, S 2 (eS2 ms)]), (16, S 3 (eV es)), (17, I es.length), (18, I es.length), (19, B false)], tk := [] }))
    (fun i hi => by
      have h1 : es[i]? = some es[i] := List.getElem?_eq_getElem hi
      have h2 : (i : Int) < es.length := by omega
      have hw : IntKind.i64.wrap ((i : Int) + 1) = (i : Int) + 1 := G1.wr1 (by omega)
      have hw2 : IntKind.i64.wrap ((ms.length : Int) - 1) = (ms.length : Int) - 1 := G1.wr1 (by omega)
      rw [prAt_some h1, show es.getD i (0, 0, false) = es[i] by simp [hi]]
      generalize es[i] = x at *
      have e1 := gW_1 (-1) ((ms.length : Int) - 1) x.2.1
      have e2 := p57 x.1 x.2.1 x.2.2
      unfold evErr
      generalize G0.kindE x.1 x.2.1 x.2.2 = q at *
      by_cases hx : -1 ≤ x.2.1 ∧ x.2.1 ≤ (ms.length : Int) - 1
      · rw [decide_eq_true hx] at e1
        by_cases hq : q = 0 <;> simp (maxSteps := 2000000) (disch := first | omega | (simp; done) | (simp; omega)) [-getElem?_pos, b31_0, h1, h2, hw, hw2, e1, e2, hx, hq]
      · rw [decide_eq_false hx] at e1
        simp (maxSteps := 2000000) (disch := first | omega | (simp; done) | (simp; omega)) [-getElem?_pos, b31_0, h1, h2, hw, hw2, e1, hx]) (fun _ => by simp) (by simp (maxSteps := 2000000) (disch := first | omega | (simp; done) | (simp; omega)) [-getElem?_pos, b31_0]) (by simp)
  have hf := find_prAt (fun x => decide (evErr ms.length x ≠ 0)) es
  have e3 := p56 ring n w (ms := ms) hm
  unfold chkE
  generalize hF : evC2 R (es.length + 1) b31_0 = F at *
  have hfin : ∀ q : Int, (match es.find? fun x => decide (evErr ms.length x ≠ 0) with | some x => evErr ms.length x | none => 0) = q → R 31 [eR ring n w ms, S 3 (eV es)] = some (I (if chkR n w ms ≠ 0 then chkR n w ms else if 100 < es.length then 5 else q)) := fun q hq => by
    refine run2_body (es.length + 1) rfl rfl rfl rfl rfl ?_
    generalize chkR n w ms = c at *
    by_cases hc : c = 0
    · subst hc
      by_cases h100 : 100 < es.length
      · have h101 : (100 : Int) < es.length := by omega
        simp (maxSteps := 2000000) (disch := first | omega | (simp; done) | (simp; omega)) [-getElem?_pos, l31, e3, h100, h101]
      · have h101 : ¬ (100 : Int) < es.length := by omega
        cases hk : (List.range' 0 es.length).find? (prAt (fun x => decide (evErr ms.length x ≠ 0)) es) with
        | none =>
          rw [hk] at L hf
          simp only at L hf
          rw [← hf] at hq
          simp only at hq
          subst hq
          simp at L
          simp (maxSteps := 2000000) (disch := first | omega | (simp; done) | (simp; omega)) [-getElem?_pos, l31, hF, e3, h100, h101, L]
        | some k =>
          rw [hk] at L hf
          simp only at L hf
          rw [← hf] at hq
          have hk2 : k < es.length := by
            have := List.mem_of_find?_eq_some hk
            simp at this; omega
          rw [List.getElem?_eq_getElem hk2] at hq
          simp only at hq
          rw [show es.getD k (0, 0, false) = es[k] by simp [hk2], hq] at L
          simp at L
          simp (maxSteps := 2000000) (disch := first | omega | (simp; done) | (simp; omega)) [-getElem?_pos, l31, hF, e3, h100, h101, L]
    · simp (maxSteps := 2000000) (disch := first | omega | (simp; done) | (simp; omega)) [-getElem?_pos, l31, e3, hc]
  exact hfin _ rfl
end Go.Lo

/- The size of a gauge. -/
namespace Go.Lo
open Go.Proofs
set_option linter.unusedSimpArgs false
set_option maxHeartbeats 8000000
set_option maxRecDepth 20000
theorem TOk.mono {n m : Nat} {M : Int} {T : Rul} (h : TOk n M T) (hn : n ≤ m) : TOk m M T := fun x hx => by
  obtain ⟨h1, h2, h3⟩ := h x hx
  omega
theorem TOk.app {n : Nat} {M : Int} {T Q : Rul} (h : TOk n M T) (k : TOk n M Q) : TOk n M (T ++ Q) := fun x hx => by
  rcases List.mem_append.1 hx with hx | hx
  · exact h x hx
  · exact k x hx
/-- What is checked of rules. -/
structure ROk (n w : Int × Int) (ms : List (Int × Int)) : Prop where
  n : 0 ≤ n.1 ∧ n.1 ≤ n.2 ∧ n.2 ≤ 10000000
  w : 0 ≤ w.1 ∧ w.1 ≤ w.2 ∧ w.2 ≤ 10000
  ml : ms.length ≤ 10
  m : ∀ s ∈ ms, 0 ≤ s.1 ∧ s.1 ≤ s.2 ∧ s.2 ≤ 10000000
theorem chkR_ok {n w : Int × Int} {ms : List (Int × Int)} : chkR n w ms = 0 ↔ ROk n w ms := by
  unfold chkR
  constructor
  · intro h
    split at h
    · cases h
    · split at h
      · rename_i h1 h2
        obtain ⟨k1, k2, k3⟩ := h2
        refine ⟨by simpa [lenB] using k1, by simpa [wearB] using k2, by omega, fun s hs => ?_⟩
        rw [List.any_eq_false] at k3
        have := k3 s hs
        simpa [lenB] using this
      · cases h
  · rintro ⟨h1, h2, h3, h4⟩
    rw [if_neg (by omega), if_pos]
    refine ⟨by simpa [lenB] using h1, by simpa [wearB] using h2, ?_⟩
    rw [List.any_eq_false]
    intro s hs
    have := h4 s hs
    simpa [lenB] using this
/-- What is checked of events. -/
def EOk (m : Nat) (es : List Evt) : Prop := es.length ≤ 100 ∧ ∀ x ∈ es, (-1 ≤ x.2.1 ∧ x.2.1 ≤ (m : Int) - 1) ∧ G0.kindE x.1 x.2.1 x.2.2 ≠ 0
theorem evErr_ok {m : Nat} {x : Evt} : evErr m x = 0 ↔ (-1 ≤ x.2.1 ∧ x.2.1 ≤ (m : Int) - 1) ∧ G0.kindE x.1 x.2.1 x.2.2 ≠ 0 := by
  unfold evErr
  by_cases h1 : -1 ≤ x.2.1 ∧ x.2.1 ≤ (m : Int) - 1
  · by_cases h2 : G0.kindE x.1 x.2.1 x.2.2 = 0 <;> simp [h1, h2]
  · simp [h1]
theorem chkE_ok {n w : Int × Int} {ms : List (Int × Int)} {es : List Evt} : chkE n w ms es = 0 ↔ ROk n w ms ∧ EOk ms.length es := by
  unfold chkE EOk
  rw [← chkR_ok]
  by_cases h1 : chkR n w ms = 0
  · by_cases h2 : 100 < es.length
    · simp [h1, h2]; intro; omega
    · simp only [h1, ne_eq, not_true_eq_false, if_false, h2, true_and]
      cases hk : es.find? (fun x => decide (¬ evErr ms.length x = 0)) with
      | none =>
        rw [List.find?_eq_none] at hk
        simp only [true_iff]
        exact ⟨by omega, fun x hx => evErr_ok.1 (by simpa using hk x hx)⟩
      | some x =>
        have hx := List.find?_some hk
        have hm := List.mem_of_find?_eq_some hk
        simp only [decide_eq_true_eq] at hx
        constructor
        · intro h; exact absurd h hx
        · intro h; exact absurd (evErr_ok.2 (h.2 x hm)) hx
  · simp [h1]
/-- Of which kind an event is, by its parts. -/
theorem kind_cases {m : Nat} {x : Evt} (h : (-1 ≤ x.2.1 ∧ x.2.1 ≤ (m : Int) - 1) ∧ G0.kindE x.1 x.2.1 x.2.2 ≠ 0) : (G0.kindE x.1 x.2.1 x.2.2 = 1 ∧ 1 ≤ x.1 ∧ x.1 ≤ 100000) ∨ (G0.kindE x.1 x.2.1 x.2.2 ≠ 1 ∧ 0 ≤ x.2.1) := by
  obtain ⟨h1, h2⟩ := h
  unfold G0.kindE at *
  split at h2
  · rename_i h3
    exact .inl ⟨by rw [if_pos h3], h3.2.1⟩
  · rename_i h3
    split at h2
    · exact absurd rfl h2
    · rename_i h4
      rw [if_neg h3, if_neg h4]
      refine .inr ⟨by split <;> decide, ?_⟩
      omega
theorem worn_bd {w : Int × Int} {p : Int} (hw : 0 ≤ w.1 ∧ w.1 ≤ w.2 ∧ w.2 ≤ 10000) (hp : 0 ≤ p ∧ p ≤ 100000) : 0 ≤ (G1.wornE w p).1 ∧ (G1.wornE w p).1 ≤ (G1.wornE w p).2 ∧ (G1.wornE w p).2 ≤ 1000000 := by
  have h1 : 0 ≤ w.1 * p := Int.mul_nonneg (by omega) (by omega)
  have h2 : w.1 * p ≤ w.2 * p := Int.mul_le_mul_of_nonneg_right (by omega) (by omega)
  have h3 : w.2 * p ≤ 10000 * p := Int.mul_le_mul_of_nonneg_right (by omega) (by omega)
  unfold G1.wornE
  rw [Int.tdiv_eq_ediv_of_nonneg h1, Int.tdiv_eq_ediv_of_nonneg (by omega)]
  simp only
  omega
theorem add_ok {w : Int × Int} {s : Rul × Int} {x : Evt} {m : Nat} (hw : 0 ≤ w.1 ∧ w.1 ≤ w.2 ∧ w.2 ≤ 10000) (hx : (-1 ≤ x.2.1 ∧ x.2.1 ≤ (m : Int) - 1) ∧ G0.kindE x.1 x.2.1 x.2.2 ≠ 0) (hs : (m : Int) + 1 ≤ s.2) (hT : TOk (s.2 + 1).toNat 10000000 s.1) : (m : Int) + 1 ≤ (G1.addE w s x).2 ∧ TOk ((G1.addE w s x).2 + 1).toNat 10000000 (G1.addE w s x).1 := by
  unfold G1.addE
  rcases kind_cases hx with ⟨h1, h2⟩ | ⟨h1, h2⟩
  · rw [if_pos h1]
    have := worn_bd hw (p := x.1) (by omega)
    refine ⟨by simp only; omega, (hT.mono (by omega)).app fun y hy => ?_⟩
    simp only [List.mem_cons, List.not_mem_nil, or_false] at hy
    rcases hy with rfl | rfl <;> simp only <;> omega
  · rw [if_neg h1]
    split
    · refine ⟨hs, hT.app fun y hy => ?_⟩
      simp only [List.mem_cons, List.not_mem_nil, or_false] at hy
      subst hy
      simp only; omega
    · refine ⟨hs, hT.app fun y hy => ?_⟩
      simp only [List.mem_cons, List.not_mem_nil, or_false] at hy
      subst hy
      simp only; omega
theorem fold_ok {w : Int × Int} {m : Nat} (hw : 0 ≤ w.1 ∧ w.1 ≤ w.2 ∧ w.2 ≤ 10000) : ∀ (es : List Evt) (s : Rul × Int), (∀ x ∈ es, (-1 ≤ x.2.1 ∧ x.2.1 ≤ (m : Int) - 1) ∧ G0.kindE x.1 x.2.1 x.2.2 ≠ 0) → (m : Int) + 1 ≤ s.2 → TOk (s.2 + 1).toNat 10000000 s.1 → TOk ((es.foldl (G1.addE w) s).2 + 1).toNat 10000000 (es.foldl (G1.addE w) s).1
  | [], _, _, _, h => h
  | x :: es, s, hx, hs, hT => by
    obtain ⟨h1, h2⟩ := add_ok hw (hx x List.mem_cons_self) hs hT
    exact fold_ok hw es _ (fun y hy => hx y (List.mem_cons_of_mem _ hy)) h1 h2
theorem tn_bd {ring : Bool} {s : Int × Int} (h : 0 ≤ s.1 ∧ s.1 ≤ s.2 ∧ s.2 ≤ 10000000) : (-10000000 ≤ (G1.tn ring s).1 ∧ (G1.tn ring s).1 ≤ 10000000) ∧ -10000000 ≤ (G1.tn ring s).2 ∧ (G1.tn ring s).2 ≤ 10000000 := by
  unfold G1.tn
  cases ring <;> simp <;> omega
theorem ms_ok {ring : Bool} {m : Nat} : ∀ {ms : List (Int × Int)} {i : Nat}, (∀ s ∈ ms, 0 ≤ s.1 ∧ s.1 ≤ s.2 ∧ s.2 ≤ 10000000) → i + ms.length ≤ m → TOk (m + 2) 10000000 (G1.msT ring ms i)
  | [], _, _, _ => fun x hx => by cases hx
  | s :: ms, i, h, hi => by
    have h1 := tn_bd (ring := ring) (h s List.mem_cons_self)
    have h2 := ms_ok (ring := ring) (m := m) (ms := ms) (i := i + 1) (fun y hy => h y (List.mem_cons_of_mem _ hy)) (by simp only [List.length_cons] at hi; omega)
    simp only [List.length_cons] at hi
    intro x hx
    simp only [G1.msT, List.mem_cons] at hx
    rcases hx with rfl | rfl | hx
    · simp only; omega
    · simp only; omega
    · exact h2 x hx
theorem new_ok {ring : Bool} {n w : Int × Int} {ms : List (Int × Int)} {es : List Evt} (hr : ROk n w ms) (he : EOk ms.length es) : TOk ((G1.newT ring n w ms es).2 + 1).toNat 10000000 (G1.newT ring n w ms es).1 := by
  refine fold_ok (m := ms.length) hr.w es _ he.2 (Int.le_refl _) ?_
  have h1 := tn_bd (ring := ring) hr.n
  refine ((ms_ok (m := ms.length) hr.m (by omega)).mono (by simp only; omega)).app fun x hx => ?_
  simp only [List.mem_cons, List.not_mem_nil, or_false] at hx
  rcases hx with rfl | rfl <;> simp only <;> omega
theorem spL_map (ms : List (Int × Int)) : spL (eS2 ms) = some ms := by
  induction ms with
  | nil => rfl
  | cons s ms ih => simp only [eS2, List.map_cons] at ih ⊢; unfold spL; rw [ih]
theorem evL_map (es : List Evt) : evL (eV es) = some es := by
  induction es with
  | nil => rfl
  | cons s ms ih => simp only [eV, List.map_cons] at ih ⊢; unfold evL; rw [ih]
theorem p32 {ring : Bool} {n w : Int × Int} {ms : List (Int × Int)} {es : List Evt} (hr : ROk n w ms) (he : EOk ms.length es) : R 32 [eR ring n w ms, S 3 (eV es)] = some (.gref (rvG ring n.1 n.2 w.1 w.2 (eS2 ms) (G1.newT ring n w ms es).1 (G1.newT ring n w ms es).2)) := by
  refine (run2_told (F := F2) (C := C2) (f := 32) (g := nrG) rfl).trans ?_
  show (match spL (eS2 ms), evL (eV es) with
    | some ms, some es => if GOkP (n.1, n.2) (w.1, w.2) ms es then some (nrV ring (n.1, n.2) (w.1, w.2) ms es) else none
    | _, _ => none) = _
  rw [spL_map, evL_map]
  simp only
  have h1 := hr.n
  have h2 := hr.w
  have h3 := hr.ml
  rw [if_pos]
  · rfl
  · refine ⟨?_, ?_, by omega, by have := he.1; omega, fun s hs => ?_, fun x hx => ?_⟩
    · unfold G1.small; simp only; omega
    · unfold G1.small; simp only; omega
    · have := hr.m s hs
      unfold G1.small; omega
    · have := he.2 x hx
      refine ⟨this.2, ?_⟩
      unfold G1.small; omega
/-- The size of a gauge, or the error. -/
def sizeE (ring : Bool) (n w : Int × Int) (ms : List (Int × Int)) (es : List Evt) : (Int × Int) × Int :=
  if chkE n w ms es = 0 then spanE ring (G1.newT ring n w ms es).1 ((G1.newT ring n w ms es).2 + 1).toNat (G1.newT ring n w ms es).2.toNat else ((0, 0), chkE n w ms es)
theorem p13 (ring : Bool) (n w : Int × Int) {ms : List (Int × Int)} {es : List Evt} (hm : ms.length ≤ 1000000) (hl : es.length ≤ 1000000) : R 13 [eR ring n w ms, S 3 (eV es)] = some (.tup [eS (sizeE ring n w ms es).1, I (sizeE ring n w ms es).2]) := by
  have e1 := p31 ring n w hm hl
  unfold sizeE
  by_cases hc : chkE n w ms es = 0
  · rw [hc] at e1
    obtain ⟨hr, he⟩ := chkE_ok.1 hc
    have e2 := p32 (ring := ring) hr he
    have hT := new_ok (ring := ring) hr he
    have hb := G1.newT_bd (ring := ring) (n := n) (w := w) (ms := ms) (es := es)
    have h10 := hr.ml
    have h100 := he.1
    rw [if_pos hc]
    generalize G1.newT ring n w ms es = q at *
    have e3 := p33 (ring := ring) (a := n.1) (b := n.2) (c := w.1) (d := w.2) (me := eS2 ms) (T := q.1) (now := q.2) (n := (q.2 + 1).toNat) (k := q.2.toNat) (M := 10000000) (by omega) hT (by omega) (by omega) (by omega) (by intro h; rw [h] at hb; simp at hb)
      (by
        have h1 : ((q.2 + 1).toNat + 1) * q.1.length ≤ 200 * 300 := Nat.mul_le_mul (by omega) (by omega)
        omega) (by omega)
    rw [show ((q.2.toNat : Nat) : Int) = q.2 by omega] at e3
    generalize spanE ring q.1 (q.2 + 1).toNat q.2.toNat = z at *
    refine run2_body 1 rfl rfl rfl rfl rfl ?_
    simp (maxSteps := 2000000) (disch := first | omega | (simp; done) | (simp; omega)) [-getElem?_pos, l13, e1, e2, e3]
  · rw [if_neg hc]
    generalize chkE n w ms es = c at *
    refine run2_body 1 rfl rfl rfl rfl rfl ?_
    simp (maxSteps := 2000000) (disch := first | omega | (simp; done) | (simp; omega)) [-getElem?_pos, l13, e1, hc]
end Go.Lo

/- A gauge and its limit. -/
namespace Go.Lo
open Go.Proofs
set_option linter.unusedSimpArgs false
set_option maxHeartbeats 8000000
set_option maxRecDepth 20000
theorem p51 {w : Int × Int} {p : Int} (hw : 0 ≤ w.1 ∧ w.1 ≤ w.2 ∧ w.2 ≤ 10000) (hp : 0 ≤ p ∧ p ≤ 100000) : R 51 [eS w, I p] = some (eS (G1.wornE w p)) := by
  have h1 : 0 ≤ w.1 * p := Int.mul_nonneg (by omega) (by omega)
  have h2 : w.1 * p ≤ w.2 * p := Int.mul_le_mul_of_nonneg_right (by omega) (by omega)
  have h3 : w.2 * p ≤ 10000 * p := Int.mul_le_mul_of_nonneg_right (by omega) (by omega)
  have h4 := worn_bd hw hp
  have e1 : IntKind.i64.wrap (w.1 * p) = w.1 * p := G1.wr1 (by omega)
  have e2 : IntKind.i64.wrap (w.2 * p) = w.2 * p := G1.wr1 (by omega)
  have e3 : IntKind.i64.wrap (w.2 * p + 1000) = w.2 * p + 1000 := G1.wr1 (by omega)
  have e4 : IntKind.i64.wrap (w.2 * p + 1000 - 1) = w.2 * p + 1000 - 1 := G1.wr1 (by omega)
  have e5 : IntKind.i64.wrap (G1.wornE w p).1 = (G1.wornE w p).1 := G1.wr1 (by omega)
  have e6 : IntKind.i64.wrap (G1.wornE w p).2 = (G1.wornE w p).2 := G1.wr1 (by omega)
  unfold G1.wornE at *
  simp only at e5 e6
  clear h1 h2 h3 h4 hw hp
  generalize hx : w.1 * p = x at *
  generalize hy : w.2 * p = y at *
  refine run2_body 1 rfl rfl rfl rfl rfl ?_
  simp (maxSteps := 2000000) (disch := first | omega | (simp; done) | (simp; omega)) [-getElem?_pos, l51, hx, hy, e1, e2, e3, e4, e5, e6]
/-- A gauge: its sizes, its wear, its limit; or the error. -/
def ngV (ring : Bool) (n w : Int × Int) (ms : List (Int × Int)) (es : List Evt) (limit : Int) : V :=
  if chkE n w ms es ≠ 0 then .tup [.agg [I 0, I 0, I 0, I 0, I 0, B false], I (chkE n w ms es)]
  else if 0 ≤ limit ∧ limit ≤ 10000000 then .tup [.agg [I (sizeE ring n w ms es).1.1, I (sizeE ring n w ms es).1.2, I w.1, I w.2, I limit, B ring], I (sizeE ring n w ms es).2]
  else .tup [.agg [I 0, I 0, I 0, I 0, I 0, B false], I 3]
theorem p29 (ring : Bool) (n w : Int × Int) {ms : List (Int × Int)} {es : List Evt} (limit : Int) (hm : ms.length ≤ 1000000) (hl : es.length ≤ 1000000) : R 29 [eR ring n w ms, S 3 (eV es), I limit] = some (ngV ring n w ms es limit) := by
  have e1 := p31 ring n w hm hl
  have e2 := gW_1 0 10000000 limit
  have e3 := p13 ring n w hm hl
  unfold ngV
  generalize chkE n w ms es = c at *
  generalize sizeE ring n w ms es = s at *
  refine run2_body 1 rfl rfl rfl rfl rfl ?_
  by_cases hc : c = 0
  · subst hc
    by_cases hk : 0 ≤ limit ∧ limit ≤ 10000000
    · rw [decide_eq_true hk] at e2
      simp (maxSteps := 2000000) (disch := first | omega | (simp; done) | (simp; omega)) [-getElem?_pos, l29, e1, e2, e3, hk]
    · rw [decide_eq_false hk] at e2
      simp (maxSteps := 2000000) (disch := first | omega | (simp; done) | (simp; omega)) [-getElem?_pos, l29, e1, e2, e3, hk]
  · simp (maxSteps := 2000000) (disch := first | omega | (simp; done) | (simp; omega)) [-getElem?_pos, l29, e1, e2, e3, hc]
/-- How far each end is from the limit. -/
def roomE (ring : Bool) (s : Int × Int) (limit : Int) : Int × Int := if ring = true then (limit - s.2, limit - s.1) else (s.1 - limit, s.2 - limit)
def bd12 (x : Int) : Prop := -2000000000000 ≤ x ∧ x ≤ 2000000000000
theorem p30 {ring : Bool} {s w : Int × Int} {limit : Int} (h1 : bd12 s.1) (h2 : bd12 s.2) (h3 : bd12 limit) : R 30 [.agg [I s.1, I s.2, I w.1, I w.2, I limit, B ring]] = some (.tup [I (roomE ring s limit).1, I (roomE ring s limit).2]) := by
  unfold bd12 at *
  have e1 : IntKind.i64.wrap (limit - s.1) = limit - s.1 := G1.wr1 (by omega)
  have e2 : IntKind.i64.wrap (limit - s.2) = limit - s.2 := G1.wr1 (by omega)
  have e3 : IntKind.i64.wrap (s.1 - limit) = s.1 - limit := G1.wr1 (by omega)
  have e4 : IntKind.i64.wrap (s.2 - limit) = s.2 - limit := G1.wr1 (by omega)
  unfold roomE
  clear h1 h2 h3
  refine run2_body 1 rfl rfl rfl rfl rfl ?_
  cases ring <;> simp (maxSteps := 2000000) (disch := first | omega | (simp; done) | (simp; omega)) [-getElem?_pos, l30, e1, e2, e3, e4]
theorem size_bd {ring : Bool} {n w : Int × Int} {ms : List (Int × Int)} {es : List Evt} : bd12 (sizeE ring n w ms es).1.1 ∧ bd12 (sizeE ring n w ms es).1.2 := by
  unfold sizeE
  by_cases hc : chkE n w ms es = 0
  · rw [if_pos hc]
    obtain ⟨hr, he⟩ := chkE_ok.1 hc
    have hT := new_ok (ring := ring) hr he
    have hb := G1.newT_bd (ring := ring) (n := n) (w := w) (ms := ms) (es := es)
    have h10 := hr.ml
    have h100 := he.1
    generalize G1.newT ring n w ms es = q at *
    have hM : (0 : Int) ≤ 10000000 := by decide
    have b1 := most_bd hM hT ((q.2 + 1).toNat + 1) 0 (l0E (q.2 + 1).toNat) (l0_ok (M := 10000000)).1 (l0_ok (M := 10000000)).2
    have b2 := most_bd hM (opp_ok hT) ((q.2 + 1).toNat + 1) 0 (l0E (q.2 + 1).toNat) (l0_ok (M := 10000000)).1 (l0_ok (M := 10000000)).2
    rw [show (oppE q.1).length = q.1.length by simp [oppE]] at b2
    have h1 : ((q.2 + 1).toNat + 1) * q.1.length ≤ 200 * 222 := Nat.mul_le_mul (by omega) (by omega)
    unfold spanE
    split
    · have c1 := bd_get b1.2 (i := q.2.toNat) (by omega)
      have c2 := bd_get b2.2 (i := q.2.toNat) (by omega)
      generalize (mostE q.1 ((q.2 + 1).toNat + 1) (l0E (q.2 + 1).toNat)).1.getD q.2.toNat 0 = x at *
      generalize (mostE (oppE q.1) ((q.2 + 1).toNat + 1) (l0E (q.2 + 1).toNat)).1.getD q.2.toNat 0 = y at *
      generalize ((q.2 + 1).toNat + 1) * q.1.length = z at *
      unfold bd12 G1.tn
      cases ring <;> simp <;> omega
    · unfold bd12; simp
  · rw [if_neg hc]; unfold bd12; simp
/-- Whether a gauge is beyond its limit. -/
def bynE (ring : Bool) (n w : Int × Int) (ms : List (Int × Int)) (es : List Evt) (limit : Int) : Bool × Bool × Int :=
  if chkE n w ms es ≠ 0 then (false, false, chkE n w ms es) else if 0 ≤ limit ∧ limit ≤ 10000000 then
    (if (sizeE ring n w ms es).2 ≠ 0 then (false, false, (sizeE ring n w ms es).2) else (decide ((roomE ring (sizeE ring n w ms es).1 limit).2 < 0), decide ((roomE ring (sizeE ring n w ms es).1 limit).1 < 0), 0)) else (false, false, 3)
theorem p11 (ring : Bool) (n w : Int × Int) {ms : List (Int × Int)} {es : List Evt} (limit : Int) (hm : ms.length ≤ 1000000) (hl : es.length ≤ 1000000) : R 11 [eR ring n w ms, S 3 (eV es), I limit] = some (.tup [B (bynE ring n w ms es limit).1, B (bynE ring n w ms es limit).2.1, I (bynE ring n w ms es limit).2.2]) := by
  have e1 := p29 ring n w limit hm hl
  have hs := size_bd (ring := ring) (n := n) (w := w) (ms := ms) (es := es)
  unfold ngV at e1
  unfold bynE
  generalize chkE n w ms es = c at *
  generalize sizeE ring n w ms es = s at *
  by_cases hc : c = 0
  · subst hc
    simp only [ne_eq, not_true_eq_false, if_false] at e1 ⊢
    by_cases hk : 0 ≤ limit ∧ limit ≤ 10000000
    · rw [if_pos hk] at e1 ⊢
      have e2 := p30 (ring := ring) (s := s.1) (w := w) (limit := limit) hs.1 hs.2 (by unfold bd12; omega)
      generalize roomE ring s.1 limit = q at *
      clear hs
      refine run2_body 1 rfl rfl rfl rfl rfl ?_
      by_cases h0 : s.2 = 0 <;> simp (maxSteps := 2000000) (disch := first | omega | (simp; done) | (simp; omega)) [-getElem?_pos, l11, e1, e2, h0]
    · rw [if_neg hk] at e1 ⊢
      refine run2_body 1 rfl rfl rfl rfl rfl ?_
      simp (maxSteps := 2000000) (disch := first | omega | (simp; done) | (simp; omega)) [-getElem?_pos, l11, e1]
  · rw [if_pos hc] at e1 ⊢
    refine run2_body 1 rfl rfl rfl rfl rfl ?_
    simp (maxSteps := 2000000) (disch := first | omega | (simp; done) | (simp; omega)) [-getElem?_pos, l11, e1, hc]
end Go.Lo

/- The limits before plating. -/
namespace Go.Lo
open Go.Proofs
set_option linter.unusedSimpArgs false
set_option maxHeartbeats 8000000
set_option maxRecDepth 20000
theorem p86 (x lo hi : Int) : R 86 [I x, .cref [I lo], .cref [I hi]] = some (B (decide (x < lo) || decide (x > hi))) := by
  refine run2_body 1 rfl rfl rfl rfl rfl ?_
  by_cases h : x < lo <;> simp [l86, h]
theorem p54 (lo hi : Int) {xs : List Int} (hl : xs.length < 4611686018427387904) : R 54 [I lo, I hi, S 1 (eI xs)] = some (B (xs.all fun x => decide (lo ≤ x ∧ x ≤ hi))) := by
  have h := p67 (g := 86) (caps := [.cref [I lo], .cref [I hi]]) (pr := fun x => decide (x < lo) || decide (x > hi)) (E := fun x => [I x]) (W := fun x => I x) (xs := xs) (fun _ => rfl) (fun _ _ => ⟨rfl, fun _ => rfl, fun _ => rfl⟩) (fun x _ => p86 x lo hi) hl
  refine run2_body 1 rfl rfl rfl rfl rfl ?_
  have e : (xs.all fun x => decide (lo ≤ x ∧ x ≤ hi)) = !(xs.any fun x => decide (x < lo) || decide (x > hi)) := by
    rw [List.not_any_eq_all_not]
    congr 1
    funext x
    by_cases h1 : x < lo <;> by_cases h2 : x > hi <;> simp [h1, h2] <;> omega
  rw [e]
  simp [l54, h]

theorem zW_2 (lo hi x y : Int) : R 54 [I lo, I hi, S 1 [[I x], [I y]]] = some (B (decide ((lo ≤ x ∧ x ≤ hi) ∧ (lo ≤ y ∧ y ≤ hi)))) := by
  have := p54 lo hi (xs := [x, y]) (by simp)
  simpa using this
theorem zValid {s : Int × Int} {lo hi : Int} (h : lo ≤ s.1 ∧ s.1 ≤ s.2 ∧ s.2 ≤ hi) : R 53 [eS s, I lo, I hi] = some (B true) := by
  have e1 := zW_2 lo hi s.1 s.2
  rw [decide_eq_true (by omega)] at e1
  have h2 := h.2.1
  clear h
  refine run2_body 1 rfl rfl rfl rfl rfl ?_
  simp (maxSteps := 2000000) (disch := first | omega | (simp; done) | (simp; omega)) [-getElem?_pos, l53, e1, h2]
theorem md1 {n q : Int} (hq : 0 < q) : (n.tmod q + q).tmod q = n % q := by
  have hne : q ≠ 0 := by omega
  have h1 := Int.emod_nonneg n hne
  have h2 := Int.emod_lt_of_pos n hq
  rcases Int.le_total 0 n with h | h
  · rw [Int.tmod_eq_emod_of_nonneg h, Int.tmod_eq_emod_of_nonneg (by omega), Int.add_emod_right, Int.emod_emod]
  · have h3 := Int.emod_nonneg (-n) hne
    have h4 := Int.emod_lt_of_pos (-n) hq
    have h5 : n.tmod q = -((-n) % q) := by
      rw [show n = -(-n) by omega, Int.neg_tmod, Int.tmod_eq_emod_of_nonneg (by omega)]
      simp
    have h6 := Int.mul_ediv_add_emod (-n) q
    rw [h5, Int.tmod_eq_emod_of_nonneg (by omega)]
    have h7 : -((-n) % q) + q = n + q * ((-n) / q + 1) := by rw [Int.mul_add]; omega
    rw [h7, Int.add_mul_emod_self_left]
theorem md2 {n q : Int} (hq : 0 < q) : (n - n % q).tdiv q = n / q := by
  have h6 := Int.mul_ediv_add_emod n q
  rw [show n - n % q = q * (n / q) by omega, Int.mul_tdiv_cancel_left _ (by omega)]
theorem tmod_bd2 {n q : Int} (hq : 0 < q) : -q < n.tmod q ∧ n.tmod q < q := by
  rcases Int.le_total 0 n with h | h
  · have h1 := Int.emod_nonneg n (show q ≠ 0 by omega)
    have h2 := Int.emod_lt_of_pos n hq
    rw [Int.tmod_eq_emod_of_nonneg h]; omega
  · have h1 := Int.emod_nonneg (-n) (show q ≠ 0 by omega)
    have h2 := Int.emod_lt_of_pos (-n) hq
    have h5 : n.tmod q = -((-n) % q) := by
      rw [show n = -(-n) by omega, Int.neg_tmod, Int.tmod_eq_emod_of_nonneg (by omega)]
      simp
    omega
theorem ediv_bd3 {n q : Int} (hq : 1 ≤ q) (hn : -1000000000 ≤ n ∧ n ≤ 1000000000) : -1000000000 ≤ n / q ∧ n / q ≤ 1000000000 := by
  constructor
  · exact (Int.le_ediv_iff_mul_le (by omega)).2 (Int.le_trans (Int.mul_le_mul_of_nonpos_left (show (-1000000000 : Int) ≤ 0 by decide) hq) (by omega))
  · refine Int.ediv_le_of_le_mul (by omega) ?_
    have := Int.mul_le_mul_of_nonneg_left hq (show (0 : Int) ≤ 1000000000 by decide)
    omega
theorem p27 {a b g q l m n : Int} (hq : 1 ≤ q ∧ q ≤ 1000) (hn : -1000000000 ≤ n ∧ n ≤ 1000000000) : R 27 [.agg [I a, I b, I g, I q, I l, I m], I n] = some (I (n / q)) := by
  have t0 := tmod_bd2 (n := n) (q := q) (by omega)
  have h1 := Int.emod_nonneg n (show q ≠ 0 by omega)
  have h2 := Int.emod_lt_of_pos n (show 0 < q by omega)
  have t1 := md1 (n := n) (q := q) (by omega)
  have t2 := md2 (n := n) (q := q) (by omega)
  have hb := ediv_bd3 hq.1 hn
  have w1 : IntKind.i64.wrap (n.tmod q) = n.tmod q := G1.wr1 (by omega)
  have w2 : IntKind.i64.wrap (n.tmod q + q) = n.tmod q + q := G1.wr1 (by omega)
  have w3 : IntKind.i64.wrap (n % q) = n % q := G1.wr1 (by omega)
  have w4 : IntKind.i64.wrap (n - n % q) = n - n % q := G1.wr1 (by omega)
  have w5 : IntKind.i64.wrap (n / q) = n / q := G1.wr1 (by omega)
  have hq0 : ¬ q = 0 := by omega
  clear t0 h1 h2 hb hn hq
  refine run2_body 1 rfl rfl rfl rfl rfl ?_
  generalize hx : n.tmod q = x at *
  generalize hy : n % q = y at *
  generalize hz : n / q = z at *
  simp (maxSteps := 2000000) (disch := first | omega | (simp; done) | (simp; omega)) [-getElem?_pos, l27, hx, t1, t2, w1, w2, w3, w4, w5, hq0]
theorem p26 {a b g q l m n : Int} (hq : 1 ≤ q ∧ q ≤ 1000) (hn : -1000000000 ≤ n ∧ n ≤ 1000000000) : R 26 [.agg [I a, I b, I g, I q, I l, I m], I n] = some (I (-(-n / q))) := by
  have e1 := p27 (a := a) (b := b) (g := g) (l := l) (m := m) (n := -n) hq (by omega)
  have hb := ediv_bd3 (n := -n) hq.1 (by omega)
  have w1 : IntKind.i64.wrap (-n) = -n := G1.wr1 (by omega)
  have w2 : IntKind.i64.wrap (-(-n / q)) = -(-n / q) := G1.wr1 (by omega)
  clear hb hn hq
  generalize -n / q = z at *
  refine run2_body 1 rfl rfl rfl rfl rfl ?_
  simp (maxSteps := 2000000) (disch := first | omega | (simp; done) | (simp; omega)) [-getElem?_pos, l26, e1, w1, w2]
theorem p25 {s c : Int × Int} {g q : Int} (hs : -20000000 ≤ s.1 ∧ s.1 ≤ s.2 ∧ s.2 ≤ 20000000) (hc : 0 ≤ c.1 ∧ c.1 ≤ c.2 ∧ c.2 ≤ 10000) (hg : 1 ≤ g ∧ g ≤ 1000) (hq : 1 ≤ q ∧ q ≤ 1000) :
    R 25 [eS s, B false, .agg [I c.1, I c.2, I g, I q]] = some (.tup [.agg [I c.1, I c.2, I g, I q, I (c.1 * g), I (c.2 * g)], I 0]) := by
  have e1 := zValid hs
  have e2 := zValid hc
  have e3 := zW_2 1 1000 g q
  rw [decide_eq_true (by omega)] at e3
  have b1 : 0 ≤ c.1 * g := Int.mul_nonneg (by omega) (by omega)
  have b2 : c.1 * g ≤ c.2 * g := Int.mul_le_mul_of_nonneg_right (by omega) (by omega)
  have b3 : c.2 * g ≤ 10000 * g := Int.mul_le_mul_of_nonneg_right (by omega) (by omega)
  have w1 : IntKind.i64.wrap (c.1 * g) = c.1 * g := G1.wr1 (by omega)
  have w2 : IntKind.i64.wrap (c.2 * g) = c.2 * g := G1.wr1 (by omega)
  clear b1 b2 b3 hs hc hg hq
  refine run2_body 1 rfl rfl rfl rfl rfl ?_
  simp (maxSteps := 2000000) (disch := first | omega | (simp; done) | (simp; omega)) [-getElem?_pos, l25, e1, e2, e3, w1, w2]
/-- The limits before plating, or that there are none. -/
def bfE (s c : Int × Int) (g q : Int) : (Int × Int) × Int := if s.1 + -(c.1 * g / q) ≤ s.2 + -(c.2 * g) / q then ((s.1 + -(c.1 * g / q), s.2 + -(c.2 * g) / q), 0) else ((0, 0), 9)
theorem p8 {s c : Int × Int} {g q : Int} (hs : -20000000 ≤ s.1 ∧ s.1 ≤ s.2 ∧ s.2 ≤ 20000000) (hc : 0 ≤ c.1 ∧ c.1 ≤ c.2 ∧ c.2 ≤ 10000) (hg : 1 ≤ g ∧ g ≤ 1000) (hq : 1 ≤ q ∧ q ≤ 1000) :
    R 8 [eS s, B false, .agg [I c.1, I c.2, I g, I q]] = some (.tup [eS (bfE s c g q).1, I (bfE s c g q).2]) := by
  have e1 := p25 hs hc hg hq
  have b1 : 0 ≤ c.1 * g := Int.mul_nonneg (by omega) (by omega)
  have b2 : c.1 * g ≤ c.2 * g := Int.mul_le_mul_of_nonneg_right (by omega) (by omega)
  have b3 : c.2 * g ≤ 10000 * g := Int.mul_le_mul_of_nonneg_right (by omega) (by omega)
  have e2 := p26 (a := c.1) (b := c.2) (g := g) (l := c.1 * g) (m := c.2 * g) (n := -(c.1 * g)) hq (by omega)
  have e3 := p27 (a := c.1) (b := c.2) (g := g) (l := c.1 * g) (m := c.2 * g) (n := -(c.2 * g)) hq (by omega)
  rw [Int.neg_neg] at e2
  have d1 := ediv_bd3 (n := c.1 * g) hq.1 (by omega)
  have d2 := ediv_bd3 (n := -(c.2 * g)) hq.1 (by omega)
  have w1 : IntKind.i64.wrap (-(c.1 * g)) = -(c.1 * g) := G1.wr1 (by omega)
  have w2 : IntKind.i64.wrap (-(c.2 * g)) = -(c.2 * g) := G1.wr1 (by omega)
  have w3 : IntKind.i64.wrap (s.1 + -(c.1 * g / q)) = s.1 + -(c.1 * g / q) := G1.wr1 (by omega)
  have w4 : IntKind.i64.wrap (s.2 + -(c.2 * g) / q) = s.2 + -(c.2 * g) / q := G1.wr1 (by omega)
  unfold bfE
  clear b1 b2 b3 d1 d2 hs hc hg hq
  generalize -(c.2 * g) / q = y at *
  generalize c.1 * g / q = x at *
  generalize c.1 * g = u at *
  generalize c.2 * g = v at *
  refine run2_body 1 rfl rfl rfl rfl rfl ?_
  by_cases h : s.1 + -x ≤ s.2 + y
  · have h' : ¬ s.2 + y < s.1 + -x := by omega
    rw [if_pos h]
    simp (maxSteps := 2000000) (disch := first | omega | (simp; done) | (simp; omega)) [-getElem?_pos, l8, e1, e2, e3, w1, w2, w3, w4, h, h']
  · have h' : s.2 + y < s.1 + -x := by omega
    rw [if_neg h]
    simp (maxSteps := 2000000) (disch := first | omega | (simp; done) | (simp; omega)) [-getElem?_pos, l8, e1, e2, e3, w1, w2, w3, w4, h, h']
end Go.Lo

/- The size of a gauge after some pieces. -/
namespace Go.Lo
open Go.Proofs
set_option linter.unusedSimpArgs false
set_option maxHeartbeats 8000000
set_option maxRecDepth 20000
theorem p7 (a b : Int) : R 7 [I a, I b] = some (.agg [I a, I b]) := by
  refine run2_body 1 rfl rfl rfl rfl rfl ?_
  simp (maxSteps := 2000000) (disch := first | omega | (simp; done) | (simp; omega)) [-getElem?_pos, l7]
theorem p12 (a : Int) : R 12 [I a] = some (.agg [I a, I (-1), B false]) := by
  refine run2_body 1 rfl rfl rfl rfl rfl ?_
  simp (maxSteps := 2000000) (disch := first | omega | (simp; done) | (simp; omega)) [-getElem?_pos, l12]
abbrev far : Int := 1099511627776
theorem hit {l : List Int} {c : Bool} {x : Int × Int × Int} (h : l.getD x.2.1.toNat 0 < 1099511627776 ∧ l.getD x.2.1.toNat 0 + x.2.2 < l.getD x.1.toNat 0) : relaxE (l, c) x = (l.set x.1.toNat (l.getD x.2.1.toNat 0 + x.2.2), true) := by
  unfold relaxE; exact if_pos h
theorem miss {l : List Int} {c : Bool} {x : Int × Int × Int} (h : ¬ (l.getD x.2.1.toNat 0 < 1099511627776 ∧ l.getD x.2.1.toNat 0 + x.2.2 < l.getD x.1.toNat 0)) : relaxE (l, c) x = (l, c) := by
  unfold relaxE; exact if_neg h
section
variable {l h a b : Int}
theorem most_one (h1 : -100000000 ≤ l ∧ l ≤ h ∧ h ≤ 100000000) (h2 : 0 ≤ a ∧ a ≤ b ∧ b ≤ 100000000) : mostE [(1, 0, h), (0, 1, -l), (1, 2, b), (2, 1, -a)] 4 (l0E 3) = ([0, h, h + -a], true) := by
  have r1 : rndE [(1, 0, h), (0, 1, -l), (1, 2, b), (2, 1, -a)] [0, 1099511627776, 1099511627776] = ([0, h, h + -a], true) := by
    unfold rndE
    simp only [List.foldl_cons, List.foldl_nil]
    rw [hit (x := (1, 0, h)) (by simp; omega)]
    simp
    rw [miss (x := (0, 1, -l)) (by simp; omega), miss (x := (1, 2, b)) (by simp), hit (x := (2, 1, -a)) (by simp; omega)]
    simp
  have r2 : rndE [(1, 0, h), (0, 1, -l), (1, 2, b), (2, 1, -a)] [0, h, h + -a] = ([0, h, h + -a], false) := by
    unfold rndE
    simp only [List.foldl_cons, List.foldl_nil]
    rw [miss (x := (1, 0, h)) (by simp), miss (x := (0, 1, -l)) (by simp; omega), miss (x := (1, 2, b)) (by simp; omega), miss (x := (2, 1, -a)) (by simp)]
  rw [show l0E 3 = [0, 1099511627776, 1099511627776] from rfl]
  unfold mostE
  rw [r1]
  simp only [if_true]
  unfold mostE
  rw [r2]
  simp
theorem most_opp (h1 : -100000000 ≤ l ∧ l ≤ h ∧ h ≤ 100000000) (h2 : 0 ≤ a ∧ a ≤ b ∧ b ≤ 100000000) : mostE [(0, 1, h), (1, 0, -l), (2, 1, b), (1, 2, -a)] 4 (l0E 3) = ([0, -l, -l + b], true) := by
  have r1 : rndE [(0, 1, h), (1, 0, -l), (2, 1, b), (1, 2, -a)] [0, 1099511627776, 1099511627776] = ([0, -l, -l + b], true) := by
    unfold rndE
    simp only [List.foldl_cons, List.foldl_nil]
    rw [miss (x := (0, 1, h)) (by simp), hit (x := (1, 0, -l)) (by simp; omega)]
    simp
    rw [hit (x := (2, 1, b)) (by simp; omega)]
    simp
    rw [miss (x := (1, 2, -a)) (by simp; omega)]
  have r2 : rndE [(0, 1, h), (1, 0, -l), (2, 1, b), (1, 2, -a)] [0, -l, -l + b] = ([0, -l, -l + b], false) := by
    unfold rndE
    simp only [List.foldl_cons, List.foldl_nil]
    rw [miss (x := (0, 1, h)) (by simp; omega), miss (x := (1, 0, -l)) (by simp), miss (x := (2, 1, b)) (by simp), miss (x := (1, 2, -a)) (by simp; omega)]
  rw [show l0E 3 = [0, 1099511627776, 1099511627776] from rfl]
  unfold mostE
  rw [r1]
  simp only [if_true]
  unfold mostE
  rw [r2]
  simp
end
/-- The size of a gauge after some pieces. -/
theorem size_one {ring : Bool} {n w : Int × Int} {p : Int} (hr : ROk n w []) (hp : 1 ≤ p ∧ p ≤ 100000) :
    chkE n w [] [(p, -1, false)] = 0 ∧ sizeE ring n w [] [(p, -1, false)] = ((if ring = true then (n.1 + (G1.wornE w p).1, n.2 + (G1.wornE w p).2) else (n.1 - (G1.wornE w p).2, n.2 - (G1.wornE w p).1)), 0) := by
  have hk : G0.kindE p (-1) false = 1 := by unfold G0.kindE; rw [if_pos ⟨rfl, hp, rfl⟩]
  have hc : chkE n w [] [(p, -1, false)] = 0 := chkE_ok.2 ⟨hr, by simp, fun x hx => by
    rw [List.mem_singleton] at hx
    subst hx
    exact ⟨by simp, by rw [hk]; decide⟩⟩
  have hwb := worn_bd hr.w (p := p) (by omega)
  have hn := hr.n
  refine ⟨hc, ?_⟩
  unfold sizeE
  rw [if_pos hc]
  have hT : G1.newT ring n w [] [(p, -1, false)] = ([(1, 0, (G1.tn ring n).2), (0, 1, -(G1.tn ring n).1), (1, 2, (G1.wornE w p).2), (2, 1, -(G1.wornE w p).1)], 2) := by
    simp [G1.newT, G1.msT, G1.addE, hk]
  rw [hT]
  generalize G1.wornE w p = x at *
  have ht : -100000000 ≤ (G1.tn ring n).1 ∧ (G1.tn ring n).1 ≤ (G1.tn ring n).2 ∧ (G1.tn ring n).2 ≤ 100000000 := by
    unfold G1.tn; cases ring <;> simp <;> omega
  have m1 := most_one (a := x.1) (b := x.2) ht (by omega)
  have m2 := most_opp (a := x.1) (b := x.2) ht (by omega)
  unfold spanE
  simp only [oppE, List.map_cons, List.map_nil]
  rw [show (2 + 1 : Int).toNat + 1 = 4 from rfl, show (2 + 1 : Int).toNat = 3 from rfl, m1, m2]
  unfold G1.tn
  cases ring <;> simp <;> omega
end Go.Lo

/- For how many pieces a gauge lasts. -/
namespace Go.Lo
open Go.Proofs
set_option linter.unusedSimpArgs false
set_option maxHeartbeats 8000000
set_option maxRecDepth 20000
abbrev sSe (f : Nat) (cs : List V) (i j : Int) : St := { fr := [(1, .fn (.f f) cs), (5, I i), (6, I j)], tk := [] }
theorem shr_half {n : Int} (h0 : 0 ≤ n) (h1 : n ≤ 1000000000) : IntKind.i64.wrap ((IntKind.u64.wrap n).fdiv (2 ^ min 1 IntKind.u64.bits)) = n / 2 := by
  have h2 : IntKind.u64.wrap n = n := by
    simp [IntKind.wrap, IntKind.bits, IntKind.signed]
    omega
  rw [h2, show (2 : Int) ^ min 1 IntKind.u64.bits = 2 from rfl, Int.fdiv_eq_ediv_of_nonneg _ (by omega)]
  exact G1.wr1 (by omega)
theorem se_end {f : Nat} {cs : List V} {M : Nat} {i : Int} : evC2 R M b64_0 (sSe f cs i i) = some (.exit 0, { fr := [(1, .fn (.f f) cs), (5, I i), (6, I i), (11, B false)], tk := [] }) := by
  simp (maxSteps := 2000000) (disch := first | omega | (simp; done) | (simp; omega)) [-getElem?_pos, b64_0]
theorem se_round {f : Nat} {cs : List V} {M : Nat} {i j : Int} {q : Bool} (h0 : 0 ≤ i) (hij : i < j) (hj : j ≤ 1000000) (hz : ∀ rd, frzL rd cs = some cs) (hc : R f (I ((i + j) / 2) :: cs) = some (B q)) :
    evC2 R M b64_0 (sSe f cs i j) = some (.normal, if q then sSe f cs i ((i + j) / 2) else sSe f cs ((i + j) / 2 + 1) j) := by
  have w1 : IntKind.i64.wrap (i + j) = i + j := G1.wr1 (by omega)
  have w2 := shr_half (n := i + j) (by omega) (by omega)
  have w3 : IntKind.i64.wrap ((i + j) / 2 + 1) = (i + j) / 2 + 1 := G1.wr1 (by omega)
  generalize (i + j) / 2 = m at *
  clear h0 hj
  cases q <;> simp (maxSteps := 2000000) (disch := first | omega | (simp; done) | (simp; omega)) [-getElem?_pos, b64_0, hc, hz, hij, w1, w2, w3]
theorem se_loop {f : Nat} {cs : List V} {n k : Int} (hk : 0 ≤ k ∧ k ≤ n) (hn : n ≤ 1000000) (hz : ∀ rd, frzL rd cs = some cs) (hc : ∀ i, 0 ≤ i → i < n → R f (I i :: cs) = some (B (decide (k ≤ i)))) {M : Nat} : ∀ (d : Nat) (i j : Int), 0 ≤ i → i ≤ k → k ≤ j → j ≤ n → j - i ≤ d →
    iter (evC2 R M b64_0) (d + 1) (sSe f cs i j) = some (.exit 0, { fr := [(1, .fn (.f f) cs), (5, I k), (6, I k), (11, B false)], tk := [] }) := by
  have stop : ∀ (d : Nat) (i : Int), i = k → iter (evC2 R M b64_0) (d + 1) (sSe f cs i i) = some (.exit 0, { fr := [(1, .fn (.f f) cs), (5, I k), (6, I k), (11, B false)], tk := [] }) := by
    intro d i e
    subst e
    rw [iter_succ, se_end]
  intro d
  induction d with
  | zero =>
    intro i j h0 h1 h2 h3 h4
    have e1 : i = k := by omega
    have e2 : j = i := by omega
    rw [e2]
    exact stop 0 i e1
  | succ d ih =>
    intro i j h0 h1 h2 h3 h4
    by_cases hij : i < j
    · rw [iter_succ, se_round h0 hij (by omega) hz (hc _ (by omega) (by omega))]
      by_cases hl : k ≤ (i + j) / 2
      · simp only [hl, decide_true, if_true]
        exact ih _ _ h0 h1 (by omega) (by omega) (by omega)
      · simp only [hl, decide_false, Bool.false_eq_true, if_false]
        exact ih _ _ (by omega) (by omega) h2 h3 (by omega)
    · have e1 : i = k := by omega
      have e2 : j = i := by omega
      rw [e2]
      exact stop (d + 1) i e1
theorem p64 {f : Nat} {cs : List V} {n k : Int} (hk : 0 ≤ k ∧ k ≤ n) (hn : n ≤ 1000000) (hz : ∀ rd, frzL rd cs = some cs) (hc : ∀ i, 0 ≤ i → i < n → R f (I i :: cs) = some (B (decide (k ≤ i)))) : R 64 [I n, .fn (.f f) cs] = some (I k) := by
  have L := se_loop hk hn hz hc (M := n.toNat + 1) n.toNat 0 n (by omega) (by omega) (by omega) (by omega) (by omega)
  refine run2_body (n.toNat + 1) rfl rfl rfl rfl rfl ?_
  simp (maxSteps := 2000000) (disch := first | omega | (simp; done) | (simp; omega)) [-getElem?_pos, l64, L]
/-- On how many pieces a gauge can be tried. -/
def lastE (w : Int × Int) (room : Int) : Int := if room < 0 then 0 else if w.2 = 0 then 100000 else min 100000 (1000 * room / w.2)
theorem worn_le {w : Int × Int} {p r : Int} (hw : 0 ≤ w.1 ∧ w.1 ≤ w.2 ∧ w.2 ≤ 10000) (hp : 0 ≤ p) : (G1.wornE w p).2 ≤ r ↔ w.2 * p ≤ 1000 * r := by
  have h1 : 0 ≤ w.2 * p := Int.mul_nonneg (by omega) hp
  unfold G1.wornE
  simp only
  rw [Int.tdiv_eq_ediv_of_nonneg (by omega)]
  omega
theorem last_iff {w : Int × Int} {r p : Int} (hw : 0 ≤ w.1 ∧ w.1 ≤ w.2 ∧ w.2 ≤ 10000) (hp : 0 ≤ p ∧ p ≤ 100000) (hr : 0 ≤ r) : (G1.wornE w p).2 ≤ r ↔ p ≤ lastE w r := by
  rw [worn_le hw hp.1]
  unfold lastE
  rw [if_neg (by omega)]
  by_cases hz : w.2 = 0
  · rw [if_pos hz, hz, Int.zero_mul]; omega
  · rw [if_neg hz]
    have : p ≤ 1000 * r / w.2 ↔ p * w.2 ≤ 1000 * r := Int.le_ediv_iff_mul_le (by omega)
    rw [Int.mul_comm p] at this
    omega
theorem last_bd {w : Int × Int} {r : Int} (hw : 0 ≤ w.1 ∧ w.1 ≤ w.2 ∧ w.2 ≤ 10000) : 0 ≤ lastE w r ∧ lastE w r ≤ 100000 := by
  unfold lastE
  split
  · omega
  · split
    · omega
    · have := Int.ediv_nonneg (show 0 ≤ 1000 * r by omega) (show 0 ≤ w.2 by omega)
      omega
abbrev eGa (s w : Int × Int) (limit : Int) (ring : Bool) : List V := [I s.1, I s.2, I w.1, I w.2, I limit, B ring]
theorem p65 {s w : Int × Int} {limit least p : Int} {ring : Bool} (hw : 0 ≤ w.1 ∧ w.1 ≤ w.2 ∧ w.2 ≤ 10000) (hp : 0 ≤ p ∧ p ≤ 100000) :
    R 65 [I p, .cref (eGa s w limit ring), .cref [I least]] = some (B (decide (least < (G1.wornE w p).2))) := by
  have e1 := p51 hw hp
  generalize G1.wornE w p = x at *
  simp only [eS] at e1
  refine run2_body 1 rfl rfl rfl rfl rfl ?_
  simp (maxSteps := 2000000) (disch := first | omega | (simp; done) | (simp; omega)) [-getElem?_pos, l65, e1]
theorem p34 {s w : Int × Int} {limit : Int} {ring : Bool} (h1 : bd12 s.1) (h2 : bd12 s.2) (h3 : bd12 limit) (hw : 0 ≤ w.1 ∧ w.1 ≤ w.2 ∧ w.2 ≤ 10000) :
    R 34 [.agg (eGa s w limit ring)] = some (.tup [I (lastE w (roomE ring s limit).1), B (decide (0 ≤ (roomE ring s limit).1))]) := by
  have e1 := p30 (ring := ring) (w := w) h1 h2 h3
  generalize roomE ring s limit = q at *
  have hb := last_bd (r := q.1) hw
  have e2 : R 64 [I 100001, .fn (.f 65) [.cref (eGa s w limit ring), .cref [I q.1]]] = some (I (if q.1 < 0 then 0 else lastE w q.1 + 1)) := by
    refine p64 (by split <;> omega) (by omega) (fun _ => rfl) (fun i h0 h1 => ?_)
    rw [p65 hw (by omega)]
    refine congrArg (fun b => some (V.bool b)) (decide_eq_decide.2 ?_)
    have hb := worn_bd (p := i) hw (by omega)
    split
    · omega
    · have := last_iff (r := q.1) (p := i) hw (by omega) (by omega)
      omega
  have w1 : IntKind.i64.wrap ((if q.1 < 0 then 0 else lastE w q.1 + 1) - 1) = (if q.1 < 0 then 0 else lastE w q.1 + 1) - 1 := G1.wr1 (by split <;> omega)
  have hm : (if 1 < (if q.1 < 0 then 0 else lastE w q.1 + 1) then (if q.1 < 0 then 0 else lastE w q.1 + 1) - 1 else 0) = lastE w q.1 := by
    by_cases h0 : q.1 < 0
    · rw [if_pos h0]; unfold lastE; rw [if_pos h0]; rfl
    · rw [if_neg h0]; split <;> omega
  generalize (if q.1 < 0 then 0 else lastE w q.1 + 1) = x at *
  generalize lastE w q.1 = y at *
  clear h1 h2 h3 hw hb
  refine run2_body 1 rfl rfl rfl rfl rfl ?_
  by_cases h0 : 0 ≤ q.1 <;> simp (maxSteps := 2000000) (disch := first | omega | (simp; done) | (simp; omega)) [-getElem?_pos, l34, e1, e2, w1, hm, h0]
/-- On how many pieces a gauge can be tried yet, or the error. -/
def lstE (ring : Bool) (n w : Int × Int) (ms : List (Int × Int)) (es : List Evt) (limit : Int) : Int × Int :=
  if chkE n w ms es ≠ 0 then (0, chkE n w ms es) else if 0 ≤ limit ∧ limit ≤ 10000000 then
    (if (sizeE ring n w ms es).2 ≠ 0 then (0, (sizeE ring n w ms es).2) else if 0 ≤ (roomE ring (sizeE ring n w ms es).1 limit).1 then (lastE w (roomE ring (sizeE ring n w ms es).1 limit).1, 0) else (0, 7)) else (0, 3)
theorem p16 (ring : Bool) (n w : Int × Int) {ms : List (Int × Int)} {es : List Evt} (limit : Int) (hm : ms.length ≤ 1000000) (hl : es.length ≤ 1000000) : R 16 [eR ring n w ms, S 3 (eV es), I limit] = some (.tup [I (lstE ring n w ms es limit).1, I (lstE ring n w ms es limit).2]) := by
  have e1 := p29 ring n w limit hm hl
  have hs := size_bd (ring := ring) (n := n) (w := w) (ms := ms) (es := es)
  unfold ngV at e1
  unfold lstE
  have hok : chkE n w ms es = 0 → ROk n w ms := fun h => (chkE_ok.1 h).1
  generalize chkE n w ms es = c at *
  generalize sizeE ring n w ms es = s at *
  by_cases hc : c = 0
  · have hw := (hok hc).w
    subst hc
    simp only [ne_eq, not_true_eq_false, if_false] at e1 ⊢
    by_cases hk : 0 ≤ limit ∧ limit ≤ 10000000
    · rw [if_pos hk] at e1 ⊢
      have e2 := p34 (ring := ring) (s := s.1) (w := w) (limit := limit) hs.1 hs.2 (by unfold bd12; omega) hw
      generalize roomE ring s.1 limit = q at *
      generalize lastE w q.1 = y at *
      simp only [eGa] at e2
      clear hs hok hw
      refine run2_body 1 rfl rfl rfl rfl rfl ?_
      by_cases h0 : s.2 = 0
      · by_cases h5 : 0 ≤ q.1 <;> simp (maxSteps := 2000000) (disch := first | omega | (simp; done) | (simp; omega)) [-getElem?_pos, l16, e1, e2, h0, h5]
      · simp (maxSteps := 2000000) (disch := first | omega | (simp; done) | (simp; omega)) [-getElem?_pos, l16, e1, h0]
    · rw [if_neg hk] at e1 ⊢
      refine run2_body 1 rfl rfl rfl rfl rfl ?_
      simp (maxSteps := 2000000) (disch := first | omega | (simp; done) | (simp; omega)) [-getElem?_pos, l16, e1]
  · rw [if_pos hc] at e1 ⊢
    refine run2_body 1 rfl rfl rfl rfl rfl ?_
    simp (maxSteps := 2000000) (disch := first | omega | (simp; done) | (simp; omega)) [-getElem?_pos, l16, e1, hc]
end Go.Lo

/- A zone of a table of one step, one grade and one place; the zone of a new gauge that has to last. -/
namespace Go.Lo
open Go.Proofs
set_option linter.unusedSimpArgs false
set_option maxHeartbeats 8000000
set_option maxRecDepth 20000
/-! ### The first of a list for which a function says so -/
theorem p110 {α : Type} {E : α → List V} {W : α → V} {g : Nat} {caps : List V} {pr : α → Bool} (hc : ∀ rd, frzL rd caps = some caps) {xs : List α} (hE : ∀ x ∈ xs, partV (E x) 0 none = some (W x) ∧ (∀ rd, (W x).frz rd = some (W x)) ∧ ∀ s, opV s (some (W x)) = some (W x)) (hp : ∀ x ∈ xs, R g (W x :: caps) = some (B (pr x))) (hl : xs.length < 4611686018427387904) :
    R 110 [S 1 (xs.map E), .fn (.f g) caps] = some (I (match xs.findIdx? pr with | none => -1 | some k => k)) := by
  have L := loop_find (s := fun i => { fr := [(0, S 1 (xs.map E)), (1, .fn (.f g) caps), (7, I xs.length), (8, I i)], tk := [] }) (f := evC2 R (xs.length + 1) b110_0) (n := xs.length) (g := prAt pr xs) (E := fun i => (.ret, { fr := [(4, I i)], tk := [] })) (X := (.exit 0, { fr := [(0, S 1 (xs.map E)), (1, .fn (.f g) caps), (7, I xs.length), (8, I xs.length), (9, B false)], tk := [] }))
    (fun i hi => by
      have h1 : xs[i]? = some xs[i] := List.getElem?_eq_getElem hi
      have hm : xs[i] ∈ xs := List.getElem_mem hi
      have hp' := hp _ hm
      obtain ⟨h2, h3, h4⟩ := hE _ hm
      have hlt : (i : Int) < xs.length := by omega
      clear hp hE
      generalize xs[i] = x at *
      rw [prAt_some h1]
      generalize hw : W x = w at *
      cases hx : pr x <;> rw [hx] at hp' <;> simp (maxSteps := 2000000) (disch := first | omega | (simp; done) | (simp; omega)) [-getElem?_pos, -partV, b110_0, h1, h2, h3, h4, hc, hp', hlt, wrap64]) (fun _ => by simp) (by simp [b110_0]) (by simp) xs.length 0 (by omega)
  rw [find_idx] at L
  refine run2_body (xs.length + 1) rfl rfl rfl rfl rfl ?_
  cases hf : xs.findIdx? pr with
  | none =>
    rw [hf] at L
    simp at L
    simp [l110, L]
  | some k =>
    rw [hf] at L
    simp at L
    simp [l110, L]
theorem p101 {α : Type} {E : α → List V} {W : α → V} {g : Nat} {caps : List V} {pr : α → Bool} (hc : ∀ rd, frzL rd caps = some caps) {xs : List α} (hE : ∀ x ∈ xs, partV (E x) 0 none = some (W x) ∧ (∀ rd, (W x).frz rd = some (W x)) ∧ ∀ s, opV s (some (W x)) = some (W x)) (hp : ∀ x ∈ xs, R g (W x :: caps) = some (B (pr x))) (hl : xs.length < 4611686018427387904) :
    R 101 [S 1 (xs.map E), .fn (.f g) caps] = some (B (xs.any pr)) := by
  have h := p110 hc hE hp hl
  refine run2_body 1 rfl rfl rfl rfl rfl ?_
  cases hf : xs.findIdx? pr with
  | none =>
    rw [hf] at h
    have : xs.any pr = false := by
      rw [List.findIdx?_eq_none_iff] at hf
      rw [List.any_eq_false]; simpa using hf
    simp [l101, h, hc, this]
  | some k =>
    rw [hf] at h
    have : xs.any pr = true := by
      have := List.findIdx?_isSome (xs := xs) (p := pr)
      rw [hf] at this
      exact this.symm
    simp (maxSteps := 2000000) (disch := first | omega | (simp; done) | (simp; omega)) [l101, h, hc, this]

abbrev eRz (rs : List (List Int)) : List (List V) := rs.map fun r => [S 1 (eI r)]
theorem p99 (xs : List Int) (n : Int) : R 99 [S 1 (eI xs), I n] = some (B (decide ((xs.length : Int) > n))) := by
  refine run2_body 1 rfl rfl rfl rfl rfl ?_
  simp (maxSteps := 2000000) (disch := first | omega | (simp; done) | (simp; omega)) [-getElem?_pos, l99]
theorem p100 (xs : List (List Int)) (n : Int) : R 100 [S 1 (eRz xs), I n] = some (B (decide ((xs.length : Int) > n))) := by
  refine run2_body 1 rfl rfl rfl rfl rfl ?_
  simp (maxSteps := 2000000) (disch := first | omega | (simp; done) | (simp; omega)) [-getElem?_pos, l100]
theorem p102 (r s : List Int) (g p : List (List Int)) : R 102 [S 1 (eI r), .cref [S 1 (eI s), S 1 (eRz g), S 1 (eRz p)]] = some (B (decide (r.length ≠ s.length))) := by
  refine run2_body 1 rfl rfl rfl rfl rfl ?_
  by_cases h : r.length = s.length <;> simp (maxSteps := 2000000) (disch := first | omega | (simp; done) | (simp; omega)) [-getElem?_pos, l102, h]
  omega
theorem p101_1 (s : List Int) (g p rs : List (List Int)) (hl : rs.length < 4611686018427387904) : R 101 [S 1 (eRz rs), .fn (.f 102) [.cref [S 1 (eI s), S 1 (eRz g), S 1 (eRz p)]]] = some (B (rs.any fun r => decide (r.length ≠ s.length))) :=
  p101 (E := fun r => [S 1 (eI r)]) (W := fun r => S 1 (eI r)) (fun _ => rfl) (fun _ _ => ⟨rfl, fun _ => rfl, fun _ => rfl⟩) (fun r _ => p102 r s g p) hl
theorem zW_1 (lo hi x : Int) : R 54 [I lo, I hi, S 1 [[I x]]] = some (B (decide (lo ≤ x ∧ x ≤ hi))) := by
  have := p54 lo hi (xs := [x]) (by simp)
  simpa using this
theorem p104 (x size : Int) : R 104 [I x, .cref [I size]] = some (B (decide (size ≤ x))) := by
  refine run2_body 1 rfl rfl rfl rfl rfl ?_
  simp (maxSteps := 2000000) (disch := first | omega | (simp; done) | (simp; omega)) [-getElem?_pos, l104]
/-- A table of one step. -/
abbrev tb1 (st a p : Int) : List V := [S 1 [[I st]], S 1 [[S 1 [[I a]]]], S 1 [[S 1 [[I p]]]]]
structure T1 (st a p : Int) : Prop where
  st : 1 ≤ st ∧ st ≤ 10000000
  a : 0 ≤ a ∧ a ≤ 100000
  p : -100000 ≤ p ∧ p ≤ 100000
section
variable {st a p : Int}
theorem p82_1 (h : T1 st a p) : R 82 [.agg (tb1 st a p)] = some (I 0) := by
  have e1 := p99 [st] 20
  have e2 := p100 [[a]] 12
  have e3 := p100 [[p]] 12
  have e4 := p101_1 [st] [[a]] [[p]] [[a]] (by simp)
  have e5 := p101_1 [st] [[a]] [[p]] [[p]] (by simp)
  have e6 := zW_1 1 10000000 st
  have e7 := zW_1 0 100000 a
  have e10 := zW_1 (-100000) 100000 p
  have e8 : ∀ x : Int, R 103 [S 1 [[S 1 [[I x]]]]] = some (.sl (some 2000000) 1 [[I x]]) := fun x => by
    rw [show R 103 = catI from funext fun _ => run2_told rfl]; rfl
  rw [decide_eq_true h.st] at e6
  rw [decide_eq_true h.a] at e7
  rw [decide_eq_true h.p] at e10
  simp only [List.map_cons, List.map_nil] at e1 e2 e3 e4 e5
  rw [show (([[a]] : List (List Int)).any fun r => decide (r.length ≠ [st].length)) = false from rfl] at e4
  rw [show (([[p]] : List (List Int)).any fun r => decide (r.length ≠ [st].length)) = false from rfl] at e5
  have fl : ∀ x : Int, flatE [[I x]] = true := fun _ => rfl
  have L0 : iter (evC2 R 5 b82_0) 5 { fr := [(1, .box (tb1 st a p)), (27, .agg [S 1 [[S 1 [[I a]]]], S 1 [[S 1 [[I p]]]]]), (28, I 0)], tk := [] } =
      some (.exit 0, { fr := [(1, .box (tb1 st a p)), (27, .agg [S 1 [[S 1 [[I a]]]], S 1 [[S 1 [[I p]]]]]), (28, I 2), (29, B false)], tk := [] }) := by
    rw [iter_succ]
    simp (maxSteps := 2000000) (disch := first | omega | (simp; done) | (simp; omega)) [-getElem?_pos, b82_0, e4, G1.wr1]
    rw [iter_succ]
    simp (maxSteps := 2000000) (disch := first | omega | (simp; done) | (simp; omega)) [-getElem?_pos, b82_0, e5, G1.wr1]
    rw [iter_succ]
    simp (maxSteps := 2000000) (disch := first | omega | (simp; done) | (simp; omega)) [-getElem?_pos, b82_0]
  have w1 : IntKind.i64.wrap (st + 1) = st + 1 := by have := h.st; exact G1.wr1 (by omega)
  have L1 : iter (evC2 R 5 b82_1) 5 { fr := [(1, .box (tb1 st a p)), (5, I 1), (36, S 1 [[I st]]), (37, I 1), (38, I 0)], tk := [] } =
      some (.exit 2, { fr := [(1, .box (tb1 st a p)), (5, I (st + 1)), (36, S 1 [[I st]]), (37, I 1), (38, I 1), (39, B false)], tk := [] }) := by
    rw [iter_succ]
    simp (maxSteps := 2000000) (disch := first | omega | (simp; done) | (simp; omega)) [-getElem?_pos, b82_1, e6, w1, wrap64]
    rw [iter_succ]
    simp (maxSteps := 2000000) (disch := first | omega | (simp; done) | (simp; omega)) [-getElem?_pos, b82_1]
  refine run2_body 5 rfl rfl rfl rfl rfl ?_
  simp (maxSteps := 2000000) (disch := first | omega | (simp; done) | (simp; omega)) [-getElem?_pos, l82, tb1, e1, e2, e3, e7, e8, e10, L0, L1, fl]
theorem p83_1 (st a p : Int) : R 83 [.agg (tb1 st a p), .agg [I 0, I 0]] = some (B true) := by
  have e1 := zW_1 0 0 0
  refine run2_body 1 rfl rfl rfl rfl rfl ?_
  simp (maxSteps := 2000000) (disch := first | omega | (simp; done) | (simp; omega)) [-getElem?_pos, l83, e1, wrap64]
theorem p84_1 {size : Int} (h : 1 ≤ size ∧ size ≤ st) : R 84 [.agg (tb1 st a p), I size] = some (.tup [I 0, I 0]) := by
  have e1 := p92 (g := 104) (caps := [.cref [I size]]) (pr := fun x => decide (size ≤ x)) (E := fun x => [I x]) (W := fun x => I x) (xs := [st]) (fun _ => rfl) (fun _ _ => ⟨rfl, fun _ => rfl, fun _ => rfl⟩) (fun x _ => p104 x size) (by simp)
  have hf : [st].findIdx? (fun x => decide (size ≤ x)) = some 0 := by simp [List.findIdx?_cons, h.2]
  rw [hf] at e1
  simp only [List.map_cons, List.map_nil] at e1
  have hs : ¬ size < 1 := by omega
  refine run2_body 1 rfl rfl rfl rfl rfl ?_
  simp (maxSteps := 2000000) (disch := first | omega | (simp; done) | (simp; omega)) [-getElem?_pos, l84, e1, hs]
theorem p47_1 (h : T1 st a p) {size : Int} (hs : 1 ≤ size ∧ size ≤ st) :
    R 47 [.agg (tb1 st a p), I size, S 2 [[I 0, I 0]]] = some (.tup [.agg (tb1 st a p), I 0, I 0]) := by
  have e1 := p82_1 h
  have e2 := p83_1 st a p
  have e3 := p84_1 (a := a) (p := p) hs
  refine run2_body 3 rfl rfl rfl rfl rfl ?_
  simp (maxSteps := 2000000) (disch := first | omega | (simp; done) | (simp; omega)) [-getElem?_pos, l47, b47_0, iter_succ, e1, e2, e3, wrap64]
theorem p48_1 (h : T1 st a p) {size : Int} (hs : 1 ≤ size ∧ size ≤ st) : R 48 [.agg (tb1 st a p), .agg [I 0, I 0], B true, I size, I 0] = some (eS (size + p, size + p + a)) := by
  have h1 := h.st
  have h2 := h.a
  have h3 := h.p
  have w1 : IntKind.i64.wrap (size + p) = size + p := G1.wr1 (by omega)
  have w2 : IntKind.i64.wrap (size + p + a) = size + p + a := G1.wr1 (by omega)
  refine run2_body 1 rfl rfl rfl rfl rfl ?_
  simp (maxSteps := 2000000) (disch := first | omega | (simp; done) | (simp; omega)) [-getElem?_pos, l48, w1, w2]
theorem p22_1 (h : T1 st a p) {size : Int} (hs : 1 ≤ size ∧ size ≤ st) : R 22 [.agg (tb1 st a p), .agg [I 0, I 0], B true, I size] = some (.tup [eS (size + p, size + p + a), I 0]) := by
  have e1 := p47_1 h hs
  have e2 := p48_1 h hs
  refine run2_body 1 rfl rfl rfl rfl rfl ?_
  simp (maxSteps := 2000000) (disch := first | omega | (simp; done) | (simp; omega)) [-getElem?_pos, l22, e1, e2]
end
theorem p23 (st a p : Int) : R 23 [I st, I p, I a] = some (.agg [.sl (some 0) 1 [[I st]], .sl (some 1) 1 [[S 1 [[I a]]]], .sl (some 2) 1 [[S 1 [[I p]]]]]) := by
  refine run2_body 1 rfl rfl rfl rfl rfl ?_
  simp (maxSteps := 2000000) (disch := first | omega | (simp; done) | (simp; omega)) [-getElem?_pos, l23]
/-! ### The plan -/
def planE (ring : Bool) (w : Int × Int) (pieces wide limit : Int) : (Int × Int) × Int :=
  if ¬ wearB w = true then ((0, 0), 2)
  else if ¬ ((0 ≤ pieces ∧ pieces ≤ 100000) ∧ (0 ≤ wide ∧ wide ≤ 100000) ∧ (0 ≤ limit ∧ limit ≤ 10000000)) then ((0, 0), 3)
  else
    let s := if ring = true then (limit - (G1.wornE w pieces).2 - wide, limit - (G1.wornE w pieces).2) else (limit + (G1.wornE w pieces).2, limit + (G1.wornE w pieces).2 + wide)
    if lenB s = true then (s, 0) else ((0, 0), 9)
theorem p24 (ring : Bool) (w : Int × Int) (pieces wide limit : Int) : R 24 [B ring, eS w, I pieces, I wide, I limit] = some (.tup [eS (planE ring w pieces wide limit).1, I (planE ring w pieces wide limit).2]) := by
  have e1 := p49 w 10000
  rw [show decide (0 ≤ w.1 ∧ w.1 ≤ w.2 ∧ w.2 ≤ 10000) = wearB w from rfl] at e1
  have e2 := gW_1 0 100000 pieces
  have e3 := gW_1 0 100000 wide
  have e4 := gW_1 0 10000000 limit
  unfold planE
  by_cases hw : wearB w = true
  · rw [hw] at e1
    rw [if_neg (by simpa using hw)]
    have hw' : 0 ≤ w.1 ∧ w.1 ≤ w.2 ∧ w.2 ≤ 10000 := of_decide_eq_true hw
    by_cases h2 : 0 ≤ pieces ∧ pieces ≤ 100000
    · rw [decide_eq_true h2] at e2
      by_cases h3 : 0 ≤ wide ∧ wide ≤ 100000
      · rw [decide_eq_true h3] at e3
        by_cases h4 : 0 ≤ limit ∧ limit ≤ 10000000
        · rw [decide_eq_true h4] at e4
          rw [if_neg (fun h => h ⟨h2, h3, h4⟩)]
          have e5 := p51 hw' h2
          have hb := worn_bd hw' h2
          generalize G1.wornE w pieces = x at *
          have w1 : IntKind.i64.wrap (limit + x.2) = limit + x.2 := G1.wr1 (by omega)
          have w2 : IntKind.i64.wrap (limit + x.2 + wide) = limit + x.2 + wide := G1.wr1 (by omega)
          have w3 : IntKind.i64.wrap (limit - x.2) = limit - x.2 := G1.wr1 (by omega)
          have w4 : IntKind.i64.wrap (limit - x.2 - wide) = limit - x.2 - wide := G1.wr1 (by omega)
          have e6 := p52 (limit - x.2 - wide, limit - x.2)
          have e7 := p52 (limit + x.2, limit + x.2 + wide)
          clear hb h2 h3 h4 hw hw'
          simp only
          cases ring
          · simp only [Bool.false_eq_true, if_false]
            refine run2_body 1 rfl rfl rfl rfl rfl ?_
            generalize lenB (limit + x.2, limit + x.2 + wide) = q at *
            cases q <;> simp (maxSteps := 2000000) (disch := first | omega | (simp; done) | (simp; omega)) [-getElem?_pos, l24, e1, e2, e3, e4, e5, e7, w1, w2]
          · simp only [if_true]
            refine run2_body 1 rfl rfl rfl rfl rfl ?_
            generalize lenB (limit - x.2 - wide, limit - x.2) = q at *
            cases q <;> simp (maxSteps := 2000000) (disch := first | omega | (simp; done) | (simp; omega)) [-getElem?_pos, l24, e1, e2, e3, e4, e5, e6, w1, w2, w3, w4]
        · rw [decide_eq_false h4] at e4
          rw [if_pos (by simp only [h4, and_false, not_false_eq_true])]
          refine run2_body 1 rfl rfl rfl rfl rfl ?_
          simp (maxSteps := 2000000) (disch := first | omega | (simp; done) | (simp; omega)) [-getElem?_pos, l24, e1, e2, e3, e4]
      · rw [decide_eq_false h3] at e3
        rw [if_pos (by simp only [h3, false_and, and_false, not_false_eq_true])]
        refine run2_body 1 rfl rfl rfl rfl rfl ?_
        simp (maxSteps := 2000000) (disch := first | omega | (simp; done) | (simp; omega)) [-getElem?_pos, l24, e1, e2, e3]
    · rw [decide_eq_false h2] at e2
      rw [if_pos (by simp only [h2, false_and, not_false_eq_true])]
      refine run2_body 1 rfl rfl rfl rfl rfl ?_
      simp (maxSteps := 2000000) (disch := first | omega | (simp; done) | (simp; omega)) [-getElem?_pos, l24, e1, e2]
  · rw [if_pos hw]
    have hw0 : wearB w = false := by simpa using hw
    rw [hw0] at e1
    refine run2_body 1 rfl rfl rfl rfl rfl ?_
    simp (maxSteps := 2000000) (disch := first | omega | (simp; done) | (simp; omega)) [-getElem?_pos, l24, e1]
theorem p18 {s : Int × Int} {n : Int} (hs : 0 ≤ s.1 ∧ s.1 ≤ s.2 ∧ s.2 ≤ 100000000) (hn : 0 ≤ n ∧ n ≤ 100000) : R 18 [eS s, I n] = some (I (s.1 + n % (s.2 - s.1 + 1))) := by
  have h1 := Int.emod_nonneg n (show s.2 - s.1 + 1 ≠ 0 by omega)
  have h2 := Int.emod_lt_of_pos n (show 0 < s.2 - s.1 + 1 by omega)
  have h3 : n.tmod (s.2 - s.1 + 1) = n % (s.2 - s.1 + 1) := Int.tmod_eq_emod_of_nonneg hn.1
  have w1 : IntKind.i64.wrap (s.2 - s.1) = s.2 - s.1 := G1.wr1 (by omega)
  have w2 : IntKind.i64.wrap (s.2 - s.1 + 1) = s.2 - s.1 + 1 := G1.wr1 (by omega)
  have w3 : IntKind.i64.wrap (n % (s.2 - s.1 + 1)) = n % (s.2 - s.1 + 1) := G1.wr1 (by omega)
  have w4 : IntKind.i64.wrap (s.1 + n % (s.2 - s.1 + 1)) = s.1 + n % (s.2 - s.1 + 1) := G1.wr1 (by omega)
  have h0 : ¬ s.2 - s.1 + 1 = 0 := by omega
  generalize n % (s.2 - s.1 + 1) = r at *
  clear h1 h2 hs hn
  refine run2_body 1 rfl rfl rfl rfl rfl ?_
  simp (maxSteps := 2000000) (disch := first | omega | (simp; done) | (simp; omega)) [-getElem?_pos, l18, w1, w2, w3, w4, h3, h0]
end Go.Lo

/- The examples of chapters 2 and 4. -/
namespace Go.Lo
open Go.Proofs
set_option linter.unusedSimpArgs false
set_option maxRecDepth 100000
theorem p10 : R 10 [] = some (B true) := run2_of (n := 60) (by kernel_rfl)
end Go.Lo

/- The examples of chapters 2 and 4. -/
namespace Go.Lo
open Go.Proofs
set_option linter.unusedSimpArgs false
set_option maxRecDepth 100000

theorem p9 : R 9 [] = some (B true) := run2_of (n := 60) (by kernel_rfl)
end Go.Lo

/- The law: a gauge for a zone. -/
namespace Go.Lo
open Go.Proofs
set_option linter.unusedSimpArgs false
set_option maxHeartbeats 8000000
set_option maxRecDepth 20000
theorem tmodB {v k : Int} (h0 : 0 ≤ v) (hk : 0 < k) : 0 ≤ v.tmod k ∧ v.tmod k < k := by
  rw [Int.tmod_eq_emod_of_nonneg h0]
  exact ⟨Int.emod_nonneg _ (by omega), Int.emod_lt_of_pos _ hk⟩
theorem worn_mono {w : Int × Int} {p q : Int} (hw : 0 ≤ w.1 ∧ w.1 ≤ w.2 ∧ w.2 ≤ 10000) (hp : 0 ≤ p ∧ p ≤ q) : (G1.wornE w p).2 ≤ (G1.wornE w q).2 := by
  have h1 : w.2 * p ≤ w.2 * q := Int.mul_le_mul_of_nonneg_left hp.2 (by omega)
  have h2 : 0 ≤ w.2 * p := Int.mul_nonneg (by omega) hp.1
  unfold G1.wornE
  simp only
  rw [Int.tdiv_eq_ediv_of_nonneg (by omega), Int.tdiv_eq_ediv_of_nonneg (by omega)]
  omega
/-- The size of a new gauge. -/
theorem size_new {ring : Bool} {n w : Int × Int} (hr : ROk n w []) : chkE n w [] [] = 0 ∧ sizeE ring n w [] [] = (n, 0) := by
  have hc : chkE n w [] [] = 0 := chkE_ok.2 ⟨hr, by simp, fun x hx => by cases hx⟩
  have hn := hr.n
  refine ⟨hc, ?_⟩
  unfold sizeE
  rw [if_pos hc]
  have hT : G1.newT ring n w [] [] = ([(1, 0, (G1.tn ring n).2), (0, 1, -(G1.tn ring n).1)], 1) := by simp [G1.newT, G1.msT]
  rw [hT]
  have ht : -100000000 ≤ (G1.tn ring n).1 ∧ (G1.tn ring n).1 ≤ (G1.tn ring n).2 ∧ (G1.tn ring n).2 ≤ 100000000 := by
    unfold G1.tn; cases ring <;> simp <;> omega
  have m1 : ∀ l h : Int, -100000000 ≤ l ∧ l ≤ h ∧ h ≤ 100000000 → mostE [(1, 0, h), (0, 1, -l)] 3 (l0E 2) = ([0, h], true) := by
    intro l h h1
    have r1 : rndE [(1, 0, h), (0, 1, -l)] [0, 1099511627776] = ([0, h], true) := by
      unfold rndE
      simp only [List.foldl_cons, List.foldl_nil]
      rw [hit (x := (1, 0, h)) (by simp; omega)]
      simp
      rw [miss (x := (0, 1, -l)) (by simp; omega)]
    have r2 : rndE [(1, 0, h), (0, 1, -l)] [0, h] = ([0, h], false) := by
      unfold rndE
      simp only [List.foldl_cons, List.foldl_nil]
      rw [miss (x := (1, 0, h)) (by simp), miss (x := (0, 1, -l)) (by simp; omega)]
    rw [show l0E 2 = [0, 1099511627776] from rfl]
    unfold mostE
    rw [r1]
    simp only [if_true]
    unfold mostE
    rw [r2]
    simp
  have m2 : ∀ l h : Int, -100000000 ≤ l ∧ l ≤ h ∧ h ≤ 100000000 → mostE [(0, 1, h), (1, 0, -l)] 3 (l0E 2) = ([0, -l], true) := by
    intro l h h1
    have r1 : rndE [(0, 1, h), (1, 0, -l)] [0, 1099511627776] = ([0, -l], true) := by
      unfold rndE
      simp only [List.foldl_cons, List.foldl_nil]
      rw [miss (x := (0, 1, h)) (by simp), hit (x := (1, 0, -l)) (by simp; omega)]
      simp
    have r2 : rndE [(0, 1, h), (1, 0, -l)] [0, -l] = ([0, -l], false) := by
      unfold rndE
      simp only [List.foldl_cons, List.foldl_nil]
      rw [miss (x := (0, 1, h)) (by simp; omega), miss (x := (1, 0, -l)) (by simp)]
    rw [show l0E 2 = [0, 1099511627776] from rfl]
    unfold mostE
    rw [r1]
    simp only [if_true]
    unfold mostE
    rw [r2]
    simp
  unfold spanE
  simp only [oppE, List.map_cons, List.map_nil]
  rw [show (1 + 1 : Int).toNat + 1 = 3 from rfl, show (1 + 1 : Int).toNat = 2 from rfl, m1 _ _ ht, m2 _ _ ht]
  unfold G1.tn
  cases ring <;> simp
theorem p6 {v0 v1 v2 v3 v4 v5 at9 : Int} (h0 : 0 ≤ v0 ∧ v0 ≤ 255) (h1 : 0 ≤ v1 ∧ v1 ≤ 255) (h2 : 0 ≤ v2 ∧ v2 ≤ 255) (h3 : 0 ≤ v3 ∧ v3 ≤ 255) (h4 : 0 ≤ v4 ∧ v4 ≤ 255) (h5 : 0 ≤ v5 ∧ v5 ≤ 255) (h6 : 0 ≤ at9 ∧ at9 ≤ 65535) :
    R 6 [.agg [.int .u8 v0, .int .u8 v1, .int .u8 v2, .int .u8 v3, .int .u8 v4, .int .u8 v5], .int .u16 at9] = some (B true) := by
  have c0 : IntKind.i64.wrap v0 = v0 := G1.wr1 (by omega)
  have c1 : IntKind.i64.wrap v1 = v1 := G1.wr1 (by omega)
  have c2 : IntKind.i64.wrap v2 = v2 := G1.wr1 (by omega)
  have c3 : IntKind.i64.wrap v3 = v3 := G1.wr1 (by omega)
  have c4 : IntKind.i64.wrap v4 = v4 := G1.wr1 (by omega)
  have c5 : IntKind.i64.wrap v5 = v5 := G1.wr1 (by omega)
  have c6 : IntKind.i64.wrap at9 = at9 := G1.wr1 (by omega)
  have b2 := tmodB h2.1 (show (0 : Int) < 50 by decide)
  have b3 := tmodB h3.1 (show (0 : Int) < 50 by decide)
  have b6 := tmodB h6.1 (show (0 : Int) < 100 * v4 + 1 by omega)
  generalize t2 : v2.tmod 50 = x2 at *
  generalize t3 : v3.tmod 50 = x3 at *
  generalize t6 : at9.tmod (100 * v4 + 1) = x6 at *
  have d2 : IntKind.i64.wrap x2 = x2 := G1.wr1 (by omega)
  have d3 : IntKind.i64.wrap x3 = x3 := G1.wr1 (by omega)
  have d6 : IntKind.i64.wrap x6 = x6 := G1.wr1 (by omega)
  have f0 : IntKind.i64.wrap (40000 + at9) = 40000 + at9 := G1.wr1 (by omega)
  have f1 : IntKind.i64.wrap (x2 + x3) = x2 + x3 := G1.wr1 (by omega)
  have f2 : IntKind.i64.wrap (100 * v4) = 100 * v4 := G1.wr1 (by omega)
  have f3 : IntKind.i64.wrap (100 * v4 + 1) = 100 * v4 + 1 := G1.wr1 (by omega)
  have nz : ¬ 100 * v4 + 1 = 0 := by omega
  have e1 := p23 10000000 v1 v0
  have e2 := p22_1 (st := 10000000) (a := v1) (p := v0) ⟨by omega, by omega, by omega⟩ (size := 40000 + at9) (by omega)
  have hw : 0 ≤ x2 ∧ x2 ≤ x2 + x3 ∧ x2 + x3 ≤ 10000 := by omega
  have e3 := p24 false (x2, x2 + x3) (100 * v4) v5 (40000 + at9 + v0)
  have m1 : (x2 + x3) * (100 * v4) ≤ 98 * 25500 := Int.le_trans (Int.mul_le_mul_of_nonneg_right (by omega) (by omega)) (Int.mul_le_mul_of_nonneg_left (by omega) (by omega))
  have m0 : 0 ≤ (x2 + x3) * (100 * v4) := Int.mul_nonneg (by omega) (by omega)
  have hx : (G1.wornE (x2, x2 + x3) (100 * v4)).2 = ((x2 + x3) * (100 * v4) + 999).tdiv 1000 := by
    unfold G1.wornE; simp only
    rw [show (x2 + x3) * (100 * v4) + 1000 - 1 = (x2 + x3) * (100 * v4) + 999 by omega]
  have hxb : 0 ≤ ((x2 + x3) * (100 * v4) + 999).tdiv 1000 ∧ ((x2 + x3) * (100 * v4) + 999).tdiv 1000 ≤ 2500 := by
    rw [Int.tdiv_eq_ediv_of_nonneg (by omega)]; omega
  have hm := worn_mono (w := (x2, x2 + x3)) (p := x6) (q := 100 * v4) hw (by omega)
  unfold planE at e3
  simp only [Bool.false_eq_true, if_false] at e3
  rw [hx] at e3 hm
  rw [if_neg (fun h => h (show wearB (x2, x2 + x3) = true from decide_eq_true hw)), if_neg (fun h => h ⟨by omega, by omega, by omega⟩)] at e3
  have w3 : IntKind.i64.wrap ((x2 + x3) * (100 * v4)) = (x2 + x3) * (100 * v4) := G1.wr1 (by omega)
  have w4 : IntKind.i64.wrap ((x2 + x3) * (100 * v4) + 999) = (x2 + x3) * (100 * v4) + 999 := G1.wr1 (by omega)
  have w5 : IntKind.i64.wrap (((x2 + x3) * (100 * v4) + 999).tdiv 1000) = ((x2 + x3) * (100 * v4) + 999).tdiv 1000 := G1.wr1 (by omega)
  generalize hX : ((x2 + x3) * (100 * v4) + 999).tdiv 1000 = X at *
  generalize hY : (x2 + x3) * (100 * v4) = Y at *
  have hL : lenB (40000 + at9 + v0 + X, 40000 + at9 + v0 + X + v5) = true := decide_eq_true (by simp only; omega)
  rw [hL] at e3
  simp only [if_true] at e3
  have e4 := p18 (s := (40000 + at9 + v0 + X, 40000 + at9 + v0 + X + v5)) (n := at9) (by simp only; omega) (by omega)
  simp only at e4
  generalize hl : 40000 + at9 + v0 = L at *
  have hd := Int.emod_nonneg at9 (show L + X + v5 - (L + X) + 1 ≠ 0 by omega)
  have hd2 := Int.emod_lt_of_pos at9 (show 0 < L + X + v5 - (L + X) + 1 by omega)
  generalize at9 % (L + X + v5 - (L + X) + 1) = D at *
  have hr : ROk (L + X + D, L + X + D) (x2, x2 + x3) [] := ⟨by simp only; omega, hw, by decide, fun s hs => by cases hs⟩
  have g1 := p7 x2 (x2 + x3)
  have g2 := p7 (L + X + D) (L + X + D)
  have g3 := p12 x6
  have z1 := p9
  have z2 := p10
  have w6 : IntKind.i64.wrap (L + X) = L + X := G1.wr1 (by omega)
  have w7 : IntKind.i64.wrap (L + X + v5) = L + X + v5 := G1.wr1 (by omega)
  have n1 : ¬ L < 1 := by omega
  by_cases h9 : 0 < x6
  · obtain ⟨k1, k2⟩ := size_one (ring := false) (p := x6) hr (by omega)
    have hwb := worn_bd (w := (x2, x2 + x3)) (p := x6) hw (by omega)
    have e5 := p16 false (L + X + D, L + X + D) (x2, x2 + x3) (ms := []) (es := [(x6, -1, false)]) L (by simp) (by simp)
    have e6 := p13 false (L + X + D, L + X + D) (x2, x2 + x3) (ms := []) (es := [(x6, -1, false)]) (by simp) (by simp)
    unfold lstE at e5
    rw [k1, k2] at e5
    rw [k2] at e6
    generalize G1.wornE (x2, x2 + x3) x6 = W at *
    simp only [roomE, Bool.false_eq_true, if_false, ne_eq, not_true_eq_false, eR, eS2, eV, List.map_cons, List.map_nil, eS] at e2 e3 e4 e5 e6
    rw [if_pos (show 0 ≤ L ∧ L ≤ 10000000 by omega), if_pos (show 0 ≤ L + X + D - W.2 - L by omega)] at e5
    have hlb := last_bd (w := (x2, x2 + x3)) (r := L + X + D - W.2 - L) hw
    generalize lastE (x2, x2 + x3) (L + X + D - W.2 - L) = Z at *
    simp only at e5
    have n2 : ¬ Z < 0 := by omega
    have n3 : ¬ L + X + D - W.2 < L := by omega
    have n4 : ¬ L + X + v5 < L + X + D - W.1 := by omega
    generalize L + X + D - W.2 = A at *
    generalize L + X + D - W.1 = A' at *
    clear h0 h1 h2 h3 h4 h5 h6 b2 b3 b6 hw m1 m0 hx hxb hm hL hd hd2 hr k1 k2 hwb hlb
    have EQ := fun (_ : Unit) => And.intro c0 (And.intro c1 (And.intro c2 (And.intro c3 (And.intro c4 (And.intro c5 (And.intro c6 (And.intro t2 (And.intro t3 (And.intro t6 (And.intro d2 (And.intro d3 (And.intro d6 (And.intro f0 (And.intro f1 (And.intro f2 (And.intro f3 (And.intro w3 (And.intro w4 (And.intro w5 (And.intro w6 (And.intro w7 (And.intro hY (And.intro hX hl)))))))))))))))))))))))
    clear c0 c1 c2 c3 c4 c5 c6 t2 t3 t6 d2 d3 d6 f0 f1 f2 f3 w3 w4 w5 w6 w7 hY hX hl
    refine run2_body 1 rfl rfl rfl rfl rfl ?_
    simp (maxSteps := 2000000) (disch := first | omega | (simp; done) | (simp; omega)) [-getElem?_pos, l6, EQ (), e1, e2, e3, e4, e5, e6, g1, g2, g3, z1, z2, n1, n2, n3, n4, h9, nz]
  · have h10 : x6 = 0 := by omega
    subst h10
    obtain ⟨k1, k2⟩ := size_new (ring := false) hr
    have e5 := p16 false (L + X + D, L + X + D) (x2, x2 + x3) (ms := []) (es := []) L (by simp) (by simp)
    have e6 := p13 false (L + X + D, L + X + D) (x2, x2 + x3) (ms := []) (es := []) (by simp) (by simp)
    unfold lstE at e5
    rw [k1, k2] at e5
    rw [k2] at e6
    simp only [roomE, Bool.false_eq_true, if_false, ne_eq, not_true_eq_false, eR, eS2, eV, List.map_cons, List.map_nil, eS] at e2 e3 e4 e5 e6
    rw [if_pos (show 0 ≤ L ∧ L ≤ 10000000 by omega), if_pos (show 0 ≤ L + X + D - L by omega)] at e5
    have hlb := last_bd (w := (x2, x2 + x3)) (r := L + X + D - L) hw
    generalize lastE (x2, x2 + x3) (L + X + D - L) = Z at *
    simp only at e5
    have n2 : ¬ Z < 0 := by omega
    have n3 : ¬ L + X + D < L := by omega
    have n4 : ¬ L + X + v5 < L + X + D := by omega
    clear h0 h1 h2 h3 h4 h5 h6 b2 b3 b6 hw m1 m0 hx hxb hm hL hd hd2 hr k1 k2 hlb
    have EQ := fun (_ : Unit) => And.intro c0 (And.intro c1 (And.intro c2 (And.intro c3 (And.intro c4 (And.intro c5 (And.intro c6 (And.intro t2 (And.intro t3 (And.intro t6 (And.intro d2 (And.intro d3 (And.intro d6 (And.intro f0 (And.intro f1 (And.intro f2 (And.intro f3 (And.intro w3 (And.intro w4 (And.intro w5 (And.intro w6 (And.intro w7 (And.intro hY (And.intro hX hl)))))))))))))))))))))))
    clear c0 c1 c2 c3 c4 c5 c6 t2 t3 t6 d2 d3 d6 f0 f1 f2 f3 w3 w4 w5 w6 w7 hY hX hl h9
    refine run2_body 1 rfl rfl rfl rfl rfl ?_
    simp (maxSteps := 2000000) (disch := first | omega | (simp; done) | (simp; omega)) [-getElem?_pos, l6, EQ (), e1, e2, e3, e4, e5, e6, g1, g2, g3, z1, z2, n1, n2, n3, n4, nz]
end Go.Lo

/- Small numbers as arguments; the law about a gauge for a zone on the first machine. -/
namespace Go.Lo
open Go.Proofs
set_option linter.unusedSimpArgs false
theorem zoneGauge_true {v1 v2 : V} (h1 : HasV (.arr 6 (.int .u8)) v1) (h2 : HasV (.int .u16) v2) : run G1.F1 Ct 6 [v1, v2] = some (.bool true) := by
  obtain ⟨xs, hl, rfl, hx⟩ := can_arr h1
  obtain ⟨n, rfl, hn⟩ := can_int h2
  match xs, hl with
  | [a, b, c, d, e, f], _ =>
    exact run2_true tabR (p6 (wf_u8 (hx a (by simp))) (wf_u8 (hx b (by simp))) (wf_u8 (hx c (by simp))) (wf_u8 (hx d (by simp))) (wf_u8 (hx e (by simp))) (wf_u8 (hx f (by simp))) (wf_u16 hn)) (RelL.cons (rel_aggK .u8 [a, b, c, d, e, f]) (RelL.one (rel_int .u16 n)))
end Go.Lo
