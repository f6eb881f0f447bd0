/- Texts put together. -/
import Derived.Test.YtlohnophnggpaaaPg
/- slices.Repeat of one integer is what is told of it. -/
namespace Go.Lo.G1
open Go.Lo Go.Proofs
theorem rep_den {Ω : Own} {w : World} {g : Nat} {x : Int} : ∀ {m off n : Nat}, off + m ≤ n → Ω.lim g = n → w.heap[g]? = some (.cells (List.replicate n (.int .i64 x)).toArray 3 (0, 0)) → DenE Ω w (List.replicate m [I x]) 1 g off
  | 0, _, _, _, _, _ => trivial
  | m + 1, off, n, h, hl, hg => by
    have hm : off + m < n := by omega
    rw [List.replicate_succ]
    refine ⟨rfl, rfl, ⟨⟨.int .i64 x, by rw [hl]; omega, ?_, rfl, rfl, rfl⟩, trivial⟩, rep_den (n := n) (by omega) hl hg⟩
    rw [cell_of_row w g off _ 3 (0, 0) hg]
    simp [show off < n by omega]
theorem rep_enters : Enters Try.prog 91 := by
  refine ⟨Try.f91, _, Try.func91, ?_, rfl⟩
  intro h
  have : (Try.f91.name == "runtime.NumGoroutine") = false := by kernel_rfl
  rw [h] at this
  simp at this
theorem rep_callOk {x : Int} {n : Nat} (hn : 1 ≤ n ∧ n ≤ 200) : CallOk Try.prog 91 [.sl none 1 [[I x]], I n] (.sl (some 0) 1 (List.replicate n [I x])) := by
  refine ⟨fun _ Ω w xs hb hd => ?_, fun b pre post h => ?_, fun cs rest h => by cases h⟩
  · obtain ⟨x1, ys, rfl, h1, x2, zs, rfl, h2, rfl⟩ := hd
    rcases h1 with ⟨h, _⟩ | ⟨b, off, cap, rfl, hf, hE⟩
    · cases h
    · obtain ⟨_, _, ⟨⟨xv, _, hc, _, _, hx⟩, _⟩, _⟩ := hE
      have hx : xv = .int .i64 x := hx
      have h2 : x2 = .int .i64 n := h2
      subst hx; subst h2
      have hlt : b < w.heap.size := hb.bnd b (by rcases hf with h | ⟨t, h⟩ <;> rw [h] <;> simp)
      refine (rep_walk x b off (1 + cap) n w hn hlt hc).mono fun e w1 he => ?_
      obtain ⟨g, hg, rfl, hbl, hrow⟩ := he
      have hgl : g < w1.heap.size := by
        rcases Nat.lt_or_ge g w1.heap.size with h | h
        · exact h
        · rw [Array.getElem?_eq_none h] at hrow; cases hrow
      refine ⟨_, { Ω with o := fun c => if c = g then .arr 0 false else Ω.o c, lim := fun c => if c = g then n else Ω.lim c, cur := fun t => if t = 0 then some (g, n, n) else Ω.cur t, tsz := fun t => if t = 0 then 1 else Ω.tsz t }, rfl, hbl, ?_, ?_⟩
      · refine ⟨g, 0, false, by simp, by simp, by simp, fun c k m hc => ?_, rep_den (n := n) (by omega) (by simp) hrow⟩
        simp only [if_true, Option.some.injEq, Prod.mk.injEq] at hc
        obtain ⟨rfl, rfl, rfl⟩ := hc
        simp
      · refine ⟨fun c hc => ?_, fun c hc => ?_, fun k m hk => ?_⟩
        · have : c ≠ g := by omega
          simp [this]
        · by_cases h : c = g
          · rw [h]; exact hgl
          · simp only [if_neg h] at hc
            exact Nat.lt_of_lt_of_le (hb.bnd c hc) hbl.size
        · simp only [V.tks, List.mem_singleton, Prod.mk.injEq, List.length_replicate] at hk
          obtain ⟨rfl, rfl⟩ := hk
          refine ⟨g, m, 3, _, by simp, ⟨false, by simp⟩, hrow, by simp, Nat.le_refl _, by simp, by simp, fun _ c p hc => ?_⟩
          by_cases h : c = g
          · simp only [h, if_true] at hc
            injection hc with h1 h2
            exact h2.symm
          · simp only [if_neg h] at hc
            rcases hb.o c with h | h | h <;> rw [h] at hc <;> cases hc
  · have : V.fn (.y b) [] ∈ [V.sl none 1 [[I x]], I n] := by rw [h]; simp
    simp at this
theorem tab1 : TabOk Try.prog F1 Ct where
  mixed := tabOk.mixed
  code := tabOk.code
  told := by
    intro f g as9 r hf hr
    unfold F1 at hf
    split at hf
    · injection hf with hf
      subst hf
      unfold repG at hr
      split at hr
      · rename_i x n
        split at hr
        · rename_i hn
          injection hr with hr
          subst hr
          obtain ⟨m, rfl⟩ : ∃ m : Nat, n = m := ⟨n.toNat, by omega⟩
          exact ⟨rep_enters, rep_callOk (by omega)⟩
        · cases hr
      · cases hr
    · cases hf
end Go.Lo.G1

/- The base of the statements of gauges on the plain machine: newRules and Repeat are told. -/
namespace Go.Lo
open Go.Proofs
set_option linter.unusedSimpArgs false
def spL : List (List V) → Option (List (Int × Int))
  | [] => some []
  | [.int .i64 a, .int .i64 b] :: r => (match spL r with | some l => some ((a, b) :: l) | none => none)
  | _ => none
def evL : List (List V) → Option (List (Int × Int × Bool))
  | [] => some []
  | [.int .i64 a, .int .i64 b, .bool g] :: r => (match evL r with | some l => some ((a, b, g) :: l) | none => none)
  | _ => none
abbrev GOkP (n w : Int × Int) (ms : List (Int × Int)) (es : List (Int × Int × Bool)) : Prop := (G1.small n.1 ∧ G1.small n.2) ∧ (G1.small w.1 ∧ G1.small w.2) ∧ ms.length ≤ 1000 ∧ es.length ≤ 1000 ∧ (∀ s ∈ ms, G1.small s.1 ∧ G1.small s.2) ∧ ∀ x ∈ es, G1.evOkE x
/-- What newRules gives back. -/
def nrV (ring : Bool) (n w : Int × Int) (ms : List (Int × Int)) (es : List (Int × Int × Bool)) : V :=
  .gref [B ring, I n.1, I n.2, I w.1, I w.2, S 2 (ms.map fun s => [I s.1, I s.2]), S 3 ((G1.newT ring n w ms es).1.map G1.rl), I (G1.newT ring n w ms es).2]
def nrG : List V → Option V
  | [.agg [.bool ring, .int .i64 n1, .int .i64 n2, .int .i64 w1, .int .i64 w2, .sl none 2 me], .sl none 3 ee] =>
    (match spL me, evL ee with
    | some ms, some es => if GOkP (n1, n2) (w1, w2) ms es then some (nrV ring (n1, n2) (w1, w2) ms es) else none
    | _, _ => none)
  | _ => none
def F2 : Nat → Option (List V → Option V)
  | 32 => some nrG
  | 91 => some G1.repG
  | _ => none
noncomputable abbrev R : Nat → List V → Option V := run2 F2 C2
theorem spL_eq : ∀ {me : List (List V)} {ms : List (Int × Int)}, spL me = some ms → me = ms.map fun s => [I s.1, I s.2]
  | [], ms, h => by injection h with h; subst h; rfl
  | x :: r, ms, h => by
    unfold spL at h
    split at h
    · rename_i h0; cases h0
    · rename_i a b r' he
      injection he with e1 e2
      subst e1; subst e2
      split at h
      · rename_i l hl
        injection h with h
        subst h
        rw [List.map_cons, ← spL_eq hl]
      · cases h
    · cases h
theorem evL_eq : ∀ {me : List (List V)} {ms : List (Int × Int × Bool)}, evL me = some ms → me = ms.map fun s => [I s.1, I s.2.1, B s.2.2]
  | [], ms, h => by injection h with h; subst h; rfl
  | x :: r, ms, h => by
    unfold evL at h
    split at h
    · rename_i h0; cases h0
    · rename_i a b g r' he
      injection he with e1 e2
      subst e1; subst e2
      split at h
      · rename_i l hl
        injection h with h
        subst h
        rw [List.map_cons, ← evL_eq hl]
      · cases h
    · cases h
theorem relL_flat : ∀ {cs ds : List V}, cs.all V.flat = true → RelL cs noT ds → ds = cs
  | [], _, _, h => by simp only [RelL] at h; exact h
  | c :: cs, _, hf, h => by
    simp only [List.all_cons, Bool.and_eq_true] at hf
    simp only [RelL] at h
    obtain ⟨d, r, rfl, h1, h2⟩ := h
    rw [relL_flat hf.2 h2]
    congr 1
    cases c <;> simp only [V.flat, Bool.false_eq_true, false_and] at hf <;> simp only [Rel] at h1 <;> exact h1
theorem relE_flat : ∀ {cs ds : List (List V)}, (cs.all fun c => c.all V.flat) = true → RelE cs ds → ds = cs
  | [], _, _, h => by simp only [RelE] at h; exact h
  | c :: cs, _, hf, h => by
    simp only [List.all_cons, Bool.and_eq_true] at hf
    simp only [RelE] at h
    obtain ⟨d, r, rfl, h1, h2⟩ := h
    rw [relL_flat (by simpa using hf.1) h1, relE_flat hf.2 h2]
theorem relL_flat2 {tk : TkF} : ∀ {cs : List V}, cs.all V.flat = true → RelL cs tk cs
  | [], _ => RelL.nil
  | c :: cs, h => by
    simp only [List.all_cons, Bool.and_eq_true] at h
    refine RelL.cons ?_ (relL_flat2 h.2)
    cases c <;> simp only [V.flat, Bool.false_eq_true, false_and] at h <;> simp only [Rel]
theorem relE_flat2 : ∀ {cs : List (List V)}, (cs.all fun c => c.all V.flat) = true → RelE cs cs
  | [], _ => RelE.nil
  | c :: cs, h => by
    simp only [List.all_cons, Bool.and_eq_true] at h
    exact RelE.cons (relL_flat2 (by simpa using h.1)) (relE_flat2 h.2)
theorem sl_flat {n : Nat} {es : List (List V)} {v : V} (hf : (es.all fun c => c.all V.flat) = true) (h : Rel (.sl none n es) noT v) : v = .nil ∧ es = [] ∨ v = .sl none n es := by
  simp only [Rel] at h
  rcases h with ⟨h1, h2⟩ | ⟨es', rfl, h⟩
  · exact .inl ⟨h2, h1⟩
  · rw [relE_flat hf h]; exact .inr rfl
theorem nr_rel {as2 as9 : List V} {r2 : V} (h : nrG as2 = some r2) (ha : RelL as2 noT as9) : ∃ r, run G1.F1 Ct 32 as9 = some r ∧ RelR r2 r ∧ ∀ l2, itemsOf (some r2) = some l2 → ∃ l, itemsOf (some r) = some l ∧ RelE l2 l := by
  unfold nrG at h
  split at h
  · rename_i ring n1 n2 w1 w2 me ee
    split at h
    · rename_i ms es hm he
      split at h
      · rename_i hok
        injection h with h
        subst h
        have := spL_eq hm
        subst this
        have := evL_eq he
        subst this
        obtain ⟨v, u, rfl, hv, hu⟩ := RelL.inv2 ha
        simp only [Rel] at hv
        obtain ⟨ds, rfl, hd⟩ := hv
        obtain ⟨d1, r1, rfl, h1, hd⟩ := RelL.inv hd
        obtain ⟨d2, r2, rfl, h2, hd⟩ := RelL.inv hd
        obtain ⟨d3, r3, rfl, h3, hd⟩ := RelL.inv hd
        obtain ⟨d4, r4, rfl, h4, hd⟩ := RelL.inv hd
        obtain ⟨d5, r5, rfl, h5, hd⟩ := RelL.inv hd
        obtain ⟨mv, rfl, h6⟩ := RelL.inv1 hd
        simp only [Rel] at h1 h2 h3 h4 h5
        subst h1; subst h2; subst h3; subst h4; subst h5
        have hfm : ((ms.map fun s => [I s.1, I s.2]).all fun c => c.all V.flat) = true := by simp [List.all_map, V.flat]
        have hfe : ((es.map fun s => [I s.1, I s.2.1, B s.2.2]).all fun c => c.all V.flat) = true := by simp [List.all_map, V.flat]
        have hm2 := sl_flat hfm h6
        have he2 := sl_flat hfe hu
        have hrun := G1.new1 (ring := ring) (n := (n1, n2)) (w := (w1, w2)) (ms := ms) (es := es) (mv := mv) (ev := u) ⟨hok.1, hok.2.1, hok.2.2.1, hok.2.2.2.1, hok.2.2.2.2.1, hok.2.2.2.2.2⟩
          (hm2.imp (fun h => ⟨h.1, List.map_eq_nil_iff.1 h.2⟩) id) (he2.imp (fun h => ⟨h.1, List.map_eq_nil_iff.1 h.2⟩) id)
        refine ⟨_, hrun, ?_, fun l2 h => by simp [nrV, itemsOf] at h⟩
        have hr : ∀ ρ : TkF, Rel (nrV ring (n1, n2) (w1, w2) ms es) ρ (.gref [.bool ring, I n1, I n2, I w1, I w2, mv, .sl none 3 ((G1.newT ring (n1, n2) (w1, w2) ms es).1.map G1.rl), I (G1.newT ring (n1, n2) (w1, w2) ms es).2]) := fun ρ => by
          unfold nrV
          rw [Rel]
          refine ⟨_, rfl, RelL.cons (by simp only [Rel]) (RelL.cons (by simp only [Rel]) (RelL.cons (by simp only [Rel]) (RelL.cons (by simp only [Rel]) (RelL.cons (by simp only [Rel]) (RelL.cons h6 (RelL.cons ?_ (RelL.one (by simp only [Rel]))))))))⟩
          rw [Rel]
          exact .inr ⟨_, rfl, relE_flat2 (by simp [List.all_map, V.flat])⟩
        exact ⟨⟨noT, hr _⟩, fun ρ _ => hr ρ⟩
      · cases h
    · cases h
  · cases h
theorem rep_rel {as2 as9 : List V} {r2 : V} (h : G1.repG as2 = some r2) (ha : RelL as2 noT as9) : ∃ r, run G1.F1 Ct 91 as9 = some r ∧ RelR r2 r ∧ ∀ l2, itemsOf (some r2) = some l2 → ∃ l, itemsOf (some r) = some l ∧ RelE l2 l := by
  have h0 := h
  unfold G1.repG at h
  split at h
  · rename_i x n
    split at h
    · rename_i hn
      injection h with h
      subst h
      obtain ⟨v, u, rfl, hv, hu⟩ := RelL.inv2 ha
      have hv := sl_flat (by rfl) hv
      rcases hv with ⟨_, hv⟩ | rfl
      · cases hv
      · simp only [Rel] at hu
        subst hu
        refine ⟨_, run_of (n := 1) (by unfold evF; exact h0), ?_, fun l2 h => by simp [itemsOf] at h⟩
        have hr : ∀ ρ : TkF, ρ 0 = some (n.toNat, true) → Rel (.sl (some 0) 1 (List.replicate n.toNat [.int .i64 x])) ρ (.sl (some 0) 1 (List.replicate n.toNat [.int .i64 x])) := fun ρ hρ => by
          rw [Rel]; right
          exact ⟨_, rfl, relE_flat2 (by simp [V.flat]), true, by simpa using hρ, fun _ => rfl, fun h => by simp [roX] at h, fun h => by simp [mbT] at h⟩
        exact ⟨⟨fun _ => some (n.toNat, true), hr _ rfl⟩, fun ρ h => hr ρ (h 0 _ (by simp [V.tks]))⟩
    · cases h
  · cases h
theorem tabR : TabR F2 G1.F1 C2 Ct := by
  refine ⟨fun f g2 as2 r2 as1 h1 h2 h3 => ?_, fun f lf h1 h2 => ⟨?_, tabC f lf h2⟩⟩
  · unfold F2 at h1
    split at h1
    · injection h1 with h1
      subst h1
      exact nr_rel h2 h3
    · injection h1 with h1
      subst h1
      exact rep_rel h2 h3
    · cases h1
  · unfold G1.F1
    split
    · cases h2
    · rfl
end Go.Lo

/- By how much sizes are greater at most: a round of the rules. -/
namespace Go.Lo
open Go.Proofs
set_option linter.unusedSimpArgs false
set_option maxHeartbeats 8000000
set_option maxRecDepth 20000
abbrev rT (T : List (Int × Int × Int)) : List (List V) := T.map G1.rl
abbrev sB (rb : List V) (T : List (Int × Int × Int)) (u : Nat) (l : List Int) (k2 k : Int) (c : Bool) (i : Nat) : St :=
  { fr := [(0, .gref rb), (4, .sl (some u) 1 (eI l)), (6, B c), (22, I k2), (23, I k), (28, S 3 (rT T)), (29, I T.length), (30, I i)], tk := [] }
theorem b_step {rb : List V} {T : List (Int × Int × Int)} {l : List Int} {k2 k : Int} {cb : Bool} {i a b : Nat} {c va vb : Int} (hi : T[i]? = some ((a : Int), (b : Int), c)) (ha : l[a]? = some va) (hb : l[b]? = some vb)
    (hT : T.length ≤ 1000000) (hw : IntKind.i64.wrap (vb + c) = vb + c) :
    evC2 R 1 b62_1 (sB rb T 1600 l k2 k cb i) = some (.normal, if vb < 1099511627776 ∧ vb + c < va then sB rb T 1600 (l.set a (vb + c)) k2 k true (i + 1) else sB rb T 1600 l k2 k cb (i + 1)) := by
  have hlt : i < T.length := (List.getElem?_eq_some_iff.1 hi).1
  have hi1 : (rT T)[i]? = some [I a, I b, I c] := by rw [List.getElem?_map, hi]; rfl
  have hi2 : ((i : Int) < T.length) := by omega
  have ha1 : (eI l)[a]? = some [I va] := by rw [List.getElem?_map, ha]; rfl
  have hb1 : (eI l)[b]? = some [I vb] := by rw [List.getElem?_map, hb]; rfl
  have ha2 : (a : Int) < l.length := by have := (List.getElem?_eq_some_iff.1 ha).1; omega
  have hb2 : (b : Int) < l.length := by have := (List.getElem?_eq_some_iff.1 hb).1; omega
  have hw2 : IntKind.i64.wrap ((i : Int) + 1) = (i : Int) + 1 := by simp [IntKind.wrap, IntKind.bits, IntKind.signed]; omega
  by_cases h1 : vb < 1099511627776
  · by_cases h2 : vb + c < va
    · simp (maxSteps := 2000000) (disch := first | omega | (simp; done) | (simp; omega)) [-getElem?_pos, b62_1, hi, ha, hb, hi2, ha2, hb2, hw, hw2, h1, h2]
    · simp (maxSteps := 2000000) (disch := first | omega | (simp; done) | (simp; omega)) [-getElem?_pos, b62_1, hi, ha, hb, hi2, ha2, hb2, hw, hw2, h1, h2]
  · simp (maxSteps := 2000000) (disch := first | omega | (simp; done) | (simp; omega)) [-getElem?_pos, b62_1, hi, ha, hb, hi2, ha2, hb2, hw, hw2, h1]
end Go.Lo

/- By how much sizes are greater at most. -/
namespace Go.Lo
open Go.Proofs
set_option linter.unusedSimpArgs false
set_option maxHeartbeats 8000000
set_option maxRecDepth 20000
abbrev Rul := List (Int × Int × Int)
/-- A rule is tried. -/
def relaxE (s : List Int × Bool) (x : Int × Int × Int) : List Int × Bool :=
  if s.1.getD x.2.1.toNat 0 < 1099511627776 ∧ s.1.getD x.2.1.toNat 0 + x.2.2 < s.1.getD x.1.toNat 0 then (s.1.set x.1.toNat (s.1.getD x.2.1.toNat 0 + x.2.2), true) else s
def rndE (T : Rul) (l : List Int) : List Int × Bool := T.foldl relaxE (l, false)
/-- So many rounds at most. -/
def mostE (T : Rul) : Nat → List Int → List Int × Bool
  | 0, l => (l, false)
  | k + 1, l => if (rndE T l).2 = true then mostE T k (rndE T l).1 else ((rndE T l).1, true)
/-- Rules of so many sizes, with numbers not above M. -/
def TOk (n : Nat) (M : Int) (T : Rul) : Prop := ∀ x ∈ T, (0 ≤ x.1 ∧ x.1 < n) ∧ (0 ≤ x.2.1 ∧ x.2.1 < n) ∧ -M ≤ x.2.2 ∧ x.2.2 ≤ M
def BdE (M : Int) (j : Nat) (l : List Int) : Prop := ∀ v ∈ l, -(j * M) ≤ v ∧ v ≤ 1099511627776
theorem getD_mem {l : List Int} {i : Nat} (h : i < l.length) : l[i]? = some (l.getD i 0) := by
  rw [List.getD_eq_getElem?_getD, List.getElem?_eq_getElem h]; rfl
theorem bd_get {M : Int} {j : Nat} {l : List Int} (h : BdE M j l) {i : Nat} (hi : i < l.length) : -(j * M) ≤ l.getD i 0 ∧ l.getD i 0 ≤ 1099511627776 :=
  h _ (List.mem_of_getElem? (getD_mem hi))
theorem bd_mono {M : Int} (hM : 0 ≤ M) {j k : Nat} (hjk : j ≤ k) {l : List Int} (h : BdE M j l) : BdE M k l := fun v hv => by
  have h1 := h v hv
  have h2 : (j : Int) * M ≤ k * M := Int.mul_le_mul_of_nonneg_right (by omega) hM
  omega
theorem relax_bd {M : Int} (hM : 0 ≤ M) {n j : Nat} {T : Rul} (hT : TOk n M T) {s : List Int × Bool} (hl : s.1.length = n) (hb : BdE M j s.1) {x : Int × Int × Int} (hx : x ∈ T) : (relaxE s x).1.length = n ∧ BdE M (j + 1) (relaxE s x).1 := by
  obtain ⟨⟨h1, h2⟩, ⟨h3, h4⟩, h5, h6⟩ := hT x hx
  unfold relaxE
  split
  · rename_i hc
    refine ⟨by simp [hl], fun v hv => ?_⟩
    rcases List.mem_or_eq_of_mem_set hv with hv | rfl
    · exact bd_mono hM (Nat.le_succ j) hb v hv
    · have k1 := bd_get hb (i := x.2.1.toNat) (by omega)
      have k2 := bd_get hb (i := x.1.toNat) (by omega)
      have k3 : ((j + 1 : Nat) : Int) * M = j * M + M := by rw [Int.natCast_add, Int.add_mul]; simp
      omega
  · exact ⟨hl, bd_mono hM (Nat.le_succ j) hb⟩
theorem fold_relax {M : Int} (hM : 0 ≤ M) {n : Nat} {T : Rul} (hT : TOk n M T) : ∀ (Q : Rul) (s : List Int × Bool) (j : Nat), (∀ x ∈ Q, x ∈ T) → s.1.length = n → BdE M j s.1 → (Q.foldl relaxE s).1.length = n ∧ BdE M (j + Q.length) (Q.foldl relaxE s).1
  | [], s, j, _, hl, hb => ⟨hl, hb⟩
  | x :: Q, s, j, hq, hl, hb => by
    have h1 := relax_bd hM hT hl hb (hq x List.mem_cons_self)
    have h2 := fold_relax hM hT Q (relaxE s x) (j + 1) (fun y hy => hq y (List.mem_cons_of_mem _ hy)) h1.1 h1.2
    rw [List.foldl_cons, List.length_cons, show j + (Q.length + 1) = j + 1 + Q.length by omega]
    exact h2
section
variable {rb : List V} {T : Rul} {n : Nat} {M : Int}
theorem b_step2 {l : List Int} {k2 k : Int} {cb : Bool} {i j : Nat} {x : Int × Int × Int} (hM : 0 ≤ M) (hT : TOk n M T) (hl : l.length = n) (hb : BdE M j l) (hi : T[i]? = some x) (hTl : T.length ≤ 1000000) (hj : (j : Int) * M + M ≤ 4000000000000000000) :
    evC2 R 1 b62_1 (sB rb T 1600 l k2 k cb i) = some (.normal, sB rb T 1600 (relaxE (l, cb) x).1 k2 k (relaxE (l, cb) x).2 (i + 1)) := by
  obtain ⟨⟨h1, h2⟩, ⟨h3, h4⟩, h5, h6⟩ := hT x (List.mem_of_getElem? hi)
  obtain ⟨xa, xb, c⟩ := x
  simp only at h1 h2 h3 h4 h5 h6
  have hb2 := bd_get hb (i := xb.toNat) (by omega)
  have hjM : 0 ≤ (j : Int) * M := Int.mul_nonneg (by omega) hM
  have := b_step (rb := rb) (T := T) (l := l) (k2 := k2) (k := k) (cb := cb) (i := i) (a := xa.toNat) (b := xb.toNat) (c := c) (by rw [hi, Int.toNat_of_nonneg h1, Int.toNat_of_nonneg h3]) (getD_mem (by omega)) (getD_mem (by omega)) hTl (G1.wr1 (by omega))
  rw [this]
  unfold relaxE
  simp only
  split <;> rfl
theorem b_stop {l : List Int} {k2 k : Int} {cb : Bool} : evC2 R 1 b62_1 (sB rb T 1600 l k2 k cb T.length) = some (.exit 2, { fr := [(0, .gref rb), (4, .sl (some 1600) 1 (eI l)), (6, B cb), (22, I k2), (23, I k), (28, S 3 (rT T)), (29, I T.length), (30, I T.length), (31, B false)], tk := [] }) := by
  simp (maxSteps := 2000000) (disch := first | omega | (simp; done) | (simp; omega)) [-getElem?_pos, b62_1]
theorem round_loop {l : List Int} {k2 k : Int} {j N : Nat} (hM : 0 ≤ M) (hT : TOk n M T) (hl : l.length = n) (hb : BdE M j l) (hTl : T.length ≤ 1000000) (hj : ((j + T.length : Nat) : Int) * M ≤ 4000000000000000000) (hN : T.length + 1 ≤ N) :
    iter (evC2 R N b62_1) N (sB rb T 1600 l k2 k false 0) = some (.exit 2, { fr := [(0, .gref rb), (4, .sl (some 1600) 1 (eI (rndE T l).1)), (6, B (rndE T l).2), (22, I k2), (23, I k), (28, S 3 (rT T)), (29, I T.length), (30, I T.length), (31, B false)], tk := [] }) := by
  have h := loop_all (f := evC2 R N b62_1) (s := fun i => sB rb T 1600 ((T.take i).foldl relaxE (l, false)).1 k2 k ((T.take i).foldl relaxE (l, false)).2 i) (n := T.length) (X := (.exit 2, { fr := [(0, .gref rb), (4, .sl (some 1600) 1 (eI (rndE T l).1)), (6, B (rndE T l).2), (22, I k2), (23, I k), (28, S 3 (rT T)), (29, I T.length), (30, I T.length), (31, B false)], tk := [] }))
    (fun i hi => by
      have h1 : T[i]? = some T[i] := List.getElem?_eq_getElem hi
      generalize T[i] = x at h1
      have hf := fold_relax hM hT (T.take i) (l, false) j (fun y hy => List.mem_of_mem_take hy) hl hb
      have hlt : (T.take i).length = i := by rw [List.length_take]; omega
      rw [hlt] at hf
      have hj2 : ((j + i : Nat) : Int) * M + M ≤ 4000000000000000000 := by
        have h2 : ((j + i + 1 : Nat) : Int) * M ≤ ((j + T.length : Nat) : Int) * M := Int.mul_le_mul_of_nonneg_right (by omega) hM
        have h3 : ((j + i + 1 : Nat) : Int) * M = ((j + i : Nat) : Int) * M + M := by rw [Int.natCast_add (j + i) 1, Int.add_mul]; simp
        omega
      have := b_step2 (rb := rb) (k2 := k2) (k := k) (cb := ((T.take i).foldl relaxE (l, false)).2) hM hT hf.1 hf.2 h1 hTl hj2
      rw [G1.take_succ_of h1, List.foldl_append]
      exact this)
    (by rw [List.take_length]; exact b_stop) (by simp)
  exact iter_le (fun _ _ h => h) hN h
end
end Go.Lo

/- By how much sizes are greater at most: most. -/
namespace Go.Lo
open Go.Proofs
set_option linter.unusedSimpArgs false
set_option maxHeartbeats 8000000
set_option maxRecDepth 20000
abbrev rvG (r : Bool) (a b c d : Int) (me : List (List V)) (T : Rul) (now : Int) : List V := [B r, I a, I b, I c, I d, S 2 me, S 3 (rT T), I now]
abbrev sO (rb : List V) (l : List Int) (k2 k : Int) (r : List (Nat × V)) : St := { fr := [(0, .gref rb), (4, .sl (some 1600) 1 (eI l)), (22, I k2), (23, I k)] ++ r, tk := [] }
section
variable {r : Bool} {a b c d now : Int} {me : List (List V)} {T : Rul} {n : Nat} {M : Int}
theorem o_step {l : List Int} {k2 k : Int} {j N : Nat} (hM : 0 ≤ M) (hT : TOk n M T) (hl : l.length = n) (hb : BdE M j l) (hTl : T.length ≤ 1000000) (hj : ((j + T.length : Nat) : Int) * M ≤ 4000000000000000000) (hN : T.length + 1 ≤ N) (hk : k < k2) (hk2 : 0 ≤ k ∧ k2 ≤ 1000000) :
    evC2 R N b62_0 (sO (rvG r a b c d me T now) l k2 k []) = some (if (rndE T l).2 = true then (.normal, sO (rvG r a b c d me T now) (rndE T l).1 k2 (k + 1) []) else (.ret, { fr := [(4, .sl (some 1600) 1 (eI (rndE T l).1)), (5, B true)], tk := [] })) := by
  have L : iter (evC2 R N b62_1) N { fr := [(0, .gref (rvG r a b c d me T now)), (4, .sl (some 1600) 1 (eI l)), (6, B false), (22, I k2), (23, I k), (28, S 3 (rT T)), (29, I T.length), (30, I 0)], tk := [] } = _ := round_loop (rb := rvG r a b c d me T now) (k2 := k2) (k := k) hM hT hl hb hTl hj hN
  have hw : IntKind.i64.wrap (k + 1) = k + 1 := G1.wr1 (by omega)
  generalize rndE T l = q at *
  generalize hF : evC2 R N b62_1 = F at *
  cases hq : q.2 <;> rw [hq] at L <;> simp (maxSteps := 2000000) (disch := first | omega | (simp; done) | (simp; omega)) [-getElem?_pos, b62_0, hF, L, hk, hw]
theorem o_stop {l : List Int} {k2 : Int} {N : Nat} :
    evC2 R N b62_0 (sO (rvG r a b c d me T now) l k2 k2 []) = some (.exit 0, sO (rvG r a b c d me T now) l k2 k2 [(24, B false)]) := by
  generalize hF : evC2 R N b62_1 = F at *
  simp (maxSteps := 2000000) (disch := first | omega | (simp; done) | (simp; omega)) [-getElem?_pos, b62_0, hF]
theorem o_loop {k2 : Int} {N : Nat} (hM : 0 ≤ M) (hT : TOk n M T) (hTl : T.length ≤ 1000000) (hN : T.length + 1 ≤ N) (hk2 : k2 ≤ 1000000) :
    ∀ (m j : Nat) (l : List Int) (k : Int) (F : Nat), k + m = k2 → 0 ≤ k → l.length = n → BdE M j l → ((j + m * T.length : Nat) : Int) * M ≤ 4000000000000000000 → m + 1 ≤ F →
      iter (evC2 R N b62_0) F (sO (rvG r a b c d me T now) l k2 k []) = some (if (mostE T m l).2 = true then (.ret, { fr := [(4, .sl (some 1600) 1 (eI (mostE T m l).1)), (5, B true)], tk := [] }) else (.exit 0, sO (rvG r a b c d me T now) (mostE T m l).1 k2 k2 [(24, B false)]))
  | 0, j, l, k, F, hk, _, _, _, _, hF => by
    obtain ⟨F, rfl⟩ : ∃ F', F = F' + 1 := ⟨F - 1, by omega⟩
    have : k = k2 := by omega
    subst this
    rw [iter_succ, o_stop]
    rfl
  | m + 1, j, l, k, F, hk, hk0, hl, hb, hj, hF => by
    obtain ⟨F, rfl⟩ : ∃ F', F = F' + 1 := ⟨F - 1, by omega⟩
    have hj1 : ((j + T.length : Nat) : Int) * M ≤ 4000000000000000000 := by
      have h2 : ((j + T.length : Nat) : Int) * M ≤ ((j + (m + 1) * T.length : Nat) : Int) * M := Int.mul_le_mul_of_nonneg_right (by rw [Nat.add_mul]; omega) hM
      omega
    have hf := fold_relax hM hT T (l, false) j (fun y hy => hy) hl hb
    rw [iter_succ, o_step hM hT hl hb hTl hj1 hN (by omega) ⟨hk0, hk2⟩]
    cases hq : (rndE T l).2
    · simp [mostE, hq]
    · simp only [if_true, mostE, hq]
      exact o_loop hM hT hTl hN hk2 m (j + T.length) _ (k + 1) F (by omega) (by omega) hf.1 hf.2 (by rw [show j + T.length + m * T.length = j + (m + 1) * T.length by rw [Nat.add_mul]; omega]; exact hj) (by omega)
/-- The numbers at the start. -/
def l0E (n : Nat) : List Int := (List.replicate n 1099511627776).set 0 0
theorem p62 (hM : 0 ≤ M) (hT : TOk n M T) (hn : now + 1 = n) (hn2 : 1 ≤ n ∧ n ≤ 200) (hTl : T.length ≤ 1000000) (hj : (((n + 1) * T.length : Nat) : Int) * M ≤ 4000000000000000000) :
    R 62 [.gref (rvG r a b c d me T now), I 0] = some (if (mostE T (n + 1) (l0E n)).2 = true then .tup [.sl (some 0) 1 (eI (mostE T (n + 1) (l0E n)).1), B true] else .tup [S 1 [], B false]) := by
  have hb0 : BdE M 0 (l0E n) := fun v hv => by
    rcases List.mem_or_eq_of_mem_set hv with hv | rfl
    · have := (List.mem_replicate.1 hv).2; subst this; simp
    · simp
  have hl0 : (l0E n).length = n := by simp [l0E]
  have L : iter (evC2 R (T.length + n + 5) b62_0) (T.length + n + 5) { fr := [(0, .gref (rvG r a b c d me T now)), (4, .sl (some 1600) 1 (eI (l0E n))), (22, I ((n : Int) + 1)), (23, I 0)], tk := [] } = _ :=
    o_loop (r := r) (a := a) (b := b) (c := c) (d := d) (me := me) (now := now) (k2 := (n : Int) + 1) (N := T.length + n + 5) hM hT hTl (by omega) (by omega) (n + 1) 0 (l0E n) 0 (T.length + n + 5) (by omega) (by omega) hl0 hb0 (by simpa using hj) (by omega)
  have e1 : R 91 [S 1 [[I 1099511627776]], I (now + 1)] = some (.sl (some 0) 1 (List.replicate n [I 1099511627776])) := by
    rw [hn]
    refine (run2_told (F := F2) (C := C2) (f := 91) (g := G1.repG) rfl).trans ?_
    show (if 1 ≤ (n : Int) ∧ (n : Int) ≤ 200 then some (V.sl (some 0) 1 (List.replicate (n : Int).toNat [V.int IntKind.i64 1099511627776])) else none) = _
    rw [if_pos (by omega)]
    rfl
  have hr : (List.replicate n (1099511627776 : Int)).map (fun x => [I x]) = List.replicate n [I 1099511627776] := by simp
  have hs : (List.replicate n [I 1099511627776]).set 0 [I 0] = eI (l0E n) := by
    simp [l0E, List.map_set]
  have hw : IntKind.i64.wrap (now + 1) = now + 1 := G1.wr1 (by omega)
  have hw2 : IntKind.i64.wrap ((n : Int) + 1) = (n : Int) + 1 := G1.wr1 (by omega)
  have hlen : (List.replicate n [I 1099511627776]).length = n := by simp
  have hz : (List.replicate n [I 1099511627776])[0]? = some [I 1099511627776] := by rw [List.getElem?_replicate, if_pos (by omega)]
  have h0 : (0 : Int) < n := by omega
  refine run2_body (T.length + n + 5) rfl rfl rfl rfl rfl ?_
  generalize hq : mostE T (n + 1) (l0E n) = q at *
  generalize hF : evC2 R (T.length + n + 5) b62_0 = F at *
  generalize List.replicate n [I 1099511627776] = z at *
  cases h2 : q.2 <;> rw [h2] at L <;> simp (maxSteps := 2000000) (disch := first | omega | (simp; done) | (simp; omega)) [-getElem?_pos, l62, hF, L, e1, hw, hw2, hs, hlen, hz, hl0, h0]
end
end Go.Lo

/- The rules of the sizes with the opposite sign; what a size can be. -/
namespace Go.Lo
open Go.Proofs
set_option linter.unusedSimpArgs false
set_option maxHeartbeats 8000000
set_option maxRecDepth 20000
theorem slT2_int {ts : List Nat} {k : IntKind} {n : Int} : slT2 ts (.int k n) = some false := rfl
theorem slT2_bool {ts : List Nat} {b : Bool} : slT2 ts (.bool b) = some false := rfl
theorem slT2_none {ts : List Nat} {n : Nat} {es : List (List V)} : slT2 ts (.sl none n es) = some false := rfl
def oppE (T : Rul) : Rul := T.map fun x => (x.2.1, x.1, x.2.2)
abbrev sQ (now : Int) (T L : Rul) (i : Nat) : St := { fr := [(3, .ref 11 0), (11, .box [B false, I 0, I 0, I 0, I 0, S 2 [], .sl (some 2003400) 3 (rT L), I now]), (15, S 3 (rT T)), (16, I T.length), (17, I i)], tk := [] }
theorem q_step {now : Int} {T L : Rul} {i : Nat} {x : Int × Int × Int} (hi : T[i]? = some x) (hT : T.length ≤ 1000000) (hL : L.length ≤ 1000000) :
    evC2 R 1 b63_0 (sQ now T L i) = some (.normal, sQ now T (L ++ [(x.2.1, x.1, x.2.2)]) (i + 1)) := by
  have hlt : i < T.length := (List.getElem?_eq_some_iff.1 hi).1
  have hi2 : ((i : Int) < T.length) := by omega
  have hw2 : IntKind.i64.wrap ((i : Int) + 1) = (i : Int) + 1 := G1.wr1 (by omega)
  obtain ⟨p, q, c⟩ := x
  cases L with
  | nil => simp (maxSteps := 2000000) (disch := first | omega | (simp; done) | (simp; omega)) [-getElem?_pos, b63_0, slT2_int, slT2_bool, slT2_none, hi, hi2, hw2]
  | cons y L => 
    simp only [List.length_cons] at hL
    simp (maxSteps := 2000000) (disch := first | omega | (simp; done) | (simp; omega)) [-getElem?_pos, b63_0, slT2_int, slT2_bool, slT2_none, hi, hi2, hw2, hL, x_appo (hne := List.cons_ne_nil (G1.rl y) (L.map G1.rl))]
theorem q_stop {now : Int} {T L : Rul} : evC2 R 1 b63_0 (sQ now T L T.length) = some (.exit 0, { fr := [(3, .ref 11 0), (11, .box [B false, I 0, I 0, I 0, I 0, S 2 [], .sl (some 2003400) 3 (rT L), I now]), (15, S 3 (rT T)), (16, I T.length), (17, I T.length), (18, B false)], tk := [] }) := by
  simp (maxSteps := 2000000) (disch := first | omega | (simp; done) | (simp; omega)) [-getElem?_pos, b63_0]
theorem p63 {r : Bool} {a b c d now : Int} {me : List (List V)} {T : Rul} (hT : T.length ≤ 1000000) (hne : T ≠ []) :
    R 63 [.gref (rvG r a b c d me T now)] = some (.gref (rvG false 0 0 0 0 [] (oppE T) now)) := by
  have L : iter (evC2 R (T.length + 1) b63_0) (T.length + 1) { fr := [(3, .ref 11 0), (11, .box [B false, I 0, I 0, I 0, I 0, S 2 [], .sl (some 2003400) 3 [], I now]), (15, S 3 (rT T)), (16, I T.length), (17, I 0)], tk := [] } = some (.exit 0, { fr := [(3, .ref 11 0), (11, .box [B false, I 0, I 0, I 0, I 0, S 2 [], .sl (some 2003400) 3 (rT (oppE T)), I now]), (15, S 3 (rT T)), (16, I T.length), (17, I T.length), (18, B false)], tk := [] }) :=
    loop_all (f := evC2 R (T.length + 1) b63_0) (s := fun i => sQ now T (oppE (T.take i)) i) (n := T.length) (fun i hi => by
      have h1 : T[i]? = some T[i] := List.getElem?_eq_getElem hi
      generalize T[i] = x at h1
      have := q_step (now := now) (L := oppE (T.take i)) h1 hT (by simp only [oppE, List.length_map, List.length_take]; omega)
      have e : oppE (T.take (i + 1)) = oppE (T.take i) ++ [(x.2.1, x.1, x.2.2)] := by
        rw [G1.take_succ_of h1]; simp only [oppE, List.map_append, List.map_cons, List.map_nil]
      rw [e]
      exact this) (by rw [List.take_length]; exact q_stop) (by simp)
  have hne2 : rT (oppE T) ≠ [] := by simp [oppE, hne]
  generalize hF : evC2 R (T.length + 1) b63_0 = F at *
  refine run2_body (T.length + 1) rfl rfl rfl rfl rfl ?_
  generalize hO : rT (oppE T) = O at *
  cases O with
  | nil => exact absurd rfl hne2
  | cons o O => simp (maxSteps := 2000000) (disch := first | omega | (simp; done) | (simp; omega)) [-getElem?_pos, l63, hF, L, hO]
theorem p60 {ring : Bool} {a b c d now x y : Int} {me : List (List V)} {T : Rul} (h : (-9223372036854775807 ≤ x ∧ x ≤ 9223372036854775807) ∧ -9223372036854775807 ≤ y ∧ y ≤ 9223372036854775807) :
    R 60 [.gref (rvG ring a b c d me T now), .agg [I x, I y]] = some (.agg [I (G1.tn ring (x, y)).1, I (G1.tn ring (x, y)).2]) := by
  have h1 : IntKind.i64.wrap (-x) = -x := G1.wr1 (by omega)
  have h2 : IntKind.i64.wrap (-y) = -y := G1.wr1 (by omega)
  refine run2_body 1 rfl rfl rfl rfl rfl ?_
  cases ring <;> simp (maxSteps := 2000000) (disch := first | omega | (simp; done) | (simp; omega)) [-getElem?_pos, l60, h1, h2, G1.tn]
theorem most_bd {M : Int} (hM : 0 ≤ M) {n : Nat} {T : Rul} (hT : TOk n M T) : ∀ (m j : Nat) (l : List Int), l.length = n → BdE M j l → (mostE T m l).1.length = n ∧ BdE M (j + m * T.length) (mostE T m l).1
  | 0, j, l, hl, hb => ⟨hl, by simpa [mostE] using hb⟩
  | m + 1, j, l, hl, hb => by
    have hf := fold_relax hM hT T (l, false) j (fun y hy => hy) hl hb
    have e : j + (m + 1) * T.length = j + T.length + m * T.length := by rw [Nat.add_mul]; omega
    rw [e]
    unfold mostE
    split
    · exact most_bd hM hT m (j + T.length) _ hf.1 hf.2
    · exact ⟨hf.1, bd_mono hM (by omega) hf.2⟩
theorem opp_ok {M : Int} {n : Nat} {T : Rul} (hT : TOk n M T) : TOk n M (oppE T) := fun x hx => by
  obtain ⟨y, hy, rfl⟩ := List.mem_map.1 hx
  obtain ⟨h1, h2, h3⟩ := hT y hy
  exact ⟨h2, h1, h3⟩
theorem l0_ok {M : Int} {n : Nat} : (l0E n).length = n ∧ BdE M 0 (l0E n) := ⟨by simp [l0E], fun v hv => by
  rcases List.mem_or_eq_of_mem_set hv with hv | rfl
  · have := (List.mem_replicate.1 hv).2; subst this; simp
  · simp⟩
/-- What a size can be, or the error. -/
def spanE (ring : Bool) (T : Rul) (n k : Nat) : (Int × Int) × Int :=
  if (mostE T (n + 1) (l0E n)).2 = true ∧ (mostE (oppE T) (n + 1) (l0E n)).2 = true then (G1.tn ring (-((mostE (oppE T) (n + 1) (l0E n)).1.getD k 0), (mostE T (n + 1) (l0E n)).1.getD k 0), 0) else ((0, 0), 9)
theorem p33 {ring : Bool} {a b c d now : Int} {me : List (List V)} {T : Rul} {n k : Nat} {M : Int} (hM : 0 ≤ M) (hT : TOk n M T) (hn : now + 1 = n) (hn2 : 1 ≤ n ∧ n ≤ 200) (hTl : T.length ≤ 1000000) (hne : T ≠ []) (hj : (((n + 1) * T.length : Nat) : Int) * M ≤ 4000000000000000000) (hk : k < n) :
    R 33 [.gref (rvG ring a b c d me T now), I k] = some (.tup [.agg [I (spanE ring T n k).1.1, I (spanE ring T n k).1.2], I (spanE ring T n k).2]) := by
  have hol : (oppE T).length = T.length := by simp [oppE]
  have m1 := p62 (r := ring) (a := a) (b := b) (c := c) (d := d) (me := me) hM hT hn hn2 hTl hj
  have m2 := p62 (r := false) (a := 0) (b := 0) (c := 0) (d := 0) (me := []) hM (opp_ok hT) hn hn2 (by rw [hol]; exact hTl) (by rw [hol]; exact hj)
  have o1 := p63 (r := ring) (a := a) (b := b) (c := c) (d := d) (now := now) (me := me) hTl hne
  have b1 := most_bd hM hT (n + 1) 0 (l0E n) (l0_ok (M := M)).1 (l0_ok (M := M)).2
  have b2 := most_bd hM (opp_ok hT) (n + 1) 0 (l0E n) (l0_ok (M := M)).1 (l0_ok (M := M)).2
  rw [hol] at b2
  have hj2 : ((0 + (n + 1) * T.length : Nat) : Int) * M ≤ 4000000000000000000 := by simpa using hj
  unfold spanE
  generalize mostE T (n + 1) (l0E n) = q1 at *
  generalize mostE (oppE T) (n + 1) (l0E n) = q2 at *
  have c1 := bd_get b1.2 (i := k) (by omega)
  have c2 := bd_get b2.2 (i := k) (by omega)
  have g1 := getD_mem (l := q1.1) (i := k) (by omega)
  have g2 := getD_mem (l := q2.1) (i := k) (by omega)
  have t1 := p60 (ring := ring) (a := a) (b := b) (c := c) (d := d) (now := now) (me := me) (T := T) (x := -(q2.1.getD k 0)) (y := q1.1.getD k 0) (by omega)
  have hw : IntKind.i64.wrap (-(q2.1.getD k 0)) = -(q2.1.getD k 0) := G1.wr1 (by omega)
  have hk1 : (k : Int) < q1.1.length := by omega
  have hk2 : (k : Int) < q2.1.length := by omega
  clear c1 c2
  generalize q1.1.getD k 0 = x1 at *
  generalize q2.1.getD k 0 = x2 at *
  refine run2_body 1 rfl rfl rfl rfl rfl ?_
  cases h1 : q1.2 <;> cases h2 : q2.2 <;> rw [h1] at m1 <;> rw [h2] at m2 <;> simp only [if_true, Bool.false_eq_true, if_false] at m1 m2 <;> simp (maxSteps := 2000000) (disch := first | omega | (simp; done) | (simp; omega)) [-getElem?_pos, l33, m1, m2, o1, g1, g2, t1, hw, hk1, hk2]
end Go.Lo

/- Rules and events are checked; the size of a gauge. -/
namespace Go.Lo
open Go.Proofs
set_option linter.unusedSimpArgs false
set_option maxHeartbeats 8000000
set_option maxRecDepth 20000
/-! ### The first of a list for which a function says so -/
theorem p92 {α : Type} {E : α → List V} {W : α → V} {g : Nat} {caps : List V} {pr : α → Bool} (hc : ∀ rd, frzL rd caps = some caps) {xs : List α} (hE : ∀ x ∈ xs, partV (E x) 0 none = some (W x) ∧ (∀ rd, (W x).frz rd = some (W x)) ∧ ∀ s, opV s (some (W x)) = some (W x)) (hp : ∀ x ∈ xs, R g (W x :: caps) = some (B (pr x))) (hl : xs.length < 4611686018427387904) :
    R 92 [S 1 (xs.map E), .fn (.f g) caps] = some (I (match xs.findIdx? pr with | none => -1 | some k => k)) := by
  have L := loop_find (s := fun i => { fr := [(0, S 1 (xs.map E)), (1, .fn (.f g) caps), (7, I xs.length), (8, I i)], tk := [] }) (f := evC2 R (xs.length + 1) b92_0) (n := xs.length) (g := prAt pr xs) (E := fun i => (.ret, { fr := [(4, I i)], tk := [] })) (X := (.exit 0, { fr := [(0, S 1 (xs.map E)), (1, .fn (.f g) caps), (7, I xs.length), (8, I xs.length), (9, B false)], tk := [] }))
    (fun i hi => by
      have h1 : xs[i]? = some xs[i] := List.getElem?_eq_getElem hi
      have hm : xs[i] ∈ xs := List.getElem_mem hi
      have hp' := hp _ hm
      obtain ⟨h2, h3, h4⟩ := hE _ hm
      have hlt : (i : Int) < xs.length := by omega
      clear hp hE
      generalize xs[i] = x at *
      rw [prAt_some h1]
      generalize hw : W x = w at *
      cases hx : pr x <;> rw [hx] at hp' <;> simp (maxSteps := 2000000) (disch := first | omega | (simp; done) | (simp; omega)) [-getElem?_pos, -partV, b92_0, h1, h2, h3, h4, hc, hp', hlt, wrap64]) (fun _ => by simp) (by simp [b92_0]) (by simp) xs.length 0 (by omega)
  rw [find_idx] at L
  refine run2_body (xs.length + 1) rfl rfl rfl rfl rfl ?_
  cases hf : xs.findIdx? pr with
  | none =>
    rw [hf] at L
    simp at L
    simp [l92, L]
  | some k =>
    rw [hf] at L
    simp at L
    simp [l92, L]
theorem p67 {α : Type} {E : α → List V} {W : α → V} {g : Nat} {caps : List V} {pr : α → Bool} (hc : ∀ rd, frzL rd caps = some caps) {xs : List α} (hE : ∀ x ∈ xs, partV (E x) 0 none = some (W x) ∧ (∀ rd, (W x).frz rd = some (W x)) ∧ ∀ s, opV s (some (W x)) = some (W x)) (hp : ∀ x ∈ xs, R g (W x :: caps) = some (B (pr x))) (hl : xs.length < 4611686018427387904) :
    R 67 [S 1 (xs.map E), .fn (.f g) caps] = some (B (xs.any pr)) := by
  have h := p92 hc hE hp hl
  refine run2_body 1 rfl rfl rfl rfl rfl ?_
  cases hf : xs.findIdx? pr with
  | none =>
    rw [hf] at h
    have : xs.any pr = false := by
      rw [List.findIdx?_eq_none_iff] at hf
      rw [List.any_eq_false]; simpa using hf
    simp [l67, h, hc, this]
  | some k =>
    rw [hf] at h
    have : xs.any pr = true := by
      have := List.findIdx?_isSome (xs := xs) (p := pr)
      rw [hf] at this
      exact this.symm
    simp (maxSteps := 2000000) (disch := first | omega | (simp; done) | (simp; omega)) [l67, h, hc, this]

theorem p85 (x lo hi : Int) : R 85 [I x, .cref [I lo], .cref [I hi]] = some (B (decide (x < lo) || decide (x > hi))) := by
  refine run2_body 1 rfl rfl rfl rfl rfl ?_
  by_cases h : x < lo <;> simp [l85, h]
theorem p50 (lo hi : Int) {xs : List Int} (hl : xs.length < 4611686018427387904) : R 50 [I lo, I hi, S 1 (eI xs)] = some (B (xs.all fun x => decide (lo ≤ x ∧ x ≤ hi))) := by
  have h := p67 (g := 85) (caps := [.cref [I lo], .cref [I hi]]) (pr := fun x => decide (x < lo) || decide (x > hi)) (E := fun x => [I x]) (W := fun x => I x) (xs := xs) (fun _ => rfl) (fun _ _ => ⟨rfl, fun _ => rfl, fun _ => rfl⟩) (fun x _ => p85 x lo hi) hl
  refine run2_body 1 rfl rfl rfl rfl rfl ?_
  have e : (xs.all fun x => decide (lo ≤ x ∧ x ≤ hi)) = !(xs.any fun x => decide (x < lo) || decide (x > hi)) := by
    rw [List.not_any_eq_all_not]
    congr 1
    funext x
    by_cases h1 : x < lo <;> by_cases h2 : x > hi <;> simp [h1, h2] <;> omega
  rw [e]
  simp [l50, h]

/-! ### The first of a list for which a function says so -/
theorem p105 {α : Type} {E : α → List V} {W : α → V} {g : Nat} {caps : List V} {pr : α → Bool} (hc : ∀ rd, frzL rd caps = some caps) {xs : List α} (hE : ∀ x ∈ xs, partV (E x) 0 (some 2) = some (W x) ∧ (∀ rd, (W x).frz rd = some (W x)) ∧ ∀ s, opV s (some (W x)) = some (W x)) (hp : ∀ x ∈ xs, R g (W x :: caps) = some (B (pr x))) (hl : xs.length < 4611686018427387904) :
    R 105 [S 2 (xs.map E), .fn (.f g) caps] = some (I (match xs.findIdx? pr with | none => -1 | some k => k)) := by
  have L := loop_find (s := fun i => { fr := [(0, S 2 (xs.map E)), (1, .fn (.f g) caps), (7, I xs.length), (8, I i)], tk := [] }) (f := evC2 R (xs.length + 1) b105_0) (n := xs.length) (g := prAt pr xs) (E := fun i => (.ret, { fr := [(4, I i)], tk := [] })) (X := (.exit 0, { fr := [(0, S 2 (xs.map E)), (1, .fn (.f g) caps), (7, I xs.length), (8, I xs.length), (9, B false)], tk := [] }))
    (fun i hi => by
      have h1 : xs[i]? = some xs[i] := List.getElem?_eq_getElem hi
      have hm : xs[i] ∈ xs := List.getElem_mem hi
      have hp' := hp _ hm
      obtain ⟨h2, h3, h4⟩ := hE _ hm
      have hlt : (i : Int) < xs.length := by omega
      clear hp hE
      generalize xs[i] = x at *
      rw [prAt_some h1]
      generalize hw : W x = w at *
      cases hx : pr x <;> rw [hx] at hp' <;> simp (maxSteps := 2000000) (disch := first | omega | (simp; done) | (simp; omega)) [-getElem?_pos, -partV, b105_0, h1, h2, h3, h4, hc, hp', hlt, wrap64]) (fun _ => by simp) (by simp [b105_0]) (by simp) xs.length 0 (by omega)
  rw [find_idx] at L
  refine run2_body (xs.length + 1) rfl rfl rfl rfl rfl ?_
  cases hf : xs.findIdx? pr with
  | none =>
    rw [hf] at L
    simp at L
    simp [l105, L]
  | some k =>
    rw [hf] at L
    simp at L
    simp [l105, L]
theorem p90 {α : Type} {E : α → List V} {W : α → V} {g : Nat} {caps : List V} {pr : α → Bool} (hc : ∀ rd, frzL rd caps = some caps) {xs : List α} (hE : ∀ x ∈ xs, partV (E x) 0 (some 2) = some (W x) ∧ (∀ rd, (W x).frz rd = some (W x)) ∧ ∀ s, opV s (some (W x)) = some (W x)) (hp : ∀ x ∈ xs, R g (W x :: caps) = some (B (pr x))) (hl : xs.length < 4611686018427387904) :
    R 90 [S 2 (xs.map E), .fn (.f g) caps] = some (B (xs.any pr)) := by
  have h := p105 hc hE hp hl
  refine run2_body 1 rfl rfl rfl rfl rfl ?_
  cases hf : xs.findIdx? pr with
  | none =>
    rw [hf] at h
    have : xs.any pr = false := by
      rw [List.findIdx?_eq_none_iff] at hf
      rw [List.any_eq_false]; simpa using hf
    simp [l90, h, hc, this]
  | some k =>
    rw [hf] at h
    have : xs.any pr = true := by
      have := List.findIdx?_isSome (xs := xs) (p := pr)
      rw [hf] at this
      exact this.symm
    simp (maxSteps := 2000000) (disch := first | omega | (simp; done) | (simp; omega)) [l90, h, hc, this]

theorem gW_1 (lo hi x : Int) : R 50 [I lo, I hi, S 1 [[I x]]] = some (B (decide (lo ≤ x ∧ x ≤ hi))) := by
  have := p50 lo hi (xs := [x]) (by simp)
  simpa using this
theorem gW_2 (lo hi x y : Int) : R 50 [I lo, I hi, S 1 [[I x], [I y]]] = some (B (decide ((lo ≤ x ∧ x ≤ hi) ∧ (lo ≤ y ∧ y ≤ hi)))) := by
  have := p50 lo hi (xs := [x, y]) (by simp)
  simpa using this
theorem p57 (p m : Int) (g : Bool) : R 57 [.agg [I p, I m, B g]] = some (I (G0.kindE p m g)) := by
  have h := gW_1 1 100000 p
  refine run2_body 1 rfl rfl rfl rfl rfl ?_
  unfold G0.kindE
  by_cases h3 : p = 0
  · subst h3
    have h0 : ¬ (1 ≤ (0 : Int) ∧ (0 : Int) ≤ 100000) := by omega
    rw [decide_eq_false h0] at h
    by_cases h1 : m = -1 <;> cases g <;> simp [l57, h, h1]
  · by_cases h1 : m = -1 <;> by_cases h2 : 1 ≤ p ∧ p ≤ 100000 <;> cases g <;> simp [l57, h, h1, h2, h3]
abbrev eS (x : Int × Int) : V := .agg [I x.1, I x.2]
abbrev eS2 (l : List (Int × Int)) : List (List V) := l.map fun x => [I x.1, I x.2]
theorem p49 (s : Int × Int) (hi : Int) : R 49 [eS s, I hi] = some (B (decide (0 ≤ s.1 ∧ s.1 ≤ s.2 ∧ s.2 ≤ hi))) := by
  have e1 := gW_2 0 hi s.1 s.2
  refine run2_body 1 rfl rfl rfl rfl rfl ?_
  by_cases hq : (0 ≤ s.1 ∧ s.1 ≤ hi) ∧ (0 ≤ s.2 ∧ s.2 ≤ hi)
  · rw [decide_eq_true hq] at e1
    by_cases h : s.1 ≤ s.2
    · rw [decide_eq_true (show 0 ≤ s.1 ∧ s.1 ≤ s.2 ∧ s.2 ≤ hi by omega)]
      simp (maxSteps := 2000000) (disch := first | omega | (simp; done) | (simp; omega)) [-getElem?_pos, l49, e1, h]
    · rw [decide_eq_false (show ¬ (0 ≤ s.1 ∧ s.1 ≤ s.2 ∧ s.2 ≤ hi) by omega)]
      simp (maxSteps := 2000000) (disch := first | omega | (simp; done) | (simp; omega)) [-getElem?_pos, l49, e1, h]
  · rw [decide_eq_false hq] at e1
    rw [decide_eq_false (show ¬ (0 ≤ s.1 ∧ s.1 ≤ s.2 ∧ s.2 ≤ hi) by omega)]
    simp (maxSteps := 2000000) (disch := first | omega | (simp; done) | (simp; omega)) [-getElem?_pos, l49, e1]
def lenB (s : Int × Int) : Bool := decide (0 ≤ s.1 ∧ s.1 ≤ s.2 ∧ s.2 ≤ 10000000)
def wearB (s : Int × Int) : Bool := decide (0 ≤ s.1 ∧ s.1 ≤ s.2 ∧ s.2 ≤ 10000)
theorem p52 (s : Int × Int) : R 52 [eS s] = some (B (!lenB s)) := by
  have e1 := p49 s 10000000
  rw [show decide (0 ≤ s.1 ∧ s.1 ≤ s.2 ∧ s.2 ≤ 10000000) = lenB s from rfl] at e1
  refine run2_body 1 rfl rfl rfl rfl rfl ?_
  simp (maxSteps := 2000000) (disch := first | omega | (simp; done) | (simp; omega)) [-getElem?_pos, l52, e1]
/-- The error of rules. -/
def chkR (n w : Int × Int) (ms : List (Int × Int)) : Int := if 10 < ms.length then 5 else if lenB n = true ∧ wearB w = true ∧ (ms.any fun s => !lenB s) = false then 0 else 2
abbrev eR (ring : Bool) (n w : Int × Int) (ms : List (Int × Int)) : V := .agg [B ring, I n.1, I n.2, I w.1, I w.2, S 2 (eS2 ms)]
theorem p56 (ring : Bool) (n w : Int × Int) {ms : List (Int × Int)} (hl : ms.length ≤ 1000000) : R 56 [eR ring n w ms] = some (I (chkR n w ms)) := by
  have e1 := p52 n
  have e2 := p49 w 10000
  have e3 := p90 (g := 52) (caps := []) (pr := fun s => !lenB s) (E := fun s : Int × Int => [I s.1, I s.2]) (W := eS) (xs := ms) (fun _ => rfl) (fun _ _ => ⟨rfl, fun _ => rfl, fun _ => rfl⟩) (fun s _ => p52 s) (by omega)
  rw [show decide (0 ≤ w.1 ∧ w.1 ≤ w.2 ∧ w.2 ≤ 10000) = wearB w from rfl] at e2
  refine run2_body 1 rfl rfl rfl rfl rfl ?_
  unfold chkR
  generalize (ms.any fun s => !lenB s) = q at *
  by_cases h : 10 < ms.length
  · have h2 : (10 : Int) < ms.length := by omega
    simp (maxSteps := 2000000) (disch := first | omega | (simp; done) | (simp; omega)) [-getElem?_pos, l56, h, h2]
  · have h2 : ¬ (10 : Int) < ms.length := by omega
    cases h3 : lenB n <;> cases h4 : wearB w <;> cases q <;> simp (maxSteps := 2000000) (disch := first | omega | (simp; done) | (simp; omega)) [-getElem?_pos, l56, h, h2, e1, e2, e3, h3, h4]
end Go.Lo

/- Events are checked; the size of a gauge. -/
namespace Go.Lo
open Go.Proofs
set_option linter.unusedSimpArgs false
set_option maxHeartbeats 8000000
set_option maxRecDepth 20000
abbrev Evt := Int × Int × Bool
abbrev eV (l : List Evt) : List (List V) := l.map fun x => [I x.1, I x.2.1, B x.2.2]
theorem find_prAt {α : Type} (pr : α → Bool) (xs : List α) : (match (List.range' 0 xs.length).find? (prAt pr xs) with | some i => xs[i]? | none => none) = xs.find? pr := by
  rw [find_idx]
  cases h : xs.findIdx? pr with
  | none =>
    rw [List.findIdx?_eq_none_iff] at h
    symm
    rw [List.find?_eq_none]
    intro x hx
    rw [h x hx]; simp
  | some k =>
    obtain ⟨hk, h1, h2⟩ := List.findIdx?_eq_some_iff_getElem.1 h
    show xs[k]? = _
    rw [List.getElem?_eq_getElem hk]
    symm
    rw [List.find?_eq_some_iff_append]
    refine ⟨h1, xs.take k, xs.drop (k + 1), by rw [List.getElem_cons_drop]; exact (List.take_append_drop k xs).symm, fun a ha => ?_⟩
    obtain ⟨j, hj, rfl⟩ := List.mem_iff_getElem.1 ha
    rw [List.length_take] at hj
    have := h2 j (by omega)
    rw [List.getElem_take]
    simpa using this
/-- The error of an event. -/
def evErr (m : Nat) (x : Evt) : Int := if -1 ≤ x.2.1 ∧ x.2.1 ≤ (m : Int) - 1 then (if G0.kindE x.1 x.2.1 x.2.2 = 0 then 2 else 0) else 7
/-- The error of rules and events. -/
def chkE (n w : Int × Int) (ms : List (Int × Int)) (es : List Evt) : Int :=
  if chkR n w ms ≠ 0 then chkR n w ms else if 100 < es.length then 5 else match es.find? fun x => decide (evErr ms.length x ≠ 0) with
    | some x => evErr ms.length x
    | none => 0
theorem p31 (ring : Bool) (n w : Int × Int) {ms : List (Int × Int)} {es : List Evt} (hm : ms.length ≤ 1000000) (hl : es.length ≤ 1000000) : R 31 [eR ring n w ms, S 3 (eV es)] = some (I (chkE n w ms es)) := by
  have L := loop_if (s := fun i => { fr := [(2, .box [B ring, I n.1, I n.2, I w.1, I w.2, S 2 (eS2 ms)]), (16, S 3 (eV es)), (17, I es.length), (18, I i)], tk := [] }) (f := evC2 R (es.length + 1) b31_0) (n := es.length) (g := prAt (fun x => decide (evErr ms.length x ≠ 0)) es) (E := fun i => (.ret, { fr := [(4, I (evErr ms.length (es.getD i (0, 0, false))))], tk := [] })) (X := (.exit 0, { fr := [(2, .box [B ring, I n.1, I n.2, I w.1, I w.2, S 2 (eS2 ms)]), (16, S 3 (eV es)), (17, I es.length), (18, I es.length), (19, B false)], tk := [] }))
    (fun i hi => by
      have h1 : es[i]? = some es[i] := List.getElem?_eq_getElem hi
      have h2 : (i : Int) < es.length := by omega
      have hw : IntKind.i64.wrap ((i : Int) + 1) = (i : Int) + 1 := G1.wr1 (by omega)
      have hw2 : IntKind.i64.wrap ((ms.length : Int) - 1) = (ms.length : Int) - 1 := G1.wr1 (by omega)
      rw [prAt_some h1, show es.getD i (0, 0, false) = es[i] by simp [hi]]
      generalize es[i] = x at *
      have e1 := gW_1 (-1) ((ms.length : Int) - 1) x.2.1
      have e2 := p57 x.1 x.2.1 x.2.2
      unfold evErr
      generalize G0.kindE x.1 x.2.1 x.2.2 = q at *
      by_cases hx : -1 ≤ x.2.1 ∧ x.2.1 ≤ (ms.length : Int) - 1
      · rw [decide_eq_true hx] at e1
        by_cases hq : q = 0 <;> simp (maxSteps := 2000000) (disch := first | omega | (simp; done) | (simp; omega)) [-getElem?_pos, b31_0, h1, h2, hw, hw2, e1, e2, hx, hq]
      · rw [decide_eq_false hx] at e1
        simp (maxSteps := 2000000) (disch := first | omega | (simp; done) | (simp; omega)) [-getElem?_pos, b31_0, h1, h2, hw, hw2, e1, hx]) (fun _ => by simp) (by simp (maxSteps := 2000000) (disch := first | omega | (simp; done) | (simp; omega)) [-getElem?_pos, b31_0]) (by simp)
  have hf := find_prAt (fun x => decide (evErr ms.length x ≠ 0)) es
  have e3 := p56 ring n w (ms := ms) hm
  unfold chkE
  generalize hF : evC2 R (es.length + 1) b31_0 = F at *
  have hfin : ∀ q : Int, (match es.find? fun x => decide (evErr ms.length x ≠ 0) with | some x => evErr ms.length x | none => 0) = q → R 31 [eR ring n w ms, S 3 (eV es)] = some (I (if chkR n w ms ≠ 0 then chkR n w ms else if 100 < es.length then 5 else q)) := fun q hq => by
    refine run2_body (es.length + 1) rfl rfl rfl rfl rfl ?_
    generalize chkR n w ms = c at *
    by_cases hc : c = 0
    · subst hc
      by_cases h100 : 100 < es.length
      · have h101 : (100 : Int) < es.length := by omega
        simp (maxSteps := 2000000) (disch := first | omega | (simp; done) | (simp; omega)) [-getElem?_pos, l31, e3, h100, h101]
      · have h101 : ¬ (100 : Int) < es.length := by omega
        cases hk : (List.range' 0 es.length).find? (prAt (fun x => decide (evErr ms.length x ≠ 0)) es) with
        | none =>
          rw [hk] at L hf
          simp only at L hf
          rw [← hf] at hq
          simp only at hq
          subst hq
          simp at L
          simp (maxSteps := 2000000) (disch := first | omega | (simp; done) | (simp; omega)) [-getElem?_pos, l31, hF, e3, h100, h101, L]
        | some k =>
          rw [hk] at L hf
          simp only at L hf
          rw [← hf] at hq
          have hk2 : k < es.length := by
            have := List.mem_of_find?_eq_some hk
            simp at this; omega
          rw [List.getElem?_eq_getElem hk2] at hq
          simp only at hq
          rw [show es.getD k (0, 0, false) = es[k] by simp [hk2], hq] at L
          simp at L
          simp (maxSteps := 2000000) (disch := first | omega | (simp; done) | (simp; omega)) [-getElem?_pos, l31, hF, e3, h100, h101, L]
    · simp (maxSteps := 2000000) (disch := first | omega | (simp; done) | (simp; omega)) [-getElem?_pos, l31, e3, hc]
  exact hfin _ rfl
end Go.Lo

/- The size of a gauge. -/
namespace Go.Lo
open Go.Proofs
set_option linter.unusedSimpArgs false
set_option maxHeartbeats 8000000
set_option maxRecDepth 20000
theorem TOk.mono {n m : Nat} {M : Int} {T : Rul} (h : TOk n M T) (hn : n ≤ m) : TOk m M T := fun x hx => by
  obtain ⟨h1, h2, h3⟩ := h x hx
  omega
theorem TOk.app {n : Nat} {M : Int} {T Q : Rul} (h : TOk n M T) (k : TOk n M Q) : TOk n M (T ++ Q) := fun x hx => by
  rcases List.mem_append.1 hx with hx | hx
  · exact h x hx
  · exact k x hx
/-- What is checked of rules. -/
structure ROk (n w : Int × Int) (ms : List (Int × Int)) : Prop where
  n : 0 ≤ n.1 ∧ n.1 ≤ n.2 ∧ n.2 ≤ 10000000
  w : 0 ≤ w.1 ∧ w.1 ≤ w.2 ∧ w.2 ≤ 10000
  ml : ms.length ≤ 10
  m : ∀ s ∈ ms, 0 ≤ s.1 ∧ s.1 ≤ s.2 ∧ s.2 ≤ 10000000
theorem chkR_ok {n w : Int × Int} {ms : List (Int × Int)} : chkR n w ms = 0 ↔ ROk n w ms := by
  unfold chkR
  constructor
  · intro h
    split at h
    · cases h
    · split at h
      · rename_i h1 h2
        obtain ⟨k1, k2, k3⟩ := h2
        refine ⟨by simpa [lenB] using k1, by simpa [wearB] using k2, by omega, fun s hs => ?_⟩
        rw [List.any_eq_false] at k3
        have := k3 s hs
        simpa [lenB] using this
      · cases h
  · rintro ⟨h1, h2, h3, h4⟩
    rw [if_neg (by omega), if_pos]
    refine ⟨by simpa [lenB] using h1, by simpa [wearB] using h2, ?_⟩
    rw [List.any_eq_false]
    intro s hs
    have := h4 s hs
    simpa [lenB] using this
/-- What is checked of events. -/
def EOk (m : Nat) (es : List Evt) : Prop := es.length ≤ 100 ∧ ∀ x ∈ es, (-1 ≤ x.2.1 ∧ x.2.1 ≤ (m : Int) - 1) ∧ G0.kindE x.1 x.2.1 x.2.2 ≠ 0
theorem evErr_ok {m : Nat} {x : Evt} : evErr m x = 0 ↔ (-1 ≤ x.2.1 ∧ x.2.1 ≤ (m : Int) - 1) ∧ G0.kindE x.1 x.2.1 x.2.2 ≠ 0 := by
  unfold evErr
  by_cases h1 : -1 ≤ x.2.1 ∧ x.2.1 ≤ (m : Int) - 1
  · by_cases h2 : G0.kindE x.1 x.2.1 x.2.2 = 0 <;> simp [h1, h2]
  · simp [h1]
theorem chkE_ok {n w : Int × Int} {ms : List (Int × Int)} {es : List Evt} : chkE n w ms es = 0 ↔ ROk n w ms ∧ EOk ms.length es := by
  unfold chkE EOk
  rw [← chkR_ok]
  by_cases h1 : chkR n w ms = 0
  · by_cases h2 : 100 < es.length
    · simp [h1, h2]; intro; omega
    · simp only [h1, ne_eq, not_true_eq_false, if_false, h2, true_and]
      cases hk : es.find? (fun x => decide (¬ evErr ms.length x = 0)) with
      | none =>
        rw [List.find?_eq_none] at hk
        simp only [true_iff]
        exact ⟨by omega, fun x hx => evErr_ok.1 (by simpa using hk x hx)⟩
      | some x =>
        have hx := List.find?_some hk
        have hm := List.mem_of_find?_eq_some hk
        simp only [decide_eq_true_eq] at hx
        constructor
        · intro h; exact absurd h hx
        · intro h; exact absurd (evErr_ok.2 (h.2 x hm)) hx
  · simp [h1]
/-- Of which kind an event is, by its parts. -/
theorem kind_cases {m : Nat} {x : Evt} (h : (-1 ≤ x.2.1 ∧ x.2.1 ≤ (m : Int) - 1) ∧ G0.kindE x.1 x.2.1 x.2.2 ≠ 0) : (G0.kindE x.1 x.2.1 x.2.2 = 1 ∧ 1 ≤ x.1 ∧ x.1 ≤ 100000) ∨ (G0.kindE x.1 x.2.1 x.2.2 ≠ 1 ∧ 0 ≤ x.2.1) := by
  obtain ⟨h1, h2⟩ := h
  unfold G0.kindE at *
  split at h2
  · rename_i h3
    exact .inl ⟨by rw [if_pos h3], h3.2.1⟩
  · rename_i h3
    split at h2
    · exact absurd rfl h2
    · rename_i h4
      rw [if_neg h3, if_neg h4]
      refine .inr ⟨by split <;> decide, ?_⟩
      omega
theorem worn_bd {w : Int × Int} {p : Int} (hw : 0 ≤ w.1 ∧ w.1 ≤ w.2 ∧ w.2 ≤ 10000) (hp : 0 ≤ p ∧ p ≤ 100000) : 0 ≤ (G1.wornE w p).1 ∧ (G1.wornE w p).1 ≤ (G1.wornE w p).2 ∧ (G1.wornE w p).2 ≤ 1000000 := by
  have h1 : 0 ≤ w.1 * p := Int.mul_nonneg (by omega) (by omega)
  have h2 : w.1 * p ≤ w.2 * p := Int.mul_le_mul_of_nonneg_right (by omega) (by omega)
  have h3 : w.2 * p ≤ 10000 * p := Int.mul_le_mul_of_nonneg_right (by omega) (by omega)
  unfold G1.wornE
  rw [Int.tdiv_eq_ediv_of_nonneg h1, Int.tdiv_eq_ediv_of_nonneg (by omega)]
  simp only
  omega
theorem add_ok {w : Int × Int} {s : Rul × Int} {x : Evt} {m : Nat} (hw : 0 ≤ w.1 ∧ w.1 ≤ w.2 ∧ w.2 ≤ 10000) (hx : (-1 ≤ x.2.1 ∧ x.2.1 ≤ (m : Int) - 1) ∧ G0.kindE x.1 x.2.1 x.2.2 ≠ 0) (hs : (m : Int) + 1 ≤ s.2) (hT : TOk (s.2 + 1).toNat 10000000 s.1) : (m : Int) + 1 ≤ (G1.addE w s x).2 ∧ TOk ((G1.addE w s x).2 + 1).toNat 10000000 (G1.addE w s x).1 := by
  unfold G1.addE
  rcases kind_cases hx with ⟨h1, h2⟩ | ⟨h1, h2⟩
  · rw [if_pos h1]
    have := worn_bd hw (p := x.1) (by omega)
    refine ⟨by simp only; omega, (hT.mono (by omega)).app fun y hy => ?_⟩
    simp only [List.mem_cons, List.not_mem_nil, or_false] at hy
    rcases hy with rfl | rfl <;> simp only <;> omega
  · rw [if_neg h1]
    split
    · refine ⟨hs, hT.app fun y hy => ?_⟩
      simp only [List.mem_cons, List.not_mem_nil, or_false] at hy
      subst hy
      simp only; omega
    · refine ⟨hs, hT.app fun y hy => ?_⟩
      simp only [List.mem_cons, List.not_mem_nil, or_false] at hy
      subst hy
      simp only; omega
theorem fold_ok {w : Int × Int} {m : Nat} (hw : 0 ≤ w.1 ∧ w.1 ≤ w.2 ∧ w.2 ≤ 10000) : ∀ (es : List Evt) (s : Rul × Int), (∀ x ∈ es, (-1 ≤ x.2.1 ∧ x.2.1 ≤ (m : Int) - 1) ∧ G0.kindE x.1 x.2.1 x.2.2 ≠ 0) → (m : Int) + 1 ≤ s.2 → TOk (s.2 + 1).toNat 10000000 s.1 → TOk ((es.foldl (G1.addE w) s).2 + 1).toNat 10000000 (es.foldl (G1.addE w) s).1
  | [], _, _, _, h => h
  | x :: es, s, hx, hs, hT => by
    obtain ⟨h1, h2⟩ := add_ok hw (hx x List.mem_cons_self) hs hT
    exact fold_ok hw es _ (fun y hy => hx y (List.mem_cons_of_mem _ hy)) h1 h2
theorem tn_bd {ring : Bool} {s : Int × Int} (h : 0 ≤ s.1 ∧ s.1 ≤ s.2 ∧ s.2 ≤ 10000000) : (-10000000 ≤ (G1.tn ring s).1 ∧ (G1.tn ring s).1 ≤ 10000000) ∧ -10000000 ≤ (G1.tn ring s).2 ∧ (G1.tn ring s).2 ≤ 10000000 := by
  unfold G1.tn
  cases ring <;> simp <;> omega
theorem ms_ok {ring : Bool} {m : Nat} : ∀ {ms : List (Int × Int)} {i : Nat}, (∀ s ∈ ms, 0 ≤ s.1 ∧ s.1 ≤ s.2 ∧ s.2 ≤ 10000000) → i + ms.length ≤ m → TOk (m + 2) 10000000 (G1.msT ring ms i)
  | [], _, _, _ => fun x hx => by cases hx
  | s :: ms, i, h, hi => by
    have h1 := tn_bd (ring := ring) (h s List.mem_cons_self)
    have h2 := ms_ok (ring := ring) (m := m) (ms := ms) (i := i + 1) (fun y hy => h y (List.mem_cons_of_mem _ hy)) (by simp only [List.length_cons] at hi; omega)
    simp only [List.length_cons] at hi
    intro x hx
    simp only [G1.msT, List.mem_cons] at hx
    rcases hx with rfl | rfl | hx
    · simp only; omega
    · simp only; omega
    · exact h2 x hx
theorem new_ok {ring : Bool} {n w : Int × Int} {ms : List (Int × Int)} {es : List Evt} (hr : ROk n w ms) (he : EOk ms.length es) : TOk ((G1.newT ring n w ms es).2 + 1).toNat 10000000 (G1.newT ring n w ms es).1 := by
  refine fold_ok (m := ms.length) hr.w es _ he.2 (Int.le_refl _) ?_
  have h1 := tn_bd (ring := ring) hr.n
  refine ((ms_ok (m := ms.length) hr.m (by omega)).mono (by simp only; omega)).app fun x hx => ?_
  simp only [List.mem_cons, List.not_mem_nil, or_false] at hx
  rcases hx with rfl | rfl <;> simp only <;> omega
theorem spL_map (ms : List (Int × Int)) : spL (eS2 ms) = some ms := by
  induction ms with
  | nil => rfl
  | cons s ms ih => simp only [eS2, List.map_cons] at ih ⊢; unfold spL; rw [ih]
theorem evL_map (es : List Evt) : evL (eV es) = some es := by
  induction es with
  | nil => rfl
  | cons s ms ih => simp only [eV, List.map_cons] at ih ⊢; unfold evL; rw [ih]
theorem p32 {ring : Bool} {n w : Int × Int} {ms : List (Int × Int)} {es : List Evt} (hr : ROk n w ms) (he : EOk ms.length es) : R 32 [eR ring n w ms, S 3 (eV es)] = some (.gref (rvG ring n.1 n.2 w.1 w.2 (eS2 ms) (G1.newT ring n w ms es).1 (G1.newT ring n w ms es).2)) := by
  refine (run2_told (F := F2) (C := C2) (f := 32) (g := nrG) rfl).trans ?_
  show (match spL (eS2 ms), evL (eV es) with
    | some ms, some es => if GOkP (n.1, n.2) (w.1, w.2) ms es then some (nrV ring (n.1, n.2) (w.1, w.2) ms es) else none
    | _, _ => none) = _
  rw [spL_map, evL_map]
  simp only
  have h1 := hr.n
  have h2 := hr.w
  have h3 := hr.ml
  rw [if_pos]
  · rfl
  · refine ⟨?_, ?_, by omega, by have := he.1; omega, fun s hs => ?_, fun x hx => ?_⟩
    · unfold G1.small; simp only; omega
    · unfold G1.small; simp only; omega
    · have := hr.m s hs
      unfold G1.small; omega
    · have := he.2 x hx
      refine ⟨this.2, ?_⟩
      unfold G1.small; omega
/-- The size of a gauge, or the error. -/
def sizeE (ring : Bool) (n w : Int × Int) (ms : List (Int × Int)) (es : List Evt) : (Int × Int) × Int :=
  if chkE n w ms es = 0 then spanE ring (G1.newT ring n w ms es).1 ((G1.newT ring n w ms es).2 + 1).toNat (G1.newT ring n w ms es).2.toNat else ((0, 0), chkE n w ms es)
theorem p13 (ring : Bool) (n w : Int × Int) {ms : List (Int × Int)} {es : List Evt} (hm : ms.length ≤ 1000000) (hl : es.length ≤ 1000000) : R 13 [eR ring n w ms, S 3 (eV es)] = some (.tup [eS (sizeE ring n w ms es).1, I (sizeE ring n w ms es).2]) := by
  have e1 := p31 ring n w hm hl
  unfold sizeE
  by_cases hc : chkE n w ms es = 0
  · rw [hc] at e1
    obtain ⟨hr, he⟩ := chkE_ok.1 hc
    have e2 := p32 (ring := ring) hr he
    have hT := new_ok (ring := ring) hr he
    have hb := G1.newT_bd (ring := ring) (n := n) (w := w) (ms := ms) (es := es)
    have h10 := hr.ml
    have h100 := he.1
    rw [if_pos hc]
    generalize G1.newT ring n w ms es = q at *
    have e3 := p33 (ring := ring) (a := n.1) (b := n.2) (c := w.1) (d := w.2) (me := eS2 ms) (T := q.1) (now := q.2) (n := (q.2 + 1).toNat) (k := q.2.toNat) (M := 10000000) (by omega) hT (by omega) (by omega) (by omega) (by intro h; rw [h] at hb; simp at hb)
      (by
        have h1 : ((q.2 + 1).toNat + 1) * q.1.length ≤ 200 * 300 := Nat.mul_le_mul (by omega) (by omega)
        omega) (by omega)
    rw [show ((q.2.toNat : Nat) : Int) = q.2 by omega] at e3
    generalize spanE ring q.1 (q.2 + 1).toNat q.2.toNat = z at *
    refine run2_body 1 rfl rfl rfl rfl rfl ?_
    simp (maxSteps := 2000000) (disch := first | omega | (simp; done) | (simp; omega)) [-getElem?_pos, l13, e1, e2, e3]
  · rw [if_neg hc]
    generalize chkE n w ms es = c at *
    refine run2_body 1 rfl rfl rfl rfl rfl ?_
    simp (maxSteps := 2000000) (disch := first | omega | (simp; done) | (simp; omega)) [-getElem?_pos, l13, e1, hc]
end Go.Lo

/- A gauge and its limit. -/
namespace Go.Lo
open Go.Proofs
set_option linter.unusedSimpArgs false
set_option maxHeartbeats 8000000
set_option maxRecDepth 20000
theorem p51 {w : Int × Int} {p : Int} (hw : 0 ≤ w.1 ∧ w.1 ≤ w.2 ∧ w.2 ≤ 10000) (hp : 0 ≤ p ∧ p ≤ 100000) : R 51 [eS w, I p] = some (eS (G1.wornE w p)) := by
  have h1 : 0 ≤ w.1 * p := Int.mul_nonneg (by omega) (by omega)
  have h2 : w.1 * p ≤ w.2 * p := Int.mul_le_mul_of_nonneg_right (by omega) (by omega)
  have h3 : w.2 * p ≤ 10000 * p := Int.mul_le_mul_of_nonneg_right (by omega) (by omega)
  have h4 := worn_bd hw hp
  have e1 : IntKind.i64.wrap (w.1 * p) = w.1 * p := G1.wr1 (by omega)
  have e2 : IntKind.i64.wrap (w.2 * p) = w.2 * p := G1.wr1 (by omega)
  have e3 : IntKind.i64.wrap (w.2 * p + 1000) = w.2 * p + 1000 := G1.wr1 (by omega)
  have e4 : IntKind.i64.wrap (w.2 * p + 1000 - 1) = w.2 * p + 1000 - 1 := G1.wr1 (by omega)
  have e5 : IntKind.i64.wrap (G1.wornE w p).1 = (G1.wornE w p).1 := G1.wr1 (by omega)
  have e6 : IntKind.i64.wrap (G1.wornE w p).2 = (G1.wornE w p).2 := G1.wr1 (by omega)
  unfold G1.wornE at *
  simp only at e5 e6
  clear h1 h2 h3 h4 hw hp
  generalize hx : w.1 * p = x at *
  generalize hy : w.2 * p = y at *
  refine run2_body 1 rfl rfl rfl rfl rfl ?_
  simp (maxSteps := 2000000) (disch := first | omega | (simp; done) | (simp; omega)) [-getElem?_pos, l51, hx, hy, e1, e2, e3, e4, e5, e6]
/-- A gauge: its sizes, its wear, its limit; or the error. -/
def ngV (ring : Bool) (n w : Int × Int) (ms : List (Int × Int)) (es : List Evt) (limit : Int) : V :=
  if chkE n w ms es ≠ 0 then .tup [.agg [I 0, I 0, I 0, I 0, I 0, B false], I (chkE n w ms es)]
  else if 0 ≤ limit ∧ limit ≤ 10000000 then .tup [.agg [I (sizeE ring n w ms es).1.1, I (sizeE ring n w ms es).1.2, I w.1, I w.2, I limit, B ring], I (sizeE ring n w ms es).2]
  else .tup [.agg [I 0, I 0, I 0, I 0, I 0, B false], I 3]
theorem p29 (ring : Bool) (n w : Int × Int) {ms : List (Int × Int)} {es : List Evt} (limit : Int) (hm : ms.length ≤ 1000000) (hl : es.length ≤ 1000000) : R 29 [eR ring n w ms, S 3 (eV es), I limit] = some (ngV ring n w ms es limit) := by
  have e1 := p31 ring n w hm hl
  have e2 := gW_1 0 10000000 limit
  have e3 := p13 ring n w hm hl
  unfold ngV
  generalize chkE n w ms es = c at *
  generalize sizeE ring n w ms es = s at *
  refine run2_body 1 rfl rfl rfl rfl rfl ?_
  by_cases hc : c = 0
  · subst hc
    by_cases hk : 0 ≤ limit ∧ limit ≤ 10000000
    · rw [decide_eq_true hk] at e2
      simp (maxSteps := 2000000) (disch := first | omega | (simp; done) | (simp; omega)) [-getElem?_pos, l29, e1, e2, e3, hk]
    · rw [decide_eq_false hk] at e2
      simp (maxSteps := 2000000) (disch := first | omega | (simp; done) | (simp; omega)) [-getElem?_pos, l29, e1, e2, e3, hk]
  · simp (maxSteps := 2000000) (disch := first | omega | (simp; done) | (simp; omega)) [-getElem?_pos, l29, e1, e2, e3, hc]
/-- How far each end is from the limit. -/
def roomE (ring : Bool) (s : Int × Int) (limit : Int) : Int × Int := if ring = true then (limit - s.2, limit - s.1) else (s.1 - limit, s.2 - limit)
def bd12 (x : Int) : Prop := -2000000000000 ≤ x ∧ x ≤ 2000000000000
theorem p30 {ring : Bool} {s w : Int × Int} {limit : Int} (h1 : bd12 s.1) (h2 : bd12 s.2) (h3 : bd12 limit) : R 30 [.agg [I s.1, I s.2, I w.1, I w.2, I limit, B ring]] = some (.tup [I (roomE ring s limit).1, I (roomE ring s limit).2]) := by
  unfold bd12 at *
  have e1 : IntKind.i64.wrap (limit - s.1) = limit - s.1 := G1.wr1 (by omega)
  have e2 : IntKind.i64.wrap (limit - s.2) = limit - s.2 := G1.wr1 (by omega)
  have e3 : IntKind.i64.wrap (s.1 - limit) = s.1 - limit := G1.wr1 (by omega)
  have e4 : IntKind.i64.wrap (s.2 - limit) = s.2 - limit := G1.wr1 (by omega)
  unfold roomE
  clear h1 h2 h3
  refine run2_body 1 rfl rfl rfl rfl rfl ?_
  cases ring <;> simp (maxSteps := 2000000) (disch := first | omega | (simp; done) | (simp; omega)) [-getElem?_pos, l30, e1, e2, e3, e4]
theorem size_bd {ring : Bool} {n w : Int × Int} {ms : List (Int × Int)} {es : List Evt} : bd12 (sizeE ring n w ms es).1.1 ∧ bd12 (sizeE ring n w ms es).1.2 := by
  unfold sizeE
  by_cases hc : chkE n w ms es = 0
  · rw [if_pos hc]
    obtain ⟨hr, he⟩ := chkE_ok.1 hc
    have hT := new_ok (ring := ring) hr he
    have hb := G1.newT_bd (ring := ring) (n := n) (w := w) (ms := ms) (es := es)
    have h10 := hr.ml
    have h100 := he.1
    generalize G1.newT ring n w ms es = q at *
    have hM : (0 : Int) ≤ 10000000 := by decide
    have b1 := most_bd hM hT ((q.2 + 1).toNat + 1) 0 (l0E (q.2 + 1).toNat) (l0_ok (M := 10000000)).1 (l0_ok (M := 10000000)).2
    have b2 := most_bd hM (opp_ok hT) ((q.2 + 1).toNat + 1) 0 (l0E (q.2 + 1).toNat) (l0_ok (M := 10000000)).1 (l0_ok (M := 10000000)).2
    rw [show (oppE q.1).length = q.1.length by simp [oppE]] at b2
    have h1 : ((q.2 + 1).toNat + 1) * q.1.length ≤ 200 * 222 := Nat.mul_le_mul (by omega) (by omega)
    unfold spanE
    split
    · have c1 := bd_get b1.2 (i := q.2.toNat) (by omega)
      have c2 := bd_get b2.2 (i := q.2.toNat) (by omega)
      generalize (mostE q.1 ((q.2 + 1).toNat + 1) (l0E (q.2 + 1).toNat)).1.getD q.2.toNat 0 = x at *
      generalize (mostE (oppE q.1) ((q.2 + 1).toNat + 1) (l0E (q.2 + 1).toNat)).1.getD q.2.toNat 0 = y at *
      generalize ((q.2 + 1).toNat + 1) * q.1.length = z at *
      unfold bd12 G1.tn
      cases ring <;> simp <;> omega
    · unfold bd12; simp
  · rw [if_neg hc]; unfold bd12; simp
/-- Whether a gauge is beyond its limit. -/
def bynE (ring : Bool) (n w : Int × Int) (ms : List (Int × Int)) (es : List Evt) (limit : Int) : Bool × Bool × Int :=
  if chkE n w ms es ≠ 0 then (false, false, chkE n w ms es) else if 0 ≤ limit ∧ limit ≤ 10000000 then
    (if (sizeE ring n w ms es).2 ≠ 0 then (false, false, (sizeE ring n w ms es).2) else (decide ((roomE ring (sizeE ring n w ms es).1 limit).2 < 0), decide ((roomE ring (sizeE ring n w ms es).1 limit).1 < 0), 0)) else (false, false, 3)
theorem p11 (ring : Bool) (n w : Int × Int) {ms : List (Int × Int)} {es : List Evt} (limit : Int) (hm : ms.length ≤ 1000000) (hl : es.length ≤ 1000000) : R 11 [eR ring n w ms, S 3 (eV es), I limit] = some (.tup [B (bynE ring n w ms es limit).1, B (bynE ring n w ms es limit).2.1, I (bynE ring n w ms es limit).2.2]) := by
  have e1 := p29 ring n w limit hm hl
  have hs := size_bd (ring := ring) (n := n) (w := w) (ms := ms) (es := es)
  unfold ngV at e1
  unfold bynE
  generalize chkE n w ms es = c at *
  generalize sizeE ring n w ms es = s at *
  by_cases hc : c = 0
  · subst hc
    simp only [ne_eq, not_true_eq_false, if_false] at e1 ⊢
    by_cases hk : 0 ≤ limit ∧ limit ≤ 10000000
    · rw [if_pos hk] at e1 ⊢
      have e2 := p30 (ring := ring) (s := s.1) (w := w) (limit := limit) hs.1 hs.2 (by unfold bd12; omega)
      generalize roomE ring s.1 limit = q at *
      clear hs
      refine run2_body 1 rfl rfl rfl rfl rfl ?_
      by_cases h0 : s.2 = 0 <;> simp (maxSteps := 2000000) (disch := first | omega | (simp; done) | (simp; omega)) [-getElem?_pos, l11, e1, e2, h0]
    · rw [if_neg hk] at e1 ⊢
      refine run2_body 1 rfl rfl rfl rfl rfl ?_
      simp (maxSteps := 2000000) (disch := first | omega | (simp; done) | (simp; omega)) [-getElem?_pos, l11, e1]
  · rw [if_pos hc] at e1 ⊢
    refine run2_body 1 rfl rfl rfl rfl rfl ?_
    simp (maxSteps := 2000000) (disch := first | omega | (simp; done) | (simp; omega)) [-getElem?_pos, l11, e1, hc]
end Go.Lo

/- The limits before plating. -/
namespace Go.Lo
open Go.Proofs
set_option linter.unusedSimpArgs false
set_option maxHeartbeats 8000000
set_option maxRecDepth 20000
theorem p86 (x lo hi : Int) : R 86 [I x, .cref [I lo], .cref [I hi]] = some (B (decide (x < lo) || decide (x > hi))) := by
  refine run2_body 1 rfl rfl rfl rfl rfl ?_
  by_cases h : x < lo <;> simp [l86, h]
theorem p54 (lo hi : Int) {xs : List Int} (hl : xs.length < 4611686018427387904) : R 54 [I lo, I hi, S 1 (eI xs)] = some (B (xs.all fun x => decide (lo ≤ x ∧ x ≤ hi))) := by
  have h := p67 (g := 86) (caps := [.cref [I lo], .cref [I hi]]) (pr := fun x => decide (x < lo) || decide (x > hi)) (E := fun x => [I x]) (W := fun x => I x) (xs := xs) (fun _ => rfl) (fun _ _ => ⟨rfl, fun _ => rfl, fun _ => rfl⟩) (fun x _ => p86 x lo hi) hl
  refine run2_body 1 rfl rfl rfl rfl rfl ?_
  have e : (xs.all fun x => decide (lo ≤ x ∧ x ≤ hi)) = !(xs.any fun x => decide (x < lo) || decide (x > hi)) := by
    rw [List.not_any_eq_all_not]
    congr 1
    funext x
    by_cases h1 : x < lo <;> by_cases h2 : x > hi <;> simp [h1, h2] <;> omega
  rw [e]
  simp [l54, h]

theorem zW_2 (lo hi x y : Int) : R 54 [I lo, I hi, S 1 [[I x], [I y]]] = some (B (decide ((lo ≤ x ∧ x ≤ hi) ∧ (lo ≤ y ∧ y ≤ hi)))) := by
  have := p54 lo hi (xs := [x, y]) (by simp)
  simpa using this
theorem zValid {s : Int × Int} {lo hi : Int} (h : lo ≤ s.1 ∧ s.1 ≤ s.2 ∧ s.2 ≤ hi) : R 53 [eS s, I lo, I hi] = some (B true) := by
  have e1 := zW_2 lo hi s.1 s.2
  rw [decide_eq_true (by omega)] at e1
  have h2 := h.2.1
  clear h
  refine run2_body 1 rfl rfl rfl rfl rfl ?_
  simp (maxSteps := 2000000) (disch := first | omega | (simp; done) | (simp; omega)) [-getElem?_pos, l53, e1, h2]
theorem md1 {n q : Int} (hq : 0 < q) : (n.tmod q + q).tmod q = n % q := by
  have hne : q ≠ 0 := by omega
  have h1 := Int.emod_nonneg n hne
  have h2 := Int.emod_lt_of_pos n hq
  rcases Int.le_total 0 n with h | h
  · rw [Int.tmod_eq_emod_of_nonneg h, Int.tmod_eq_emod_of_nonneg (by omega), Int.add_emod_right, Int.emod_emod]
  · have h3 := Int.emod_nonneg (-n) hne
    have h4 := Int.emod_lt_of_pos (-n) hq
    have h5 : n.tmod q = -((-n) % q) := by
      rw [show n = -(-n) by omega, Int.neg_tmod, Int.tmod_eq_emod_of_nonneg (by omega)]
      simp
    have h6 := Int.mul_ediv_add_emod (-n) q
    rw [h5, Int.tmod_eq_emod_of_nonneg (by omega)]
    have h7 : -((-n) % q) + q = n + q * ((-n) / q + 1) := by rw [Int.mul_add]; omega
    rw [h7, Int.add_mul_emod_self_left]
theorem md2 {n q : Int} (hq : 0 < q) : (n - n % q).tdiv q = n / q := by
  have h6 := Int.mul_ediv_add_emod n q
  rw [show n - n % q = q * (n / q) by omega, Int.mul_tdiv_cancel_left _ (by omega)]
theorem tmod_bd2 {n q : Int} (hq : 0 < q) : -q < n.tmod q ∧ n.tmod q < q := by
  rcases Int.le_total 0 n with h | h
  · have h1 := Int.emod_nonneg n (show q ≠ 0 by omega)
    have h2 := Int.emod_lt_of_pos n hq
    rw [Int.tmod_eq_emod_of_nonneg h]; omega
  · have h1 := Int.emod_nonneg (-n) (show q ≠ 0 by omega)
    have h2 := Int.emod_lt_of_pos (-n) hq
    have h5 : n.tmod q = -((-n) % q) := by
      rw [show n = -(-n) by omega, Int.neg_tmod, Int.tmod_eq_emod_of_nonneg (by omega)]
      simp
    omega
theorem ediv_bd3 {n q : Int} (hq : 1 ≤ q) (hn : -1000000000 ≤ n ∧ n ≤ 1000000000) : -1000000000 ≤ n / q ∧ n / q ≤ 1000000000 := by
  constructor
  · exact (Int.le_ediv_iff_mul_le (by omega)).2 (Int.le_trans (Int.mul_le_mul_of_nonpos_left (show (-1000000000 : Int) ≤ 0 by decide) hq) (by omega))
  · refine Int.ediv_le_of_le_mul (by omega) ?_
    have := Int.mul_le_mul_of_nonneg_left hq (show (0 : Int) ≤ 1000000000 by decide)
    omega
theorem p27 {a b g q l m n : Int} (hq : 1 ≤ q ∧ q ≤ 1000) (hn : -1000000000 ≤ n ∧ n ≤ 1000000000) : R 27 [.agg [I a, I b, I g, I q, I l, I m], I n] = some (I (n / q)) := by
  have t0 := tmod_bd2 (n := n) (q := q) (by omega)
  have h1 := Int.emod_nonneg n (show q ≠ 0 by omega)
  have h2 := Int.emod_lt_of_pos n (show 0 < q by omega)
  have t1 := md1 (n := n) (q := q) (by omega)
  have t2 := md2 (n := n) (q := q) (by omega)
  have hb := ediv_bd3 hq.1 hn
  have w1 : IntKind.i64.wrap (n.tmod q) = n.tmod q := G1.wr1 (by omega)
  have w2 : IntKind.i64.wrap (n.tmod q + q) = n.tmod q + q := G1.wr1 (by omega)
  have w3 : IntKind.i64.wrap (n % q) = n % q := G1.wr1 (by omega)
  have w4 : IntKind.i64.wrap (n - n % q) = n - n % q := G1.wr1 (by omega)
  have w5 : IntKind.i64.wrap (n / q) = n / q := G1.wr1 (by omega)
  have hq0 : ¬ q = 0 := by omega
  clear t0 h1 h2 hb hn hq
  refine run2_body 1 rfl rfl rfl rfl rfl ?_
  generalize hx : n.tmod q = x at *
  generalize hy : n % q = y at *
  generalize hz : n / q = z at *
  simp (maxSteps := 2000000) (disch := first | omega | (simp; done) | (simp; omega)) [-getElem?_pos, l27, hx, t1, t2, w1, w2, w3, w4, w5, hq0]
theorem p26 {a b g q l m n : Int} (hq : 1 ≤ q ∧ q ≤ 1000) (hn : -1000000000 ≤ n ∧ n ≤ 1000000000) : R 26 [.agg [I a, I b, I g, I q, I l, I m], I n] = some (I (-(-n / q))) := by
  have e1 := p27 (a := a) (b := b) (g := g) (l := l) (m := m) (n := -n) hq (by omega)
  have hb := ediv_bd3 (n := -n) hq.1 (by omega)
  have w1 : IntKind.i64.wrap (-n) = -n := G1.wr1 (by omega)
  have w2 : IntKind.i64.wrap (-(-n / q)) = -(-n / q) := G1.wr1 (by omega)
  clear hb hn hq
  generalize -n / q = z at *
  refine run2_body 1 rfl rfl rfl rfl rfl ?_
  simp (maxSteps := 2000000) (disch := first | omega | (simp; done) | (simp; omega)) [-getElem?_pos, l26, e1, w1, w2]
theorem p25 {s c : Int × Int} {g q : Int} (hs : -20000000 ≤ s.1 ∧ s.1 ≤ s.2 ∧ s.2 ≤ 20000000) (hc : 0 ≤ c.1 ∧ c.1 ≤ c.2 ∧ c.2 ≤ 10000) (hg : 1 ≤ g ∧ g ≤ 1000) (hq : 1 ≤ q ∧ q ≤ 1000) :
    R 25 [eS s, B false, .agg [I c.1, I c.2, I g, I q]] = some (.tup [.agg [I c.1, I c.2, I g, I q, I (c.1 * g), I (c.2 * g)], I 0]) := by
  have e1 := zValid hs
  have e2 := zValid hc
  have e3 := zW_2 1 1000 g q
  rw [decide_eq_true (by omega)] at e3
  have b1 : 0 ≤ c.1 * g := Int.mul_nonneg (by omega) (by omega)
  have b2 : c.1 * g ≤ c.2 * g := Int.mul_le_mul_of_nonneg_right (by omega) (by omega)
  have b3 : c.2 * g ≤ 10000 * g := Int.mul_le_mul_of_nonneg_right (by omega) (by omega)
  have w1 : IntKind.i64.wrap (c.1 * g) = c.1 * g := G1.wr1 (by omega)
  have w2 : IntKind.i64.wrap (c.2 * g) = c.2 * g := G1.wr1 (by omega)
  clear b1 b2 b3 hs hc hg hq
  refine run2_body 1 rfl rfl rfl rfl rfl ?_
  simp (maxSteps := 2000000) (disch := first | omega | (simp; done) | (simp; omega)) [-getElem?_pos, l25, e1, e2, e3, w1, w2]
/-- The limits before plating, or that there are none. -/
def bfE (s c : Int × Int) (g q : Int) : (Int × Int) × Int := if s.1 + -(c.1 * g / q) ≤ s.2 + -(c.2 * g) / q then ((s.1 + -(c.1 * g / q), s.2 + -(c.2 * g) / q), 0) else ((0, 0), 9)
theorem p8 {s c : Int × Int} {g q : Int} (hs : -20000000 ≤ s.1 ∧ s.1 ≤ s.2 ∧ s.2 ≤ 20000000) (hc : 0 ≤ c.1 ∧ c.1 ≤ c.2 ∧ c.2 ≤ 10000) (hg : 1 ≤ g ∧ g ≤ 1000) (hq : 1 ≤ q ∧ q ≤ 1000) :
    R 8 [eS s, B false, .agg [I c.1, I c.2, I g, I q]] = some (.tup [eS (bfE s c g q).1, I (bfE s c g q).2]) := by
  have e1 := p25 hs hc hg hq
  have b1 : 0 ≤ c.1 * g := Int.mul_nonneg (by omega) (by omega)
  have b2 : c.1 * g ≤ c.2 * g := Int.mul_le_mul_of_nonneg_right (by omega) (by omega)
  have b3 : c.2 * g ≤ 10000 * g := Int.mul_le_mul_of_nonneg_right (by omega) (by omega)
  have e2 := p26 (a := c.1) (b := c.2) (g := g) (l := c.1 * g) (m := c.2 * g) (n := -(c.1 * g)) hq (by omega)
  have e3 := p27 (a := c.1) (b := c.2) (g := g) (l := c.1 * g) (m := c.2 * g) (n := -(c.2 * g)) hq (by omega)
  rw [Int.neg_neg] at e2
  have d1 := ediv_bd3 (n := c.1 * g) hq.1 (by omega)
  have d2 := ediv_bd3 (n := -(c.2 * g)) hq.1 (by omega)
  have w1 : IntKind.i64.wrap (-(c.1 * g)) = -(c.1 * g) := G1.wr1 (by omega)
  have w2 : IntKind.i64.wrap (-(c.2 * g)) = -(c.2 * g) := G1.wr1 (by omega)
  have w3 : IntKind.i64.wrap (s.1 + -(c.1 * g / q)) = s.1 + -(c.1 * g / q) := G1.wr1 (by omega)
  have w4 : IntKind.i64.wrap (s.2 + -(c.2 * g) / q) = s.2 + -(c.2 * g) / q := G1.wr1 (by omega)
  unfold bfE
  clear b1 b2 b3 d1 d2 hs hc hg hq
  generalize -(c.2 * g) / q = y at *
  generalize c.1 * g / q = x at *
  generalize c.1 * g = u at *
  generalize c.2 * g = v at *
  refine run2_body 1 rfl rfl rfl rfl rfl ?_
  by_cases h : s.1 + -x ≤ s.2 + y
  · have h' : ¬ s.2 + y < s.1 + -x := by omega
    rw [if_pos h]
    simp (maxSteps := 2000000) (disch := first | omega | (simp; done) | (simp; omega)) [-getElem?_pos, l8, e1, e2, e3, w1, w2, w3, w4, h, h']
  · have h' : s.2 + y < s.1 + -x := by omega
    rw [if_neg h]
    simp (maxSteps := 2000000) (disch := first | omega | (simp; done) | (simp; omega)) [-getElem?_pos, l8, e1, e2, e3, w1, w2, w3, w4, h, h']
end Go.Lo

/- The size of a gauge after some pieces. -/
namespace Go.Lo
open Go.Proofs
set_option linter.unusedSimpArgs false
set_option maxHeartbeats 8000000
set_option maxRecDepth 20000
theorem p7 (a b : Int) : R 7 [I a, I b] = some (.agg [I a, I b]) := by
  refine run2_body 1 rfl rfl rfl rfl rfl ?_
  simp (maxSteps := 2000000) (disch := first | omega | (simp; done) | (simp; omega)) [-getElem?_pos, l7]
theorem p12 (a : Int) : R 12 [I a] = some (.agg [I a, I (-1), B false]) := by
  refine run2_body 1 rfl rfl rfl rfl rfl ?_
  simp (maxSteps := 2000000) (disch := first | omega | (simp; done) | (simp; omega)) [-getElem?_pos, l12]
abbrev far : Int := 1099511627776
theorem hit {l : List Int} {c : Bool} {x : Int × Int × Int} (h : l.getD x.2.1.toNat 0 < 1099511627776 ∧ l.getD x.2.1.toNat 0 + x.2.2 < l.getD x.1.toNat 0) : relaxE (l, c) x = (l.set x.1.toNat (l.getD x.2.1.toNat 0 + x.2.2), true) := by
  unfold relaxE; exact if_pos h
theorem miss {l : List Int} {c : Bool} {x : Int × Int × Int} (h : ¬ (l.getD x.2.1.toNat 0 < 1099511627776 ∧ l.getD x.2.1.toNat 0 + x.2.2 < l.getD x.1.toNat 0)) : relaxE (l, c) x = (l, c) := by
  unfold relaxE; exact if_neg h
section
variable {l h a b : Int}
theorem most_one (h1 : -100000000 ≤ l ∧ l ≤ h ∧ h ≤ 100000000) (h2 : 0 ≤ a ∧ a ≤ b ∧ b ≤ 100000000) : mostE [(1, 0, h), (0, 1, -l), (1, 2, b), (2, 1, -a)] 4 (l0E 3) = ([0, h, h + -a], true) := by
  have r1 : rndE [(1, 0, h), (0, 1, -l), (1, 2, b), (2, 1, -a)] [0, 1099511627776, 1099511627776] = ([0, h, h + -a], true) := by
    unfold rndE
    simp only [List.foldl_cons, List.foldl_nil]
    rw [hit (x := (1, 0, h)) (by simp; omega)]
    simp
    rw [miss (x := (0, 1, -l)) (by simp; omega), miss (x := (1, 2, b)) (by simp), hit (x := (2, 1, -a)) (by simp; omega)]
    simp
  have r2 : rndE [(1, 0, h), (0, 1, -l), (1, 2, b), (2, 1, -a)] [0, h, h + -a] = ([0, h, h + -a], false) := by
    unfold rndE
    simp only [List.foldl_cons, List.foldl_nil]
    rw [miss (x := (1, 0, h)) (by simp), miss (x := (0, 1, -l)) (by simp; omega), miss (x := (1, 2, b)) (by simp; omega), miss (x := (2, 1, -a)) (by simp)]
  rw [show l0E 3 = [0, 1099511627776, 1099511627776] from rfl]
  unfold mostE
  rw [r1]
  simp only [if_true]
  unfold mostE
  rw [r2]
  simp
theorem most_opp (h1 : -100000000 ≤ l ∧ l ≤ h ∧ h ≤ 100000000) (h2 : 0 ≤ a ∧ a ≤ b ∧ b ≤ 100000000) : mostE [(0, 1, h), (1, 0, -l), (2, 1, b), (1, 2, -a)] 4 (l0E 3) = ([0, -l, -l + b], true) := by
  have r1 : rndE [(0, 1, h), (1, 0, -l), (2, 1, b), (1, 2, -a)] [0, 1099511627776, 1099511627776] = ([0, -l, -l + b], true) := by
    unfold rndE
    simp only [List.foldl_cons, List.foldl_nil]
    rw [miss (x := (0, 1, h)) (by simp), hit (x := (1, 0, -l)) (by simp; omega)]
    simp
    rw [hit (x := (2, 1, b)) (by simp; omega)]
    simp
    rw [miss (x := (1, 2, -a)) (by simp; omega)]
  have r2 : rndE [(0, 1, h), (1, 0, -l), (2, 1, b), (1, 2, -a)] [0, -l, -l + b] = ([0, -l, -l + b], false) := by
    unfold rndE
    simp only [List.foldl_cons, List.foldl_nil]
    rw [miss (x := (0, 1, h)) (by simp; omega), miss (x := (1, 0, -l)) (by simp), miss (x := (2, 1, b)) (by simp), miss (x := (1, 2, -a)) (by simp; omega)]
  rw [show l0E 3 = [0, 1099511627776, 1099511627776] from rfl]
  unfold mostE
  rw [r1]
  simp only [if_true]
  unfold mostE
  rw [r2]
  simp
end
/-- The size of a gauge after some pieces. -/
theorem size_one {ring : Bool} {n w : Int × Int} {p : Int} (hr : ROk n w []) (hp : 1 ≤ p ∧ p ≤ 100000) :
    chkE n w [] [(p, -1, false)] = 0 ∧ sizeE ring n w [] [(p, -1, false)] = ((if ring = true then (n.1 + (G1.wornE w p).1, n.2 + (G1.wornE w p).2) else (n.1 - (G1.wornE w p).2, n.2 - (G1.wornE w p).1)), 0) := by
  have hk : G0.kindE p (-1) false = 1 := by unfold G0.kindE; rw [if_pos ⟨rfl, hp, rfl⟩]
  have hc : chkE n w [] [(p, -1, false)] = 0 := chkE_ok.2 ⟨hr, by simp, fun x hx => by
    rw [List.mem_singleton] at hx
    subst hx
    exact ⟨by simp, by rw [hk]; decide⟩⟩
  have hwb := worn_bd hr.w (p := p) (by omega)
  have hn := hr.n
  refine ⟨hc, ?_⟩
  unfold sizeE
  rw [if_pos hc]
  have hT : G1.newT ring n w [] [(p, -1, false)] = ([(1, 0, (G1.tn ring n).2), (0, 1, -(G1.tn ring n).1), (1, 2, (G1.wornE w p).2), (2, 1, -(G1.wornE w p).1)], 2) := by
    simp [G1.newT, G1.msT, G1.addE, hk]
  rw [hT]
  generalize G1.wornE w p = x at *
  have ht : -100000000 ≤ (G1.tn ring n).1 ∧ (G1.tn ring n).1 ≤ (G1.tn ring n).2 ∧ (G1.tn ring n).2 ≤ 100000000 := by
    unfold G1.tn; cases ring <;> simp <;> omega
  have m1 := most_one (a := x.1) (b := x.2) ht (by omega)
  have m2 := most_opp (a := x.1) (b := x.2) ht (by omega)
  unfold spanE
  simp only [oppE, List.map_cons, List.map_nil]
  rw [show (2 + 1 : Int).toNat + 1 = 4 from rfl, show (2 + 1 : Int).toNat = 3 from rfl, m1, m2]
  unfold G1.tn
  cases ring <;> simp <;> omega
end Go.Lo

/- Forms of threads, how far a taper goes. -/
namespace Go.Lo
open Go.Proofs
set_option linter.unusedSimpArgs false
set_option maxHeartbeats 8000000
set_option maxRecDepth 20000
theorem p75 (x lo hi : Int) : R 75 [I x, .cref [I lo], .cref [I hi]] = some (B (decide (x < lo) || decide (x > hi))) := by
  refine run2_body 1 rfl rfl rfl rfl rfl ?_
  by_cases h : x < lo <;> simp [l75, h]
theorem p42 (lo hi : Int) {xs : List Int} (hl : xs.length < 4611686018427387904) : R 42 [I lo, I hi, S 1 (eI xs)] = some (B (xs.all fun x => decide (lo ≤ x ∧ x ≤ hi))) := by
  have h := p67 (g := 75) (caps := [.cref [I lo], .cref [I hi]]) (pr := fun x => decide (x < lo) || decide (x > hi)) (E := fun x => [I x]) (W := fun x => I x) (xs := xs) (fun _ => rfl) (fun _ _ => ⟨rfl, fun _ => rfl, fun _ => rfl⟩) (fun x _ => p75 x lo hi) hl
  refine run2_body 1 rfl rfl rfl rfl rfl ?_
  have e : (xs.all fun x => decide (lo ≤ x ∧ x ≤ hi)) = !(xs.any fun x => decide (x < lo) || decide (x > hi)) := by
    rw [List.not_any_eq_all_not]
    congr 1
    funext x
    by_cases h1 : x < lo <;> by_cases h2 : x > hi <;> simp [h1, h2] <;> omega
  rw [e]
  simp [l42, h]

theorem abs_mul {a b A C : Int} (h1 : -A ≤ a ∧ a ≤ A) (h2 : -C ≤ b ∧ b ≤ C) : -(A * C) ≤ a * b ∧ a * b ≤ A * C := by
  have hA : 0 ≤ A := by omega
  have hC : 0 ≤ C := by omega
  have key : ∀ {x y : Int}, 0 ≤ x → x ≤ A → -C ≤ y → y ≤ C → -(A * C) ≤ x * y ∧ x * y ≤ A * C := fun {x y} p1 p2 p3 p4 => by
    have e1 := Int.mul_le_mul_of_nonneg_left p4 p1
    have e2 := Int.mul_le_mul_of_nonneg_right p2 hC
    have e3 := Int.mul_le_mul_of_nonneg_left p3 p1
    have e4 : x * -C = -(x * C) := Int.mul_neg x C
    omega
  by_cases h : 0 ≤ a
  · exact key h h1.2 h2.1 h2.2
  · have := key (x := -a) (y := b) (by omega) (by omega) h2.1 h2.2
    rw [Int.neg_mul] at this
    omega
structure Frm where
  pitch : Int
  left : Int
  right : Int
  above : Int
  below : Int
  starts : Int
  hand : Bool
  taper : Int
abbrev eF (f : Frm) : List V := [I f.pitch, I f.left, I f.right, I f.above, I f.below, I f.starts, B f.hand, I f.taper]
abbrev eX (f : Frm) (d : Int × Int) : List V := eF f ++ [I d.1, I d.2]
theorem t42_1 (lo hi x : Int) : R 42 [I lo, I hi, S 1 [[I x]]] = some (B (decide (lo ≤ x ∧ x ≤ hi))) := by
  have := p42 lo hi (xs := [x]) (by simp)
  simpa using this
theorem t42_2 (lo hi x y : Int) : R 42 [I lo, I hi, S 1 [[I x], [I y]]] = some (B (decide ((lo ≤ x ∧ x ≤ hi) ∧ (lo ≤ y ∧ y ≤ hi)))) := by
  have := p42 lo hi (xs := [x, y]) (by simp)
  simpa using this
def wid (f : Frm) (y : Int) : Int := 1000 * f.pitch - 2 * y * (f.left + f.right)
/-- Numbers that make no sum too great. -/
structure FNum (f : Frm) : Prop where
  pitch : 100 ≤ f.pitch ∧ f.pitch ≤ 200000
  left : 0 ≤ f.left ∧ f.left ≤ 3000
  right : 0 ≤ f.right ∧ f.right ≤ 3000
  above : 0 ≤ f.above ∧ f.above ≤ 200000
  below : 0 ≤ f.below ∧ f.below ≤ 200000
def frmN (f : Frm) : Bool := decide ((((((100 ≤ f.pitch ∧ f.pitch ≤ 200000) ∧ ((0 ≤ f.left ∧ f.left ≤ 3000) ∧ (0 ≤ f.right ∧ f.right ≤ 3000))) ∧ ((0 ≤ f.above ∧ f.above ≤ 200000) ∧ (0 ≤ f.below ∧ f.below ≤ 200000))) ∧ f.above + f.below ≥ 1) ∧ (1 ≤ f.starts ∧ f.starts ≤ 8)) ∧ (0 ≤ f.taper ∧ f.taper ≤ 100))
/-- Is it a form? -/
def frmB (f : Frm) : Bool := frmN f && decide (0 ≤ wid f f.above ∧ 0 ≤ wid f f.below)
theorem frmN_num {f : Frm} (h : frmN f = true) : FNum f := by
  unfold frmN at h
  rw [decide_eq_true_eq] at h
  exact ⟨h.1.1.1.1.1, h.1.1.1.1.2.1, h.1.1.1.1.2.2, h.1.1.1.2.1, h.1.1.1.2.2⟩
theorem p66 {f : Frm} (h : FNum f) {y : Int} (hy : -200000 ≤ y ∧ y ≤ 200000) : R 66 [.agg (eF f), I y] = some (I (wid f y)) := by
  have h1 := h.pitch
  have h2 := h.left
  have h3 := h.right
  have m := abs_mul (a := 2 * y) (b := f.left + f.right) (A := 400000) (C := 6000) (by omega) (by omega)
  have e1 : R 81 [.agg (eF f)] = some (I (f.left + f.right)) := by
    refine run2_body 1 rfl rfl rfl rfl rfl ?_
    simp (maxSteps := 2000000) (disch := first | omega | (simp; done) | (simp; omega)) [-getElem?_pos, l81, eF, wrap64]
  unfold wid
  have w1 := wrap64 (n := 2 * y * (f.left + f.right)) (by omega) (by omega)
  have w2 := wrap64 (n := f.left + f.right) (by omega) (by omega)
  generalize hz : 2 * y * (f.left + f.right) = z at *
  refine run2_body 1 rfl rfl rfl rfl rfl ?_
  simp only [eF] at e1
  simp (maxSteps := 2000000) (disch := first | omega | (simp; done) | (simp; omega)) [-getElem?_pos, l66, eF, e1, hz, w1, w2, wrap64]
theorem p35 (f : Frm) : R 35 [.agg (eF f)] = some (I (if frmB f = true then 0 else 2)) := by
  have e1 := t42_1 100 200000 f.pitch
  have e2 := t42_2 0 3000 f.left f.right
  have e3 := t42_2 0 200000 f.above f.below
  have e4 := t42_1 1 8 f.starts
  have e5 := t42_1 0 100 f.taper
  unfold frmB
  by_cases c1 : 100 ≤ f.pitch ∧ f.pitch ≤ 200000
  · by_cases c2 : (0 ≤ f.left ∧ f.left ≤ 3000) ∧ (0 ≤ f.right ∧ f.right ≤ 3000)
    · by_cases c3 : (0 ≤ f.above ∧ f.above ≤ 200000) ∧ (0 ≤ f.below ∧ f.below ≤ 200000)
      · by_cases c4 : f.above + f.below ≥ 1
        · by_cases c5 : 1 ≤ f.starts ∧ f.starts ≤ 8
          · by_cases c6 : 0 ≤ f.taper ∧ f.taper ≤ 100
            · have hn : FNum f := ⟨c1, c2.1, c2.2, c3.1, c3.2⟩
              have w1 := p66 hn (y := f.above) (by omega)
              have w2 := p66 hn (y := f.below) (by omega)
              have hN : frmN f = true := by unfold frmN; rw [decide_eq_true_eq]; exact ⟨⟨⟨⟨⟨c1, c2⟩, c3⟩, c4⟩, c5⟩, c6⟩
              rw [hN]
              generalize wid f f.above = z1 at *
              generalize wid f f.below = z2 at *
              simp only [c1, c2, c3, c5, c6, and_self, decide_true] at e1 e2 e3 e4 e5
              simp only [eF] at w1 w2
              refine run2_body 1 rfl rfl rfl rfl rfl ?_
              by_cases k1 : z1 < 0
              · have k1' : ¬ 0 ≤ z1 := by omega
                simp (maxSteps := 2000000) (disch := first | omega | (simp; done) | (simp; omega)) [-getElem?_pos, l35, eF, e1, e2, e3, e4, e5, w1, w2, c4, k1, k1', wrap64]
              · have k1' : 0 ≤ z1 := by omega
                by_cases k2 : z2 < 0
                · have k2' : ¬ 0 ≤ z2 := by omega
                  simp (maxSteps := 2000000) (disch := first | omega | (simp; done) | (simp; omega)) [-getElem?_pos, l35, eF, e1, e2, e3, e4, e5, w1, w2, c4, k1, k1', k2, k2', wrap64]
                · have k2' : 0 ≤ z2 := by omega
                  simp (maxSteps := 2000000) (disch := first | omega | (simp; done) | (simp; omega)) [-getElem?_pos, l35, eF, e1, e2, e3, e4, e5, w1, w2, c4, k1, k1', k2, k2', wrap64]
            · have hN : frmN f = false := by unfold frmN; rw [decide_eq_false_iff_not]; exact fun h => c6 h.2
              rw [hN]
              simp only [c1, c2, c3, c5, c6, and_self, decide_true, decide_false] at e1 e2 e3 e4 e5
              refine run2_body 1 rfl rfl rfl rfl rfl ?_
              simp (maxSteps := 2000000) (disch := first | omega | (simp; done) | (simp; omega)) [-getElem?_pos, l35, eF, e1, e2, e3, e4, e5, c4, wrap64]
          · have hN : frmN f = false := by unfold frmN; rw [decide_eq_false_iff_not]; exact fun h => c5 h.1.2
            rw [hN]
            simp only [c1, c2, c3, c5, and_self, decide_true, decide_false] at e1 e2 e3 e4
            refine run2_body 1 rfl rfl rfl rfl rfl ?_
            simp (maxSteps := 2000000) (disch := first | omega | (simp; done) | (simp; omega)) [-getElem?_pos, l35, eF, e1, e2, e3, e4, c4, wrap64]
        · have hN : frmN f = false := by unfold frmN; rw [decide_eq_false_iff_not]; exact fun h => c4 h.1.1.2
          rw [hN]
          simp only [c1, c2, c3, and_self, decide_true] at e1 e2 e3
          refine run2_body 1 rfl rfl rfl rfl rfl ?_
          simp (maxSteps := 2000000) (disch := first | omega | (simp; done) | (simp; omega)) [-getElem?_pos, l35, eF, e1, e2, e3, c4, wrap64]
      · have hN : frmN f = false := by unfold frmN; rw [decide_eq_false_iff_not]; exact fun h => c3 h.1.1.1.2
        rw [hN]
        simp only [c1, c2, c3, and_self, decide_true, decide_false] at e1 e2 e3
        refine run2_body 1 rfl rfl rfl rfl rfl ?_
        simp (maxSteps := 2000000) (disch := first | omega | (simp; done) | (simp; omega)) [-getElem?_pos, l35, eF, e1, e2, e3, wrap64]
    · have hN : frmN f = false := by unfold frmN; rw [decide_eq_false_iff_not]; exact fun h => c2 h.1.1.1.1.2
      rw [hN]
      simp only [c1, c2, and_self, decide_true, decide_false] at e1 e2
      refine run2_body 1 rfl rfl rfl rfl rfl ?_
      simp (maxSteps := 2000000) (disch := first | omega | (simp; done) | (simp; omega)) [-getElem?_pos, l35, eF, e1, e2, wrap64]
  · have hN : frmN f = false := by unfold frmN; rw [decide_eq_false_iff_not]; exact fun h => c1 h.1.1.1.1.1
    rw [hN]
    simp only [c1, decide_false] at e1
    refine run2_body 1 rfl rfl rfl rfl rfl ?_
    simp (maxSteps := 2000000) (disch := first | omega | (simp; done) | (simp; omega)) [-getElem?_pos, l35, eF, e1, wrap64]
theorem tmodB {v k : Int} (h0 : 0 ≤ v) (hk : 0 < k) : 0 ≤ v.tmod k ∧ v.tmod k < k := by
  rw [Int.tmod_eq_emod_of_nonneg h0]
  exact ⟨Int.emod_nonneg _ (by omega), Int.emod_lt_of_pos _ hk⟩
theorem g_step {N a b : Nat} (ha : a ≤ 1000000000000) (hb : b ≤ 1000000000000) (h : b ≠ 0) : evC2 R N b76_0 { fr := [(0, I a), (1, I b)], tk := [] } = some (.normal, { fr := [(0, I b), (1, I ((a % b : Nat) : Int))], tk := [] }) := by
  have e1 : (a : Int).tmod b = ((a % b : Nat) : Int) := by rw [Int.tmod_eq_emod_of_nonneg (by omega)]; exact (Int.natCast_emod a b).symm
  have hlt : a % b < b := Nat.mod_lt _ (by omega)
  have w1 : IntKind.i64.wrap ((a % b : Nat) : Int) = ((a % b : Nat) : Int) := G1.wr1 (by omega)
  have h' : ¬ (b : Int) = 0 := by omega
  generalize ((a % b : Nat) : Int) = r at *
  clear ha hb hlt
  simp (maxSteps := 2000000) (disch := first | omega | (simp; done) | (simp; omega)) [-getElem?_pos, b76_0, e1, w1, h, h']
theorem g_loop {N : Nat} : ∀ (m a b : Nat), b ≤ m → a ≤ 1000000000000 → b ≤ 1000000000000 → iter (evC2 R N b76_0) (m + 1) { fr := [(0, I a), (1, I b)], tk := [] } = some (.exit 0, { fr := [(0, I (Nat.gcd b a)), (1, I 0), (6, B false)], tk := [] }) := by
  intro m
  induction m with
  | zero =>
    intro a b hb _ _
    obtain rfl : b = 0 := by omega
    rw [iter_succ, Nat.gcd_zero_left]
    simp (maxSteps := 2000000) (disch := first | omega | (simp; done) | (simp; omega)) [-getElem?_pos, b76_0]
  | succ m ih =>
    intro a b hm ha hb
    by_cases h : b = 0
    · subst h
      rw [iter_succ, Nat.gcd_zero_left]
      simp (maxSteps := 2000000) (disch := first | omega | (simp; done) | (simp; omega)) [-getElem?_pos, b76_0]
    · have hlt : a % b < b := Nat.mod_lt _ (by omega)
      rw [iter_succ, g_step ha hb h]
      simp only
      rw [ih b (a % b) (by omega) hb (by omega), Nat.gcd_rec b a]
theorem p76 {a b : Nat} (ha : a ≤ 1000000000000) (hb : b ≤ 1000000000000) : R 76 [I a, I b] = some (I (Nat.gcd b a)) := by
  have L := g_loop (N := b + 1) b a b (Nat.le_refl _) ha hb
  have hg : Nat.gcd b a ≤ 1000000000000 := by
    by_cases h : b = 0
    · subst h; rw [Nat.gcd_zero_left]; exact ha
    · exact Nat.le_trans (Nat.gcd_le_left a (by omega)) hb
  generalize Nat.gcd b a = g at *
  have w1 : IntKind.i64.wrap (-(g : Int)) = -(g : Int) := G1.wr1 (by omega)
  have hm : ¬ (g : Int) < -(g : Int) := by omega
  generalize hF : evC2 R (b + 1) b76_0 = F at *
  clear ha hb hg
  refine run2_body (b + 1) rfl rfl rfl rfl rfl ?_
  simp (maxSteps := 2000000) (disch := first | omega | (simp; done) | (simp; omega)) [-getElem?_pos, l76, hF, L, w1, hm]
theorem p43 {a b : Nat} (ha : a ≤ 1000000000000) (hb : 1 ≤ b ∧ b ≤ 1000000000000) : ∃ x y g : Int, R 43 [I a, I b] = some (.agg [I x, I y]) ∧ 1 ≤ g ∧ x * g = a ∧ y * g = b ∧ 0 ≤ x ∧ 1 ≤ y ∧ x ≤ a ∧ y ≤ b := by
  have e1 := p76 ha hb.2
  obtain ⟨y, hy⟩ := Nat.gcd_dvd_left b a
  obtain ⟨x, hx⟩ := Nat.gcd_dvd_right b a
  have hg : 1 ≤ Nat.gcd b a := Nat.gcd_pos_of_pos_left _ (by omega)
  generalize Nat.gcd b a = g at *
  have hy1 : 1 ≤ y := by
    rcases Nat.eq_zero_or_pos y with h | h
    · rw [h] at hy; omega
    · exact h
  have d1 : (a : Int).tdiv g = x := by rw [hx, Int.natCast_mul]; exact Int.mul_tdiv_cancel_left _ (by omega)
  have d2 : (b : Int).tdiv g = y := by rw [hy, Int.natCast_mul]; exact Int.mul_tdiv_cancel_left _ (by omega)
  have hxa : x ≤ a := by rw [hx]; exact Nat.le_mul_of_pos_left _ (by omega)
  have hyb : y ≤ b := by rw [hy]; exact Nat.le_mul_of_pos_left _ (by omega)
  refine ⟨x, y, g, ?_, by omega, by rw [hx, Int.natCast_mul, Int.mul_comm], by rw [hy, Int.natCast_mul, Int.mul_comm], by omega, by omega, by omega, by omega⟩
  have w1 : IntKind.i64.wrap (x : Int) = x := G1.wr1 (by omega)
  have w2 : IntKind.i64.wrap (y : Int) = y := G1.wr1 (by omega)
  have hg0 : ¬ (g : Int) = 0 := by omega
  have hg1 : ¬ g = 0 := by omega
  clear hx hy hxa hyb hy1 ha hb
  refine run2_body 1 rfl rfl rfl rfl rfl ?_
  simp (maxSteps := 2000000) (disch := first | omega | (simp; done) | (simp; omega)) [-getElem?_pos, l43, e1, d1, d2, w1, w2, hg0, hg1]
theorem p44 {f : Frm} (h1 : 100 ≤ f.pitch ∧ f.pitch ≤ 200000) (h2 : f.starts = 1) : R 44 [.agg (eF f)] = some (I f.pitch) := by
  have w : IntKind.i64.wrap f.pitch = f.pitch := G1.wr1 (by omega)
  refine run2_body 1 rfl rfl rfl rfl rfl ?_
  simp (maxSteps := 2000000) (disch := first | omega | (simp; done) | (simp; omega)) [-getElem?_pos, l44, eF, h2, w]
theorem p41 {f : Frm} (h : frmB f = true) : R 41 [.agg (eF f)] = some (.tup [.agg (eF f), I 0]) := by
  have e1 := p35 f
  rw [if_pos h] at e1
  simp only [eF] at e1 ⊢
  refine run2_body 1 rfl rfl rfl rfl rfl ?_
  simp (maxSteps := 2000000) (disch := first | omega | (simp; done) | (simp; omega)) [-getElem?_pos, l41, e1]
theorem p20 {f : Frm} (h : frmB f = true) (hs : f.starts = 1) (ht : 1 ≤ f.taper ∧ f.taper ≤ 100) (hp : 100 ≤ f.pitch ∧ f.pitch ≤ 200000) {screw ring : Int} (h1 : 1 ≤ screw ∧ screw ≤ ring ∧ ring ≤ 10000000) :
    ∃ x y g : Int, R 20 [.agg (eF f), I screw, I ring] = some (.tup [.agg [I x, I y], I 0]) ∧ 1 ≤ g ∧ x * g = (ring - screw) * 500 ∧ y * g = f.taper * f.pitch ∧ 0 ≤ x ∧ 1 ≤ y ∧ x ≤ (ring - screw) * 500 ∧ y ≤ f.taper * f.pitch := by
  have e1 := p41 h
  have e2 := p44 hp hs
  have e3 := t42_2 1 10000000 screw ring
  rw [decide_eq_true (by omega)] at e3
  have b1 : 1 * f.pitch ≤ f.taper * f.pitch := Int.mul_le_mul_of_nonneg_right (by omega) (by omega)
  have b2 : f.taper * f.pitch ≤ 100 * f.pitch := Int.mul_le_mul_of_nonneg_right (by omega) (by omega)
  have w1 : IntKind.i64.wrap (ring - screw) = ring - screw := G1.wr1 (by omega)
  have w2 : IntKind.i64.wrap ((ring - screw) * 1000) = (ring - screw) * 1000 := G1.wr1 (by omega)
  have d : ((ring - screw) * 1000).tdiv 2 = (ring - screw) * 500 := by
    rw [Int.tdiv_eq_ediv_of_nonneg (by omega)]; omega
  have w3 : IntKind.i64.wrap ((ring - screw) * 500) = (ring - screw) * 500 := G1.wr1 (by omega)
  have w4 : IntKind.i64.wrap (f.taper * f.pitch) = f.taper * f.pitch := G1.wr1 (by omega)
  obtain ⟨x, y, g, e4, r⟩ := p43 (a := ((ring - screw) * 500).toNat) (b := (f.taper * f.pitch).toNat) (by omega) (by omega)
  rw [Int.toNat_of_nonneg (by omega), Int.toNat_of_nonneg (by omega)] at e4 r
  refine ⟨x, y, g, ?_, r⟩
  have k1 : ¬ ring < screw := by omega
  have k2 : ¬ f.taper = 0 := by omega
  simp only [eF] at e1 e2 ⊢
  clear r b1 b2 h ht hp h1
  refine run2_body 1 rfl rfl rfl rfl rfl ?_
  simp (maxSteps := 2000000) (disch := first | omega | (simp; done) | (simp; omega)) [-getElem?_pos, l20, e1, e2, e3, e4, w1, w2, w3, w4, d, k1, k2]
end Go.Lo

/- The examples of chapters 2 and 4. -/
namespace Go.Lo
open Go.Proofs
set_option linter.unusedSimpArgs false
set_option maxRecDepth 100000
theorem p10 : R 10 [] = some (B true) := run2_of (n := 60) (by kernel_rfl)
end Go.Lo

/- The law: a tapered plug. -/
namespace Go.Lo
open Go.Proofs
set_option linter.unusedSimpArgs false
set_option maxHeartbeats 8000000
set_option maxRecDepth 20000
def tapF (v0 v1 v2 k : Int) : Frm := { pitch := 9000 + 4 * v0, left := 400 + v1, right := 400 + v2, above := 46, below := 45, starts := 1, hand := false, taper := k }
theorem p14 {v0 v1 v2 : Int} (h0 : 0 ≤ v0 ∧ v0 ≤ 255) (h1 : 0 ≤ v1 ∧ v1 ≤ 255) (h2 : 0 ≤ v2 ∧ v2 ≤ 255) : R 14 [.agg [.int .u8 v0, .int .u8 v1, .int .u8 v2, .int .u8 9]] = some (.agg (eF (tapF v0 v1 v2 0))) := by
  have c0 : IntKind.i64.wrap v0 = v0 := G1.wr1 (by omega)
  have c1 : IntKind.i64.wrap v1 = v1 := G1.wr1 (by omega)
  have c2 : IntKind.i64.wrap v2 = v2 := G1.wr1 (by omega)
  have d0 : IntKind.i64.wrap (4 * v0) = 4 * v0 := G1.wr1 (by omega)
  have d3 : IntKind.i64.wrap (9000 + 4 * v0) = 9000 + 4 * v0 := G1.wr1 (by omega)
  have d1 : IntKind.i64.wrap (400 + v1) = 400 + v1 := G1.wr1 (by omega)
  have d2 : IntKind.i64.wrap (400 + v2) = 400 + v2 := G1.wr1 (by omega)
  have e9 : IntKind.i64.wrap 9 = 9 := rfl
  have e45 : IntKind.i64.wrap 45 = 45 := rfl
  have e46 : IntKind.i64.wrap 46 = 46 := rfl
  clear h0 h1 h2
  refine run2_body 1 rfl rfl rfl rfl rfl ?_
  simp (maxSteps := 2000000) (disch := first | omega | (simp; done) | (simp; omega)) [-getElem?_pos, l14, tapF, eF, c0, c1, c2, d0, d1, d2, d3, e9, e45, e46]
theorem tapF_ok {v0 v1 v2 k : Int} (h0 : 0 ≤ v0 ∧ v0 ≤ 255) (h1 : 0 ≤ v1 ∧ v1 ≤ 255) (h2 : 0 ≤ v2 ∧ v2 ≤ 255) (hk : 1 ≤ k ∧ k ≤ 100) : frmB (tapF v0 v1 v2 k) = true := by
  simp [frmB, frmN, wid, tapF]
  omega
end Go.Lo

/- Plain laws of quotients. -/
namespace Go.Lo
open Go.Proofs
theorem rat_eq {ax ay ga bx by9 gb T N1 N2 : Int} (h1 : ax * ga = N1) (h2 : ay * ga = T) (h3 : bx * gb = N2) (h4 : by9 * gb = T) : (ax * by9 - bx * ay) * T = (N1 - N2) * ay * by9 := by
  have e1 : ax * by9 * T = N1 * ay * by9 := by rw [← h2, ← h1]; ac_rfl
  have e2 : bx * ay * T = N2 * ay * by9 := by rw [← h4, ← h3]; ac_rfl
  rw [Int.sub_mul, e1, e2, Int.sub_mul, Int.sub_mul]
theorem rat_le {bx by9 gb cx cy gc T N1 N2 : Int} (h1 : bx * gb = N1) (h2 : by9 * gb = T) (h3 : cx * gc = N2) (h4 : cy * gc = T) (hb : 1 ≤ gb) (hc : 1 ≤ gc) (hT : 0 ≤ T) (h : N2 ≤ N1) : cx * by9 ≤ bx * cy := by
  have e1 : bx * cy * (gb * gc) = N1 * T := by rw [← h4, ← h1]; ac_rfl
  have e2 : cx * by9 * (gb * gc) = N2 * T := by rw [← h2, ← h3]; ac_rfl
  have e3 : N2 * T ≤ N1 * T := Int.mul_le_mul_of_nonneg_right h hT
  have hg : 0 < gb * gc := Int.mul_pos (by omega) (by omega)
  rw [← e1, ← e2] at e3
  exact Int.le_of_mul_le_mul_right e3 hg
end Go.Lo

/- The law: a tapered plug. -/
namespace Go.Lo
open Go.Proofs
set_option linter.unusedSimpArgs false
set_option maxHeartbeats 8000000
set_option maxRecDepth 20000
theorem p21 : R 21 [] = some (B true) := run2_of (n := 60) (by kernel_rfl)
theorem p5 {v0 v1 v2 v3 v4 at9 : Int} (h0 : 0 ≤ v0 ∧ v0 ≤ 255) (h1 : 0 ≤ v1 ∧ v1 ≤ 255) (h2 : 0 ≤ v2 ∧ v2 ≤ 255) (h3 : 0 ≤ v3 ∧ v3 ≤ 255) (h4 : 0 ≤ v4 ∧ v4 ≤ 255) (h6 : 0 ≤ at9 ∧ at9 ≤ 65535) :
    R 5 [.agg [.int .u8 v0, .int .u8 v1, .int .u8 v2, .int .u8 v3, .int .u8 v4], .int .u16 at9] = some (B true) := by
  have c3 : IntKind.i64.wrap v3 = v3 := G1.wr1 (by omega)
  have c4 : IntKind.i64.wrap v4 = v4 := G1.wr1 (by omega)
  have c6 : IntKind.i64.wrap at9 = at9 := G1.wr1 (by omega)
  have b3 := tmodB h3.1 (show (0 : Int) < 100 by decide)
  have b6 := tmodB h6.1 (show (0 : Int) < 1000 by decide)
  generalize t3 : v3.tmod 100 = x3 at *
  generalize t6 : at9.tmod 1000 = x6 at *
  have d3 : IntKind.i64.wrap x3 = x3 := G1.wr1 (by omega)
  have d6 : IntKind.i64.wrap x6 = x6 := G1.wr1 (by omega)
  have f3 : IntKind.i64.wrap (1 + x3) = 1 + x3 := G1.wr1 (by omega)
  have f6 : IntKind.i64.wrap (1 + x6) = 1 + x6 := G1.wr1 (by omega)
  have f4 : IntKind.i64.wrap (50000 + v4) = 50000 + v4 := G1.wr1 (by omega)
  have e0 := p14 h0 h1 h2
  have hF := tapF_ok h0 h1 h2 (k := 1 + x3) (by omega)
  have hr : ROk (50000, 50000 + v4) (3, 90) [] := ⟨by simp only; omega, by decide, by decide, fun s hs => by cases hs⟩
  obtain ⟨k1, k2⟩ := size_one (ring := false) (p := 1 + x6) hr (by omega)
  have hw := worn_bd (w := (3, 90)) (p := 1 + x6) (by decide) (by omega)
  have hw2 : (G1.wornE (3, 90) (1 + x6)).2 ≤ 90 := by
    unfold G1.wornE
    simp only
    rw [Int.tdiv_eq_ediv_of_nonneg (by omega)]
    omega
  have e3 := p13 false (50000, 50000 + v4) (3, 90) (ms := []) (es := [(1 + x6, -1, false)]) (by simp) (by simp)
  rw [k2] at e3
  generalize G1.wornE (3, 90) (1 + x6) = W at *
  simp only [if_false, Bool.false_eq_true, eR, eS2, eV, List.map_cons, List.map_nil, eS] at e3
  generalize hL : 50000 - W.2 = lo at *
  generalize hS : 50000 + v4 - W.1 = hi at *
  have g3 := p7 50000 (50000 + v4)
  have g4 := p7 3 90
  have g5 := p12 (1 + x6)
  have z1 := p21
  have z2 := p10
  generalize hn2 : 50000 + v4 = n2 at *
  have hp : 100 ≤ (tapF v0 v1 v2 (1 + x3)).pitch ∧ (tapF v0 v1 v2 (1 + x3)).pitch ≤ 200000 := by simp only [tapF]; omega
  obtain ⟨ax, ay, ga, ma, a1, a2, a3, a4, a5, a6, a7⟩ := p20 hF rfl (by simp only [tapF]; omega) hp (screw := lo) (ring := 51000) (by omega)
  obtain ⟨bx, by9, gb, mb, b1, b2, b3', b4, b5, b6', b7⟩ := p20 hF rfl (by simp only [tapF]; omega) hp (screw := hi) (ring := 51000) (by omega)
  obtain ⟨cx, cy, gc, mc, q1, q2, q3, q4, q5, q6, q7⟩ := p20 hF rfl (by simp only [tapF]; omega) hp (screw := n2) (ring := 51000) (by omega)
  simp only [tapF, eF] at ma mb mc e0 a3 b3' q3 a7 b7 q7
  generalize hP : 9000 + 4 * v0 = P at *
  have hT0 : 0 ≤ (1 + x3) * P := Int.mul_nonneg (by omega) (by omega)
  have hT1 : (1 + x3) * P ≤ 100 * P := Int.mul_le_mul_of_nonneg_right (by omega) (by omega)
  have R1 := rat_eq a2 a3 b2 b3'
  have R2 := rat_le b2 b3' q2 q3 b1 q1 hT0 (by omega)
  generalize hTT : (1 + x3) * P = T at *
  have m1 := abs_mul (a := ax) (b := by9) (A := 600000) (C := 1100000) (by omega) (by omega)
  have m2 := abs_mul (a := bx) (b := ay) (A := 600000) (C := 1100000) (by omega) (by omega)
  have m3 := abs_mul (a := bx) (b := cy) (A := 600000) (C := 1100000) (by omega) (by omega)
  have m4 := abs_mul (a := cx) (b := by9) (A := 600000) (C := 1100000) (by omega) (by omega)
  generalize hAB : ax * by9 = AB at *
  generalize hBA : bx * ay = BA at *
  generalize hBC : bx * cy = BC at *
  generalize hCB : cx * by9 = CB at *
  have m5 := abs_mul (a := AB - BA) (b := 1 + x3) (A := 1400000000000) (C := 100) (by omega) (by omega)
  have m6 := abs_mul (a := (AB - BA) * (1 + x3)) (b := P) (A := 140000000000000) (C := 10100) (by omega) (by omega)
  have m7 := abs_mul (a := (hi - lo) * 500) (b := ay) (A := 200000) (C := 1100000) (by omega) (by omega)
  have m8 := abs_mul (a := (hi - lo) * 500 * ay) (b := by9) (A := 220000000000) (C := 1100000) (by omega) (by omega)
  have R3 : (AB - BA) * (1 + x3) * P = (hi - lo) * 500 * ay * by9 := by
    rw [Int.mul_assoc, hTT, R1]
    rw [show (51000 - lo) * 500 - (51000 - hi) * 500 = (hi - lo) * 500 by omega]
  generalize hU : (AB - BA) * (1 + x3) = U at *
  generalize hY : (hi - lo) * 500 * ay = Y at *
  generalize hUP : U * P = UP at *
  generalize hYB : Y * by9 = YB at *
  have w1 : IntKind.i64.wrap AB = AB := G1.wr1 (by omega)
  have w2 : IntKind.i64.wrap BA = BA := G1.wr1 (by omega)
  have w3 : IntKind.i64.wrap (AB - BA) = AB - BA := G1.wr1 (by omega)
  have w4 : IntKind.i64.wrap U = U := G1.wr1 (by omega)
  have w5 : IntKind.i64.wrap UP = UP := G1.wr1 (by omega)
  have w6 : IntKind.i64.wrap (hi - lo) = hi - lo := G1.wr1 (by omega)
  have w7 : IntKind.i64.wrap ((hi - lo) * 500) = (hi - lo) * 500 := G1.wr1 (by omega)
  have w8 : IntKind.i64.wrap Y = Y := G1.wr1 (by omega)
  have w9 : IntKind.i64.wrap YB = YB := G1.wr1 (by omega)
  have y1 : IntKind.i64.wrap BC = BC := G1.wr1 (by omega)
  have y2 : IntKind.i64.wrap CB = CB := G1.wr1 (by omega)
  have o1 : ¬ lo < 1 := by omega
  have o2 : ¬ n2 < hi := by omega
  have o3 : ¬ ay < 1 := by omega
  have o4 : ¬ by9 < 1 := by omega
  have o5 : ¬ cy < 1 := by omega
  have EQ := fun (_ : Unit) => And.intro c3 (And.intro c4 (And.intro c6 (And.intro t3 (And.intro t6 (And.intro d3 (And.intro d6 (And.intro f3 (And.intro f6 (And.intro f4 (And.intro w1 (And.intro w2 (And.intro w3 (And.intro w4 (And.intro w5 (And.intro w6 (And.intro w7 (And.intro w8 (And.intro w9 (And.intro y1 (And.intro y2 (And.intro hAB (And.intro hBA (And.intro hBC (And.intro hCB (And.intro hU (And.intro hY (And.intro hUP (And.intro hYB (And.intro R3 hn2)))))))))))))))))))))))))))))
  clear c3 c4 c6 t3 t6 d3 d6 f3 f6 f4 w1 w2 w3 w4 w5 w6 w7 w8 w9 y1 y2 hAB hBA hBC hCB hU hY hUP hYB R3 hn2 m1 m2 m3 m4 m5 m6 m7 m8 R1 hTT hT0 hT1 a1 a2 a3 a4 a5 a6 a7 b1 b2 b3' b4 b5 b6' b7 q1 q2 q3 q4 q5 q6 q7 hL hS hw hw2 hr k1 k2 h0 h1 h2 h3 h4 h6 b3 b6 hP hp hF
  refine run2_body 1 rfl rfl rfl rfl rfl ?_
  simp (maxSteps := 2000000) (disch := first | omega | (simp; done) | (simp; omega)) [-getElem?_pos, l5, EQ (), e0, e3, g3, g4, g5, z1, z2, ma, mb, mc, o1, o2, o3, o4, o5, R2]
end Go.Lo

/- The law about a tapered plug on the first machine. -/
namespace Go.Lo
open Go.Proofs
set_option linter.unusedSimpArgs false
theorem taper_true {v1 v2 : V} (h1 : HasV (.arr 5 (.int .u8)) v1) (h2 : HasV (.int .u16) v2) : run G1.F1 Ct 5 [v1, v2] = some (.bool true) := by
  obtain ⟨xs, hl, rfl, hx⟩ := can_arr h1
  obtain ⟨n, rfl, hn⟩ := can_int h2
  match xs, hl with
  | [a, b, c, d, e], _ =>
    exact run2_true tabR (p5 (wf_u8 (hx a (by simp))) (wf_u8 (hx b (by simp))) (wf_u8 (hx c (by simp))) (wf_u8 (hx d (by simp))) (wf_u8 (hx e (by simp))) (wf_u16 hn)) (RelL.cons (rel_aggK .u8 [a, b, c, d, e]) (RelL.one (rel_int .u16 n)))
end Go.Lo
