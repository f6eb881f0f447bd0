/- Texts put together. -/
import Derived.Test.YtohdbgibdopinaaPf
/- Shift, by the program. -/
namespace Go.Lo
open Go.Proofs
set_option linter.unusedSimpArgs false
set_option maxHeartbeats 8000000
/-! ### Shift -/
def part (ts : List (Int × Int)) (at_ many : Nat) : List (Int × Int) := (ts.take (at_ + many)).drop at_
def placeB (s n : Thr) (tooth groove many : Int) : Bool := decide ((1 ≤ many ∧ many ≤ min (s.1.length : Int) n.1.length) ∧ (0 ≤ tooth ∧ tooth ≤ s.1.length - many) ∧ (0 ≤ groove ∧ groove ≤ n.1.length - many))
def partS (d : Int × Int) (s n : Thr) (tooth groove many : Nat) : Int × Int := shf (nds d s n (part s.1 tooth many) (part n.1 groove many))
def shiftE (d : Int × Int) (s n : Thr) (tooth groove many : Int) : (Int × Int) × Int :=
  if chkAll d [s, n] ≠ 0 then ((0, 0), chkAll d [s, n])
  else if placeB s n tooth groove many = false then ((0, 0), 7)
  else if (partS d s n tooth.toNat groove.toNat many.toNat).1 ≤ (partS d s n tooth.toNat groove.toNat many.toNat).2 then (partS d s n tooth.toNat groove.toNat many.toNat, 0) else ((0, 0), 9)
abbrev sE (x : (Int × Int) × Int) : V := .tup [eS x.1, I x.2]
theorem p21 (d : Int × Int) (s n : Thr) (tooth groove many : Int) : R 21 [.agg (eT s), .agg (eT n), I tooth, I groove, I many, eS d] = some (sE (shiftE d s n tooth groove many)) := by
  have e1 := p40 d (l := [s, n]) (by simp)
  unfold shiftE
  by_cases c0 : chkAll d [s, n] = 0
  · rw [if_neg (fun h => h c0)]
    obtain ⟨c1, c2, c3⟩ := chkAll_two c0
    have hs := chkT_ok c1
    have hn := chkT_ok c2
    have hd := dOk_iff.1 c3
    have ls := hs.len
    have ln := hn.len
    rw [c0] at e1
    have w1 := p35_1 1 (min (s.1.length : Int) n.1.length) many
    have w2 := p35_1 0 (s.1.length - many) tooth
    have w3 := p35_1 0 (n.1.length - many) groove
    simp only [eT, List.map_cons, List.map_nil] at e1
    unfold placeB
    by_cases k1 : 1 ≤ many ∧ many ≤ min (s.1.length : Int) n.1.length
    · by_cases k2 : 0 ≤ tooth ∧ tooth ≤ s.1.length - many
      · by_cases k3 : 0 ≤ groove ∧ groove ≤ n.1.length - many
        · obtain ⟨m, rfl⟩ : ∃ m : Nat, many = m := ⟨many.toNat, by omega⟩
          obtain ⟨t, rfl⟩ : ∃ t : Nat, tooth = t := ⟨tooth.toNat, by omega⟩
          obtain ⟨g, rfl⟩ : ∃ g : Nat, groove = g := ⟨groove.toNat, by omega⟩
          simp only [k1, k2, k3, and_self, decide_true] at w1 w2 w3
          simp only [k1, k2, k3, and_self, decide_true, Int.toNat_natCast, Bool.true_eq_false, if_false]
          have l1 : (part s.1 t m).length = m := by unfold part; simp; omega
          have l2 : (part n.1 g m).length = m := by unfold part; simp; omega
          have e2 := p47 hd hs hn (ts := part s.1 t m) (gs := part n.1 g m) (fun x hx => (hs.turn x (List.mem_of_mem_take (List.mem_of_mem_drop hx))).1) (fun x hx => (hn.turn x (List.mem_of_mem_take (List.mem_of_mem_drop hx))).1) (by omega) (by omega)
          unfold partS
          generalize shf (nds d s n (part s.1 t m) (part n.1 g m)) = z at *
          simp only [eT, List.cons_append, List.nil_append, part, List.map_take, List.map_drop] at e2
          have q1 : ((t : Int) + m).toNat = t + m := by omega
          have q2 : ((g : Int) + m).toNat = g + m := by omega
          refine run2_body 1 rfl rfl rfl rfl rfl ?_
          by_cases hz : z.1 ≤ z.2 <;> simp (maxSteps := 2000000) (disch := first | omega | (simp; done) | (simp; omega)) [-getElem?_pos, -maxL, -minL, minL2, l21, eT, e1, e2, w1, w2, w3, q1, q2, hz, wrap64]
        · simp only [k1, k2, k3, and_self, decide_true, decide_false] at w1 w2 w3
          refine run2_body 1 rfl rfl rfl rfl rfl ?_
          simp (maxSteps := 2000000) (disch := first | omega | (simp; done) | (simp; omega)) [-getElem?_pos, -maxL, -minL, minL2, l21, eT, e1, w1, w2, w3, k1, k2, k3, wrap64]
      · simp only [k1, k2, and_self, decide_true, decide_false] at w1 w2
        refine run2_body 1 rfl rfl rfl rfl rfl ?_
        simp (maxSteps := 2000000) (disch := first | omega | (simp; done) | (simp; omega)) [-getElem?_pos, -maxL, -minL, minL2, l21, eT, e1, w1, w2, k1, k2, wrap64]
    · simp only [k1, decide_false] at w1
      refine run2_body 1 rfl rfl rfl rfl rfl ?_
      simp (maxSteps := 2000000) (disch := first | omega | (simp; done) | (simp; omega)) [-getElem?_pos, -maxL, -minL, minL2, l21, eT, e1, w1, k1, wrap64]
  · rw [if_pos c0]
    generalize chkAll d [s, n] = c at *
    simp only [eT, List.map_cons, List.map_nil] at e1
    refine run2_body 1 rfl rfl rfl rfl rfl ?_
    simp (maxSteps := 2000000) (disch := first | omega | (simp; done) | (simp; omega)) [-getElem?_pos, l21, eT, e1, c0]
end Go.Lo

/- TopDieFit. -/
namespace Go.Lo
open Go.Proofs
set_option linter.unusedSimpArgs false
set_option maxHeartbeats 8000000
def mtF : Frm := ⟨10000, 577, 577, 3000, 3000, 1, false, 0⟩
abbrev d3 : Int × Int := (-3000, 3000)
theorem mtF_arm : Arm mtF := ⟨by decide, by decide, by decide⟩
theorem mtF_frm : frmB mtF = true := by decide
theorem d3_ok : DOk d3 := by refine ⟨?_, ?_, ?_⟩ <;> simp
theorem p19 : R 19 [] = some (.agg [I 10000, I 577, I 577, I 3000, I 3000, I 1, B false, I 0]) := by
  refine run2_body 1 rfl rfl rfl rfl rfl ?_
  simp (maxSteps := 2000000) (disch := first | omega | (simp; done) | (simp; omega)) [-getElem?_pos, l19]
theorem flat_dj (l : List (Int × Int)) : flatE (eS2 l) = true := by simp [flatE, V.flat]
theorem partS_same {d : Int × Int} {s n : Thr} (hl : s.1.length = n.1.length) : partS d s n 0 0 s.1.length = shf (nds d s n s.1 n.1) := by
  have q1 : part s.1 0 s.1.length = s.1 := by unfold part; simp
  have q2 : part n.1 0 s.1.length = n.1 := by unfold part; rw [hl]; simp
  unfold partS
  rw [q1, q2]
/-- A screw of perfect form that is no greater than the plug's nut. -/
theorem fit_facts {c r : Int} (hc : -200 ≤ c ∧ c ≤ 200) (hr : -200 ≤ r ∧ r ≤ 200) (hcr : c ≤ r) {n : Nat} (hn : 1 ≤ n ∧ n ≤ 5) :
    ∃ (x : Int) (y : Int × Int) (g : Bool), x ≤ r ∧ y.1 ≤ y.2 ∧
      R 16 [.agg (eF mtF), I c, I r, I n, eS d3] = some (.tup [.agg (eT (ringT mtF c n)), .agg (eT (plugT mtF r n)), B g, I 0]) ∧
      R 20 [.agg (eF mtF), .agg (eT (ringT mtF c n)), eS d3] = some (.tup [I x, I 0]) ∧
      R 21 [.agg (eT (ringT mtF c n)), .agg (eT (plugT mtF r n)), I 0, I 0, I n, eS d3] = some (.tup [eS y, I 0]) := by
  have hA := mtF_arm
  have hB := mtF_frm
  have hd := d3_ok
  obtain ⟨o1, o2, -⟩ := show_arm hA hB hd (c := c) (e := r) hc hr hn
  have hf : FNum mtF := frmN_num (by have := hB; unfold frmB at this; simp only [Bool.and_eq_true] at this; exact this.1)
  have hz : ¬ mtF.left + mtF.right = 0 := by decide
  have c1 := (perf_chk hA hc hn).1
  have c2 := (perf_chk hA hr hn).2
  have l1 : (ringT mtF c n).1.length = n := by simp [ringT, perfL]
  have l2 : (plugT mtF r n).1.length = n := by simp [plugT, perfL]
  have e1 := p16 mtF c r n d3
  rw [o1] at e1
  have e2 := p20 mtF d3 (ringT mtF c n)
  have s0 : scE mtF d3 (ringT mtF c n) = 0 := by
    have h1 : opE mtF d3 [ringT mtF c n] = 0 := by
      unfold opE chkAll
      rw [if_pos hB]
      simp [c1, dOk_iff.2 hd]
    unfold scE
    rw [if_neg (fun x => x h1), if_neg hz]
  rw [s0, if_pos rfl] at e2
  have e3 := p21 d3 (ringT mtF c n) (plugT mtF r n) 0 0 n
  have hall : chkAll d3 [ringT mtF c n, plugT mtF r n] = 0 := by rw [chkAll_2, c1, c2, dOk_iff.2 hd]; simp
  have hpl : placeB (ringT mtF c n) (plugT mtF r n) 0 0 n = true := by unfold placeB; rw [decide_eq_true_eq]; omega
  have hp := partS_same (d := d3) (s := ringT mtF c n) (n := plugT mtF r n) (by omega)
  rw [l1] at hp
  have hg := o2 hcr
  unfold shiftE at e3
  rw [if_neg (fun h => h hall), hpl] at e3
  simp only [Bool.true_eq_false, if_false, Int.toNat_natCast, Int.toNat_zero, hp] at e3
  have hg2 := hg
  unfold goesB at hg2
  rw [decide_eq_true_eq] at hg2
  rw [if_pos hg2] at e3
  have r1 := ring_le hf hz (d := d3) (size := c) (n := n) (by omega)
  exact ⟨_, _, _, by omega, hg2, e1, e2, e3⟩
abbrev sDj (ring : Int) (n : Nat) (A : List Int) (N : List (List V)) (i : Nat) : St := { fr := [(5, I ring), (6, I n), (7, .sl (some 5004000) 1 (A.map fun y => [I y])), (8, B true), (10, .box [I (-3000), I 3000]), (12, .box [S 2 N, I 577, I 577]), (15, I i)], tk := [] }
theorem floor2 (y : Int) : (if 2 * y.tdiv 2 > y then y.tdiv 2 - 1 else y.tdiv 2) = y / 2 := by
  have h := tdiv_floor (n := y) (k := 2) (by omega)
  have h1 : 2 * y.tdiv 2 + y.tmod 2 = y := by
    have := Int.mul_tdiv_add_tmod y 2
    exact this
  split
  · rw [if_pos (by omega)] at h; exact h
  · rw [if_neg (by omega)] at h; exact h
theorem dj_round {M : Nat} {ring : Int} {n : Nat} {A : List Int} {i : Nat} {e : Int} (hr : 0 ≤ ring ∧ ring ≤ 59) (hn : 1 ≤ n ∧ n ≤ 4) (hi : A[i]? = some e) (hA : A.length ≤ 60) (he : 89700 ≤ e ∧ e ≤ 90000 + 2 * ring) :
    evC2 R M b5_0 (sDj ring n A (eS2 (plugT mtF ring n).1) i) = some (.normal, sDj ring n A (eS2 (plugT mtF ring n).1) (i + 7)) := by
  have hi1 : i < A.length := by
    rw [List.getElem?_eq_some_iff] at hi
    exact hi.1
  have hi2 : (i : Int) < (A.length : Int) := by omega
  have hfl := floor2 (e - 90000)
  obtain ⟨x, y, g, h1, h2, e1, e2, e3⟩ := fit_facts (c := (e - 90000) / 2) (r := ring) (by omega) (by omega) (by omega) (n := n) (by omega)
  have e4 := p19
  have f1 := flat_dj (ringT mtF ((e - 90000) / 2) n).1
  have f2 := flat_dj (plugT mtF ring n).1
  have m1 : eT (ringT mtF ((e - 90000) / 2) n) = [S 2 (eS2 (ringT mtF ((e - 90000) / 2) n).1), I 577, I 577] := rfl
  have m2 : eT (plugT mtF ring n) = [S 2 (eS2 (plugT mtF ring n).1), I 577, I 577] := rfl
  have m3 : eF mtF = [I 10000, I 577, I 577, I 3000, I 3000, I 1, B false, I 0] := rfl
  simp only [m1, m2, m3] at e1 e2 e3
  simp only [sDj]
  generalize eS2 (ringT mtF ((e - 90000) / 2) n).1 = L1 at *
  generalize eS2 (plugT mtF ring n).1 = L2 at *
  have b0 := tdiv_le (n := e - 90000) (k := 2) (by omega) 1000 (by omega)
  have w1 := wrap64 (n := e - 90000) (by omega) (by omega)
  have w2 := wrap64 (n := (e - 90000).tdiv 2) (by omega) (by omega)
  have w3 := wrap64 (n := 2 * (e - 90000).tdiv 2) (by omega) (by omega)
  have w4 := wrap64 (n := (e - 90000).tdiv 2 - 1) (by omega) (by omega)
  have w5 := wrap64 (n := (i : Int) + 7) (by omega) (by omega)
  have w6 := wrap64 (n := (e - 90000) / 2) (by omega) (by omega)
  have c1 : ((i + 7 : Nat) : Int) = (i : Int) + 7 := by omega
  have x1 : ¬ x > ring := by omega
  have x2 : ¬ y.1 > y.2 := by omega
  clear hr hn he hA m1 m2 m3 h1 h2 b0
  generalize (e - 90000) / 2 = q at *
  generalize ht : (e - 90000).tdiv 2 = t at *
  rw [c1]
  by_cases hcm : 2 * t > e - 90000
  · rw [if_pos hcm] at hfl
    have hcm2 : e - 90000 < 2 * t := by omega
    clear hcm
    have EQ := fun (_ : Unit) => And.intro w1 (And.intro w2 (And.intro w3 (And.intro w4 (And.intro w5 (And.intro ht (And.intro w6 hfl))))))
    clear w1 w2 w3 w4 w5 w6 hfl ht
    simp (maxSteps := 2000000) (disch := first | omega | (simp; done) | (simp; omega)) [-getElem?_pos, b5_0, hi, hi2, e1, e2, e3, e4, f1, f2, EQ (), x1, x2, hcm2]
  · rw [if_neg hcm] at hfl
    have hcm2 : ¬ e - 90000 < 2 * t := by omega
    clear hcm
    subst hfl
    have EQ := fun (_ : Unit) => And.intro w1 (And.intro w2 (And.intro w3 (And.intro ht w5)))
    clear w1 w2 w3 w4 w5 ht
    simp (maxSteps := 2000000) (disch := first | omega | (simp; done) | (simp; omega)) [-getElem?_pos, b5_0, hi, hi2, e1, e2, e3, e4, f1, f2, EQ (), x1, x2, hcm2]
end Go.Lo

/- TopDieFit, the law. -/
namespace Go.Lo
open Go.Proofs
set_option linter.unusedSimpArgs false
set_option maxHeartbeats 8000000
theorem p5_diefit (k1 : R 18 [] = some (B true)) (k2 : R 11 [] = some (B true)) {x : Ad} (hx : x.Ok) {v0 v1 v2 : Int} (h0 : u8r v0) (h1 : u8r v1) (h2 : u8r v2) :
    R 5 [.agg (eAd x), .agg [U v0, U v1, U v2]] = some (B true) := by
  have t1 := tmodP (n := v0) (k := 60) h0.1
  have t2 := tmodP (n := v1) (k := 4) h1.1
  have t3 := tmodP (n := v2) (k := 7) h2.1
  have w0 := wrap64 (n := v0) (by omega) (by omega)
  have w1 := wrap64 (n := v1) (by omega) (by omega)
  have w2 := wrap64 (n := v2) (by omega) (by omega)
  have b1 : 0 ≤ v0 % 60 ∧ v0 % 60 ≤ 59 := by omega
  obtain ⟨n, hn⟩ : ∃ n : Nat, 1 + v1 % 4 = n := ⟨(1 + v1 % 4).toNat, by omega⟩
  obtain ⟨i0, hi0⟩ : ∃ i : Nat, v2 % 7 = i := ⟨(v2 % 7).toNat, by omega⟩
  have b2 : 1 ≤ n ∧ n ≤ 4 := by omega
  generalize v0 % 60 = ring at *
  have e1 := p8 89700 (90000 + 2 * ring)
  have e2 := p8 (-3000) 3000
  have e3 := p19
  obtain ⟨xx, yy, g, hh1, hh2, e4, -, -⟩ := fit_facts (c := ring) (r := ring) (by omega) (by omega) (by omega) (n := n) (by omega)
  have f1 := flat_dj (ringT mtF ring n).1
  have f2 := flat_dj (plugT mtF ring n).1
  have m1 : eT (ringT mtF ring n) = [S 2 (eS2 (ringT mtF ring n).1), I 577, I 577] := rfl
  have m2 : eT (plugT mtF ring n) = [S 2 (eS2 (plugT mtF ring n).1), I 577, I 577] := rfl
  have m3 : eF mtF = [I 10000, I 577, I 577, I 3000, I 3000, I 1, B false, I 0] := rfl
  simp only [m1, m2, m3] at e4
  have hz : 0 ≤ ((89700, 90000 + 2 * ring) : Int × Int).1 ∧ ((89700, 90000 + 2 * ring) : Int × Int).1 ≤ ((89700, 90000 + 2 * ring) : Int × Int).2 ∧ ((89700, 90000 + 2 * ring) : Int × Int).2 ≤ 10000000 := by simp only; omega
  have hlim := lim_nn (shpOf_ok hx hz)
  have W1 := wrap64 (n := 2 * ring) (by omega) (by omega)
  have W2 := wrap64 (n := 90000 + 2 * ring) (by omega) (by omega)
  have W3 := wrap64 (n := 1 + v1 % 4) (by omega) (by omega)
  rw [hn] at W3
  by_cases hl : lim (shpOf x (89700, 90000 + 2 * ring)) = 0
  · have e5 := p12_no hx hz hl
    simp only [eAd] at e5 ⊢
    generalize eS2 (ringT mtF ring n).1 = L1 at *
    generalize eS2 (plugT mtF ring n).1 = L2 at *
    generalize x.tr.map _ = tr at *
    clear hz hlim hl m1 m2 m3 hh1 hh2 h0 h1 h2 b1 b2
    have EQ := fun (_ : Unit) => And.intro w0 (And.intro w1 (And.intro w2 (And.intro W1 (And.intro W2 (And.intro W3 (And.intro t1 (And.intro t2 (And.intro t3 (And.intro hn hi0)))))))))
    clear w0 w1 w2 W1 W2 W3 t1 t2 t3 hn hi0
    refine run2_body 3 rfl rfl rfl rfl rfl ?_
    have L : iter (evC2 R 3 b5_0) 3 { fr := [(5, I ring), (6, I n), (7, .sl none 1 []), (8, B false), (10, .box [I (-3000), I 3000]), (12, .box [S 2 L2, I 577, I 577]), (15, I i0)], tk := [] } =
        some (.exit 0, { fr := [(5, I ring), (6, I n), (7, .sl none 1 []), (8, B false), (10, .box [I (-3000), I 3000]), (12, .box [S 2 L2, I 577, I 577]), (15, I i0), (70, B false)], tk := [] }) := by
      rw [iter_succ]
      have hi1 : ¬ (i0 : Int) < 0 := by omega
      simp (maxSteps := 2000000) (disch := first | omega | (simp; done) | (simp; omega)) [-getElem?_pos, b5_0, hi1]
    simp (maxSteps := 2000000) (disch := first | omega | (simp; done) | (simp; omega)) [-getElem?_pos, l5, e1, e2, e3, e4, e5, f1, f2, EQ (), L, k1, k2]
  · have hl1 : 1 ≤ lim (shpOf x (89700, 90000 + 2 * ring)) := by omega
    have e5 := p12 hx hz hl1
    have hin := allL_in hx hz hl1 _ (Nat.le_refl _)
    have hlen := allL_len (x := x) (shpOf_ok hx hz) hl1 (tgO (shpOf x (89700, 90000 + 2 * ring))) _ (Nat.le_refl _)
    have h60 := n60 x hx (89700, 90000 + 2 * ring)
    have hpb := pos_bd (shpOf_ok hx hz) hl1 (cuts (shpOf x (89700, 90000 + 2 * ring)))
    have hpc := psN_cast (shpOf_ok hx hz) hl1 (cuts (shpOf x (89700, 90000 + 2 * ring)))
    generalize allL x (shpOf x (89700, 90000 + 2 * ring)) (tgO (shpOf x (89700, 90000 + 2 * ring))) (cuts (shpOf x (89700, 90000 + 2 * ring))) = A at *
    have hA : A.length ≤ 60 := by omega
    have fA := ints_flat A
    clear hpb hpc h60 hlen
    have L := loop_all (s := fun k => sDj ring n A (eS2 (plugT mtF ring n).1) (i0 + 7 * k)) (f := evC2 R ((A.length - i0 + 6) / 7 + 1) b5_0) (n := (A.length - i0 + 6) / 7)
      (X := (.exit 0, { fr := [(5, I ring), (6, I n), (7, .sl (some 5004000) 1 (A.map fun y => [I y])), (8, B true), (10, .box [I (-3000), I 3000]), (12, .box [S 2 (eS2 (plugT mtF ring n).1), I 577, I 577]), (15, I (i0 + 7 * ((A.length - i0 + 6) / 7) : Nat)), (70, B false)], tk := [] }))
      (fun k hk => by
        have hk1 : i0 + 7 * k < A.length := by omega
        have := hin _ (List.getElem_mem hk1)
        exact dj_round (M := (A.length - i0 + 6) / 7 + 1) (e := A[i0 + 7 * k]) b1 b2 (List.getElem?_eq_getElem hk1) hA (by simp only at this; exact this)) (by
        have hx1 : ¬ i0 + 7 * ((A.length - i0 + 6) / 7) < A.length := by omega
        generalize i0 + 7 * ((A.length - i0 + 6) / 7) = j at *
        have hx2 : ¬ (j : Int) < (A.length : Int) := by omega
        simp only [sDj]
        generalize eS2 (plugT mtF ring n).1 = L2 at *
        clear e1 e2 e3 e4 e5 hin hz hlim hl hl1
        simp (maxSteps := 2000000) (disch := first | omega | (simp; done) | (simp; omega)) [-getElem?_pos, b5_0, hx1, hx2]) (by simp)
    simp only [sDj, eAd, Nat.mul_zero, Nat.add_zero] at L e5 ⊢
    generalize eS2 (ringT mtF ring n).1 = L1 at *
    generalize eS2 (plugT mtF ring n).1 = L2 at *
    generalize x.tr.map _ = tr at *
    generalize (A.length - i0 + 6) / 7 = mm at *
    generalize A.map (fun y => [I y]) = AA at *
    clear hz hlim hl hl1 m1 m2 m3 hh1 hh2 h0 h1 h2 b1 b2 hin hA
    have EQ := fun (_ : Unit) => And.intro w0 (And.intro w1 (And.intro w2 (And.intro W1 (And.intro W2 (And.intro W3 (And.intro t1 (And.intro t2 (And.intro t3 (And.intro hn hi0)))))))))
    clear w0 w1 w2 W1 W2 W3 t1 t2 t3 hn hi0
    refine run2_body (mm + 1) rfl rfl rfl rfl rfl ?_
    simp (maxSteps := 2000000) (disch := first | omega | (simp; done) | (simp; omega)) [-getElem?_pos, l5, e1, e2, e3, e4, e5, f1, f2, fA, EQ (), L, k1, k2]
end Go.Lo
