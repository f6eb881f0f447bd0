/- The statement about gauges is proved: a screw whose size is at most that of a nut with as many turns goes into it over this depth; whatever the input. No condition. -/
import Derived.Test.YtgmgjibmjdhkhaaPg
import Derived.Test.YtgmgjibmjdhkhaaRows
import Derived.JoinedOf
import Derived.Seven
/- The law of shifts. -/
namespace Go.Lo
open Go.Proofs
set_option linter.unusedSimpArgs false
set_option maxHeartbeats 8000000
theorem part_all {ts : List (Int × Int)} {m : Nat} (h : m ≤ ts.length) : part ts (ts.length - m) m = ts.drop (ts.length - m) := by
  unfold part
  rw [List.take_of_length_le (by omega)]
theorem refS_shf {d : Int × Int} (hd : DOk d) {s n : Thr} (hs : TOk s) (hn : TOk n) {t g m : Nat} (h1 : t + m ≤ s.1.length) (h2 : g + m ≤ n.1.length) (hm : 0 < m) : refS d s n t g m = shf (nds d s n (part s.1 t m) (part n.1 g m)) := by
  unfold refS
  refine rfold_shf ?_ fun x hx => ?_
  · intro e
    have := congrArg List.length e
    simp [part_len h1, part_len h2] at this
    omega
  · have := nds_mem hd hs hn (ts := part s.1 t m) (gs := part n.1 g m) part_sub part_sub x hx
    omega
theorem refS_step {d : Int × Int} (hd : DOk d) {s n : Thr} (hs : TOk s) (hn : TOk n) {j : Nat} (hj : j < n.1.length) : refS d s n (s.1.length - manyAt s j) (j + 1 - manyAt s j) (manyAt s j) = stepZ d s n j := by
  have h0 := hs.pos
  have hm : manyAt s j ≤ s.1.length ∧ manyAt s j ≤ j + 1 ∧ 0 < manyAt s j := by unfold manyAt; omega
  rw [refS_shf hd hs hn (by omega) (by omega) hm.2.2, part_all hm.1]
  rfl
theorem p28 {d : Int × Int} (hd : DOk d) {s n : Thr} (hs : TOk s) (hn : TOk n) : R 28 [.agg (eT s), .agg (eT n), eS d] = some (I (deepN d s n)) := by
  have ls := hs.len
  have ln := hn.len
  have hp := hs.pos
  have L := loop_if (s := fun i => { fr := [(3, .box (eT s)), (4, .box (eT n)), (5, .box [I d.1, I d.2]), (7, I s.1.length), (8, I (i + 1 : Nat))], tk := [] }) (f := evC2 R (n.1.length + 1) b28_0) (n := n.1.length) (g := fun j => !decide ((stepZ d s n j).1 ≤ (stepZ d s n j).2)) (E := fun i => (.ret, { fr := [(6, I i)], tk := [] }))
    (X := (.exit 0, { fr := [(3, .box (eT s)), (4, .box (eT n)), (5, .box [I d.1, I d.2]), (7, I s.1.length), (8, I (n.1.length + 1 : Nat)), (18, B false)], tk := [] }))
    (fun i hi => by
      have hm : manyAt s i ≤ s.1.length ∧ manyAt s i ≤ i + 1 ∧ 0 < manyAt s i := by unfold manyAt; omega
      have e1 := p29 hd hs hn (t := s.1.length - manyAt s i) (g := i + 1 - manyAt s i) (m := manyAt s i) (by omega) (by omega)
      rw [refS_step hd hs hn hi] at e1
      have hmi : min ((i : Int) + 1) (s.1.length : Int) = (manyAt s i : Int) := by unfold manyAt; omega
      generalize stepZ d s n i = z at *
      generalize manyAt s i = m at *
      have q1 : ((s.1.length - m : Nat) : Int) = (s.1.length : Int) - m := by omega
      have q2 : ((i + 1 - m : Nat) : Int) = (i : Int) + 1 - m := by omega
      rw [q1, q2] at e1
      have hle : (i : Int) + 1 ≤ n.1.length := by omega
      simp only [eT] at e1
      by_cases hz : z.1 ≤ z.2
      · have hz' : ¬ z.1 > z.2 := by omega
        simp (maxSteps := 2000000) (disch := first | omega | (simp; done) | (simp; omega)) [-getElem?_pos, -maxL, -minL, minL2, b28_0, eT, hi, hle, hmi, e1, hz, hz', wrap64]
      · have hz' : z.1 > z.2 := by omega
        simp (maxSteps := 2000000) (disch := first | omega | (simp; done) | (simp; omega)) [-getElem?_pos, -maxL, -minL, minL2, b28_0, eT, hi, hle, hmi, e1, hz, hz', wrap64]) (fun _ => by simp) (by
      have hle : ¬ (n.1.length : Int) + 1 ≤ n.1.length := by omega
      simp (maxSteps := 2000000) (disch := first | omega | (simp; done) | (simp; omega)) [-getElem?_pos, b28_0, eT, hle]) (by simp)
  rw [← List.range_eq_range'] at L
  unfold deepN
  refine run2_body (n.1.length + 1) rfl rfl rfl rfl rfl ?_
  cases hf : (List.range n.1.length).find? (fun j => !decide ((stepZ d s n j).1 ≤ (stepZ d s n j).2)) with
  | none => rw [hf] at L; simp [eT] at L; simp (maxSteps := 2000000) (disch := first | omega | (simp; done) | (simp; omega)) [-getElem?_pos, l28, eT, L]
  | some j => rw [hf] at L; simp [eT] at L; simp (maxSteps := 2000000) (disch := first | omega | (simp; done) | (simp; omega)) [-getElem?_pos, l28, eT, L]
theorem p20 {t : Thr} (hl : t.1.length ≤ 1000000000) : R 20 [.agg (eT t), .agg (eT t)] = some (B true) := by
  obtain ⟨ts, l, r⟩ := t
  have L := loop_all (s := fun i => { fr := [(2, .box (eT (ts, l, r))), (3, .box (eT (ts, l, r))), (5, I i)], tk := [] }) (f := evC2 R (ts.length + 1) b20_0) (n := ts.length) (X := (.exit 0, { fr := [(2, .box (eT (ts, l, r))), (3, .box (eT (ts, l, r))), (5, I ts.length), (31, B false)], tk := [] }))
    (fun i hi => by
      have h1 := turn_get hi
      simp only at hl
      generalize turn ts i = x at *
      simp (maxSteps := 2000000) (disch := first | omega | (simp; done) | (simp; omega)) [-getElem?_pos, b20_0, eT, h1, hi, wrap64]) (by simp (maxSteps := 2000000) (disch := first | omega | (simp; done) | (simp; omega)) [-getElem?_pos, b20_0, eT]) (by simp)
  simp [eT] at L
  refine run2_body (ts.length + 1) rfl rfl rfl rfl rfl ?_
  simp (maxSteps := 2000000) (disch := first | omega | (simp; done) | (simp; omega)) [-getElem?_pos, l20, eT, L]
theorem p15 {t : Thr} (hl : t.1.length ≤ 1000000000) : R 15 [.agg (eT t)] = some (.agg [.sl (some 0) 2 (eS2 t.1), I t.2.1, I t.2.2]) := by
  obtain ⟨ts, l, r⟩ := t
  simp only at hl
  refine run2_body 1 rfl rfl rfl rfl rfl ?_
  have hb : ts.length * 16 ≤ 140737488355328 := by omega
  simp (maxSteps := 2000000) (disch := first | omega | (simp; done) | (simp; omega)) [-getElem?_pos, l15, eT, hb]
theorem p13 (t : Thr) : R 13 [.agg (eT t)] = some (B (decide ((t.1.length : Int) > 65))) := by
  refine run2_body 1 rfl rfl rfl rfl rfl ?_
  simp (maxSteps := 2000000) (disch := first | omega | (simp; done) | (simp; omega)) [-getElem?_pos, l13, eT]
theorem flat_eS2 (l : List (Int × Int)) : flatE (eS2 l) = true := by simp [flatE, V.flat]
theorem p4 (hk : R 14 [] = some (B true)) (s n : Thr) (tooth groove many : Int) (d : Int × Int) : R 4 [.agg (eT s), .agg (eT n), .agg [I tooth, I groove, I many, I d.1, I d.2]] = some (B true) := by
  have e1 := p13 s
  have e2 := p13 n
  by_cases k1 : (s.1.length : Int) > 65
  · refine run2_body 1 rfl rfl rfl rfl rfl ?_
    simp (maxSteps := 2000000) (disch := first | omega | (simp; done) | (simp; omega)) [-getElem?_pos, l4, eT, e1, k1, hk]
  · by_cases k2 : (n.1.length : Int) > 65
    · refine run2_body 1 rfl rfl rfl rfl rfl ?_
      simp (maxSteps := 2000000) (disch := first | omega | (simp; done) | (simp; omega)) [-getElem?_pos, l4, eT, e1, e2, k1, k2, hk]
    · have c1 := p15 (t := s) (by omega)
      have c2 := p15 (t := n) (by omega)
      have s1 := p20 (t := s) (by omega)
      have s2 := p20 (t := n) (by omega)
      have e3 := p25 d s n tooth groove many
      have e4 := p26 d s n
      have e5 := p27 s n d
      unfold shiftE at e3
      unfold deepE at e4
      by_cases k0 : chkAll d [s, n] = 0
      · rw [if_neg (fun h => h k0)] at e3 e4
        obtain ⟨t1, t2, t3⟩ := chkAll_two k0
        have hs := chkT_ok t1
        have hn := chkT_ok t2
        have hd := dOk_iff.1 t3
        have e6 := p28 hd hs hn
        rw [k0] at e5
        generalize deepN d s n = dn at *
        have f1 := flat_eS2 s.1
        have f2 := flat_eS2 n.1
        have tests : placeB s n tooth groove many = false ∨ ((1 ≤ many ∧ many ≤ s.1.length ∧ many ≤ n.1.length) ∧ (0 ≤ tooth ∧ tooth ≤ s.1.length - many) ∧ (0 ≤ groove ∧ groove ≤ n.1.length - many)) := by
          cases hp : placeB s n tooth groove many with
          | false => exact .inl rfl
          | true =>
            unfold placeB at hp
            rw [decide_eq_true_eq] at hp
            right; omega
        have htot : ∀ {b : Bool}, placeB s n tooth groove many = b → (b = true ↔ ((1 ≤ many ∧ many ≤ s.1.length ∧ many ≤ n.1.length) ∧ (0 ≤ tooth ∧ tooth ≤ s.1.length - many) ∧ (0 ≤ groove ∧ groove ≤ n.1.length - many))) := fun {b} h => by
          rw [← h]
          unfold placeB
          rw [decide_eq_true_eq]
          omega
        by_cases j1 : many < 1
        · rw [show placeB s n tooth groove many = false from by cases h : placeB s n tooth groove many <;> have := htot h <;> simp at this ⊢; omega] at e3
          simp only [if_true] at e3
          refine run2_body 1 rfl rfl rfl rfl rfl ?_
          simp (maxSteps := 2000000) (disch := first | omega | (simp; done) | (simp; omega)) [-getElem?_pos, l4, eT, e1, e2, k1, k2, hk, c1, c2, s1, s2, e3, e4, e5, e6, f1, f2, j1]
        · by_cases j2 : many > s.1.length
          · rw [show placeB s n tooth groove many = false from by cases h : placeB s n tooth groove many <;> have := htot h <;> simp at this ⊢; omega] at e3
            simp only [if_true] at e3
            refine run2_body 1 rfl rfl rfl rfl rfl ?_
            simp (maxSteps := 2000000) (disch := first | omega | (simp; done) | (simp; omega)) [-getElem?_pos, l4, eT, e1, e2, k1, k2, hk, c1, c2, s1, s2, e3, e4, e5, e6, f1, f2, j1, j2]
          · by_cases j3 : many > n.1.length
            · rw [show placeB s n tooth groove many = false from by cases h : placeB s n tooth groove many <;> have := htot h <;> simp at this ⊢; omega] at e3
              simp only [if_true] at e3
              refine run2_body 1 rfl rfl rfl rfl rfl ?_
              simp (maxSteps := 2000000) (disch := first | omega | (simp; done) | (simp; omega)) [-getElem?_pos, l4, eT, e1, e2, k1, k2, hk, c1, c2, s1, s2, e3, e4, e5, e6, f1, f2, j1, j2, j3]
            · by_cases j4 : tooth < 0
              · rw [show placeB s n tooth groove many = false from by cases h : placeB s n tooth groove many <;> have := htot h <;> simp at this ⊢; omega] at e3
                simp only [if_true] at e3
                refine run2_body 1 rfl rfl rfl rfl rfl ?_
                simp (maxSteps := 2000000) (disch := first | omega | (simp; done) | (simp; omega)) [-getElem?_pos, l4, eT, e1, e2, k1, k2, hk, c1, c2, s1, s2, e3, e4, e5, e6, f1, f2, j1, j2, j3, j4]
              · by_cases j5 : tooth > s.1.length - many
                · rw [show placeB s n tooth groove many = false from by cases h : placeB s n tooth groove many <;> have := htot h <;> simp at this ⊢; omega] at e3
                  simp only [if_true] at e3
                  refine run2_body 1 rfl rfl rfl rfl rfl ?_
                  simp (maxSteps := 2000000) (disch := first | omega | (simp; done) | (simp; omega)) [-getElem?_pos, l4, eT, e1, e2, k1, k2, hk, c1, c2, s1, s2, e3, e4, e5, e6, f1, f2, j1, j2, j3, j4, j5, wrap64]
                · by_cases j6 : groove < 0
                  · rw [show placeB s n tooth groove many = false from by cases h : placeB s n tooth groove many <;> have := htot h <;> simp at this ⊢; omega] at e3
                    simp only [if_true] at e3
                    refine run2_body 1 rfl rfl rfl rfl rfl ?_
                    simp (maxSteps := 2000000) (disch := first | omega | (simp; done) | (simp; omega)) [-getElem?_pos, l4, eT, e1, e2, k1, k2, hk, c1, c2, s1, s2, e3, e4, e5, e6, f1, f2, j1, j2, j3, j4, j5, j6, wrap64]
                  · by_cases j7 : groove > n.1.length - many
                    · rw [show placeB s n tooth groove many = false from by cases h : placeB s n tooth groove many <;> have := htot h <;> simp at this ⊢; omega] at e3
                      simp only [if_true] at e3
                      refine run2_body 1 rfl rfl rfl rfl rfl ?_
                      simp (maxSteps := 2000000) (disch := first | omega | (simp; done) | (simp; omega)) [-getElem?_pos, l4, eT, e1, e2, k1, k2, hk, c1, c2, s1, s2, e3, e4, e5, e6, f1, f2, j1, j2, j3, j4, j5, j6, j7, wrap64]
                    · rw [show placeB s n tooth groove many = true from by cases h : placeB s n tooth groove many <;> have := htot h <;> simp at this ⊢; omega] at e3
                      simp only [Bool.true_eq_false, if_false] at e3
                      obtain ⟨m, rfl⟩ : ∃ m : Nat, many = m := ⟨many.toNat, by omega⟩
                      obtain ⟨t, rfl⟩ : ∃ t : Nat, tooth = t := ⟨tooth.toNat, by omega⟩
                      obtain ⟨g, rfl⟩ : ∃ g : Nat, groove = g := ⟨groove.toNat, by omega⟩
                      simp only [Int.toNat_natCast] at e3
                      have e7 := p29 hd hs hn (t := t) (g := g) (m := m) (by omega) (by omega)
                      rw [refS_shf hd hs hn (by omega) (by omega) (by omega)] at e7
                      unfold partS at e3
                      generalize shf (nds d s n (part s.1 t m) (part n.1 g m)) = z at *
                      refine run2_body 1 rfl rfl rfl rfl rfl ?_
                      by_cases hz : z.1 ≤ z.2
                      · have hz' : ¬ z.1 > z.2 := by omega
                        rw [if_pos hz] at e3
                        simp (maxSteps := 2000000) (disch := first | omega | (simp; done) | (simp; omega)) [-getElem?_pos, l4, eT, e1, e2, k1, k2, hk, c1, c2, s1, s2, e3, e4, e5, e6, e7, f1, f2, j1, j2, j3, j4, j5, j6, j7, hz, hz', wrap64]
                      · have hz' : z.1 > z.2 := by omega
                        rw [if_neg hz] at e3
                        simp (maxSteps := 2000000) (disch := first | omega | (simp; done) | (simp; omega)) [-getElem?_pos, l4, eT, e1, e2, k1, k2, hk, c1, c2, s1, s2, e3, e4, e5, e6, e7, f1, f2, j1, j2, j3, j4, j5, j6, j7, hz, hz', wrap64]
      · rw [if_pos k0] at e3 e4
        generalize chkAll d [s, n] = c at *
        have f1 := flat_eS2 s.1
        have f2 := flat_eS2 n.1
        refine run2_body 1 rfl rfl rfl rfl rfl ?_
        simp (maxSteps := 2000000) (disch := first | omega | (simp; done) | (simp; omega)) [-getElem?_pos, l4, eT, e1, e2, k1, k2, hk, c1, c2, s1, s2, e3, e4, e5, k0, f1, f2]
end Go.Lo

/- FitChecks. -/
namespace Go.Lo
open Go.Proofs
set_option linter.unusedSimpArgs false
set_option maxHeartbeats 8000000
theorem chkAll_1 (d : Int × Int) (t : Thr) : chkAll d [t] = if chkT t ≠ 0 then chkT t else if dOk d = true then 0 else 3 := by
  unfold chkAll
  by_cases h : chkT t = 0 <;> simp [h]
theorem p3_checks (hk : R 14 [] = some (B true)) (f : Frm) (t : Thr) (d : Int × Int) : R 3 [.agg (eF f), .agg (eT t), eS d] = some (B true) := by
  have e1 := p13 t
  by_cases k1 : (t.1.length : Int) > 65
  · refine run2_body 1 rfl rfl rfl rfl rfl ?_
    simp (maxSteps := 2000000) (disch := first | omega | (simp; done) | (simp; omega)) [-getElem?_pos, l3, eT, eF, e1, k1, hk]
  · have c1 := p15 (t := t) (by omega)
    have s1 := p20 (t := t) (by omega)
    have e3 := p17 f d t
    have e4 := p18 f d t
    have e5 := p16 t
    have e6 := p19 t
    have e7 := p21 f
    have e8 := p22 d
    have f1 := flat_eS2 t.1
    simp only [eF, eT] at e3 e4 e5 e6 e7
    by_cases b1 : frmB f = true
    · by_cases b2 : chkT t = 0
      · by_cases b3 : dOk d = true
        · have ho : opE f d [t] = 0 := by unfold opE; rw [if_pos b1, chkAll_1, if_neg (fun h => h b2), if_pos b3]
          obtain ⟨hf, hd, ht, _⟩ := opE_ok ho
          have h2 := hf.left
          have h3 := hf.right
          by_cases b4 : f.left + f.right = 0
          · have hsc : scE f d t = 7 := by unfold scE; rw [if_neg (fun h => h ho), if_pos b4]
            simp only [hsc] at e3 e4
            refine run2_body 1 rfl rfl rfl rfl rfl ?_
            simp (maxSteps := 2000000) (disch := first | omega | (simp; done) | (simp; omega)) [-getElem?_pos, l3, eT, eF, e1, k1, hk, c1, s1, e3, e4, e5, e6, e7, e8, f1, b1, b2, b3, b4, wrap64]
          · have hsc : scE f d t = 0 := by unfold scE; rw [if_neg (fun h => h ho), if_neg b4]
            have e9 := p23 hf b4 hd ht
            have e10 := p24 hf b4 hd ht
            simp only [hsc, if_true] at e3 e4
            simp only [eF, eT] at e9 e10
            have w1 := wrap64 (n := f.left + f.right) (by omega) (by omega)
            generalize screwV f d t = x at *
            generalize nutV f d t = y at *
            refine run2_body 1 rfl rfl rfl rfl rfl ?_
            simp (maxSteps := 2000000) (disch := first | omega | (simp; done) | (simp; omega)) [-getElem?_pos, l3, eT, eF, e1, k1, hk, c1, s1, e3, e4, e5, e6, e7, e8, e9, e10, f1, b1, b2, b3, b4, w1]
        · have hsc : scE f d t = 3 := by
            have ho : opE f d [t] = 3 := by unfold opE; rw [if_pos b1, chkAll_1, if_neg (fun h => h b2), if_neg b3]
            unfold scE; rw [ho, if_pos (by omega)]
          simp only [hsc] at e3 e4
          refine run2_body 1 rfl rfl rfl rfl rfl ?_
          simp (maxSteps := 2000000) (disch := first | omega | (simp; done) | (simp; omega)) [-getElem?_pos, l3, eT, eF, e1, k1, hk, c1, s1, e3, e4, e5, e6, e7, e8, f1, b1, b2, b3]
      · have hsc : scE f d t = chkT t := by
          have ho : opE f d [t] = chkT t := by unfold opE; rw [if_pos b1, chkAll_1, if_pos b2]
          unfold scE; rw [ho, if_pos b2]
        simp only [hsc, if_neg b2] at e3 e4
        generalize chkT t = c at *
        refine run2_body 1 rfl rfl rfl rfl rfl ?_
        simp (maxSteps := 2000000) (disch := first | omega | (simp; done) | (simp; omega)) [-getElem?_pos, l3, eT, eF, e1, k1, hk, c1, s1, e3, e4, e5, e6, e7, e8, f1, b1, b2]
    · have hsc : scE f d t = 2 := by
        have ho : opE f d [t] = 2 := by unfold opE; rw [if_neg b1]
        unfold scE; rw [ho, if_pos (by omega)]
      simp only [hsc] at e3 e4
      generalize chkT t = c at *
      refine run2_body 1 rfl rfl rfl rfl rfl ?_
      simp (maxSteps := 2000000) (disch := first | omega | (simp; done) | (simp; omega)) [-getElem?_pos, l3, eT, eF, e1, k1, hk, c1, s1, e3, e4, e5, e6, e7, e8, f1, b1]
end Go.Lo

/- Threads in small numbers. -/
namespace Go.Lo
open Go.Proofs
set_option linter.unusedSimpArgs false
set_option maxHeartbeats 8000000
structure Mad where
  p : Int
  l : Int
  r : Int
  off : List (Int × Int)
  lean : Int × Int
abbrev J (n : Int) : V := .int .i8 n
abbrev H (n : Int) : V := .int .u16 n
abbrev eOff (l : List (Int × Int)) : List (List V) := l.map fun x => [J x.1, J x.2]
abbrev eMad (m : Mad) : List V := [H m.p, H m.l, H m.r, S 2 (eOff m.off), J m.lean.1, J m.lean.2]
structure Mad.Ok (m : Mad) : Prop where
  p : 0 ≤ m.p ∧ m.p ≤ 65535
  l : 0 ≤ m.l ∧ m.l ≤ 65535
  r : 0 ≤ m.r ∧ m.r ≤ 65535
  off : ∀ x ∈ m.off, (-128 ≤ x.1 ∧ x.1 ≤ 127) ∧ (-128 ≤ x.2 ∧ x.2 ≤ 127)
  lean : (-128 ≤ m.lean.1 ∧ m.lean.1 ≤ 127) ∧ (-128 ≤ m.lean.2 ∧ m.lean.2 ≤ 127)
def madF (m : Mad) : Frm := ⟨2000 + m.p % 40000, 1 + m.l % 900, m.r % 900, 300, 300, 1, false, 0⟩
def madN (m : Mad) : Nat := max 1 (min 8 m.off.length)
theorem madF_num {m : Mad} (_h : m.Ok) : FNum (madF m) := by
  refine ⟨?_, ?_, ?_, ?_, ?_⟩ <;> simp only [madF] <;> omega
theorem p39 {m : Mad} (h : m.Ok) : R 39 [.agg (eMad m)] = some (.agg (eF (madF m))) := by
  have h1 := h.p
  have h2 := h.l
  have h3 := h.r
  have e1 := Int.tmod_eq_emod_of_nonneg (a := m.p) (b := 40000) (by omega)
  have e2 := Int.tmod_eq_emod_of_nonneg (a := m.l) (b := 900) (by omega)
  have e3 := Int.tmod_eq_emod_of_nonneg (a := m.r) (b := 900) (by omega)
  have w1 := wrap64 (n := m.p) (by omega) (by omega)
  have w2 := wrap64 (n := m.l) (by omega) (by omega)
  have w3 := wrap64 (n := m.r) (by omega) (by omega)
  have w4 := wrap64 (n := 2000 + m.p % 40000) (by omega) (by omega)
  have w5 := wrap64 (n := 1 + m.l % 900) (by omega) (by omega)
  unfold madF
  refine run2_body 1 rfl rfl rfl rfl rfl ?_
  simp (maxSteps := 2000000) (disch := first | omega | (simp; done) | (simp; omega)) [-getElem?_pos, l39, eMad, eF, e1, e2, e3, w1, w2, w3, w4, w5]
theorem p41 (m : Mad) : R 41 [.agg (eMad m)] = some (I (madN m)) := by
  refine run2_body 1 rfl rfl rfl rfl rfl ?_
  have e : ((madN m : Nat) : Int) = max 1 (min 8 (m.off.length : Int)) := by unfold madN; omega
  rw [e]
  simp (maxSteps := 2000000) (disch := first | omega | (simp; done) | (simp; omega)) [-getElem?_pos, -maxL, -minL, maxL2, minL2, l41, eMad]
def madD (a : Int × Int) : Int × Int := (min (20 * a.1) (20 * a.2), max (20 * a.1) (20 * a.2))
theorem madD_ok {a : Int × Int} (h : (-128 ≤ a.1 ∧ a.1 ≤ 127) ∧ (-128 ≤ a.2 ∧ a.2 ≤ 127)) : DOk (madD a) := by
  refine ⟨?_, ?_, ?_⟩ <;> simp only [madD] <;> omega
theorem p40 {a : Int × Int} (h : (-128 ≤ a.1 ∧ a.1 ≤ 127) ∧ (-128 ≤ a.2 ∧ a.2 ≤ 127)) : R 40 [.agg [J a.1, J a.2]] = some (eS (madD a)) := by
  have w1 := wrap64 (n := a.1) (by omega) (by omega)
  have w2 := wrap64 (n := a.2) (by omega) (by omega)
  have w3 := wrap64 (n := 20 * a.1) (by omega) (by omega)
  have w4 := wrap64 (n := 20 * a.2) (by omega) (by omega)
  unfold madD
  refine run2_body 1 rfl rfl rfl rfl rfl ?_
  simp (maxSteps := 2000000) (disch := first | omega | (simp; done) | (simp; omega)) [-getElem?_pos, -maxL, -minL, maxL2, minL2, l40, w1, w2, w3, w4]
end Go.Lo

/- Small numbers, as arguments. -/
namespace Go.Lo
open Go.Proofs
set_option linter.unusedSimpArgs false
abbrev arTy (n : Nat) (k : IntKind) : Ty := .arr n (.int k)
abbrev madTy : Ty := .st [.int .u16, .int .u16, .int .u16, .sl (arTy 2 .i8), arTy 2 .i8]
theorem can_k {k : IntKind} {x : List V} (h : HasC (.int k) x) : ∃ n, x = [.int k n] ∧ (Lit.int k n).wf = true := by
  simp only [HasC] at h
  exact h
theorem can_ar {k : IntKind} {n : Nat} {x : List V} (h : HasC (arTy n k) x) : ∃ xs : List Int, xs.length = n ∧ x = xs.map (fun x => .int k x) ∧ ∀ y ∈ xs, (Lit.int k y).wf = true := by
  obtain ⟨xs, h1, h2, h3⟩ := can_arr (v := .agg x) (k := k) (n := n) (by simp only [HasV]; exact ⟨x, rfl, h⟩)
  injection h2 with h2
  exact ⟨xs, h1, h2, h3⟩
theorem can_ar2 {k : IntKind} {x : List V} (h : HasC (arTy 2 k) x) : ∃ a b : Int, x = [.int k a, .int k b] ∧ (Lit.int k a).wf = true ∧ (Lit.int k b).wf = true := by
  obtain ⟨xs, h1, rfl, h3⟩ := can_ar h
  match xs, h1 with
  | [a, b], _ => exact ⟨a, b, rfl, h3 a (by simp), h3 b (by simp)⟩
theorem can_arV {k : IntKind} {n : Nat} {v : V} (h : HasV (arTy n k) v) : ∃ xs : List Int, xs.length = n ∧ v = .agg (xs.map fun x => .int k x) ∧ ∀ y ∈ xs, (Lit.int k y).wf = true := can_arr h
theorem can_arV2 {k : IntKind} {v : V} (h : HasV (arTy 2 k) v) : ∃ a b : Int, v = .agg [.int k a, .int k b] ∧ (Lit.int k a).wf = true ∧ (Lit.int k b).wf = true := by
  simp only [HasV] at h
  obtain ⟨cs, rfl, h⟩ := h
  obtain ⟨a, b, rfl, h1, h2⟩ := can_ar2 h
  exact ⟨a, b, rfl, h1, h2⟩
theorem can_mad {v : V} (h : HasV madTy v) : ∃ m : Mad, Rel (.agg (eMad m)) noT v ∧ m.Ok := by
  simp only [HasV] at h
  obtain ⟨cs, rfl, h⟩ := h
  obtain ⟨x1, r1, rfl, h1, h⟩ := h.inv
  obtain ⟨x2, r2, rfl, h2, h⟩ := h.inv
  obtain ⟨x3, r3, rfl, h3, h⟩ := h.inv
  obtain ⟨x4, r4, rfl, h4, h⟩ := h.inv
  obtain ⟨x5, r5, rfl, h5, h⟩ := h.inv
  rw [HasCs] at h
  subst h
  obtain ⟨p, rfl, wp⟩ := can_k h1
  obtain ⟨l, rfl, wl⟩ := can_k h2
  obtain ⟨r, rfl, wr⟩ := can_k h3
  obtain ⟨s, rfl⟩ := h4.sl1
  obtain ⟨a, b, rfl, wa, wb⟩ := can_ar2 h5
  obtain ⟨off, hl, hq⟩ := can_sl (E := fun x : Int × Int => [J x.1, J x.2]) (Q := fun x => (-128 ≤ x.1 ∧ x.1 ≤ 127) ∧ (-128 ≤ x.2 ∧ x.2 ≤ 127)) h4 fun x hx => by
    obtain ⟨a, b, rfl, wa, wb⟩ := can_ar2 hx
    exact ⟨(a, b), RelL.cons (rel_int _ _) (RelL.one (rel_int _ _)), wf_i8 wa, wf_i8 wb⟩
  refine ⟨⟨p, l, r, off, (a, b)⟩, ?_, ⟨wf_u16 wp, wf_u16 wl, wf_u16 wr, hq, wf_i8 wa, wf_i8 wb⟩⟩
  rw [Rel]
  refine ⟨_, rfl, RelL.cons (rel_int _ _) (RelL.cons (rel_int _ _) (RelL.cons (rel_int _ _) (RelL.cons ?_ (RelL.cons (rel_int _ _) (RelL.one (rel_int _ _))))))⟩
  exact hl
theorem rel_ar (k : IntKind) (xs : List Int) : Rel (.agg (xs.map fun x => .int k x)) noT (.agg (xs.map fun x => .int k x)) := rel_aggK k xs
end Go.Lo

/- Threads made of small numbers. -/
namespace Go.Lo
open Go.Proofs
set_option linter.unusedSimpArgs false
set_option maxHeartbeats 8000000
def offA (m : Mad) (i : Nat) : Int × Int := m.off.getD i (0, 0)
def madX (m : Mad) (size sg : Int) (i : Nat) : Int × Int := (i * (madF m).pitch - (madF m).pitch / 4 - size + sg * ((offA m i).1 + 128), i * (madF m).pitch + (madF m).pitch / 4 + size - sg * ((offA m i).2 + 128))
def madL (m : Mad) (size sg : Int) (n : Nat) : List (Int × Int) := (List.range n).map (madX m size sg)
def madT (m : Mad) (size sg : Int) : Thr := (madL m size sg (madN m), min (max ((madF m).left + m.lean.1.tdiv 4) 0) 3000, min (max ((madF m).right + m.lean.2.tdiv 4) 0) 3000)
theorem madF_bd {m : Mad} (_h : m.Ok) : (2000 ≤ (madF m).pitch ∧ (madF m).pitch ≤ 42000) ∧ (1 ≤ (madF m).left ∧ (madF m).left ≤ 900) ∧ (0 ≤ (madF m).right ∧ (madF m).right ≤ 900) := by
  simp only [madF]; omega
theorem offA_bd {m : Mad} (h : m.Ok) (i : Nat) : (-128 ≤ (offA m i).1 ∧ (offA m i).1 ≤ 127) ∧ (-128 ≤ (offA m i).2 ∧ (offA m i).2 ≤ 127) := by
  unfold offA
  by_cases hi : i < m.off.length
  · have : m.off.getD i (0, 0) = m.off[i] := by simp [hi]
    rw [this]; exact h.off _ (List.getElem_mem hi)
  · have : m.off.getD i (0, 0) = (0, 0) := by simp [hi]
    rw [this]; simp
theorem p42 {m : Mad} (h : m.Ok) {size sg : Int} (hs : -128 ≤ size ∧ size ≤ 127) (hg : sg = 1 ∨ sg = -1) : R 42 [.agg (eMad m), I size, I sg] = some (.agg [.sl (some 2000000) 2 (eS2 (madT m size sg).1), I (madT m size sg).2.1, I (madT m size sg).2.2]) := by
  have e1 := p39 h
  have e2 := p41 m
  have hn : madN m ≤ 8 := by unfold madN; omega
  obtain ⟨hP, hL, hR⟩ := madF_bd h
  have hl := h.lean
  have q1 := tdiv_le (n := m.lean.1) (k := 4) (by omega) 128 (by omega)
  have q2 := tdiv_le (n := m.lean.2) (k := 4) (by omega) 128 (by omega)
  have p4 := Int.tdiv_eq_ediv_of_nonneg (a := (madF m).pitch) (b := 4) (by omega)
  have L := loop_all (s := fun i => { fr := [(1, I size), (2, I sg), (3, .box (eMad m)), (6, .box [S 2 [], I 0, I 0]), (7, .box (eF (madF m))), (8, .box [.sl (some 2009700) 2 (eS2 (madL m size sg i)), I (madT m size sg).2.1, I (madT m size sg).2.2]), (9, I i)], tk := [] }) (f := evC2 R 9 b42_0) (n := madN m)
    (X := (.exit 0, { fr := [(1, I size), (2, I sg), (3, .box (eMad m)), (6, .box [S 2 [], I 0, I 0]), (7, .box (eF (madF m))), (8, .box [.sl (some 2009700) 2 (eS2 (madL m size sg (madN m))), I (madT m size sg).2.1, I (madT m size sg).2.2]), (9, I (madN m)), (38, B false)], tk := [] }))
    (fun i hi => by
      have hacc : madL m size sg (i + 1) = madL m size sg i ++ [madX m size sg i] := by unfold madL; rw [List.range_succ, List.map_append]; rfl
      have hl2 : (madL m size sg i).length ≤ 60 := by simp [madL]; omega
      rw [hacc]
      have ho := offA_bd h i
      have hx : madX m size sg i = (i * (madF m).pitch - (madF m).pitch / 4 - size + sg * ((offA m i).1 + 128), i * (madF m).pitch + (madF m).pitch / 4 + size - sg * ((offA m i).2 + 128)) := rfl
      have m1 := abs_mul (a := (i : Int)) (b := (madF m).pitch) (A := 8) (C := 42000) (by omega) (by omega)
      have m2 := abs_mul (a := sg) (b := (offA m i).1 + 128) (A := 1) (C := 300) (by omega) (by omega)
      have m3 := abs_mul (a := sg) (b := (offA m i).2 + 128) (A := 1) (C := 300) (by omega) (by omega)
      rw [hx]
      generalize madL m size sg i = l at *
      generalize (madT m size sg).2.1 = tl at *
      generalize (madT m size sg).2.2 = tr at *
      generalize hF : madF m = f at *
      simp only [eF, eMad] at e1 e2
      by_cases hi2 : i < m.off.length
      · have ha : m.off[i]? = some (offA m i) := by rw [List.getElem?_eq_getElem hi2]; simp [offA, hi2]
        generalize offA m i = o at *
        have w1 := wrap64 (n := (i : Int) * f.pitch) (by omega) (by omega)
        have w2 := wrap64 (n := sg * (o.1 + 128)) (by omega) (by omega)
        have w3 := wrap64 (n := sg * (o.2 + 128)) (by omega) (by omega)
        generalize hz1 : (i : Int) * f.pitch = z1 at *
        generalize hz2 : sg * (o.1 + 128) = z2 at *
        generalize hz3 : sg * (o.2 + 128) = z3 at *
        simp (maxSteps := 2000000) (disch := first | omega | (simp; done) | (simp; omega)) [-getElem?_pos, b42_0, eF, eMad, e1, e2, hi, hi2, ha, p4, w1, w2, w3, hz1, hz2, hz3, wrap64]
      · have ha : offA m i = (0, 0) := by simp [offA, hi2]
        rw [ha] at m2 m3 ⊢
        simp only at m2 m3 ⊢
        have w1 := wrap64 (n := (i : Int) * f.pitch) (by omega) (by omega)
        have w2 := wrap64 (n := sg * 128) (by omega) (by omega)
        generalize hz1 : (i : Int) * f.pitch = z1 at *
        simp (maxSteps := 2000000) (disch := first | omega | (simp; done) | (simp; omega)) [-getElem?_pos, b42_0, eF, eMad, e1, e2, hi, hi2, p4, w1, w2, hz1, wrap64]) (by
      generalize madL m size sg (madN m) = l at *
      generalize (madT m size sg).2.1 = tl at *
      generalize (madT m size sg).2.2 = tr at *
      simp only [eF, eMad] at e1 e2
      simp (maxSteps := 2000000) (disch := first | omega | (simp; done) | (simp; omega)) [-getElem?_pos, b42_0, eF, eMad, e1, e2]) (by simp)
  have L := iter_le (f := evC2 R 9 b42_0) (fun _ _ h => h) (show madN m + 1 ≤ 9 by omega) L
  have h0 : madL m size sg 0 = [] := rfl
  simp only [h0] at L
  have t1 : (madT m size sg).2.1 = min (max ((madF m).left + m.lean.1.tdiv 4) 0) 3000 := rfl
  have t2 : (madT m size sg).2.2 = min (max ((madF m).right + m.lean.2.tdiv 4) 0) 3000 := rfl
  have t3 : (madT m size sg).1 = madL m size sg (madN m) := rfl
  rw [t3]
  rw [t1, t2] at L ⊢
  have w1 := wrap64 (n := m.lean.1) (by omega) (by omega)
  have w2 := wrap64 (n := m.lean.2) (by omega) (by omega)
  generalize madL m size sg (madN m) = l at *
  generalize hq1 : m.lean.1.tdiv 4 = u1 at *
  generalize hq2 : m.lean.2.tdiv 4 = u2 at *
  generalize hF : madF m = f at *
  simp [eF, eMad] at L e1
  refine run2_body 9 rfl rfl rfl rfl rfl ?_
  simp (maxSteps := 2000000) (disch := first | omega | (simp; done) | (simp; omega)) [-getElem?_pos, -maxL, -minL, maxL2, minL2, l42, eF, eMad, e1, L, hq1, hq2, w1, w2, wrap64]
end Go.Lo

/- Threads made of small numbers are valid. -/
namespace Go.Lo
open Go.Proofs
set_option linter.unusedSimpArgs false
set_option maxHeartbeats 8000000
theorem madL_len (m : Mad) (size sg : Int) : (madT m size sg).1.length = madN m := by simp [madT, madL]
theorem madT_turn {m : Mad} {size sg : Int} {i : Nat} (hi : i < madN m) : turn (madT m size sg).1 i = madX m size sg i := by
  have : (madT m size sg).1[i]? = some (madX m size sg i) := by simp [madT, madL, hi]
  have h2 := turn_get (ts := (madT m size sg).1) (i := i) (by rw [madL_len]; exact hi)
  rw [this] at h2
  injection h2 with h2
  exact h2.symm
theorem madX_ok {m : Mad} (h : m.Ok) {size sg : Int} (hs : (sg = 1 ∧ size = 0) ∨ (sg = -1 ∧ -128 ≤ size ∧ size ≤ 127)) {i : Nat} (hi : i < madN m) :
    (-10000000 ≤ (madX m size sg i).1 ∧ (madX m size sg i).1 ≤ (madX m size sg i).2 ∧ (madX m size sg i).2 ≤ 10000000) ∧ (0 < i → (madX m size sg (i - 1)).2 ≤ (madX m size sg i).1) := by
  have hn : madN m ≤ 8 := by unfold madN; omega
  obtain ⟨hP, hL, hR⟩ := madF_bd h
  have o1 := offA_bd h i
  have o2 := offA_bd h (i - 1)
  have m1 := abs_mul (a := (i : Int)) (b := (madF m).pitch) (A := 8) (C := 42000) (by omega) (by omega)
  have m0 : 0 ≤ (i : Int) * (madF m).pitch := Int.mul_nonneg (by omega) (by omega)
  unfold madX
  simp only
  generalize hz : (i : Int) * (madF m).pitch = z at *
  generalize offA m i = a at *
  generalize offA m (i - 1) = b at *
  refine ⟨?_, fun h0 => ?_⟩
  · rcases hs with ⟨rfl, rfl⟩ | ⟨rfl, h1⟩ <;> omega
  · have hy : ((i - 1 : Nat) : Int) * (madF m).pitch = z - (madF m).pitch := by
      rw [← hz, show ((i - 1 : Nat) : Int) = (i : Int) - 1 by omega, Int.sub_mul, Int.one_mul]
    rw [hy]
    rcases hs with ⟨rfl, rfl⟩ | ⟨rfl, h1⟩ <;> omega
theorem chkT_made {m : Mad} (h : m.Ok) {size sg : Int} (hs : (sg = 1 ∧ size = 0) ∨ (sg = -1 ∧ -128 ≤ size ∧ size ≤ 127)) : chkT (madT m size sg) = 0 := by
  have hn : madN m ≤ 8 := by unfold madN; omega
  have hn1 : 1 ≤ madN m := by unfold madN; omega
  have hl := madL_len m size sg
  have hne : (madT m size sg).1 ≠ [] := fun e => by rw [e] at hl; simp at hl; omega
  have hlean : leanB (madT m size sg).2.1 (madT m size sg).2.2 = true := by
    unfold leanB madT
    rw [decide_eq_true_eq]
    simp only
    omega
  have hall : (List.range (madT m size sg).1.length).all (turnB (madT m size sg).1) = true := by
    rw [List.all_eq_true]
    intro i hi
    rw [hl] at hi
    have hi := List.mem_range.1 hi
    have k := madX_ok h hs hi
    unfold turnB aftT
    rw [madT_turn hi, decide_eq_true_eq]
    by_cases h0 : i = 0
    · subst h0; simp only [if_true]; omega
    · rw [if_neg h0, madT_turn (by omega : i - 1 < madN m)]
      have := k.2 (by omega)
      omega
  unfold chkT
  rw [hlean, hall]
  have : ¬ 60 < (madT m size sg).1.length := by rw [hl]; omega
  simp [this, hne]
theorem frmB_made {m : Mad} (h : m.Ok) : frmB (madF m) = true := by
  obtain ⟨hP, hL, hR⟩ := madF_bd h
  unfold frmB frmN wid
  have e1 : (madF m).above = 300 := rfl
  have e2 : (madF m).below = 300 := rfl
  have e3 : (madF m).starts = 1 := rfl
  have e4 : (madF m).taper = 0 := rfl
  rw [e1, e2, e3, e4, Bool.and_eq_true, decide_eq_true_eq, decide_eq_true_eq]
  omega
end Go.Lo

/- Gauges: what is not greater goes in. -/
namespace Go.Lo
open Go.Proofs
set_option linter.unusedSimpArgs false
set_option maxHeartbeats 8000000
theorem shf_mem : ∀ {l : List (Int × Int)}, l ≠ [] → (∃ x ∈ l, (shf l).1 = x.1) ∧ ∃ y ∈ l, (shf l).2 = y.2 := by
  have key : ∀ (n : Nat) (l : List (Int × Int)), l.length = n → l ≠ [] → (∃ x ∈ l, (shf l).1 = x.1) ∧ ∃ y ∈ l, (shf l).2 = y.2 := by
    intro n
    induction n with
    | zero => intro l h1 h2; exact absurd (List.length_eq_zero_iff.1 h1) h2
    | succ n ih =>
      intro l h1 h2
      obtain ⟨q, x, rfl⟩ : ∃ q x, l = q ++ [x] := ⟨l.dropLast, l.getLast h2, (List.dropLast_concat_getLast h2).symm⟩
      rw [shf_snoc]
      by_cases hq : q = []
      · subst hq; simp
      · rw [if_neg hq]
        have hl : q.length = n := by simp at h1; exact h1
        obtain ⟨⟨a, a1, a2⟩, b, b1, b2⟩ := ih q hl hq
        refine ⟨?_, ?_⟩
        · by_cases h : (shf q).1 ≤ x.1
          · exact ⟨x, by simp, by simp only; omega⟩
          · exact ⟨a, by simp [a1], by simp only; omega⟩
        · by_cases h : (shf q).2 ≤ x.2
          · exact ⟨b, by simp [b1], by simp only; omega⟩
          · exact ⟨x, by simp, by simp only; omega⟩
  exact fun {l} h => key l.length l rfl h
theorem le_mx : ∀ {l : List Int} {x : Int}, x ∈ l → x ≤ mx l := by
  have key : ∀ (l : List Int) (a : Int), a ≤ l.foldl max a ∧ ∀ x ∈ l, x ≤ l.foldl max a := by
    intro l
    induction l with
    | nil => intro a; simp
    | cons y l ih =>
      intro a
      obtain ⟨h1, h2⟩ := ih (max a y)
      refine ⟨by simp only [List.foldl_cons]; omega, fun x hx => ?_⟩
      simp only [List.foldl_cons]
      rcases List.mem_cons.1 hx with rfl | hx
      · omega
      · exact h2 x hx
  intro l x hx
  cases l with
  | nil => cases hx
  | cons y l =>
    have := key l y
    rcases List.mem_cons.1 hx with rfl | hx
    · exact this.1
    · exact this.2 x hx
theorem mst_add (d : Int × Int) (a b : Int) : mst d (a + b) ≤ mst d a + mst d b := by
  unfold mst
  simp only [Int.mul_add]
  omega
theorem screw_le {S k c : Int} (hk : 0 < k) (h : -(-S / k) ≤ c) : S ≤ k * c := by
  have h1 := Int.ediv_mul_le (-S) (show k ≠ 0 by omega)
  have h2 : k * (-(-S / k)) ≤ k * c := Int.mul_le_mul_of_nonneg_left h (by omega)
  rw [Int.mul_neg, Int.mul_comm] at h2
  omega
theorem nut_ge {S k c : Int} (hk : 0 < k) (h : c ≤ S / k) : k * c ≤ S := by
  have h1 := Int.ediv_mul_le S (show k ≠ 0 by omega)
  have h2 : k * c ≤ k * (S / k) := Int.mul_le_mul_of_nonneg_left h (by omega)
  rw [Int.mul_comm k (S / k)] at h2
  omega
theorem goes_of {f : Frm} {d : Int × Int} {s n : Thr} (hs : TOk s) (hl : s.1.length = n.1.length) (h : sizeOf3 f d s 1 + sizeOf3 f d n (-1) ≤ 0) : goesB d s n = true := by
  have hp := hs.pos
  unfold goesB
  rw [decide_eq_true_eq]
  have hne : nds d s n s.1 n.1 ≠ [] := fun e => by
    have h0 := congrArg List.length e
    rw [List.length_zipWith, List.length_nil] at h0
    omega
  obtain ⟨⟨x, hx, ex⟩, y, hy, ey⟩ := shf_mem hne
  rw [ex, ey]
  obtain ⟨i, hi⟩ := List.getElem?_of_mem hx
  obtain ⟨j, hj⟩ := List.getElem?_of_mem hy
  have at_ : ∀ {k : Nat} {z : Int × Int}, (nds d s n s.1 n.1)[k]? = some z → k < s.1.length ∧ z = nd d (turn s.1 k) (turn n.1 k) s.2.1 s.2.2 n.2.1 n.2.2 := fun {k z} hz => by
    have hk : k < s.1.length := by
      have := (List.getElem?_eq_some_iff.1 hz).1
      simp at this; omega
    refine ⟨hk, ?_⟩
    have h1 := turn_get hk
    have h2 := turn_get (ts := n.1) (i := k) (by omega)
    rw [List.getElem?_zipWith, h1, h2] at hz
    injection hz with hz
    exact hz.symm
  obtain ⟨i1, rfl⟩ := at_ hi
  obtain ⟨j1, rfl⟩ := at_ hj
  have a1 := le_mx (l := lefts f s 1 s.1.length) (x := -1 * lf f s i) (List.mem_map.2 ⟨i, List.mem_range.2 i1, rfl⟩)
  have a2 := le_mx (l := lefts f n (-1) n.1.length) (x := - -1 * lf f n i) (List.mem_map.2 ⟨i, List.mem_range.2 (by omega), rfl⟩)
  have a3 := le_mx (l := rights f s 1 s.1.length) (x := 1 * rt f s j) (List.mem_map.2 ⟨j, List.mem_range.2 j1, rfl⟩)
  have a4 := le_mx (l := rights f n (-1) n.1.length) (x := -1 * rt f n j) (List.mem_map.2 ⟨j, List.mem_range.2 (by omega), rfl⟩)
  have b1 := mst_add d (-1 * (f.left - n.2.1)) (1 * (f.left - s.2.1))
  have b2 := mst_add d (-1 * (f.right - n.2.2)) (1 * (f.right - s.2.2))
  have c1 : -1 * (f.left - n.2.1) + 1 * (f.left - s.2.1) = n.2.1 - s.2.1 := by omega
  have c2 : -1 * (f.right - n.2.2) + 1 * (f.right - s.2.2) = n.2.2 - s.2.2 := by omega
  rw [c1] at b1
  rw [c2] at b2
  unfold sizeOf3 at h
  unfold nd
  simp only
  unfold lf at a1 a2
  unfold rt at a3 a4
  omega
theorem gauge {f : Frm} (hf : FNum f) (hz : ¬ f.left + f.right = 0) {d : Int × Int} {s n : Thr} (hs : TOk s) (hl : s.1.length = n.1.length) (h : screwV f d s ≤ nutV f d n) : goesB d s n = true := by
  have h2 := hf.left
  have h3 := hf.right
  have k1 := screw_le (S := sizeOf3 f d s 1) (k := 4 * (f.left + f.right)) (c := nutV f d n) (by omega) h
  have k2 := nut_ge (S := -sizeOf3 f d n (-1)) (k := 4 * (f.left + f.right)) (c := nutV f d n) (by omega) (Int.le_refl _)
  exact goes_of (f := f) hs hl (by omega)
end Go.Lo

/- Do they go together? By the laws' own helper. -/
namespace Go.Lo
open Go.Proofs
set_option linter.unusedSimpArgs false
set_option maxHeartbeats 8000000
theorem partS_all {d : Int × Int} {s n : Thr} (hl : s.1.length = n.1.length) : partS d s n 0 0 s.1.length = shf (nds d s n s.1 n.1) := by
  have q1 : part s.1 0 s.1.length = s.1 := by unfold part; simp
  have q2 : part n.1 0 s.1.length = n.1 := by unfold part; rw [hl]; simp
  unfold partS
  rw [q1, q2]
theorem p43_law {d : Int × Int} (hd : DOk d) {s n : Thr} (hs : chkT s = 0) (hn : chkT n = 0) (hl : s.1.length = n.1.length) : R 43 [.agg (eT s), .agg (eT n), eS d] = some (.tup [B (goesB d s n), B true]) := by
  have ts := chkT_ok hs
  have tn := chkT_ok hn
  have ls := ts.len
  have lp := ts.pos
  have c1 := p15 (t := s) (by omega)
  have c2 := p15 (t := n) (by omega)
  have e3 := p25 d s n 0 0 s.1.length
  have hall : chkAll d [s, n] = 0 := by rw [chkAll_2, hs, hn, dOk_iff.2 hd]; simp
  have hpl : placeB s n 0 0 s.1.length = true := by unfold placeB; rw [decide_eq_true_eq]; omega
  unfold shiftE at e3
  rw [if_neg (fun h => h hall), hpl] at e3
  simp only [Bool.true_eq_false, if_false, Int.toNat_natCast, Int.toNat_zero, partS_all hl] at e3
  have f1 := flat_eS2 s.1
  have f2 := flat_eS2 n.1
  unfold goesB
  generalize shf (nds d s n s.1 n.1) = z at *
  simp only [eT] at c1 c2 e3
  refine run2_body 1 rfl rfl rfl rfl rfl ?_
  by_cases hz : z.1 ≤ z.2
  · simp only [hz, if_true] at e3
    simp (maxSteps := 2000000) (disch := first | omega | (simp; done) | (simp; omega)) [-getElem?_pos, l43, eT, c1, c2, e3, f1, f2, hz]
  · simp only [hz, if_false] at e3
    simp (maxSteps := 2000000) (disch := first | omega | (simp; done) | (simp; omega)) [-getElem?_pos, l43, eT, c1, c2, e3, f1, f2, hz]
end Go.Lo

/- Goers for one screw and one nut. -/
namespace Go.Lo
open Go.Proofs
set_option linter.unusedSimpArgs false
set_option maxHeartbeats 8000000
theorem p38_1 {d : Int × Int} (hd : DOk d) {s n : Thr} (hs : chkT s = 0) (hn : chkT n = 0) (hl : s.1.length = n.1.length) : R 38 [S 3 [eT s], S 3 [eT n], eS d] = some (.tup [.sl (some 2000000) 2 (if goesB d s n = true then [[I 0, I 0]] else []), I 0]) := by
  have ts := chkT_ok hs
  have tn := chkT_ok hn
  have ls := ts.len
  have lp := ts.pos
  have e1 := p65 d (l := [s, n]) (by simp)
  have hall : chkAll d [s, n] = 0 := by rw [chkAll_2, hs, hn, dOk_iff.2 hd]; simp
  rw [hall] at e1
  have e2 := p73 hd ts tn (by omega)
  obtain ⟨sts, sl, sr⟩ := s
  obtain ⟨nts, nl, nr⟩ := n
  simp only at hl ls lp
  have e3 : R 83 [S 1 [[S 3 [eT (sts, sl, sr)]], [S 3 [eT (nts, nl, nr)]]]] = some (.sl (some 2000000) 3 [eT (sts, sl, sr), eT (nts, nl, nr)]) := by
    rw [show R 83 = catF from funext fun _ => run2_told rfl]
    cases sts with
    | nil => simp at lp
    | cons a sts =>
      cases nts with
      | nil => simp at hl
      | cons b nts => rfl
  have h0 : (0 : Int) < nts.length := by omega
  have h1 := x_mlook (call := R) (bx := fun _ => none) (ex := []) (d := 0) (s := 0) (n := (nts.length : Int)) (by omega)
  have hlk : (-9223372036854775808 : Int) ≤ (nts.length : Int) ∧ (nts.length : Int) ≤ 9223372036854775807 := by omega
  have hll : (sts.length : Int) = (nts.length : Int) := by omega
  simp only [eT, List.map_cons, List.map_nil] at e1 e2 e3 ⊢
  generalize goesB d (sts, sl, sr) (nts, nl, nr) = g at *
  have hb : (eS2 nts).length = nts.length := by simp
  have ha : (eS2 sts).length = sts.length := by simp
  generalize eS2 sts = ea at *
  generalize eS2 nts = eb at *
  refine run2_body 5 rfl rfl rfl rfl rfl ?_
  have m1 : ∀ (bx : Nat → Option (List V)) ex d s, sem2 R bx ex d .mlook [.mref s, .int .i64 (nts.length : Int)] = mlG (nts.length : Int) (bx (s + 1000000)) := fun _ _ _ _ => x_mlook hlk
  have m2 : ∀ (bx : Nat → Option (List V)) ex d s t sz es, sem2 R bx ex d .mput [.mref s, .int .i64 (nts.length : Int), .sl t sz es] = mpG s (nts.length : Int) (.sl t sz es) (bx (s + 1000000)) := fun _ _ _ _ _ _ _ => x_mput hlk
  have L0 : iter (evC2 R 5 b38_0) 5 { fr := [(0, S 3 [[S 2 ea, I sl, I sr]]), (1, S 3 [[S 2 eb, I nl, I nr]]), (5, .box [I d.1, I d.2]), (6, .sl (some 2008300) 2 []), (9, .mref 33), (33, .mbox []), (34, S 3 [[S 2 eb, I nl, I nr]]), (35, I 1), (36, I 0)], tk := [] } =
      some (.exit 0, { fr := [(0, S 3 [[S 2 ea, I sl, I sr]]), (1, S 3 [[S 2 eb, I nl, I nr]]), (5, .box [I d.1, I d.2]), (6, .sl (some 2008300) 2 []), (9, .mref 33), (33, .mbox [I nts.length, .sl (some 2005200) 1 [[I 0]]]), (34, S 3 [[S 2 eb, I nl, I nr]]), (35, I 1), (36, I 1), (37, B false)], tk := [] }) := by
    rw [iter_succ]
    simp (maxSteps := 2000000) (disch := first | omega | (simp; done) | (simp; omega)) [-getElem?_pos, b38_0, m1, m2, mlG_some, lookM, setM, wellM, hb, wrap64]
    rw [iter_succ]
    simp (maxSteps := 2000000) (disch := first | omega | (simp; done) | (simp; omega)) [-getElem?_pos, b38_0]
  have L2 : iter (evC2 R 5 b38_2) 5 { fr := [(1, S 3 [[S 2 eb, I nl, I nr]]), (5, .box [I d.1, I d.2]), (6, .sl (some 2008300) 2 []), (9, .mref 33), (12, I 0), (13, .box [S 2 ea, I sl, I sr]), (33, .mbox [I nts.length, .sl (some 2005200) 1 [[I 0]]]), (54, S 3 [[S 2 ea, I sl, I sr]]), (55, I 1), (56, I 0), (65, .sl (some 2005200) 1 [[I 0]]), (66, I 1), (67, I 0)], tk := [] } =
      some (.exit 4, { fr := [(1, S 3 [[S 2 eb, I nl, I nr]]), (5, .box [I d.1, I d.2]), (6, .sl (some 2008300) 2 (if g = true then [[I 0, I 0]] else [])), (9, .mref 33), (12, I 0), (13, .box [S 2 ea, I sl, I sr]), (33, .mbox [I nts.length, .sl (some 2005200) 1 [[I 0]]]), (54, S 3 [[S 2 ea, I sl, I sr]]), (55, I 1), (56, I 0), (65, .sl (some 2005200) 1 [[I 0]]), (66, I 1), (67, I 1), (68, B false)], tk := [] }) := by
    rw [iter_succ]
    cases g
    · simp (maxSteps := 2000000) (disch := first | omega | (simp; done) | (simp; omega)) [-getElem?_pos, b38_2, e2, wrap64]
      rw [iter_succ]
      simp (maxSteps := 2000000) (disch := first | omega | (simp; done) | (simp; omega)) [-getElem?_pos, b38_2]
    · simp (maxSteps := 2000000) (disch := first | omega | (simp; done) | (simp; omega)) [-getElem?_pos, b38_2, e2, wrap64]
      rw [iter_succ]
      simp (maxSteps := 2000000) (disch := first | omega | (simp; done) | (simp; omega)) [-getElem?_pos, b38_2]
  have L1 : iter (evC2 R 5 b38_1) 5 { fr := [(1, S 3 [[S 2 eb, I nl, I nr]]), (5, .box [I d.1, I d.2]), (6, .sl (some 2008300) 2 []), (9, .mref 33), (33, .mbox [I nts.length, .sl (some 2005200) 1 [[I 0]]]), (54, S 3 [[S 2 ea, I sl, I sr]]), (55, I 1), (56, I 0)], tk := [] } =
      some (.exit 2, { fr := [(1, S 3 [[S 2 eb, I nl, I nr]]), (5, .box [I d.1, I d.2]), (6, .sl (some 2008300) 2 (if g = true then [[I 0, I 0]] else [])), (9, .mref 33), (33, .mbox [I nts.length, .sl (some 2005200) 1 [[I 0]]]), (54, S 3 [[S 2 ea, I sl, I sr]]), (55, I 1), (56, I 1), (57, B false)], tk := [] }) := by
    rw [iter_succ]
    simp (maxSteps := 2000000) (disch := first | omega | (simp; done) | (simp; omega)) [-getElem?_pos, b38_1, m1, mlG_some, lookM, setM, wellM, ha, hll, L2, wrap64]
    rw [iter_succ]
    simp (maxSteps := 2000000) (disch := first | omega | (simp; done) | (simp; omega)) [-getElem?_pos, b38_1]
  simp (maxSteps := 2000000) (disch := first | omega | (simp; done) | (simp; omega)) [-getElem?_pos, l38, e1, e3, L0, L1]
end Go.Lo

/- FitGauges. -/
namespace Go.Lo
open Go.Proofs
set_option linter.unusedSimpArgs false
set_option maxHeartbeats 8000000
def zz (k : Nat) : List (Int × Int) := List.replicate k (0, 0)
/-- The nut with as many turns. -/
def asMany (a b : Mad) : Mad := { p := a.p, l := a.l, r := a.r, off := (b.off ++ zz (madN a - b.off.length)).take (madN a), lean := b.lean }
theorem asMany_ok {a b : Mad} (ha : a.Ok) (hb : b.Ok) : (asMany a b).Ok := by
  refine ⟨ha.p, ha.l, ha.r, fun x hx => ?_, hb.lean⟩
  unfold asMany at hx
  have hx := List.mem_of_mem_take hx
  rcases List.mem_append.1 hx with h | h
  · exact hb.off x h
  · unfold zz at h
    have := (List.mem_replicate.1 h).2
    subst this; simp
theorem asMany_n (a b : Mad) : madN (asMany a b) = madN a := by
  have h1 : 1 ≤ madN a ∧ madN a ≤ 8 := by unfold madN; omega
  have h2 : (asMany a b).off.length = madN a := by
    unfold asMany zz
    simp only [List.length_take, List.length_append, List.length_replicate]
    omega
  have h3 : madN (asMany a b) = max 1 (min 8 (asMany a b).off.length) := rfl
  rw [h3, h2]; omega
theorem asMany_F (a b : Mad) : madF (asMany a b) = madF a := rfl
abbrev sG (a b : Mad) (f : Frm) (d : Int × Int) (o : V) (x : List (Nat × V)) : St :=
  { fr := [(3, .box (eMad a)), (4, .box [H a.p, H a.l, H a.r, o, J b.lean.1, J b.lean.2]), (7, .box (eF f)), (8, .box [I d.1, I d.2])] ++ x, tk := [] }
theorem loop8_0 (a b : Mad) (f : Frm) (d : Int × Int) : iter (evC2 R 9 b8_0) 9 (sG a b f d (S 2 (eOff b.off)) []) =
    some (.exit 0, sG a b f d (if b.off.length < madN a then .sl (some 3800) 2 (eOff (b.off ++ zz (madN a - b.off.length))) else S 2 (eOff b.off)) [(37, B false)]) := by
  have e1 := p41 a
  have hn : madN a ≤ 8 := by unfold madN; omega
  generalize madN a = n at *
  simp only [eMad] at e1
  by_cases h : b.off.length < n
  · rw [if_pos h]
    obtain ⟨k, hk⟩ : ∃ k, n - b.off.length = k + 1 := ⟨n - b.off.length - 1, by omega⟩
    have L := loop_all (s := fun i => sG a b f d (.sl (some 3800) 2 (eOff (b.off ++ zz (i + 1)))) []) (f := evC2 R 9 b8_0) (n := k)
      (X := (.exit 0, sG a b f d (.sl (some 3800) 2 (eOff (b.off ++ zz (k + 1)))) [(37, B false)])) (fun i hi => by
        have hz : eOff (b.off ++ zz (i + 1 + 1)) = eOff (b.off ++ zz (i + 1)) ++ [[J 0, J 0]] := by
          unfold zz
          rw [List.replicate_succ' (n := i + 1), ← List.append_assoc]; simp
        have hl : (eOff (b.off ++ zz (i + 1))).length = b.off.length + (i + 1) := by simp [zz]
        rw [hz]
        generalize eOff (b.off ++ zz (i + 1)) = l at *
        have hlt : ((b.off.length : Int) + (i + 1)) < n := by omega
        unfold sG
        simp (maxSteps := 2000000) (disch := first | omega | (simp; done) | (simp; omega)) [-getElem?_pos, b8_0, e1, hl, hlt, eMad]
        done) (by
        have hl : (eOff (b.off ++ zz (k + 1))).length = n := by simp [zz]; omega
        generalize eOff (b.off ++ zz (k + 1)) = l at *
        unfold sG
        simp (maxSteps := 2000000) (disch := first | omega | (simp; done) | (simp; omega)) [-getElem?_pos, b8_0, e1, hl, eMad]
        done) (by simp)
    rw [hk]
    have L := iter_le (f := evC2 R 9 b8_0) (fun _ _ h => h) (show k + 1 ≤ 8 by omega) L
    rw [iter_succ]
    have hz : eOff (b.off ++ zz (0 + 1)) = eOff b.off ++ [[J 0, J 0]] := by simp [zz]
    have hl : (eOff b.off).length = b.off.length := by simp
    rw [hz] at L
    generalize eOff (b.off ++ zz (k + 1)) = l2 at *
    generalize eOff b.off = l at *
    have hlt : (b.off.length : Int) < n := by omega
    unfold sG at L ⊢
    simp (maxSteps := 2000000) (disch := first | omega | (simp; done) | (simp; omega)) [-getElem?_pos, b8_0, e1, hl, hlt, h, eMad]
    exact L
  · rw [if_neg h]
    rw [iter_succ]
    have hl : (eOff b.off).length = b.off.length := by simp
    generalize eOff b.off = l at *
    have hlt : ¬ (b.off.length : Int) < n := by omega
    unfold sG
    simp (maxSteps := 2000000) (disch := first | omega | (simp; done) | (simp; omega)) [-getElem?_pos, b8_0, e1, hl, hlt, h, eMad]
theorem scE_made {m : Mad} (h : m.Ok) {d : Int × Int} (hd : DOk d) {t : Thr} (ht : chkT t = 0) : scE (madF m) d t = 0 := by
  obtain ⟨hP, hL, hR⟩ := madF_bd h
  have h1 : opE (madF m) d [t] = 0 := by
    unfold opE chkAll
    rw [if_pos (frmB_made h)]
    simp [ht, dOk_iff.2 hd]
  unfold scE
  rw [if_neg (fun x => x h1), if_neg (by omega)]
theorem p8_gauges (hk : R 14 [] = some (B true)) {a b : Mad} (ha : a.Ok) (hb : b.Ok) {at_ : Int × Int} (hat : (-128 ≤ at_.1 ∧ at_.1 ≤ 127) ∧ (-128 ≤ at_.2 ∧ at_.2 ≤ 127)) :
    R 8 [.agg (eMad a), .agg (eMad b), .agg [J at_.1, J at_.2]] = some (B true) := by
  have hN := asMany_ok ha hb
  have hd := madD_ok hat
  have hl := ha.lean
  have c1 := chkT_made ha (size := 0) (sg := 1) (.inl ⟨rfl, rfl⟩)
  have c2 := chkT_made hN (size := a.lean.1) (sg := -1) (.inr ⟨rfl, by omega⟩)
  have ll : (madT a 0 1).1.length = (madT (asMany a b) a.lean.1 (-1)).1.length := by rw [madL_len, madL_len, asMany_n]
  have lle : (madT a 0 1).1.length ≤ 60 := (chkT_ok c1).len
  have e1 := p39 ha
  have e2 := p40 hat
  have e3 := p41 a
  have e4 := p42 ha (size := 0) (sg := 1) (by omega) (.inl rfl)
  have e5 := p42 hN (size := a.lean.1) (sg := -1) (by omega) (.inr rfl)
  have e6 := p15 (t := madT a 0 1) (by omega)
  have e7 := p15 (t := madT (asMany a b) a.lean.1 (-1)) (by omega)
  have e8 := p17 (madF a) (madD at_) (madT a 0 1)
  have e9 := p18 (madF a) (madD at_) (madT (asMany a b) a.lean.1 (-1))
  rw [scE_made ha hd c1] at e8
  rw [scE_made ha hd c2] at e9
  have e10 := p43_law hd c1 c2 ll
  have e11 := p38_1 hd c1 c2 ll
  have hg : screwV (madF a) (madD at_) (madT a 0 1) ≤ nutV (madF a) (madD at_) (madT (asMany a b) a.lean.1 (-1)) → goesB (madD at_) (madT a 0 1) (madT (asMany a b) a.lean.1 (-1)) = true := fun h => by
    obtain ⟨hP, hL, hR⟩ := madF_bd ha
    exact gauge (madF_num ha) (by omega) (chkT_ok c1) ll h
  have f1 := flat_eS2 (madT a 0 1).1
  have f2 := flat_eS2 (madT (asMany a b) a.lean.1 (-1)).1
  have L := loop8_0 a b (madF a) (madD at_)
  have hcell : (asMany a b).off = (b.off ++ zz (madN a - b.off.length)).take (madN a) := rfl
  have hwr : IntKind.i64.wrap a.lean.1 = a.lean.1 := wrap64 (by omega) (by omega)
  have hoff : eMad (asMany a b) = [H a.p, H a.l, H a.r, S 2 ((eOff (b.off ++ zz (madN a - b.off.length))).take (madN a)), J b.lean.1, J b.lean.2] := by simp [asMany]
  rw [hoff] at e5
  have hlen : (eOff (b.off ++ zz (madN a - b.off.length))).length = b.off.length + (madN a - b.off.length) := by simp [zz]
  have hlen0 : (eOff b.off).length = b.off.length := by simp
  have hnot : ¬ b.off.length < madN a → eOff (b.off ++ zz (madN a - b.off.length)) = eOff b.off := fun h => by
    have : madN a - b.off.length = 0 := by omega
    rw [this]; simp [zz]
  have hn1 : 1 ≤ madN a := by unfold madN; omega
  have lm : 0 < (madT a 0 1).1.length := by rw [madL_len]; omega
  have ln : 0 < (madT (asMany a b) a.lean.1 (-1)).1.length := by omega
  clear hoff hcell
  generalize madT (asMany a b) a.lean.1 (-1) = N at *
  generalize madT a 0 1 = M at *
  generalize screwV (madF a) (madD at_) M = sv at *
  generalize nutV (madF a) (madD at_) N = nv at *
  generalize goesB (madD at_) M N = g at *
  generalize madF a = f at *
  generalize madD at_ = d at *
  generalize madN a = n at *
  obtain ⟨mts, ml, mr⟩ := M
  obtain ⟨nts, nl, nr⟩ := N
  unfold sG at L
  simp only [eT, eF, eMad, List.cons_append, List.nil_append, List.append_nil] at e1 e2 e3 e4 e5 e6 e7 e8 e9 e10 e11 f1 f2 L ⊢
  generalize eOff (b.off ++ zz (n - b.off.length)) = lo at *
  generalize eOff b.off = lb at *
  have hem : ∃ x l, eS2 mts = x :: l := by
    cases mts with
    | nil => simp at lm
    | cons x l => exact ⟨_, _, rfl⟩
  have hen : ∃ x l, eS2 nts = x :: l := by
    cases nts with
    | nil => simp at ln
    | cons x l => exact ⟨_, _, rfl⟩
  generalize eS2 mts = em at *
  generalize eS2 nts = en at *
  obtain ⟨x, em, rfl⟩ := hem
  obtain ⟨y, en, rfl⟩ := hen
  refine run2_body 9 rfl rfl rfl rfl rfl ?_
  by_cases hlt : b.off.length < n
  · rw [if_pos hlt] at L
    have hb1 : (0 : Int) ≤ n ∧ (n : Int) ≤ lo.length := by omega
    have hb2 : (n : Int) ≤ (b.off.length : Int) + ((n - b.off.length : Nat) : Int) := by omega
    by_cases hc : sv ≤ nv
    · have hg := hg hc
      subst hg
      simp (maxSteps := 2000000) (disch := first | omega | (simp; done) | (simp; omega)) [-getElem?_pos, l8, eMad, eF, eT, e1, e2, e3, e4, e5, e6, e7, e8, e9, e10, e11, f1, f2, L, hk, hc, hwr, hlen, hb2]
      done
    · cases g <;> simp (maxSteps := 2000000) (disch := first | omega | (simp; done) | (simp; omega)) [-getElem?_pos, l8, eMad, eF, eT, e1, e2, e3, e4, e5, e6, e7, e8, e9, e10, e11, f1, f2, L, hk, hc, hwr, hlen, hb2]
  · rw [if_neg hlt] at L
    have hnot := hnot hlt
    subst hnot
    have hb2 : (n : Int) ≤ b.off.length := by omega
    by_cases hc : sv ≤ nv
    · have hg := hg hc
      subst hg
      simp (maxSteps := 2000000) (disch := first | omega | (simp; done) | (simp; omega)) [-getElem?_pos, l8, eMad, eF, eT, e1, e2, e3, e4, e5, e6, e7, e8, e9, e10, e11, f1, f2, L, hk, hc, hwr, hlen0, hb2]
    · cases g <;> simp (maxSteps := 2000000) (disch := first | omega | (simp; done) | (simp; omega)) [-getElem?_pos, l8, eMad, eF, eT, e1, e2, e3, e4, e5, e6, e7, e8, e9, e10, e11, f1, f2, L, hk, hc, hwr, hlen0, hb2]
end Go.Lo

namespace Go.Lo
theorem laidOutFitGauges : laidOutB Go.Proofs.Try.prog = true := by kernel_rfl

end Go.Lo
namespace Go.Proofs.Ytgmgjibmjdhkhaa
open Go.Lo Go.ChangeShapes
set_option maxRecDepth 100000 in
theorem fitGauges_lifted (os : Os) (started : os.Started) (H : Type) (enc : TypeId × Value → H) :
    ReturnsInHanded {} Try.checked os 8 .any (Rows.fitGaugesSpec.pre6 enc Try.prog Try.f8 Rows.fitGaugesRow.domain false) (Rows.fitGaugesSpec.post enc Try.prog Try.f8 false true false false) := by
  refine returnsInHanded_of_change (C := Try.checked) (by kernel_rfl) started (by kernel_rfl) Try.func8
    (ChangeSpec.witness6 (enc := enc) (C := Try.checked) false ⟨#[], #[.agg #[.int .u16 0, .int .u16 0, .int .u16 0, .slice none 0 0, .int .i8 0, .int .i8 0], .agg #[.int .u16 0, .int .u16 0, .int .u16 0, .slice none 0 0, .int .i8 0, .int .i8 0], .agg #[.int .i8 0, .int .i8 0]], []⟩ 8 (by kernel_rfl) (by kernel_rfl) (by kernel_rfl) (by kernel_rfl)) ?_
  intro W base args ds gs before hval hW _ _
  refine law_contract laidOutFitGauges rfl (tb := 4) (by kernel_rfl) (by kernel_rfl) (d := 6) (tys := [madTy, madTy, arTy 2 .i8]) (by kernel_rfl) (fun t ht => ?_) (fun ds hds => ?_) (fun vs hvs => ?_) W base args ds gs before hval hW
  · have h : ∀ t ∈ Try.f8.params.toList, decide (Try.prog.readableRec t = true ∧ t < Try.prog.types.size) = true := by
      have : Try.f8.params.toList.all (fun t => decide (Try.prog.readableRec t = true ∧ t < Try.prog.types.size)) = true := by kernel_rfl
      exact List.all_eq_true.1 this
    exact of_decide_eq_true (h t ht)
  · have hp : Try.f8.params.size = 3 := by kernel_rfl
    rw [hp] at hds
    match ds, hds with
    | [d1, d2, d3], _ => exact ⟨rfl, rfl, rfl⟩
  · simp only [HasVs] at hvs
    obtain ⟨v1, u1, rfl, h1, v2, u2, rfl, h2, v3, u3, rfl, h3, rfl⟩ := hvs
    obtain ⟨a, r1, ha⟩ := can_mad h1
    obtain ⟨b, r2, hb⟩ := can_mad h2
    obtain ⟨x, y, rfl, wx, wy⟩ := can_arV2 h3
    exact (run_sound tabOk 8 _ _ (run2_true tabR (p8_gauges p14 ha hb (at_ := (x, y)) ⟨wf_i8 wx, wf_i8 wy⟩) (RelL.cons r1 (RelL.cons r2 (RelL.one (rel_ar .i8 [x, y])))))).2
theorem fitGauges_holds : Rows.FitGaugesSaid :=
  OpenClaim.holds_of_wide 8 Try.f8 rfl rfl rfl rfl rfl rfl rfl ⟨rfl, rfl, rfl, rfl, rfl⟩ rfl rfl rfl rfl rfl (by kernel_rfl) Try.func8 (by kernel_rfl)
    (of_decide_eq_true (by kernel_rfl)) (by unfold Func.isWrapper; rw [if_neg (by decide +kernel)]; exact ⟨rfl, rfl⟩)
    (fun os started H enc _ => fitGauges_lifted os started H enc)
end Go.Proofs.Ytgmgjibmjdhkhaa
#print axioms Go.Proofs.Ytgmgjibmjdhkhaa.fitGauges_holds
