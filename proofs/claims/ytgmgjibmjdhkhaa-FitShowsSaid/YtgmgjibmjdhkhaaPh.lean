/- The statement about shows is proved: the screw that any ring passes, the nut that any plug passes, and whether they go together, or the error, are what the document says; whatever the input. No condition. -/
import Derived.Test.YtgmgjibmjdhkhaaPg
import Derived.Test.YtgmgjibmjdhkhaaRows
import Derived.JoinedOf
import Derived.Seven
/- The law of shifts. -/
namespace Go.Lo
open Go.Proofs
set_option linter.unusedSimpArgs false
set_option maxHeartbeats 8000000
theorem part_all {ts : List (Int × Int)} {m : Nat} (h : m ≤ ts.length) : part ts (ts.length - m) m = ts.drop (ts.length - m) := by
  unfold part
  rw [List.take_of_length_le (by omega)]
theorem refS_shf {d : Int × Int} (hd : DOk d) {s n : Thr} (hs : TOk s) (hn : TOk n) {t g m : Nat} (h1 : t + m ≤ s.1.length) (h2 : g + m ≤ n.1.length) (hm : 0 < m) : refS d s n t g m = shf (nds d s n (part s.1 t m) (part n.1 g m)) := by
  unfold refS
  refine rfold_shf ?_ fun x hx => ?_
  · intro e
    have := congrArg List.length e
    simp [part_len h1, part_len h2] at this
    omega
  · have := nds_mem hd hs hn (ts := part s.1 t m) (gs := part n.1 g m) part_sub part_sub x hx
    omega
theorem refS_step {d : Int × Int} (hd : DOk d) {s n : Thr} (hs : TOk s) (hn : TOk n) {j : Nat} (hj : j < n.1.length) : refS d s n (s.1.length - manyAt s j) (j + 1 - manyAt s j) (manyAt s j) = stepZ d s n j := by
  have h0 := hs.pos
  have hm : manyAt s j ≤ s.1.length ∧ manyAt s j ≤ j + 1 ∧ 0 < manyAt s j := by unfold manyAt; omega
  rw [refS_shf hd hs hn (by omega) (by omega) hm.2.2, part_all hm.1]
  rfl
theorem p28 {d : Int × Int} (hd : DOk d) {s n : Thr} (hs : TOk s) (hn : TOk n) : R 28 [.agg (eT s), .agg (eT n), eS d] = some (I (deepN d s n)) := by
  have ls := hs.len
  have ln := hn.len
  have hp := hs.pos
  have L := loop_if (s := fun i => { fr := [(3, .box (eT s)), (4, .box (eT n)), (5, .box [I d.1, I d.2]), (7, I s.1.length), (8, I (i + 1 : Nat))], tk := [] }) (f := evC2 R (n.1.length + 1) b28_0) (n := n.1.length) (g := fun j => !decide ((stepZ d s n j).1 ≤ (stepZ d s n j).2)) (E := fun i => (.ret, { fr := [(6, I i)], tk := [] }))
    (X := (.exit 0, { fr := [(3, .box (eT s)), (4, .box (eT n)), (5, .box [I d.1, I d.2]), (7, I s.1.length), (8, I (n.1.length + 1 : Nat)), (18, B false)], tk := [] }))
    (fun i hi => by
      have hm : manyAt s i ≤ s.1.length ∧ manyAt s i ≤ i + 1 ∧ 0 < manyAt s i := by unfold manyAt; omega
      have e1 := p29 hd hs hn (t := s.1.length - manyAt s i) (g := i + 1 - manyAt s i) (m := manyAt s i) (by omega) (by omega)
      rw [refS_step hd hs hn hi] at e1
      have hmi : min ((i : Int) + 1) (s.1.length : Int) = (manyAt s i : Int) := by unfold manyAt; omega
      generalize stepZ d s n i = z at *
      generalize manyAt s i = m at *
      have q1 : ((s.1.length - m : Nat) : Int) = (s.1.length : Int) - m := by omega
      have q2 : ((i + 1 - m : Nat) : Int) = (i : Int) + 1 - m := by omega
      rw [q1, q2] at e1
      have hle : (i : Int) + 1 ≤ n.1.length := by omega
      simp only [eT] at e1
      by_cases hz : z.1 ≤ z.2
      · have hz' : ¬ z.1 > z.2 := by omega
        simp (maxSteps := 2000000) (disch := first | omega | (simp; done) | (simp; omega)) [-getElem?_pos, -maxL, -minL, minL2, b28_0, eT, hi, hle, hmi, e1, hz, hz', wrap64]
      · have hz' : z.1 > z.2 := by omega
        simp (maxSteps := 2000000) (disch := first | omega | (simp; done) | (simp; omega)) [-getElem?_pos, -maxL, -minL, minL2, b28_0, eT, hi, hle, hmi, e1, hz, hz', wrap64]) (fun _ => by simp) (by
      have hle : ¬ (n.1.length : Int) + 1 ≤ n.1.length := by omega
      simp (maxSteps := 2000000) (disch := first | omega | (simp; done) | (simp; omega)) [-getElem?_pos, b28_0, eT, hle]) (by simp)
  rw [← List.range_eq_range'] at L
  unfold deepN
  refine run2_body (n.1.length + 1) rfl rfl rfl rfl rfl ?_
  cases hf : (List.range n.1.length).find? (fun j => !decide ((stepZ d s n j).1 ≤ (stepZ d s n j).2)) with
  | none => rw [hf] at L; simp [eT] at L; simp (maxSteps := 2000000) (disch := first | omega | (simp; done) | (simp; omega)) [-getElem?_pos, l28, eT, L]
  | some j => rw [hf] at L; simp [eT] at L; simp (maxSteps := 2000000) (disch := first | omega | (simp; done) | (simp; omega)) [-getElem?_pos, l28, eT, L]
theorem p20 {t : Thr} (hl : t.1.length ≤ 1000000000) : R 20 [.agg (eT t), .agg (eT t)] = some (B true) := by
  obtain ⟨ts, l, r⟩ := t
  have L := loop_all (s := fun i => { fr := [(2, .box (eT (ts, l, r))), (3, .box (eT (ts, l, r))), (5, I i)], tk := [] }) (f := evC2 R (ts.length + 1) b20_0) (n := ts.length) (X := (.exit 0, { fr := [(2, .box (eT (ts, l, r))), (3, .box (eT (ts, l, r))), (5, I ts.length), (31, B false)], tk := [] }))
    (fun i hi => by
      have h1 := turn_get hi
      simp only at hl
      generalize turn ts i = x at *
      simp (maxSteps := 2000000) (disch := first | omega | (simp; done) | (simp; omega)) [-getElem?_pos, b20_0, eT, h1, hi, wrap64]) (by simp (maxSteps := 2000000) (disch := first | omega | (simp; done) | (simp; omega)) [-getElem?_pos, b20_0, eT]) (by simp)
  simp [eT] at L
  refine run2_body (ts.length + 1) rfl rfl rfl rfl rfl ?_
  simp (maxSteps := 2000000) (disch := first | omega | (simp; done) | (simp; omega)) [-getElem?_pos, l20, eT, L]
theorem p15 {t : Thr} (hl : t.1.length ≤ 1000000000) : R 15 [.agg (eT t)] = some (.agg [.sl (some 0) 2 (eS2 t.1), I t.2.1, I t.2.2]) := by
  obtain ⟨ts, l, r⟩ := t
  simp only at hl
  refine run2_body 1 rfl rfl rfl rfl rfl ?_
  have hb : ts.length * 16 ≤ 140737488355328 := by omega
  simp (maxSteps := 2000000) (disch := first | omega | (simp; done) | (simp; omega)) [-getElem?_pos, l15, eT, hb]
theorem p13 (t : Thr) : R 13 [.agg (eT t)] = some (B (decide ((t.1.length : Int) > 65))) := by
  refine run2_body 1 rfl rfl rfl rfl rfl ?_
  simp (maxSteps := 2000000) (disch := first | omega | (simp; done) | (simp; omega)) [-getElem?_pos, l13, eT]
theorem flat_eS2 (l : List (Int × Int)) : flatE (eS2 l) = true := by simp [flatE, V.flat]
theorem p4 (hk : R 14 [] = some (B true)) (s n : Thr) (tooth groove many : Int) (d : Int × Int) : R 4 [.agg (eT s), .agg (eT n), .agg [I tooth, I groove, I many, I d.1, I d.2]] = some (B true) := by
  have e1 := p13 s
  have e2 := p13 n
  by_cases k1 : (s.1.length : Int) > 65
  · refine run2_body 1 rfl rfl rfl rfl rfl ?_
    simp (maxSteps := 2000000) (disch := first | omega | (simp; done) | (simp; omega)) [-getElem?_pos, l4, eT, e1, k1, hk]
  · by_cases k2 : (n.1.length : Int) > 65
    · refine run2_body 1 rfl rfl rfl rfl rfl ?_
      simp (maxSteps := 2000000) (disch := first | omega | (simp; done) | (simp; omega)) [-getElem?_pos, l4, eT, e1, e2, k1, k2, hk]
    · have c1 := p15 (t := s) (by omega)
      have c2 := p15 (t := n) (by omega)
      have s1 := p20 (t := s) (by omega)
      have s2 := p20 (t := n) (by omega)
      have e3 := p25 d s n tooth groove many
      have e4 := p26 d s n
      have e5 := p27 s n d
      unfold shiftE at e3
      unfold deepE at e4
      by_cases k0 : chkAll d [s, n] = 0
      · rw [if_neg (fun h => h k0)] at e3 e4
        obtain ⟨t1, t2, t3⟩ := chkAll_two k0
        have hs := chkT_ok t1
        have hn := chkT_ok t2
        have hd := dOk_iff.1 t3
        have e6 := p28 hd hs hn
        rw [k0] at e5
        generalize deepN d s n = dn at *
        have f1 := flat_eS2 s.1
        have f2 := flat_eS2 n.1
        have tests : placeB s n tooth groove many = false ∨ ((1 ≤ many ∧ many ≤ s.1.length ∧ many ≤ n.1.length) ∧ (0 ≤ tooth ∧ tooth ≤ s.1.length - many) ∧ (0 ≤ groove ∧ groove ≤ n.1.length - many)) := by
          cases hp : placeB s n tooth groove many with
          | false => exact .inl rfl
          | true =>
            unfold placeB at hp
            rw [decide_eq_true_eq] at hp
            right; omega
        have htot : ∀ {b : Bool}, placeB s n tooth groove many = b → (b = true ↔ ((1 ≤ many ∧ many ≤ s.1.length ∧ many ≤ n.1.length) ∧ (0 ≤ tooth ∧ tooth ≤ s.1.length - many) ∧ (0 ≤ groove ∧ groove ≤ n.1.length - many))) := fun {b} h => by
          rw [← h]
          unfold placeB
          rw [decide_eq_true_eq]
          omega
        by_cases j1 : many < 1
        · rw [show placeB s n tooth groove many = false from by cases h : placeB s n tooth groove many <;> have := htot h <;> simp at this ⊢; omega] at e3
          simp only [if_true] at e3
          refine run2_body 1 rfl rfl rfl rfl rfl ?_
          simp (maxSteps := 2000000) (disch := first | omega | (simp; done) | (simp; omega)) [-getElem?_pos, l4, eT, e1, e2, k1, k2, hk, c1, c2, s1, s2, e3, e4, e5, e6, f1, f2, j1]
        · by_cases j2 : many > s.1.length
          · rw [show placeB s n tooth groove many = false from by cases h : placeB s n tooth groove many <;> have := htot h <;> simp at this ⊢; omega] at e3
            simp only [if_true] at e3
            refine run2_body 1 rfl rfl rfl rfl rfl ?_
            simp (maxSteps := 2000000) (disch := first | omega | (simp; done) | (simp; omega)) [-getElem?_pos, l4, eT, e1, e2, k1, k2, hk, c1, c2, s1, s2, e3, e4, e5, e6, f1, f2, j1, j2]
          · by_cases j3 : many > n.1.length
            · rw [show placeB s n tooth groove many = false from by cases h : placeB s n tooth groove many <;> have := htot h <;> simp at this ⊢; omega] at e3
              simp only [if_true] at e3
              refine run2_body 1 rfl rfl rfl rfl rfl ?_
              simp (maxSteps := 2000000) (disch := first | omega | (simp; done) | (simp; omega)) [-getElem?_pos, l4, eT, e1, e2, k1, k2, hk, c1, c2, s1, s2, e3, e4, e5, e6, f1, f2, j1, j2, j3]
            · by_cases j4 : tooth < 0
              · rw [show placeB s n tooth groove many = false from by cases h : placeB s n tooth groove many <;> have := htot h <;> simp at this ⊢; omega] at e3
                simp only [if_true] at e3
                refine run2_body 1 rfl rfl rfl rfl rfl ?_
                simp (maxSteps := 2000000) (disch := first | omega | (simp; done) | (simp; omega)) [-getElem?_pos, l4, eT, e1, e2, k1, k2, hk, c1, c2, s1, s2, e3, e4, e5, e6, f1, f2, j1, j2, j3, j4]
              · by_cases j5 : tooth > s.1.length - many
                · rw [show placeB s n tooth groove many = false from by cases h : placeB s n tooth groove many <;> have := htot h <;> simp at this ⊢; omega] at e3
                  simp only [if_true] at e3
                  refine run2_body 1 rfl rfl rfl rfl rfl ?_
                  simp (maxSteps := 2000000) (disch := first | omega | (simp; done) | (simp; omega)) [-getElem?_pos, l4, eT, e1, e2, k1, k2, hk, c1, c2, s1, s2, e3, e4, e5, e6, f1, f2, j1, j2, j3, j4, j5, wrap64]
                · by_cases j6 : groove < 0
                  · rw [show placeB s n tooth groove many = false from by cases h : placeB s n tooth groove many <;> have := htot h <;> simp at this ⊢; omega] at e3
                    simp only [if_true] at e3
                    refine run2_body 1 rfl rfl rfl rfl rfl ?_
                    simp (maxSteps := 2000000) (disch := first | omega | (simp; done) | (simp; omega)) [-getElem?_pos, l4, eT, e1, e2, k1, k2, hk, c1, c2, s1, s2, e3, e4, e5, e6, f1, f2, j1, j2, j3, j4, j5, j6, wrap64]
                  · by_cases j7 : groove > n.1.length - many
                    · rw [show placeB s n tooth groove many = false from by cases h : placeB s n tooth groove many <;> have := htot h <;> simp at this ⊢; omega] at e3
                      simp only [if_true] at e3
                      refine run2_body 1 rfl rfl rfl rfl rfl ?_
                      simp (maxSteps := 2000000) (disch := first | omega | (simp; done) | (simp; omega)) [-getElem?_pos, l4, eT, e1, e2, k1, k2, hk, c1, c2, s1, s2, e3, e4, e5, e6, f1, f2, j1, j2, j3, j4, j5, j6, j7, wrap64]
                    · rw [show placeB s n tooth groove many = true from by cases h : placeB s n tooth groove many <;> have := htot h <;> simp at this ⊢; omega] at e3
                      simp only [Bool.true_eq_false, if_false] at e3
                      obtain ⟨m, rfl⟩ : ∃ m : Nat, many = m := ⟨many.toNat, by omega⟩
                      obtain ⟨t, rfl⟩ : ∃ t : Nat, tooth = t := ⟨tooth.toNat, by omega⟩
                      obtain ⟨g, rfl⟩ : ∃ g : Nat, groove = g := ⟨groove.toNat, by omega⟩
                      simp only [Int.toNat_natCast] at e3
                      have e7 := p29 hd hs hn (t := t) (g := g) (m := m) (by omega) (by omega)
                      rw [refS_shf hd hs hn (by omega) (by omega) (by omega)] at e7
                      unfold partS at e3
                      generalize shf (nds d s n (part s.1 t m) (part n.1 g m)) = z at *
                      refine run2_body 1 rfl rfl rfl rfl rfl ?_
                      by_cases hz : z.1 ≤ z.2
                      · have hz' : ¬ z.1 > z.2 := by omega
                        rw [if_pos hz] at e3
                        simp (maxSteps := 2000000) (disch := first | omega | (simp; done) | (simp; omega)) [-getElem?_pos, l4, eT, e1, e2, k1, k2, hk, c1, c2, s1, s2, e3, e4, e5, e6, e7, f1, f2, j1, j2, j3, j4, j5, j6, j7, hz, hz', wrap64]
                      · have hz' : z.1 > z.2 := by omega
                        rw [if_neg hz] at e3
                        simp (maxSteps := 2000000) (disch := first | omega | (simp; done) | (simp; omega)) [-getElem?_pos, l4, eT, e1, e2, k1, k2, hk, c1, c2, s1, s2, e3, e4, e5, e6, e7, f1, f2, j1, j2, j3, j4, j5, j6, j7, hz, hz', wrap64]
      · rw [if_pos k0] at e3 e4
        generalize chkAll d [s, n] = c at *
        have f1 := flat_eS2 s.1
        have f2 := flat_eS2 n.1
        refine run2_body 1 rfl rfl rfl rfl rfl ?_
        simp (maxSteps := 2000000) (disch := first | omega | (simp; done) | (simp; omega)) [-getElem?_pos, l4, eT, e1, e2, k1, k2, hk, c1, c2, s1, s2, e3, e4, e5, k0, f1, f2]
end Go.Lo

/- FitChecks. -/
namespace Go.Lo
open Go.Proofs
set_option linter.unusedSimpArgs false
set_option maxHeartbeats 8000000
theorem chkAll_1 (d : Int × Int) (t : Thr) : chkAll d [t] = if chkT t ≠ 0 then chkT t else if dOk d = true then 0 else 3 := by
  unfold chkAll
  by_cases h : chkT t = 0 <;> simp [h]
theorem p3_checks (hk : R 14 [] = some (B true)) (f : Frm) (t : Thr) (d : Int × Int) : R 3 [.agg (eF f), .agg (eT t), eS d] = some (B true) := by
  have e1 := p13 t
  by_cases k1 : (t.1.length : Int) > 65
  · refine run2_body 1 rfl rfl rfl rfl rfl ?_
    simp (maxSteps := 2000000) (disch := first | omega | (simp; done) | (simp; omega)) [-getElem?_pos, l3, eT, eF, e1, k1, hk]
  · have c1 := p15 (t := t) (by omega)
    have s1 := p20 (t := t) (by omega)
    have e3 := p17 f d t
    have e4 := p18 f d t
    have e5 := p16 t
    have e6 := p19 t
    have e7 := p21 f
    have e8 := p22 d
    have f1 := flat_eS2 t.1
    simp only [eF, eT] at e3 e4 e5 e6 e7
    by_cases b1 : frmB f = true
    · by_cases b2 : chkT t = 0
      · by_cases b3 : dOk d = true
        · have ho : opE f d [t] = 0 := by unfold opE; rw [if_pos b1, chkAll_1, if_neg (fun h => h b2), if_pos b3]
          obtain ⟨hf, hd, ht, _⟩ := opE_ok ho
          have h2 := hf.left
          have h3 := hf.right
          by_cases b4 : f.left + f.right = 0
          · have hsc : scE f d t = 7 := by unfold scE; rw [if_neg (fun h => h ho), if_pos b4]
            simp only [hsc] at e3 e4
            refine run2_body 1 rfl rfl rfl rfl rfl ?_
            simp (maxSteps := 2000000) (disch := first | omega | (simp; done) | (simp; omega)) [-getElem?_pos, l3, eT, eF, e1, k1, hk, c1, s1, e3, e4, e5, e6, e7, e8, f1, b1, b2, b3, b4, wrap64]
          · have hsc : scE f d t = 0 := by unfold scE; rw [if_neg (fun h => h ho), if_neg b4]
            have e9 := p23 hf b4 hd ht
            have e10 := p24 hf b4 hd ht
            simp only [hsc, if_true] at e3 e4
            simp only [eF, eT] at e9 e10
            have w1 := wrap64 (n := f.left + f.right) (by omega) (by omega)
            generalize screwV f d t = x at *
            generalize nutV f d t = y at *
            refine run2_body 1 rfl rfl rfl rfl rfl ?_
            simp (maxSteps := 2000000) (disch := first | omega | (simp; done) | (simp; omega)) [-getElem?_pos, l3, eT, eF, e1, k1, hk, c1, s1, e3, e4, e5, e6, e7, e8, e9, e10, f1, b1, b2, b3, b4, w1]
        · have hsc : scE f d t = 3 := by
            have ho : opE f d [t] = 3 := by unfold opE; rw [if_pos b1, chkAll_1, if_neg (fun h => h b2), if_neg b3]
            unfold scE; rw [ho, if_pos (by omega)]
          simp only [hsc] at e3 e4
          refine run2_body 1 rfl rfl rfl rfl rfl ?_
          simp (maxSteps := 2000000) (disch := first | omega | (simp; done) | (simp; omega)) [-getElem?_pos, l3, eT, eF, e1, k1, hk, c1, s1, e3, e4, e5, e6, e7, e8, f1, b1, b2, b3]
      · have hsc : scE f d t = chkT t := by
          have ho : opE f d [t] = chkT t := by unfold opE; rw [if_pos b1, chkAll_1, if_pos b2]
          unfold scE; rw [ho, if_pos b2]
        simp only [hsc, if_neg b2] at e3 e4
        generalize chkT t = c at *
        refine run2_body 1 rfl rfl rfl rfl rfl ?_
        simp (maxSteps := 2000000) (disch := first | omega | (simp; done) | (simp; omega)) [-getElem?_pos, l3, eT, eF, e1, k1, hk, c1, s1, e3, e4, e5, e6, e7, e8, f1, b1, b2]
    · have hsc : scE f d t = 2 := by
        have ho : opE f d [t] = 2 := by unfold opE; rw [if_neg b1]
        unfold scE; rw [ho, if_pos (by omega)]
      simp only [hsc] at e3 e4
      generalize chkT t = c at *
      refine run2_body 1 rfl rfl rfl rfl rfl ?_
      simp (maxSteps := 2000000) (disch := first | omega | (simp; done) | (simp; omega)) [-getElem?_pos, l3, eT, eF, e1, k1, hk, c1, s1, e3, e4, e5, e6, e7, e8, f1, b1]
end Go.Lo

/- FitShows. -/
namespace Go.Lo
open Go.Proofs
set_option linter.unusedSimpArgs false
set_option maxHeartbeats 8000000
theorem p75 {n k : Int} (hk : 0 < k) (hn : -4000000000000000000 ≤ n ∧ n ≤ 4000000000000000000) : R 75 [I n, I k] = some (I (n / k)) := by
  have h1 := tdiv_floor (n := n) hk
  have h2 := tdiv_le hk 4000000000000000000 hn
  have h3 := Int.tmod_add_mul_tdiv n k
  have h4 := Int.tmod_lt_of_pos n hk
  have h5 := Int.tmod_lt_of_pos (-n) hk
  rw [Int.neg_tmod] at h5
  have h0 : ¬ k = 0 := by omega
  have h7 : k ≤ 4000000000000000000 ∨ n.tdiv k = 0 := by
    by_cases h : k ≤ 4000000000000000000
    · exact .inl h
    · right
      by_cases hn0 : 0 ≤ n
      · rw [Int.tdiv_eq_ediv_of_nonneg hn0]; exact Int.ediv_eq_zero_of_lt hn0 (by omega)
      · have e : n = -(-n) := by omega
        rw [e, Int.neg_tdiv, Int.tdiv_eq_ediv_of_nonneg (by omega), Int.ediv_eq_zero_of_lt (by omega) (by omega)]; rfl
  have h6 : -8000000000000000000 ≤ n.tdiv k * k ∧ n.tdiv k * k ≤ 8000000000000000000 := by
    rw [Int.mul_comm]
    rcases h7 with h7 | h7
    · omega
    · rw [h7]; omega
  rw [← h1]
  have w := wrap64 (n := n.tdiv k) (by omega) (by omega)
  have w2 := wrap64 (n := n.tdiv k * k) (by omega) (by omega)
  rw [Int.mul_comm] at h3
  generalize hq : n.tdiv k = q at *
  generalize hr : n.tmod k = r at *
  generalize hz : q * k = z at *
  refine run2_body 1 rfl rfl rfl rfl rfl ?_
  by_cases c : r < 0
  · have c' : z > n := by omega
    simp (maxSteps := 2000000) (disch := first | omega | (simp; done) | (simp; omega)) [-getElem?_pos, l75, h0, hq, hz, w, w2, c, c', wrap64]
  · have c' : ¬ z > n := by omega
    simp (maxSteps := 2000000) (disch := first | omega | (simp; done) | (simp; omega)) [-getElem?_pos, l75, h0, hq, hz, w, w2, c, c', wrap64]
def nearT (f : Frm) (size : Int) (ins : Bool) (n : Nat) : Thr := if ins = true then ringT f size n else plugT f size n
def nearL (f : Frm) (size : Int) (ins : Bool) (n : Nat) : List (Int × Int) := (List.range n).map fun k => if ins = true then (upZ (idL f size k), dnZ (idR f size k)) else (dnZ (idL f size k), upZ (idR f size k))
theorem near_eq (f : Frm) (size : Int) (ins : Bool) (n : Nat) : nearT f size ins n = (nearL f size ins n, f.left, f.right) := by
  cases ins <;> rfl
theorem p32 {f : Frm} (hf : FNum f) {size : Int} (hs : -10000 ≤ size ∧ size ≤ 10000) {n : Nat} (hn : n ≤ 60) (ins : Bool) :
    R 32 [.agg (eF f), I size, I n, B ins] = some (.agg [.sl (some 2000000) 2 (eS2 (nearT f size ins n).1), I f.left, I f.right]) := by
  rw [near_eq]
  have L := loop_all (s := fun i => { fr := [(1, I size), (2, I n), (3, B ins), (4, .box (eF f)), (8, .box [S 2 [], I 0, I 0]), (9, .box [.sl (some 2005000) 2 (eS2 (nearL f size ins i)), I f.left, I f.right]), (10, I i)], tk := [] }) (f := evC2 R (n + 1) b32_0) (n := n)
    (X := (.exit 0, { fr := [(1, I size), (2, I n), (3, B ins), (4, .box (eF f)), (8, .box [S 2 [], I 0, I 0]), (9, .box [.sl (some 2005000) 2 (eS2 (nearL f size ins n)), I f.left, I f.right]), (10, I n), (21, B false)], tk := [] }))
    (fun k hk => by
      have hb := id_bd hf hs (k := k) (by omega)
      have i0 := p74 hf (c := size) (by omega) (k := k) (by omega) (y := 0) (by omega)
      have q1 : 4000 * (k : Int) * f.pitch - 1000 * f.pitch + 4 * (0 - size) * f.left = idL f size k := by
        unfold idL; rw [show 4 * (0 - size) = -(4 * size) by omega, Int.neg_mul]; omega
      have q2 : 4000 * (k : Int) * f.pitch + 1000 * f.pitch - 4 * (0 - size) * f.right = idR f size k := by
        unfold idR; rw [show 4 * (0 - size) = -(4 * size) by omega, Int.neg_mul]; omega
      rw [q1, q2] at i0
      have hl2 : (nearL f size ins k).length ≤ 60 := by simp [nearL]; omega
      have hacc : nearL f size ins (k + 1) = nearL f size ins k ++ [if ins = true then (upZ (idL f size k), dnZ (idR f size k)) else (dnZ (idL f size k), upZ (idR f size k))] := by unfold nearL; rw [List.range_succ, List.map_append]; rfl
      rw [hacc]
      generalize nearL f size ins k = l at *
      have hb1 := hb.2.1
      have hb2 := hb.2.2
      clear hb q1 q2
      generalize idL f size k = x at *
      generalize idR f size k = y at *
      have d1 := p75 (n := x) (k := 4000) (by omega) (by omega)
      have d2 := p75 (n := -x) (k := 4000) (by omega) (by omega)
      have d3 := p75 (n := y) (k := 4000) (by omega) (by omega)
      have d4 := p75 (n := -y) (k := 4000) (by omega) (by omega)
      have v1 := div_le (n := -x) (k := 4000) (by omega) 60000000000 (by omega)
      have v2 := div_le (n := -y) (k := 4000) (by omega) 60000000000 (by omega)
      unfold upZ dnZ
      generalize x / 4000 = x1 at *
      generalize -x / 4000 = x2 at *
      generalize y / 4000 = y1 at *
      generalize -y / 4000 = y2 at *
      simp only [eF] at i0
      cases ins
      · simp (maxSteps := 2000000) (disch := first | omega | (simp; done) | (simp; omega)) [-getElem?_pos, b32_0, eF, hk, i0, d1, d2, d3, d4, wrap64]
      · simp (maxSteps := 2000000) (disch := first | omega | (simp; done) | (simp; omega)) [-getElem?_pos, b32_0, eF, hk, i0, d1, d2, d3, d4, wrap64]) (by
      generalize nearL f size ins n = l at *
      simp (maxSteps := 2000000) (disch := first | omega | (simp; done) | (simp; omega)) [-getElem?_pos, b32_0, eF]) (by simp)
  have h0 : nearL f size ins 0 = [] := rfl
  simp only [h0] at L
  generalize nearL f size ins n = l at *
  refine run2_body (n + 1) rfl rfl rfl rfl rfl ?_
  simp [eF] at L
  simp (maxSteps := 2000000) (disch := first | omega | (simp; done) | (simp; omega)) [-getElem?_pos, l32, eF, L]
theorem p33 {d : Int × Int} (hd : DOk d) {a b : Thr} (ha : TOk a) (hb : TOk b) (hl : a.1.length = b.1.length) : R 33 [.agg (eT a), .agg (eT b), eS d] = some (B (goesB d a b)) := by
  have hp := ha.pos
  have e1 := p29 hd ha hb (t := 0) (g := 0) (m := a.1.length) (by omega) (by omega)
  rw [refS_shf hd ha hb (by omega) (by omega) (by omega)] at e1
  have q1 : part a.1 0 a.1.length = a.1 := by unfold part; simp
  have q2 : part b.1 0 a.1.length = b.1 := by unfold part; rw [hl]; simp
  rw [q1, q2] at e1
  unfold goesB
  generalize shf (nds d a b a.1 b.1) = z at *
  have hl' : ((a.1.length : Nat) : Int) = b.1.length := by rw [hl]
  simp only [eT, Int.natCast_zero] at e1
  refine run2_body 1 rfl rfl rfl rfl rfl ?_
  rw [hl'] at e1
  simp (maxSteps := 2000000) (disch := first | omega | (simp; done) | (simp; omega)) [-getElem?_pos, l33, eT, hl', hl, e1]
end Go.Lo

/- FitShows. -/
namespace Go.Lo
open Go.Proofs
set_option linter.unusedSimpArgs false
set_option maxHeartbeats 8000000
theorem p5_shows (hk : R 14 [] = some (B true)) (f : Frm) (ring plug turns : Int) (d : Int × Int) : R 5 [.agg (eF f), .agg [I ring, I plug, I turns, I d.1, I d.2]] = some (B true) := by
  have e1 := p30 f ring plug turns d
  have e2 := p21 f
  have i1 := p31 turns 1 60
  have i2 := p31 ring (-10000) 10000
  have i3 := p31 plug (-10000) 10000
  have i4 := p22 d
  have s0 : R 20 [.agg [S 2 [], I 0, I 0], .agg [S 2 [], I 0, I 0]] = some (B true) := p20 (t := t0) (by simp [t0])
  simp only [eF] at e1 e2
  unfold showE at e1
  by_cases b1 : frmB f = true
  · simp only [b1, Bool.true_eq_false, if_false] at e1
    unfold showOk at e1
    by_cases c2 : 1 ≤ turns ∧ turns ≤ 60
    · by_cases c3 : -10000 ≤ ring ∧ ring ≤ 10000
      · by_cases c4 : -10000 ≤ plug ∧ plug ≤ 10000
        · by_cases c5 : dOk d = true
          · simp only [c2, c3, c4, c5, and_self, decide_true, Bool.and_self, Bool.true_eq_false, if_false] at e1 i1 i2 i3
            have hf : FNum f := frmN_num (by unfold frmB at b1; simp only [Bool.and_eq_true] at b1; exact b1.1)
            have hd := dOk_iff.1 c5
            obtain ⟨n, rfl⟩ : ∃ n : Nat, turns = n := ⟨turns.toNat, by omega⟩
            rw [Int.toNat_natCast] at e1
            have n1 := p32 hf c3 (n := n) (by omega) true
            have n2 := p32 hf c4 (n := n) (by omega) false
            have u1 : nearT f ring true n = ringT f ring n := rfl
            have u2 : nearT f plug false n = plugT f plug n := rfl
            rw [u1] at n1
            rw [u2] at n2
            have l1 : (ringT f ring n).1.length = n := by simp [ringT, perfL]
            have l2 : (plugT f plug n).1.length = n := by simp [plugT, perfL]
            have k1 := p19 (ringT f ring n)
            have k2 := p19 (plugT f plug n)
            have m1 := p20 (t := ringT f ring n) (by omega)
            have m2 := p20 (t := plugT f plug n) (by omega)
            have hc : chkAll d [ringT f ring n, plugT f plug n] = if chkT (ringT f ring n) ≠ 0 then chkT (ringT f ring n) else if chkT (plugT f plug n) ≠ 0 then chkT (plugT f plug n) else 0 := by
              rw [chkAll_2, c5]; simp
            rw [hc] at e1
            have g1 : chkT (ringT f ring n) = 0 → chkT (plugT f plug n) = 0 → R 33 [.agg (eT (ringT f ring n)), .agg (eT (plugT f plug n)), eS d] = some (B (goesB d (ringT f ring n) (plugT f plug n))) := fun q1 q2 => p33 hd (chkT_ok q1) (chkT_ok q2) (by rw [l1, l2])
            have f1 := flat_eS2 (ringT f ring n).1
            have f2 := flat_eS2 (plugT f plug n).1
            have s1 : (ringT f ring n).2 = (f.left, f.right) := rfl
            have s2 : (plugT f plug n).2 = (f.left, f.right) := rfl
            clear hc u1 u2 l1 l2
            generalize goesB d (ringT f ring n) (plugT f plug n) = gb at *
            generalize ringT f ring n = ra at *
            generalize plugT f plug n = pa at *
            generalize chkT ra = x1 at *
            generalize chkT pa = x2 at *
            obtain ⟨ts, l, r⟩ := ra
            obtain ⟨us, l', r'⟩ := pa
            simp only [Prod.mk.injEq] at s1 s2
            obtain ⟨rfl, rfl⟩ := s1
            obtain ⟨rfl, rfl⟩ := s2
            simp only [eT, eF] at e1 n1 n2 k1 k2 m1 m2 g1 f1 f2
            by_cases y1 : x1 = 0
            · by_cases y2 : x2 = 0
              · have g1 := g1 y1 y2
                subst y1 y2
                try simp at e1
                refine run2_body 1 rfl rfl rfl rfl rfl ?_
                simp (maxSteps := 2000000) (disch := first | omega | (simp; done) | (simp; omega)) [-getElem?_pos, l5, eF, eT, e1, e2, i1, i2, i3, i4, n1, n2, k1, k2, m1, m2, g1, f1, f2, b1, c5, hk]
              · subst y1
                simp only [y2, if_false, if_true, ne_eq, not_true_eq_false, not_false_eq_true, t0] at e1
                try simp at e1
                refine run2_body 1 rfl rfl rfl rfl rfl ?_
                simp (maxSteps := 2000000) (disch := first | omega | (simp; done) | (simp; omega)) [-getElem?_pos, l5, eF, eT, e1, e2, i1, i2, i3, i4, n1, n2, k1, k2, s0, f1, f2, y2, b1, c5, hk]
            · simp only [y1, if_false, if_true, ne_eq, not_true_eq_false, not_false_eq_true, t0] at e1
              try simp at e1
              refine run2_body 1 rfl rfl rfl rfl rfl ?_
              simp (maxSteps := 2000000) (disch := first | omega | (simp; done) | (simp; omega)) [-getElem?_pos, l5, eF, eT, e1, e2, i1, i2, i3, i4, n1, n2, k1, k2, s0, f1, f2, y1, b1, c5, hk]
          · simp only [c2, c3, c4, c5, and_self, decide_true, Bool.and_self, Bool.and_false, if_true, t0] at e1 i1 i2 i3
            try simp at e1
            refine run2_body 1 rfl rfl rfl rfl rfl ?_
            simp (maxSteps := 2000000) (disch := first | omega | (simp; done) | (simp; omega)) [-getElem?_pos, l5, eF, eT, e1, e2, i1, i2, i3, i4, s0, b1, c5, hk]
        · simp only [c2, c3, c4, and_self, and_false, decide_true, decide_false, Bool.and_self, Bool.and_false, Bool.false_and, if_true, t0] at e1 i1 i2 i3
          try simp at e1
          refine run2_body 1 rfl rfl rfl rfl rfl ?_
          simp (maxSteps := 2000000) (disch := first | omega | (simp; done) | (simp; omega)) [-getElem?_pos, l5, eF, eT, e1, e2, i1, i2, i3, i4, s0, b1, hk]
      · simp only [c2, c3, and_self, false_and, decide_true, decide_false, Bool.and_self, Bool.and_false, Bool.false_and, if_true, t0] at e1 i1 i2
        try simp at e1
        refine run2_body 1 rfl rfl rfl rfl rfl ?_
        simp (maxSteps := 2000000) (disch := first | omega | (simp; done) | (simp; omega)) [-getElem?_pos, l5, eF, eT, e1, e2, i1, i2, s0, b1, hk]
    · simp only [c2, decide_false, Bool.false_and, if_true, t0] at e1 i1
      try simp at e1
      refine run2_body 1 rfl rfl rfl rfl rfl ?_
      simp (maxSteps := 2000000) (disch := first | omega | (simp; done) | (simp; omega)) [-getElem?_pos, l5, eF, eT, e1, e2, i1, s0, b1, hk]
  · simp only [b1, if_true, t0] at e1
    try simp at e1
    refine run2_body 1 rfl rfl rfl rfl rfl ?_
    simp (maxSteps := 2000000) (disch := first | omega | (simp; done) | (simp; omega)) [-getElem?_pos, l5, eF, eT, e1, e2, s0, b1, hk]
end Go.Lo

namespace Go.Lo
theorem laidOutFitShows : laidOutB Go.Proofs.Try.prog = true := by kernel_rfl
end Go.Lo
namespace Go.Proofs.Ytgmgjibmjdhkhaa
open Go.Lo Go.ChangeShapes
set_option maxRecDepth 100000 in
theorem fitShows_lifted (os : Os) (started : os.Started) (H : Type) (enc : TypeId × Value → H) :
    ReturnsInHanded {} Try.checked os 5 .any (Rows.fitShowsSpec.pre6 enc Try.prog Try.f5 Rows.fitShowsRow.domain false) (Rows.fitShowsSpec.post enc Try.prog Try.f5 false true false false) := by
  refine returnsInHanded_of_change (C := Try.checked) (by kernel_rfl) started (by kernel_rfl) Try.func5
    (ChangeSpec.witness6 (enc := enc) (C := Try.checked) false ⟨#[], #[.agg #[.int .i64 0, .int .i64 0, .int .i64 0, .int .i64 0, .int .i64 0, .int .i64 0, .bool false, .int .i64 0], .agg #[.int .i64 0, .int .i64 0, .int .i64 0, .int .i64 0, .int .i64 0]], []⟩ 8 (by kernel_rfl) (by kernel_rfl) (by kernel_rfl) (by kernel_rfl)) ?_
  intro W base args ds gs before hval hW _ _
  refine law_contract laidOutFitShows rfl (tb := 4) (by kernel_rfl) (by kernel_rfl) (d := 6) (tys := [frmTy, .st [.int .i64, .int .i64, .int .i64, spTy]]) (by kernel_rfl) (fun t ht => ?_) (fun ds hds => ?_) (fun vs hvs => ?_) W base args ds gs before hval hW
  · have h : ∀ t ∈ Try.f5.params.toList, decide (Try.prog.readableRec t = true ∧ t < Try.prog.types.size) = true := by
      have : Try.f5.params.toList.all (fun t => decide (Try.prog.readableRec t = true ∧ t < Try.prog.types.size)) = true := by kernel_rfl
      exact List.all_eq_true.1 this
    exact of_decide_eq_true (h t ht)
  · have hp : Try.f5.params.size = 2 := by kernel_rfl
    rw [hp] at hds
    match ds, hds with
    | [d1, d2], _ => exact ⟨rfl, rfl, rfl⟩
  · simp only [HasVs] at hvs
    obtain ⟨v1, u1, rfl, h1, v2, u2, rfl, h2, rfl⟩ := hvs
    obtain ⟨f, rfl⟩ := can_frm h1
    obtain ⟨a, b, c, d, rfl⟩ := can_at h2
    exact (run_sound tabOk 5 _ _ (run2_true tabR (p5_shows p14 f a b c d) (RelL.cons (rel_frm f) (RelL.one (rel_aggI [a, b, c, d.1, d.2]))))).2
theorem fitShows_holds : Rows.FitShowsSaid :=
  OpenClaim.holds_of_wide 5 Try.f5 rfl rfl rfl rfl rfl rfl rfl ⟨rfl, rfl, rfl, rfl, rfl⟩ rfl rfl rfl rfl rfl (by kernel_rfl) Try.func5 (by kernel_rfl)
    (of_decide_eq_true (by kernel_rfl)) (by unfold Func.isWrapper; rw [if_neg (by decide +kernel)]; exact ⟨rfl, rfl⟩)
    (fun os started H enc _ => fitShows_lifted os started H enc)
end Go.Proofs.Ytgmgjibmjdhkhaa
#print axioms Go.Proofs.Ytgmgjibmjdhkhaa.fitShows_holds
