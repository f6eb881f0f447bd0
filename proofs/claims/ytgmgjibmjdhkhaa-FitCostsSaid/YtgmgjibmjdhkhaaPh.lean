/- The statement about costs is proved: between which sizes screws within any rules lie, or the error, is what the document says; whatever the input. No condition. -/
import Derived.Test.YtgmgjibmjdhkhaaPg
import Derived.Test.YtgmgjibmjdhkhaaRows
import Derived.JoinedOf
import Derived.Seven
/- The law of shifts. -/
namespace Go.Lo
open Go.Proofs
set_option linter.unusedSimpArgs false
set_option maxHeartbeats 8000000
theorem part_all {ts : List (Int × Int)} {m : Nat} (h : m ≤ ts.length) : part ts (ts.length - m) m = ts.drop (ts.length - m) := by
  unfold part
  rw [List.take_of_length_le (by omega)]
theorem refS_shf {d : Int × Int} (hd : DOk d) {s n : Thr} (hs : TOk s) (hn : TOk n) {t g m : Nat} (h1 : t + m ≤ s.1.length) (h2 : g + m ≤ n.1.length) (hm : 0 < m) : refS d s n t g m = shf (nds d s n (part s.1 t m) (part n.1 g m)) := by
  unfold refS
  refine rfold_shf ?_ fun x hx => ?_
  · intro e
    have := congrArg List.length e
    simp [part_len h1, part_len h2] at this
    omega
  · have := nds_mem hd hs hn (ts := part s.1 t m) (gs := part n.1 g m) part_sub part_sub x hx
    omega
theorem refS_step {d : Int × Int} (hd : DOk d) {s n : Thr} (hs : TOk s) (hn : TOk n) {j : Nat} (hj : j < n.1.length) : refS d s n (s.1.length - manyAt s j) (j + 1 - manyAt s j) (manyAt s j) = stepZ d s n j := by
  have h0 := hs.pos
  have hm : manyAt s j ≤ s.1.length ∧ manyAt s j ≤ j + 1 ∧ 0 < manyAt s j := by unfold manyAt; omega
  rw [refS_shf hd hs hn (by omega) (by omega) hm.2.2, part_all hm.1]
  rfl
theorem p28 {d : Int × Int} (hd : DOk d) {s n : Thr} (hs : TOk s) (hn : TOk n) : R 28 [.agg (eT s), .agg (eT n), eS d] = some (I (deepN d s n)) := by
  have ls := hs.len
  have ln := hn.len
  have hp := hs.pos
  have L := loop_if (s := fun i => { fr := [(3, .box (eT s)), (4, .box (eT n)), (5, .box [I d.1, I d.2]), (7, I s.1.length), (8, I (i + 1 : Nat))], tk := [] }) (f := evC2 R (n.1.length + 1) b28_0) (n := n.1.length) (g := fun j => !decide ((stepZ d s n j).1 ≤ (stepZ d s n j).2)) (E := fun i => (.ret, { fr := [(6, I i)], tk := [] }))
    (X := (.exit 0, { fr := [(3, .box (eT s)), (4, .box (eT n)), (5, .box [I d.1, I d.2]), (7, I s.1.length), (8, I (n.1.length + 1 : Nat)), (18, B false)], tk := [] }))
    (fun i hi => by
      have hm : manyAt s i ≤ s.1.length ∧ manyAt s i ≤ i + 1 ∧ 0 < manyAt s i := by unfold manyAt; omega
      have e1 := p29 hd hs hn (t := s.1.length - manyAt s i) (g := i + 1 - manyAt s i) (m := manyAt s i) (by omega) (by omega)
      rw [refS_step hd hs hn hi] at e1
      have hmi : min ((i : Int) + 1) (s.1.length : Int) = (manyAt s i : Int) := by unfold manyAt; omega
      generalize stepZ d s n i = z at *
      generalize manyAt s i = m at *
      have q1 : ((s.1.length - m : Nat) : Int) = (s.1.length : Int) - m := by omega
      have q2 : ((i + 1 - m : Nat) : Int) = (i : Int) + 1 - m := by omega
      rw [q1, q2] at e1
      have hle : (i : Int) + 1 ≤ n.1.length := by omega
      simp only [eT] at e1
      by_cases hz : z.1 ≤ z.2
      · have hz' : ¬ z.1 > z.2 := by omega
        simp (maxSteps := 2000000) (disch := first | omega | (simp; done) | (simp; omega)) [-getElem?_pos, -maxL, -minL, minL2, b28_0, eT, hi, hle, hmi, e1, hz, hz', wrap64]
      · have hz' : z.1 > z.2 := by omega
        simp (maxSteps := 2000000) (disch := first | omega | (simp; done) | (simp; omega)) [-getElem?_pos, -maxL, -minL, minL2, b28_0, eT, hi, hle, hmi, e1, hz, hz', wrap64]) (fun _ => by simp) (by
      have hle : ¬ (n.1.length : Int) + 1 ≤ n.1.length := by omega
      simp (maxSteps := 2000000) (disch := first | omega | (simp; done) | (simp; omega)) [-getElem?_pos, b28_0, eT, hle]) (by simp)
  rw [← List.range_eq_range'] at L
  unfold deepN
  refine run2_body (n.1.length + 1) rfl rfl rfl rfl rfl ?_
  cases hf : (List.range n.1.length).find? (fun j => !decide ((stepZ d s n j).1 ≤ (stepZ d s n j).2)) with
  | none => rw [hf] at L; simp [eT] at L; simp (maxSteps := 2000000) (disch := first | omega | (simp; done) | (simp; omega)) [-getElem?_pos, l28, eT, L]
  | some j => rw [hf] at L; simp [eT] at L; simp (maxSteps := 2000000) (disch := first | omega | (simp; done) | (simp; omega)) [-getElem?_pos, l28, eT, L]
theorem p20 {t : Thr} (hl : t.1.length ≤ 1000000000) : R 20 [.agg (eT t), .agg (eT t)] = some (B true) := by
  obtain ⟨ts, l, r⟩ := t
  have L := loop_all (s := fun i => { fr := [(2, .box (eT (ts, l, r))), (3, .box (eT (ts, l, r))), (5, I i)], tk := [] }) (f := evC2 R (ts.length + 1) b20_0) (n := ts.length) (X := (.exit 0, { fr := [(2, .box (eT (ts, l, r))), (3, .box (eT (ts, l, r))), (5, I ts.length), (31, B false)], tk := [] }))
    (fun i hi => by
      have h1 := turn_get hi
      simp only at hl
      generalize turn ts i = x at *
      simp (maxSteps := 2000000) (disch := first | omega | (simp; done) | (simp; omega)) [-getElem?_pos, b20_0, eT, h1, hi, wrap64]) (by simp (maxSteps := 2000000) (disch := first | omega | (simp; done) | (simp; omega)) [-getElem?_pos, b20_0, eT]) (by simp)
  simp [eT] at L
  refine run2_body (ts.length + 1) rfl rfl rfl rfl rfl ?_
  simp (maxSteps := 2000000) (disch := first | omega | (simp; done) | (simp; omega)) [-getElem?_pos, l20, eT, L]
theorem p15 {t : Thr} (hl : t.1.length ≤ 1000000000) : R 15 [.agg (eT t)] = some (.agg [.sl (some 0) 2 (eS2 t.1), I t.2.1, I t.2.2]) := by
  obtain ⟨ts, l, r⟩ := t
  simp only at hl
  refine run2_body 1 rfl rfl rfl rfl rfl ?_
  have hb : ts.length * 16 ≤ 140737488355328 := by omega
  simp (maxSteps := 2000000) (disch := first | omega | (simp; done) | (simp; omega)) [-getElem?_pos, l15, eT, hb]
theorem p13 (t : Thr) : R 13 [.agg (eT t)] = some (B (decide ((t.1.length : Int) > 65))) := by
  refine run2_body 1 rfl rfl rfl rfl rfl ?_
  simp (maxSteps := 2000000) (disch := first | omega | (simp; done) | (simp; omega)) [-getElem?_pos, l13, eT]
theorem flat_eS2 (l : List (Int × Int)) : flatE (eS2 l) = true := by simp [flatE, V.flat]
theorem p4 (hk : R 14 [] = some (B true)) (s n : Thr) (tooth groove many : Int) (d : Int × Int) : R 4 [.agg (eT s), .agg (eT n), .agg [I tooth, I groove, I many, I d.1, I d.2]] = some (B true) := by
  have e1 := p13 s
  have e2 := p13 n
  by_cases k1 : (s.1.length : Int) > 65
  · refine run2_body 1 rfl rfl rfl rfl rfl ?_
    simp (maxSteps := 2000000) (disch := first | omega | (simp; done) | (simp; omega)) [-getElem?_pos, l4, eT, e1, k1, hk]
  · by_cases k2 : (n.1.length : Int) > 65
    · refine run2_body 1 rfl rfl rfl rfl rfl ?_
      simp (maxSteps := 2000000) (disch := first | omega | (simp; done) | (simp; omega)) [-getElem?_pos, l4, eT, e1, e2, k1, k2, hk]
    · have c1 := p15 (t := s) (by omega)
      have c2 := p15 (t := n) (by omega)
      have s1 := p20 (t := s) (by omega)
      have s2 := p20 (t := n) (by omega)
      have e3 := p25 d s n tooth groove many
      have e4 := p26 d s n
      have e5 := p27 s n d
      unfold shiftE at e3
      unfold deepE at e4
      by_cases k0 : chkAll d [s, n] = 0
      · rw [if_neg (fun h => h k0)] at e3 e4
        obtain ⟨t1, t2, t3⟩ := chkAll_two k0
        have hs := chkT_ok t1
        have hn := chkT_ok t2
        have hd := dOk_iff.1 t3
        have e6 := p28 hd hs hn
        rw [k0] at e5
        generalize deepN d s n = dn at *
        have f1 := flat_eS2 s.1
        have f2 := flat_eS2 n.1
        have tests : placeB s n tooth groove many = false ∨ ((1 ≤ many ∧ many ≤ s.1.length ∧ many ≤ n.1.length) ∧ (0 ≤ tooth ∧ tooth ≤ s.1.length - many) ∧ (0 ≤ groove ∧ groove ≤ n.1.length - many)) := by
          cases hp : placeB s n tooth groove many with
          | false => exact .inl rfl
          | true =>
            unfold placeB at hp
            rw [decide_eq_true_eq] at hp
            right; omega
        have htot : ∀ {b : Bool}, placeB s n tooth groove many = b → (b = true ↔ ((1 ≤ many ∧ many ≤ s.1.length ∧ many ≤ n.1.length) ∧ (0 ≤ tooth ∧ tooth ≤ s.1.length - many) ∧ (0 ≤ groove ∧ groove ≤ n.1.length - many))) := fun {b} h => by
          rw [← h]
          unfold placeB
          rw [decide_eq_true_eq]
          omega
        by_cases j1 : many < 1
        · rw [show placeB s n tooth groove many = false from by cases h : placeB s n tooth groove many <;> have := htot h <;> simp at this ⊢; omega] at e3
          simp only [if_true] at e3
          refine run2_body 1 rfl rfl rfl rfl rfl ?_
          simp (maxSteps := 2000000) (disch := first | omega | (simp; done) | (simp; omega)) [-getElem?_pos, l4, eT, e1, e2, k1, k2, hk, c1, c2, s1, s2, e3, e4, e5, e6, f1, f2, j1]
        · by_cases j2 : many > s.1.length
          · rw [show placeB s n tooth groove many = false from by cases h : placeB s n tooth groove many <;> have := htot h <;> simp at this ⊢; omega] at e3
            simp only [if_true] at e3
            refine run2_body 1 rfl rfl rfl rfl rfl ?_
            simp (maxSteps := 2000000) (disch := first | omega | (simp; done) | (simp; omega)) [-getElem?_pos, l4, eT, e1, e2, k1, k2, hk, c1, c2, s1, s2, e3, e4, e5, e6, f1, f2, j1, j2]
          · by_cases j3 : many > n.1.length
            · rw [show placeB s n tooth groove many = false from by cases h : placeB s n tooth groove many <;> have := htot h <;> simp at this ⊢; omega] at e3
              simp only [if_true] at e3
              refine run2_body 1 rfl rfl rfl rfl rfl ?_
              simp (maxSteps := 2000000) (disch := first | omega | (simp; done) | (simp; omega)) [-getElem?_pos, l4, eT, e1, e2, k1, k2, hk, c1, c2, s1, s2, e3, e4, e5, e6, f1, f2, j1, j2, j3]
            · by_cases j4 : tooth < 0
              · rw [show placeB s n tooth groove many = false from by cases h : placeB s n tooth groove many <;> have := htot h <;> simp at this ⊢; omega] at e3
                simp only [if_true] at e3
                refine run2_body 1 rfl rfl rfl rfl rfl ?_
                simp (maxSteps := 2000000) (disch := first | omega | (simp; done) | (simp; omega)) [-getElem?_pos, l4, eT, e1, e2, k1, k2, hk, c1, c2, s1, s2, e3, e4, e5, e6, f1, f2, j1, j2, j3, j4]
              · by_cases j5 : tooth > s.1.length - many
                · rw [show placeB s n tooth groove many = false from by cases h : placeB s n tooth groove many <;> have := htot h <;> simp at this ⊢; omega] at e3
                  simp only [if_true] at e3
                  refine run2_body 1 rfl rfl rfl rfl rfl ?_
                  simp (maxSteps := 2000000) (disch := first | omega | (simp; done) | (simp; omega)) [-getElem?_pos, l4, eT, e1, e2, k1, k2, hk, c1, c2, s1, s2, e3, e4, e5, e6, f1, f2, j1, j2, j3, j4, j5, wrap64]
                · by_cases j6 : groove < 0
                  · rw [show placeB s n tooth groove many = false from by cases h : placeB s n tooth groove many <;> have := htot h <;> simp at this ⊢; omega] at e3
                    simp only [if_true] at e3
                    refine run2_body 1 rfl rfl rfl rfl rfl ?_
                    simp (maxSteps := 2000000) (disch := first | omega | (simp; done) | (simp; omega)) [-getElem?_pos, l4, eT, e1, e2, k1, k2, hk, c1, c2, s1, s2, e3, e4, e5, e6, f1, f2, j1, j2, j3, j4, j5, j6, wrap64]
                  · by_cases j7 : groove > n.1.length - many
                    · rw [show placeB s n tooth groove many = false from by cases h : placeB s n tooth groove many <;> have := htot h <;> simp at this ⊢; omega] at e3
                      simp only [if_true] at e3
                      refine run2_body 1 rfl rfl rfl rfl rfl ?_
                      simp (maxSteps := 2000000) (disch := first | omega | (simp; done) | (simp; omega)) [-getElem?_pos, l4, eT, e1, e2, k1, k2, hk, c1, c2, s1, s2, e3, e4, e5, e6, f1, f2, j1, j2, j3, j4, j5, j6, j7, wrap64]
                    · rw [show placeB s n tooth groove many = true from by cases h : placeB s n tooth groove many <;> have := htot h <;> simp at this ⊢; omega] at e3
                      simp only [Bool.true_eq_false, if_false] at e3
                      obtain ⟨m, rfl⟩ : ∃ m : Nat, many = m := ⟨many.toNat, by omega⟩
                      obtain ⟨t, rfl⟩ : ∃ t : Nat, tooth = t := ⟨tooth.toNat, by omega⟩
                      obtain ⟨g, rfl⟩ : ∃ g : Nat, groove = g := ⟨groove.toNat, by omega⟩
                      simp only [Int.toNat_natCast] at e3
                      have e7 := p29 hd hs hn (t := t) (g := g) (m := m) (by omega) (by omega)
                      rw [refS_shf hd hs hn (by omega) (by omega) (by omega)] at e7
                      unfold partS at e3
                      generalize shf (nds d s n (part s.1 t m) (part n.1 g m)) = z at *
                      refine run2_body 1 rfl rfl rfl rfl rfl ?_
                      by_cases hz : z.1 ≤ z.2
                      · have hz' : ¬ z.1 > z.2 := by omega
                        rw [if_pos hz] at e3
                        simp (maxSteps := 2000000) (disch := first | omega | (simp; done) | (simp; omega)) [-getElem?_pos, l4, eT, e1, e2, k1, k2, hk, c1, c2, s1, s2, e3, e4, e5, e6, e7, f1, f2, j1, j2, j3, j4, j5, j6, j7, hz, hz', wrap64]
                      · have hz' : z.1 > z.2 := by omega
                        rw [if_neg hz] at e3
                        simp (maxSteps := 2000000) (disch := first | omega | (simp; done) | (simp; omega)) [-getElem?_pos, l4, eT, e1, e2, k1, k2, hk, c1, c2, s1, s2, e3, e4, e5, e6, e7, f1, f2, j1, j2, j3, j4, j5, j6, j7, hz, hz', wrap64]
      · rw [if_pos k0] at e3 e4
        generalize chkAll d [s, n] = c at *
        have f1 := flat_eS2 s.1
        have f2 := flat_eS2 n.1
        refine run2_body 1 rfl rfl rfl rfl rfl ?_
        simp (maxSteps := 2000000) (disch := first | omega | (simp; done) | (simp; omega)) [-getElem?_pos, l4, eT, e1, e2, k1, k2, hk, c1, c2, s1, s2, e3, e4, e5, k0, f1, f2]
end Go.Lo

/- FitChecks. -/
namespace Go.Lo
open Go.Proofs
set_option linter.unusedSimpArgs false
set_option maxHeartbeats 8000000
theorem chkAll_1 (d : Int × Int) (t : Thr) : chkAll d [t] = if chkT t ≠ 0 then chkT t else if dOk d = true then 0 else 3 := by
  unfold chkAll
  by_cases h : chkT t = 0 <;> simp [h]
theorem p3_checks (hk : R 14 [] = some (B true)) (f : Frm) (t : Thr) (d : Int × Int) : R 3 [.agg (eF f), .agg (eT t), eS d] = some (B true) := by
  have e1 := p13 t
  by_cases k1 : (t.1.length : Int) > 65
  · refine run2_body 1 rfl rfl rfl rfl rfl ?_
    simp (maxSteps := 2000000) (disch := first | omega | (simp; done) | (simp; omega)) [-getElem?_pos, l3, eT, eF, e1, k1, hk]
  · have c1 := p15 (t := t) (by omega)
    have s1 := p20 (t := t) (by omega)
    have e3 := p17 f d t
    have e4 := p18 f d t
    have e5 := p16 t
    have e6 := p19 t
    have e7 := p21 f
    have e8 := p22 d
    have f1 := flat_eS2 t.1
    simp only [eF, eT] at e3 e4 e5 e6 e7
    by_cases b1 : frmB f = true
    · by_cases b2 : chkT t = 0
      · by_cases b3 : dOk d = true
        · have ho : opE f d [t] = 0 := by unfold opE; rw [if_pos b1, chkAll_1, if_neg (fun h => h b2), if_pos b3]
          obtain ⟨hf, hd, ht, _⟩ := opE_ok ho
          have h2 := hf.left
          have h3 := hf.right
          by_cases b4 : f.left + f.right = 0
          · have hsc : scE f d t = 7 := by unfold scE; rw [if_neg (fun h => h ho), if_pos b4]
            simp only [hsc] at e3 e4
            refine run2_body 1 rfl rfl rfl rfl rfl ?_
            simp (maxSteps := 2000000) (disch := first | omega | (simp; done) | (simp; omega)) [-getElem?_pos, l3, eT, eF, e1, k1, hk, c1, s1, e3, e4, e5, e6, e7, e8, f1, b1, b2, b3, b4, wrap64]
          · have hsc : scE f d t = 0 := by unfold scE; rw [if_neg (fun h => h ho), if_neg b4]
            have e9 := p23 hf b4 hd ht
            have e10 := p24 hf b4 hd ht
            simp only [hsc, if_true] at e3 e4
            simp only [eF, eT] at e9 e10
            have w1 := wrap64 (n := f.left + f.right) (by omega) (by omega)
            generalize screwV f d t = x at *
            generalize nutV f d t = y at *
            refine run2_body 1 rfl rfl rfl rfl rfl ?_
            simp (maxSteps := 2000000) (disch := first | omega | (simp; done) | (simp; omega)) [-getElem?_pos, l3, eT, eF, e1, k1, hk, c1, s1, e3, e4, e5, e6, e7, e8, e9, e10, f1, b1, b2, b3, b4, w1]
        · have hsc : scE f d t = 3 := by
            have ho : opE f d [t] = 3 := by unfold opE; rw [if_pos b1, chkAll_1, if_neg (fun h => h b2), if_neg b3]
            unfold scE; rw [ho, if_pos (by omega)]
          simp only [hsc] at e3 e4
          refine run2_body 1 rfl rfl rfl rfl rfl ?_
          simp (maxSteps := 2000000) (disch := first | omega | (simp; done) | (simp; omega)) [-getElem?_pos, l3, eT, eF, e1, k1, hk, c1, s1, e3, e4, e5, e6, e7, e8, f1, b1, b2, b3]
      · have hsc : scE f d t = chkT t := by
          have ho : opE f d [t] = chkT t := by unfold opE; rw [if_pos b1, chkAll_1, if_pos b2]
          unfold scE; rw [ho, if_pos b2]
        simp only [hsc, if_neg b2] at e3 e4
        generalize chkT t = c at *
        refine run2_body 1 rfl rfl rfl rfl rfl ?_
        simp (maxSteps := 2000000) (disch := first | omega | (simp; done) | (simp; omega)) [-getElem?_pos, l3, eT, eF, e1, k1, hk, c1, s1, e3, e4, e5, e6, e7, e8, f1, b1, b2]
    · have hsc : scE f d t = 2 := by
        have ho : opE f d [t] = 2 := by unfold opE; rw [if_neg b1]
        unfold scE; rw [ho, if_pos (by omega)]
      simp only [hsc] at e3 e4
      generalize chkT t = c at *
      refine run2_body 1 rfl rfl rfl rfl rfl ?_
      simp (maxSteps := 2000000) (disch := first | omega | (simp; done) | (simp; omega)) [-getElem?_pos, l3, eT, eF, e1, k1, hk, c1, s1, e3, e4, e5, e6, e7, e8, f1, b1]
end Go.Lo

/- Cost, by the program. -/
namespace Go.Lo
open Go.Proofs
set_option linter.unusedSimpArgs false
set_option maxHeartbeats 8000000
structure Rul where
  step : Int × Int
  thick : Int × Int
  left : Int × Int
  right : Int × Int
abbrev eRu (r : Rul) : List V := [I r.step.1, I r.step.2, I r.thick.1, I r.thick.2, I r.left.1, I r.left.2, I r.right.1, I r.right.2]
structure RNum (r : Rul) : Prop where
  step : -1000 ≤ r.step.1 ∧ r.step.1 ≤ r.step.2 ∧ r.step.2 ≤ 1000
  thick : 0 ≤ r.thick.1 ∧ r.thick.1 ≤ r.thick.2 ∧ r.thick.2 ≤ 200000
  left : 0 ≤ r.left.1 ∧ r.left.1 ≤ r.left.2 ∧ r.left.2 ≤ 3000
  right : 0 ≤ r.right.1 ∧ r.right.1 ≤ r.right.2 ∧ r.right.2 ≤ 3000
def spB (s : Int × Int) (lo hi : Int) : Bool := decide (lo ≤ s.1 ∧ s.1 ≤ s.2 ∧ s.2 ≤ hi)
def rulB (r : Rul) : Bool := spB r.step (-1000) 1000 && spB r.thick 0 200000 && spB r.left 0 3000 && spB r.right 0 3000
theorem rulB_num {r : Rul} (h : rulB r = true) : RNum r := by
  unfold rulB spB at h
  simp only [Bool.and_eq_true, decide_eq_true_eq] at h
  exact ⟨h.1.1.1, h.1.1.2, h.1.2, h.2⟩
theorem p76 (r : Rul) : R 76 [.agg (eRu r)] = some (B (rulB r)) := by
  have e1 : R 94 [eS r.step, I (-1000), I 1000] = some (B (spB r.step (-1000) 1000)) := p94 r.step (-1000) 1000
  have e2 : R 94 [eS r.thick, I 0, I 200000] = some (B (spB r.thick 0 200000)) := p94 r.thick 0 200000
  have e3 : R 94 [eS r.left, I 0, I 3000] = some (B (spB r.left 0 3000)) := p94 r.left 0 3000
  have e4 : R 94 [eS r.right, I 0, I 3000] = some (B (spB r.right 0 3000)) := p94 r.right 0 3000
  unfold rulB
  generalize spB r.step (-1000) 1000 = b1 at *
  generalize spB r.thick 0 200000 = b2 at *
  generalize spB r.left 0 3000 = b3 at *
  generalize spB r.right 0 3000 = b4 at *
  refine run2_body 1 rfl rfl rfl rfl rfl ?_
  cases b1
  · simp (maxSteps := 2000000) (disch := first | omega | (simp; done) | (simp; omega)) [-getElem?_pos, l76, eRu, e1]
  · cases b2
    · simp (maxSteps := 2000000) (disch := first | omega | (simp; done) | (simp; omega)) [-getElem?_pos, l76, eRu, e1, e2]
    · cases b3 <;> simp (maxSteps := 2000000) (disch := first | omega | (simp; done) | (simp; omega)) [-getElem?_pos, l76, eRu, e1, e2, e3, e4]
theorem p34 (r : Rul) : R 34 [.agg (eRu r)] = some (B (rulB r)) := by
  have e1 : R 62 [eS r.step, I (-1000), I 1000] = some (B (spB r.step (-1000) 1000)) := p62 r.step (-1000) 1000
  have e2 : R 62 [eS r.thick, I 0, I 200000] = some (B (spB r.thick 0 200000)) := p62 r.thick 0 200000
  have e3 : R 62 [eS r.left, I 0, I 3000] = some (B (spB r.left 0 3000)) := p62 r.left 0 3000
  have e4 : R 62 [eS r.right, I 0, I 3000] = some (B (spB r.right 0 3000)) := p62 r.right 0 3000
  unfold rulB
  generalize spB r.step (-1000) 1000 = b1 at *
  generalize spB r.thick 0 200000 = b2 at *
  generalize spB r.left 0 3000 = b3 at *
  generalize spB r.right 0 3000 = b4 at *
  refine run2_body 1 rfl rfl rfl rfl rfl ?_
  cases b1
  · simp (maxSteps := 2000000) (disch := first | omega | (simp; done) | (simp; omega)) [-getElem?_pos, l34, eRu, e1]
  · cases b2
    · simp (maxSteps := 2000000) (disch := first | omega | (simp; done) | (simp; omega)) [-getElem?_pos, l34, eRu, e1, e2]
    · cases b3 <;> simp (maxSteps := 2000000) (disch := first | omega | (simp; done) | (simp; omega)) [-getElem?_pos, l34, eRu, e1, e2, e3, e4]
/-- The integer of a span that is nearest to another one. -/
def near1 (s : Int × Int) (to : Int) : Int := min (max to s.1) s.2
def endAt (s : Int × Int) (to : Int) (k : Nat) : Int := if k = 0 then s.1 else if k = 1 then s.2 else near1 s to
theorem endAt_in {s : Int × Int} (h : s.1 ≤ s.2) (to : Int) (k : Nat) : s.1 ≤ endAt s to k ∧ endAt s to k ≤ s.2 := by
  unfold endAt near1
  split
  · omega
  · split <;> omega
theorem p95_3 (a b c : Int) : R 95 [S 1 [[I a], [I b], [I c]]] = some (I (min (min a b) c)) := by
  have L : iter (evC2 R 4 b95_0) 4 { fr := [(0, S 1 [[I a], [I b], [I c]]), (3, I a), (4, I 1)], tk := [] } = some (.exit 0, { fr := [(0, S 1 [[I a], [I b], [I c]]), (3, I (min (min a b) c)), (4, I 3), (15, B false)], tk := [] }) := by
    rw [iter_succ]
    simp (maxSteps := 2000000) (disch := first | omega | (simp; done) | (simp; omega)) [-getElem?_pos, -minL, minL2, b95_0, wrap64]
    rw [iter_succ]
    simp (maxSteps := 2000000) (disch := first | omega | (simp; done) | (simp; omega)) [-getElem?_pos, -minL, minL2, b95_0, wrap64]
    rw [iter_succ]
    simp (maxSteps := 2000000) (disch := first | omega | (simp; done) | (simp; omega)) [-getElem?_pos, -minL, minL2, b95_0, wrap64]
  refine run2_body 4 rfl rfl rfl rfl rfl ?_
  simp (maxSteps := 2000000) (disch := first | omega | (simp; done) | (simp; omega)) [-getElem?_pos, l95, L]
/-- By how much a flank sticks out at least and at most. -/
def lng (d : Int × Int) (lean : Int) (s : Int × Int) : Int × Int :=
  (min (min (mst d (lean - s.1)) (mst d (lean - s.2))) (mst d (lean - near1 s lean)), max (max (mst d (lean - s.1)) (mst d (lean - s.2))) (mst d (lean - near1 s lean)))
theorem p77 {d : Int × Int} (hd : DOk d) {lean : Int} (hl : 0 ≤ lean ∧ lean ≤ 3000) {s : Int × Int} (hs : 0 ≤ s.1 ∧ s.1 ≤ s.2 ∧ s.2 ≤ 3000) : R 77 [eS d, I lean, eS s] = some (eS (lng d lean s)) := by
  have hn : 0 ≤ near1 s lean ∧ near1 s lean ≤ 3000 := by unfold near1; omega
  have e1 := p87 hd (b := lean - s.1) (by omega)
  have e2 := p87 hd (b := lean - s.2) (by omega)
  have e3 := p87 hd (b := lean - near1 s lean) (by omega)
  unfold lng
  have m1 := p95_3 (mst d (lean - s.1)) (mst d (lean - s.2)) (mst d (lean - near1 s lean))
  have m2 : R 88 [S 1 [[I (mst d (lean - s.1))], [I (mst d (lean - s.2))], [I (mst d (lean - near1 s lean))]]] = some (I (max (max (mst d (lean - s.1)) (mst d (lean - s.2))) (mst d (lean - near1 s lean)))) := p88 (l := [mst d (lean - s.1), mst d (lean - s.2), mst d (lean - near1 s lean)]) (by simp) (by simp)
  generalize mst d (lean - s.1) = x1 at *
  generalize mst d (lean - s.2) = x2 at *
  generalize mst d (lean - near1 s lean) = x3 at *
  have hnear : min (max lean s.1) s.2 = near1 s lean := rfl
  generalize near1 s lean = nr at *
  generalize min (min x1 x2) x3 = u1 at *
  generalize max (max x1 x2) x3 = u2 at *
  have L : iter (evC2 R 4 b77_0) 4 { fr := [(1, I lean), (3, .box [I d.1, I d.2]), (6, .box [I 0, I 0]), (7, .sl (some 2003200) 1 []), (21, .agg [I s.1, I s.2, I nr]), (22, I 0)], tk := [] } = some (.exit 0, { fr := [(1, I lean), (3, .box [I d.1, I d.2]), (6, .box [I 0, I 0]), (7, .sl (some 2003200) 1 [[I x1], [I x2], [I x3]]), (21, .agg [I s.1, I s.2, I nr]), (22, I 3), (23, B false)], tk := [] }) := by
    rw [iter_succ]
    simp (maxSteps := 2000000) (disch := first | omega | (simp; done) | (simp; omega)) [-getElem?_pos, b77_0, e1, wrap64]
    rw [iter_succ]
    simp (maxSteps := 2000000) (disch := first | omega | (simp; done) | (simp; omega)) [-getElem?_pos, b77_0, e2, wrap64]
    rw [iter_succ]
    simp (maxSteps := 2000000) (disch := first | omega | (simp; done) | (simp; omega)) [-getElem?_pos, b77_0, e3, wrap64]
    rw [iter_succ]
    simp (maxSteps := 2000000) (disch := first | omega | (simp; done) | (simp; omega)) [-getElem?_pos, b77_0, wrap64]
  refine run2_body 4 rfl rfl rfl rfl rfl ?_
  simp (maxSteps := 2000000) (disch := first | omega | (simp; done) | (simp; omega)) [-getElem?_pos, -maxL, -minL, maxL2, minL2, l77, hnear, L, m1, m2]
def drf (s : Int × Int) (n : Int) : Int × Int := (n * max 0 (max s.1 (-s.2)), n * max 0 (max s.2 (-s.1)))
theorem drf_bd {s : Int × Int} (hs : -1000 ≤ s.1 ∧ s.1 ≤ s.2 ∧ s.2 ≤ 1000) {n : Int} (hn : 0 ≤ n ∧ n ≤ 60) : (0 ≤ (drf s n).1 ∧ (drf s n).1 ≤ 60000) ∧ (0 ≤ (drf s n).2 ∧ (drf s n).2 ≤ 60000) := by
  unfold drf
  have m1 := abs_mul (a := n) (b := max 0 (max s.1 (-s.2))) (A := 60) (C := 1000) (by omega) (by omega)
  have m2 := abs_mul (a := n) (b := max 0 (max s.2 (-s.1))) (A := 60) (C := 1000) (by omega) (by omega)
  have p1 : 0 ≤ n * max 0 (max s.1 (-s.2)) := Int.mul_nonneg (by omega) (by omega)
  have p2 : 0 ≤ n * max 0 (max s.2 (-s.1)) := Int.mul_nonneg (by omega) (by omega)
  omega
theorem p78 {s : Int × Int} (hs : -1000 ≤ s.1 ∧ s.1 ≤ s.2 ∧ s.2 ≤ 1000) {n : Int} (hn : 0 ≤ n ∧ n ≤ 60) : R 78 [eS s, I n] = some (eS (drf s n)) := by
  have hb := drf_bd hs hn
  unfold drf at hb ⊢
  simp only at hb
  have w1 := wrap64 (n := n * max 0 (max s.1 (-s.2))) (by omega) (by omega)
  have w2 := wrap64 (n := n * max 0 (max s.2 (-s.1))) (by omega) (by omega)
  generalize hz1 : n * max 0 (max s.1 (-s.2)) = z1 at *
  generalize hz2 : n * max 0 (max s.2 (-s.1)) = z2 at *
  have v1 := wrap64 (n := -s.1) (by omega) (by omega)
  have v2 := wrap64 (n := -s.2) (by omega) (by omega)
  refine run2_body 1 rfl rfl rfl rfl rfl ?_
  simp (maxSteps := 2000000) (disch := first | omega | (simp; done) | (simp; omega)) [-getElem?_pos, -maxL, -minL, maxL2, minL2, maxL3, l78, w1, w2, hz1, hz2, v1, v2]
def costX (f : Frm) (d : Int × Int) (r : Rul) (n : Int) (pr : Int × Int → Int) : Int := 2000 * (pr r.thick + pr (drf r.step (n - 1))) - 1000 * f.pitch + 2 * (pr (lng d f.left r.left) + pr (lng d f.right r.right))
def costV (f : Frm) (d : Int × Int) (r : Rul) (n : Int) : Int × Int := (-(-costX f d r n (·.1) / (2 * (f.left + f.right))), -(-costX f d r n (·.2) / (2 * (f.left + f.right))))
theorem p80 (s : Int × Int) : R 80 [eS s] = some (I s.1) := by
  refine run2_body 1 rfl rfl rfl rfl rfl ?_
  simp (maxSteps := 2000000) (disch := first | omega | (simp; done) | (simp; omega)) [-getElem?_pos, l80]
theorem p81 (s : Int × Int) : R 81 [eS s] = some (I s.2) := by
  refine run2_body 1 rfl rfl rfl rfl rfl ?_
  simp (maxSteps := 2000000) (disch := first | omega | (simp; done) | (simp; omega)) [-getElem?_pos, l81]
theorem p79 {g : Nat} {pr : Int × Int → Int} (hg : ∀ s, R g [eS s] = some (I (pr s))) {f : Frm} (hf : FNum f) (hz : ¬ f.left + f.right = 0) (d : Int × Int) (r : Rul) {a l q : Int × Int}
    (bt : -1000000 ≤ pr r.thick ∧ pr r.thick ≤ 1000000) (ba : -1000000 ≤ pr a ∧ pr a ≤ 1000000) (bl : -1000000000 ≤ pr l ∧ pr l ≤ 1000000000) (bq : -1000000000 ≤ pr q ∧ pr q ≤ 1000000000) :
    R 79 [.fn (.f g) [], .cref (eRu r), .cref [I a.1, I a.2], .cref (eF f), .cref [I l.1, I l.2], .cref [I q.1, I q.2], .cref (eX f d)] = some (I (-(-(2000 * (pr r.thick + pr a) - 1000 * f.pitch + 2 * (pr l + pr q)) / (2 * (f.left + f.right))))) := by
  have h1 := hf.pitch
  have h2 := hf.left
  have h3 := hf.right
  have e1 := hg r.thick
  have e2 := hg a
  have e3 := hg l
  have e4 := hg q
  have e5 := p57 hf d
  have e6 := p58 (n := 2000 * (pr r.thick + pr a) - 1000 * f.pitch + 2 * (pr l + pr q)) (k := 2 * (f.left + f.right)) (by omega) (by omega)
  generalize pr r.thick = y1 at *
  generalize pr a = y2 at *
  generalize pr l = y3 at *
  generalize pr q = y4 at *
  generalize -(-(2000 * (y1 + y2) - 1000 * f.pitch + 2 * (y3 + y4)) / (2 * (f.left + f.right))) = z at *
  simp only [eX, eF, List.cons_append, List.nil_append] at e5 ⊢
  clear hg
  refine run2_body 1 rfl rfl rfl rfl rfl ?_
  simp (maxSteps := 2000000) (disch := first | omega | (simp; done) | (simp; omega)) [-getElem?_pos, l79, eRu, e1, e2, e3, e4, e5, e6, wrap64]
def costE (f : Frm) (d : Int × Int) (r : Rul) (n : Int) : (Int × Int) × Int :=
  if frmB f = false then ((0, 0), 2) else if ¬ (1 ≤ n ∧ n ≤ 60) then ((0, 0), 3) else if rulB r = false then ((0, 0), 2) else if dOk d = false then ((0, 0), 3) else if f.left + f.right = 0 then ((0, 0), 7) else (costV f d r n, 0)
theorem lng_bd {d : Int × Int} (hd : DOk d) {lean : Int} (hl : 0 ≤ lean ∧ lean ≤ 3000) {s : Int × Int} (hs : 0 ≤ s.1 ∧ s.1 ≤ s.2 ∧ s.2 ≤ 3000) : (-600000000 ≤ (lng d lean s).1 ∧ (lng d lean s).1 ≤ 600000000) ∧ (-600000000 ≤ (lng d lean s).2 ∧ (lng d lean s).2 ≤ 600000000) := by
  have hn : 0 ≤ near1 s lean ∧ near1 s lean ≤ 3000 := by unfold near1; omega
  have m1 := mst_bd hd (b := lean - s.1) (by omega)
  have m2 := mst_bd hd (b := lean - s.2) (by omega)
  have m3 := mst_bd hd (b := lean - near1 s lean) (by omega)
  unfold lng
  simp only
  omega
theorem p35 (f : Frm) (d : Int × Int) (r : Rul) (n : Int) : R 35 [.agg (eF f), .agg (eRu r), I n, eS d] = some (sE (costE f d r n)) := by
  have e1 := p70 f
  have e2 := p55_1 1 60 n
  have e3 := p76 r
  have e4 := p71 d
  unfold costE
  by_cases c1 : frmB f = true
  · have hf : FNum f := frmN_num (by unfold frmB at c1; simp only [Bool.and_eq_true] at c1; exact c1.1)
    simp only [c1, if_true] at e1
    rw [if_neg (by simp [c1])]
    by_cases c2 : 1 ≤ n ∧ n ≤ 60
    · simp only [c2, and_self, decide_true] at e2
      rw [if_neg (fun h => h c2)]
      by_cases c3 : rulB r = true
      · rw [c3] at e3
        rw [if_neg (by simp [c3])]
        have hr := rulB_num c3
        by_cases c4 : dOk d = true
        · have hd := dOk_iff.1 c4
          simp only [c4, if_true] at e4
          rw [if_neg (by simp [c4])]
          have e5 := p57 hf d
          have h2 := hf.left
          have h3 := hf.right
          by_cases hz : f.left + f.right = 0
          · rw [if_pos hz]
            rw [hz] at e5
            simp only [eF, eX, eRu, List.cons_append, List.nil_append] at e1 e3 e5 ⊢
            refine run2_body 1 rfl rfl rfl rfl rfl ?_
            simp (maxSteps := 2000000) (disch := first | omega | (simp; done) | (simp; omega)) [-getElem?_pos, l35, e1, e2, e3, e4, e5, c2]
          · rw [if_neg hz]
            have e6 := p77 hd (lean := f.left) (by omega) hr.left
            have e7 := p77 hd (lean := f.right) (by omega) hr.right
            have e8 := p78 hr.step (n := n - 1) (by omega)
            have bl := lng_bd hd (lean := f.left) (by omega) hr.left
            have br := lng_bd hd (lean := f.right) (by omega) hr.right
            have ba := drf_bd hr.step (n := n - 1) (by omega)
            have ht := hr.thick
            have g1 := p79 (g := 80) (pr := (·.1)) p80 hf hz d r (a := drf r.step (n - 1)) (l := lng d f.left r.left) (q := lng d f.right r.right) (by omega) (by omega) (by omega) (by omega)
            have g2 := p79 (g := 81) (pr := (·.2)) p81 hf hz d r (a := drf r.step (n - 1)) (l := lng d f.left r.left) (q := lng d f.right r.right) (by omega) (by omega) (by omega) (by omega)
            unfold costV costX
            generalize lng d f.left r.left = ll at *
            generalize lng d f.right r.right = lr at *
            generalize drf r.step (n - 1) = ap at *
            simp only at g1 g2 ⊢
            generalize -(-(2000 * (r.thick.1 + ap.1) - 1000 * f.pitch + 2 * (ll.1 + lr.1)) / (2 * (f.left + f.right))) = z1 at *
            generalize -(-(2000 * (r.thick.2 + ap.2) - 1000 * f.pitch + 2 * (ll.2 + lr.2)) / (2 * (f.left + f.right))) = z2 at *
            have w := wrap64 (n := n - 1) (by omega) (by omega)
            simp only [eF, eX, eRu, List.cons_append, List.nil_append] at e1 e3 e5 g1 g2 ⊢
            refine run2_body 1 rfl rfl rfl rfl rfl ?_
            simp (maxSteps := 2000000) (disch := first | omega | (simp; done) | (simp; omega)) [-getElem?_pos, l35, e1, e2, e3, e4, e5, e6, e7, e8, g1, g2, w, c2, hz]
        · simp only [c4, if_false] at e4
          rw [if_pos (by simpa using c4)]
          simp only [eF, eRu] at e1 e3 ⊢
          refine run2_body 1 rfl rfl rfl rfl rfl ?_
          simp (maxSteps := 2000000) (disch := first | omega | (simp; done) | (simp; omega)) [-getElem?_pos, l35, e1, e2, e3, e4, c2]
      · have c3' : rulB r = false := by simpa using c3
        rw [c3'] at e3
        rw [if_pos c3']
        simp only [eF, eRu] at e1 e3 ⊢
        refine run2_body 1 rfl rfl rfl rfl rfl ?_
        simp (maxSteps := 2000000) (disch := first | omega | (simp; done) | (simp; omega)) [-getElem?_pos, l35, e1, e2, e3, c2]
    · simp only [c2, decide_false] at e2
      rw [if_pos c2]
      simp only [eF, eRu] at e1 ⊢
      refine run2_body 1 rfl rfl rfl rfl rfl ?_
      simp (maxSteps := 2000000) (disch := first | omega | (simp; done) | (simp; omega)) [-getElem?_pos, l35, e1, e2, c2]
  · simp only [c1, if_false] at e1
    rw [if_pos (by simpa using c1)]
    simp only [eF, eRu] at e1 ⊢
    refine run2_body 1 rfl rfl rfl rfl rfl ?_
    simp (maxSteps := 2000000) (disch := first | omega | (simp; done) | (simp; omega)) [-getElem?_pos, l35, e1]
end Go.Lo

/- Cost: the plain law. -/
namespace Go.Lo
open Go.Proofs
set_option linter.unusedSimpArgs false
set_option maxHeartbeats 8000000
theorem le_mx0 : ∀ {l : List Int} {x : Int}, x ∈ l → x ≤ mx l := by
  have key : ∀ (l : List Int) (a : Int), a ≤ l.foldl max a ∧ ∀ x ∈ l, x ≤ l.foldl max a := by
    intro l
    induction l with
    | nil => intro a; simp
    | cons y l ih =>
      intro a
      obtain ⟨h1, h2⟩ := ih (max a y)
      refine ⟨by simp only [List.foldl_cons]; omega, fun x hx => ?_⟩
      simp only [List.foldl_cons]
      rcases List.mem_cons.1 hx with rfl | hx
      · omega
      · exact h2 x hx
  intro l x hx
  cases l with
  | nil => cases hx
  | cons y l =>
    have := key l y
    rcases List.mem_cons.1 hx with rfl | hx
    · exact this.1
    · exact this.2 x hx
/-- Where the teeth of a screw are that is tried. -/
def posC (f : Frm) (r : Rul) (rest : Nat) : Nat → Int
  | 0 => 0
  | i + 1 => posC f r rest i + (f.pitch + endAt r.step 0 (rest / 3 ^ i % 3))
def teethC (f : Frm) (r : Rul) (th : Int) (rest n : Nat) : List (Int × Int) := (List.range n).map fun j => (posC f r rest j, posC f r rest j + th)
def candT (f : Frm) (r : Rul) (n k : Nat) : Thr := (teethC f r (endAt r.thick 0 (k / 9 % 3)) (k / 27) n, endAt r.left f.left (k % 3), endAt r.right f.right (k / 3 % 3))
/-- How far a tooth is from where it should be. -/
def dev (f : Frm) (r : Rul) (rest i : Nat) : Int := posC f r rest i - i * f.pitch
theorem dev_succ (f : Frm) (r : Rul) (rest i : Nat) : dev f r rest (i + 1) = dev f r rest i + endAt r.step 0 (rest / 3 ^ i % 3) := by
  have hp : posC f r rest (i + 1) = posC f r rest i + (f.pitch + endAt r.step 0 (rest / 3 ^ i % 3)) := rfl
  unfold dev
  rw [hp, show ((i + 1 : Nat) : Int) = (i : Int) + 1 by omega, Int.add_mul, Int.one_mul]
  omega
theorem dev_zero (f : Frm) (r : Rul) (rest : Nat) : dev f r rest 0 = 0 := by simp [dev, posC]
theorem dev_diff {f : Frm} {r : Rul} (hr : r.step.1 ≤ r.step.2) (rest i : Nat) : ∀ k : Nat, (k : Int) * r.step.1 ≤ dev f r rest (i + k) - dev f r rest i ∧ dev f r rest (i + k) - dev f r rest i ≤ (k : Int) * r.step.2
  | 0 => by simp
  | k + 1 => by
    have h := dev_diff (f := f) hr rest i k
    have h2 := endAt_in hr 0 (rest / 3 ^ (i + k) % 3)
    rw [← Nat.add_assoc, dev_succ, show ((k + 1 : Nat) : Int) = (k : Int) + 1 by omega, Int.add_mul, Int.add_mul, Int.one_mul, Int.one_mul]
    omega
theorem posC_bd {f : Frm} (hf : FNum f) {r : Rul} (hr : RNum r) (rest : Nat) : ∀ i : Nat, -(201000 * (i : Int)) ≤ posC f r rest i ∧ posC f r rest i ≤ 201000 * (i : Int)
  | 0 => by simp [posC]
  | i + 1 => by
    have h := posC_bd hf hr rest i
    have h1 := hf.pitch
    have h2 := hr.step
    have h3 := endAt_in h2.2.1 0 (rest / 3 ^ i % 3)
    unfold posC
    omega
theorem candT_ok {f : Frm} (hf : FNum f) {r : Rul} (hr : RNum r) {n : Nat} (hn : 1 ≤ n ∧ n ≤ 9) (k : Nat) : TOk (candT f r n k) := by
  have h1 := hr.left
  have h2 := hr.right
  have h3 := hr.thick
  have e1 := endAt_in h1.2.1 f.left (k % 3)
  have e2 := endAt_in h2.2.1 f.right (k / 3 % 3)
  have e3 := endAt_in h3.2.1 0 (k / 9 % 3)
  refine ⟨?_, ?_, ?_, ?_⟩
  · simp [candT, teethC]; omega
  · simp [candT, teethC]; omega
  · unfold candT lean1; simp only; omega
  · intro x hx
    simp only [candT, teethC] at hx
    obtain ⟨j, hj, rfl⟩ := List.mem_map.1 hx
    have hj := List.mem_range.1 hj
    have := posC_bd hf hr (k / 27) j
    unfold far1
    simp only
    omega
theorem candT_turn {f : Frm} {r : Rul} {n k j : Nat} (hj : j < n) : turn (candT f r n k).1 j = (posC f r (k / 27) j, posC f r (k / 27) j + endAt r.thick 0 (k / 9 % 3)) := by
  have hl : (candT f r n k).1.length = n := by simp [candT, teethC]
  have h1 : (candT f r n k).1[j]? = some (posC f r (k / 27) j, posC f r (k / 27) j + endAt r.thick 0 (k / 9 % 3)) := by simp [candT, teethC, hj]
  have h2 := turn_get (ts := (candT f r n k).1) (i := j) (by omega)
  rw [h1] at h2
  injection h2 with h2
  exact h2.symm
theorem candT_lf {f : Frm} {r : Rul} {n k j : Nat} (hj : j < n) : lf f (candT f r n k) j = 1000 * (4 * dev f r (k / 27) j + f.pitch) := by
  unfold lf
  rw [candT_turn hj]
  unfold dev
  simp only
  rw [Int.mul_assoc 4 (j : Int)]
  omega
theorem candT_rt {f : Frm} {r : Rul} {n k j : Nat} (hj : j < n) : rt f (candT f r n k) j = 1000 * (4 * dev f r (k / 27) j + 4 * endAt r.thick 0 (k / 9 % 3) - f.pitch) := by
  unfold rt
  rw [candT_turn hj]
  unfold dev
  simp only
  rw [Int.mul_assoc 4 (j : Int)]
  omega
theorem mx_mem : ∀ {l : List Int}, l ≠ [] → mx l ∈ l := by
  have key : ∀ (l : List Int) (a : Int), l.foldl max a = a ∨ l.foldl max a ∈ l := by
    intro l
    induction l with
    | nil => intro a; exact .inl rfl
    | cons y l ih =>
      intro a
      simp only [List.foldl_cons]
      rcases ih (max a y) with h | h
      · by_cases hm : a ≤ y
        · right; rw [h, show max a y = y by omega]; simp
        · left; rw [h]; omega
      · right; simp [h]
  intro l h
  cases l with
  | nil => exact absurd rfl h
  | cons x l =>
    rcases key l x with h | h
    · show l.foldl max x ∈ x :: l
      rw [h]; simp
    · show l.foldl max x ∈ x :: l
      simp [h]
/-- What leans add. -/
def outL (f : Frm) (d : Int × Int) (r : Rul) (k : Nat) : Int := mst d (f.left - endAt r.left f.left (k % 3)) + mst d (f.right - endAt r.right f.right (k / 3 % 3))
theorem cand_size {f : Frm} {d : Int × Int} {r : Rul} {n k : Nat} (hn : 0 < n) :
    (∀ i j, i < n → j < n → 4000 * (dev f r (k / 27) j - dev f r (k / 27) i + endAt r.thick 0 (k / 9 % 3)) - 2000 * f.pitch + 4 * outL f d r k ≤ sizeOf3 f d (candT f r n k) 1) ∧
    (∃ i j, i < n ∧ j < n ∧ sizeOf3 f d (candT f r n k) 1 = 4000 * (dev f r (k / 27) j - dev f r (k / 27) i + endAt r.thick 0 (k / 9 % 3)) - 2000 * f.pitch + 4 * outL f d r k) := by
  have hl : (candT f r n k).1.length = n := by simp [candT, teethC]
  have s1 : (candT f r n k).2.1 = endAt r.left f.left (k % 3) := rfl
  have s2 : (candT f r n k).2.2 = endAt r.right f.right (k / 3 % 3) := rfl
  unfold sizeOf3 outL
  rw [hl, s1, s2, Int.one_mul, Int.one_mul]
  generalize mst d (f.left - endAt r.left f.left (k % 3)) = a
  generalize mst d (f.right - endAt r.right f.right (k / 3 % 3)) = b
  constructor
  · intro i j hi hj
    have a1 := le_mx0 (l := lefts f (candT f r n k) 1 n) (x := -1 * lf f (candT f r n k) i) (List.mem_map.2 ⟨i, List.mem_range.2 hi, rfl⟩)
    have a2 := le_mx0 (l := rights f (candT f r n k) 1 n) (x := 1 * rt f (candT f r n k) j) (List.mem_map.2 ⟨j, List.mem_range.2 hj, rfl⟩)
    rw [candT_lf hi] at a1
    rw [candT_rt hj] at a2
    omega
  · have n1 : lefts f (candT f r n k) 1 n ≠ [] := fun e => by
      have := congrArg List.length e
      simp [lefts] at this; omega
    have n2 : rights f (candT f r n k) 1 n ≠ [] := fun e => by
      have := congrArg List.length e
      simp [rights] at this; omega
    have m1 := mx_mem n1
    have m2 := mx_mem n2
    obtain ⟨i, hi, h1⟩ := List.mem_map.1 m1
    obtain ⟨j, hj, h2⟩ := List.mem_map.1 m2
    have hi := List.mem_range.1 hi
    have hj := List.mem_range.1 hj
    refine ⟨i, j, hi, hj, ?_⟩
    rw [candT_lf hi] at h1
    rw [candT_rt hj] at h2
    omega
end Go.Lo

/- Cost: the plain law, ends. -/
namespace Go.Lo
open Go.Proofs
set_option linter.unusedSimpArgs false
set_option maxHeartbeats 8000000
theorem mul_mono {a b x y : Int} (ha : 0 ≤ a) (h1 : a ≤ b) (h2 : x ≤ y) (hy : 0 ≤ y) : a * x ≤ b * y :=
  Int.le_trans (Int.mul_le_mul_of_nonneg_left h2 ha) (Int.mul_le_mul_of_nonneg_right h1 hy)
theorem spread_le {f : Frm} {r : Rul} (hr : RNum r) (rest : Nat) {n i j : Nat} (hi : i < n) (hj : j < n) : dev f r rest j - dev f r rest i ≤ (drf r.step ((n : Int) - 1)).2 := by
  have hs := hr.step
  unfold drf
  simp only
  rcases Nat.le_total i j with h | h
  · obtain ⟨k, rfl⟩ : ∃ k, j = i + k := ⟨j - i, by omega⟩
    have h1 := (dev_diff (f := f) hs.2.1 rest i k).2
    have h2 := mul_mono (a := (k : Int)) (b := (n : Int) - 1) (x := r.step.2) (y := max 0 (max r.step.2 (-r.step.1))) (by omega) (by omega) (by omega) (by omega)
    omega
  · obtain ⟨k, rfl⟩ : ∃ k, i = j + k := ⟨i - j, by omega⟩
    have h1 := (dev_diff (f := f) hs.2.1 rest j k).1
    have h2 := mul_mono (a := (k : Int)) (b := (n : Int) - 1) (x := -r.step.1) (y := max 0 (max r.step.2 (-r.step.1))) (by omega) (by omega) (by omega) (by omega)
    rw [Int.mul_neg] at h2
    omega
theorem spread_ge {f : Frm} {r : Rul} (hr : RNum r) (rest : Nat) {n : Nat} (hn : 0 < n) : ∃ i j, i < n ∧ j < n ∧ (drf r.step ((n : Int) - 1)).1 ≤ dev f r rest j - dev f r rest i := by
  have hs := hr.step
  have h1 := dev_diff (f := f) hs.2.1 rest 0 (n - 1)
  have hc : ((n - 1 : Nat) : Int) = (n : Int) - 1 := by omega
  rw [hc, Nat.zero_add] at h1
  unfold drf
  simp only
  by_cases k1 : 0 < r.step.1
  · refine ⟨0, n - 1, hn, by omega, ?_⟩
    rw [show max 0 (max r.step.1 (-r.step.2)) = r.step.1 by omega]; exact h1.1
  · by_cases k2 : r.step.2 < 0
    · refine ⟨n - 1, 0, by omega, hn, ?_⟩
      rw [show max 0 (max r.step.1 (-r.step.2)) = -r.step.2 by omega, Int.mul_neg]; omega
    · refine ⟨0, 0, hn, hn, ?_⟩
      rw [show max 0 (max r.step.1 (-r.step.2)) = 0 by omega, Int.mul_zero]; omega
theorem lng_in {d : Int × Int} {lean : Int} {s : Int × Int} (c : Nat) : (lng d lean s).1 ≤ mst d (lean - endAt s lean c) ∧ mst d (lean - endAt s lean c) ≤ (lng d lean s).2 := by
  unfold lng endAt
  simp only
  by_cases h0 : c = 0
  · rw [if_pos h0]; omega
  · rw [if_neg h0]
    by_cases h1 : c = 1
    · rw [if_pos h1]; omega
    · rw [if_neg h1]; omega
theorem lng_at {d : Int × Int} {lean : Int} {s : Int × Int} : (∃ c, c < 3 ∧ mst d (lean - endAt s lean c) = (lng d lean s).1) ∧ ∃ c, c < 3 ∧ mst d (lean - endAt s lean c) = (lng d lean s).2 := by
  have e0 : endAt s lean 0 = s.1 := rfl
  have e1 : endAt s lean 1 = s.2 := rfl
  have e2 : endAt s lean 2 = near1 s lean := rfl
  unfold lng
  simp only
  constructor
  · by_cases h1 : mst d (lean - s.1) ≤ mst d (lean - s.2)
    · by_cases h2 : mst d (lean - s.1) ≤ mst d (lean - near1 s lean)
      · exact ⟨0, by omega, by rw [e0]; omega⟩
      · exact ⟨2, by omega, by rw [e2]; omega⟩
    · by_cases h2 : mst d (lean - s.2) ≤ mst d (lean - near1 s lean)
      · exact ⟨1, by omega, by rw [e1]; omega⟩
      · exact ⟨2, by omega, by rw [e2]; omega⟩
  · by_cases h1 : mst d (lean - s.1) ≤ mst d (lean - s.2)
    · by_cases h2 : mst d (lean - s.2) ≤ mst d (lean - near1 s lean)
      · exact ⟨2, by omega, by rw [e2]; omega⟩
      · exact ⟨1, by omega, by rw [e1]; omega⟩
    · by_cases h2 : mst d (lean - s.1) ≤ mst d (lean - near1 s lean)
      · exact ⟨2, by omega, by rw [e2]; omega⟩
      · exact ⟨0, by omega, by rw [e0]; omega⟩
theorem size_in {f : Frm} {d : Int × Int} {r : Rul} (hr : RNum r) {n : Nat} (hn : 0 < n) (k : Nat) :
    2 * costX f d r n (·.1) ≤ sizeOf3 f d (candT f r n k) 1 ∧ sizeOf3 f d (candT f r n k) 1 ≤ 2 * costX f d r n (·.2) := by
  obtain ⟨c1, i, j, hi, hj, c2⟩ := cand_size (f := f) (d := d) (r := r) (n := n) (k := k) hn
  have ht := endAt_in hr.thick.2.1 0 (k / 9 % 3)
  have l1 := lng_in (d := d) (lean := f.left) (s := r.left) (k % 3)
  have l2 := lng_in (d := d) (lean := f.right) (s := r.right) (k / 3 % 3)
  have u := spread_le (f := f) hr (k / 27) hi hj
  obtain ⟨i', j', hi', hj', lo⟩ := spread_ge (f := f) hr (k / 27) hn
  have c1 := c1 i' j' hi' hj'
  unfold costX
  unfold outL at c1 c2
  constructor <;> simp only <;> omega
/-- The digits of a number that is made of one digit. -/
def rp (n : Nat) : Nat := if n = 2 then 1 else if n = 3 then 4 else if n = 4 then 13 else 0
theorem dig {n c : Nat} (hn : 1 ≤ n ∧ n ≤ 4) (hc : c < 3) : c * rp n < 3 ^ (n - 1) ∧ ∀ i, i < n - 1 → c * rp n / 3 ^ i % 3 = c := by
  have key : ∀ n, n < 5 → ∀ c, c < 3 → 1 ≤ n → c * rp n < 3 ^ (n - 1) ∧ ∀ i, i < n - 1 → c * rp n / 3 ^ i % 3 = c := by decide
  exact key n (by omega) c hc hn.1
theorem dev_const {f : Frm} {r : Rul} {rest c m : Nat} (h : ∀ i, i < m → rest / 3 ^ i % 3 = c) : ∀ i, i ≤ m → dev f r rest i = i * endAt r.step 0 c
  | 0, _ => by simp [dev_zero]
  | i + 1, hi => by
    rw [dev_succ, dev_const h i (by omega), h i (by omega), show ((i + 1 : Nat) : Int) = (i : Int) + 1 by omega, Int.add_mul, Int.one_mul]
theorem mul_sub_le {n i j : Nat} (hi : i < n) (hj : j < n) (s : Int) : (j : Int) * s - (i : Int) * s ≤ ((n : Int) - 1) * max s (-s) := by
  rw [← Int.sub_mul]
  rcases Int.le_total 0 s with h | h
  · have := mul_mono (a := max ((j : Int) - i) 0) (b := (n : Int) - 1) (x := s) (y := max s (-s)) (by omega) (by omega) (by omega) (by omega)
    have h2 : ((j : Int) - i) * s ≤ (max ((j : Int) - i) 0) * s := Int.mul_le_mul_of_nonneg_right (by omega) h
    omega
  · have := mul_mono (a := max ((i : Int) - j) 0) (b := (n : Int) - 1) (x := -s) (y := max s (-s)) (by omega) (by omega) (by omega) (by omega)
    have h2 : ((i : Int) - j) * (-s) ≤ (max ((i : Int) - j) 0) * (-s) := Int.mul_le_mul_of_nonneg_right (by omega) (by omega)
    have h3 : ((i : Int) - j) * (-s) = ((j : Int) - i) * s := by rw [Int.mul_neg, ← Int.neg_mul]; congr 1; omega
    omega
theorem size_ends {f : Frm} {d : Int × Int} {r : Rul} (hr : RNum r) {n : Nat} (hn : 1 ≤ n ∧ n ≤ 4) :
    (∃ k, k < 27 * 3 ^ (n - 1) ∧ sizeOf3 f d (candT f r n k) 1 = 2 * costX f d r n (·.1)) ∧ ∃ k, k < 27 * 3 ^ (n - 1) ∧ sizeOf3 f d (candT f r n k) 1 = 2 * costX f d r n (·.2) := by
  obtain ⟨⟨a1, ha1, la1⟩, a2, ha2, la2⟩ := lng_at (d := d) (lean := f.left) (s := r.left)
  obtain ⟨⟨b1, hb1, lb1⟩, b2, hb2, lb2⟩ := lng_at (d := d) (lean := f.right) (s := r.right)
  have hs := hr.step
  have digits : ∀ a b c m, a < 3 → b < 3 → c < 3 → (a + 3 * b + 9 * c + 27 * m) % 3 = a ∧ (a + 3 * b + 9 * c + 27 * m) / 3 % 3 = b ∧ (a + 3 * b + 9 * c + 27 * m) / 9 % 3 = c ∧ (a + 3 * b + 9 * c + 27 * m) / 27 = m := fun a b c m h1 h2 h3 => by omega
  constructor
  · obtain ⟨g1, g2⟩ := dig hn (c := 2) (by omega)
    obtain ⟨q1, q2, q3, q4⟩ := digits a1 b1 0 (2 * rp n) ha1 hb1 (by omega)
    refine ⟨a1 + 3 * b1 + 9 * 0 + 27 * (2 * rp n), by omega, ?_⟩
    have lo := (size_in (f := f) (d := d) hr (n := n) (by omega) (a1 + 3 * b1 + 9 * 0 + 27 * (2 * rp n))).1
    obtain ⟨-, i, j, hi, hj, c2⟩ := cand_size (f := f) (d := d) (r := r) (n := n) (k := a1 + 3 * b1 + 9 * 0 + 27 * (2 * rp n)) (by omega)
    unfold outL at c2
    rw [q1, q2, q3, q4, la1, lb1, dev_const g2 i (by omega), dev_const g2 j (by omega), show endAt r.thick 0 0 = r.thick.1 from rfl] at c2
    have m1 := mul_sub_le hi hj (endAt r.step 0 2)
    have hm : max (endAt r.step 0 2) (-endAt r.step 0 2) = max 0 (max r.step.1 (-r.step.2)) := by
      rw [show endAt r.step 0 2 = near1 r.step 0 from rfl]; unfold near1; omega
    rw [hm] at m1
    unfold costX drf at lo ⊢
    simp only at lo ⊢
    omega
  · by_cases hc : -r.step.1 ≤ r.step.2
    · obtain ⟨g1, g2⟩ := dig hn (c := 1) (by omega)
      obtain ⟨q1, q2, q3, q4⟩ := digits a2 b2 1 (1 * rp n) ha2 hb2 (by omega)
      refine ⟨a2 + 3 * b2 + 9 * 1 + 27 * (1 * rp n), by omega, ?_⟩
      have up := (size_in (f := f) (d := d) hr (n := n) (by omega) (a2 + 3 * b2 + 9 * 1 + 27 * (1 * rp n))).2
      have c2 := (cand_size (f := f) (d := d) (r := r) (n := n) (k := a2 + 3 * b2 + 9 * 1 + 27 * (1 * rp n)) (by omega)).1 0 (n - 1) (by omega) (by omega)
      unfold outL at c2
      rw [q1, q2, q3, q4, la2, lb2, dev_const g2 0 (by omega), dev_const g2 (n - 1) (by omega), show endAt r.thick 0 1 = r.thick.2 from rfl, show endAt r.step 0 1 = r.step.2 from rfl, show ((n - 1 : Nat) : Int) = (n : Int) - 1 by omega] at c2
      have hm : max 0 (max r.step.2 (-r.step.1)) = r.step.2 := by omega
      unfold costX drf at up ⊢
      simp only [hm] at up ⊢
      simp only [Int.natCast_zero, Int.zero_mul] at c2
      omega
    · obtain ⟨g1, g2⟩ := dig hn (c := 0) (by omega)
      obtain ⟨q1, q2, q3, q4⟩ := digits a2 b2 1 (0 * rp n) ha2 hb2 (by omega)
      refine ⟨a2 + 3 * b2 + 9 * 1 + 27 * (0 * rp n), by omega, ?_⟩
      have up := (size_in (f := f) (d := d) hr (n := n) (by omega) (a2 + 3 * b2 + 9 * 1 + 27 * (0 * rp n))).2
      have c2 := (cand_size (f := f) (d := d) (r := r) (n := n) (k := a2 + 3 * b2 + 9 * 1 + 27 * (0 * rp n)) (by omega)).1 (n - 1) 0 (by omega) (by omega)
      unfold outL at c2
      rw [q1, q2, q3, q4, la2, lb2, dev_const g2 0 (by omega), dev_const g2 (n - 1) (by omega), show endAt r.thick 0 1 = r.thick.2 from rfl, show endAt r.step 0 0 = r.step.1 from rfl, show ((n - 1 : Nat) : Int) = (n : Int) - 1 by omega] at c2
      have hm : max 0 (max r.step.2 (-r.step.1)) = -r.step.1 := by omega
      unfold costX drf at up ⊢
      simp only [hm, Int.mul_neg] at up ⊢
      simp only [Int.natCast_zero, Int.zero_mul] at c2
      omega
/-- The least and the greatest of some integers. -/
def mm (v : Nat → Int) : Nat → Int × Int
  | 0 => (0, 0)
  | k + 1 => if k = 0 then (v 0, v 0) else (min (mm v k).1 (v k), max (mm v k).2 (v k))
theorem mm_in (v : Nat → Int) : ∀ n, 0 < n → (∀ k, k < n → (mm v n).1 ≤ v k ∧ v k ≤ (mm v n).2) ∧ (∃ k, k < n ∧ v k = (mm v n).1) ∧ ∃ k, k < n ∧ v k = (mm v n).2
  | 0, h => by omega
  | n + 1, _ => by
    unfold mm
    by_cases h0 : n = 0
    · subst h0
      simp only [if_true]
      refine ⟨fun k hk => ?_, ⟨0, by omega, rfl⟩, 0, by omega, rfl⟩
      have : k = 0 := by omega
      subst this; omega
    · rw [if_neg h0]
      obtain ⟨h1, ⟨a, a1, a2⟩, b, b1, b2⟩ := mm_in v n (by omega)
      refine ⟨fun k hk => ?_, ?_, ?_⟩
      · by_cases hk2 : k = n
        · subst hk2; simp only; omega
        · have := h1 k (by omega); simp only; omega
      · by_cases h : (mm v n).1 ≤ v n
        · exact ⟨a, by omega, by simp only; omega⟩
        · exact ⟨n, by omega, by simp only; omega⟩
      · by_cases h : v n ≤ (mm v n).2
        · exact ⟨b, by omega, by simp only; omega⟩
        · exact ⟨n, by omega, by simp only; omega⟩
theorem mm_eq {v : Nat → Int} {n : Nat} {lo hi : Int} (h : ∀ k, k < n → lo ≤ v k ∧ v k ≤ hi) (h1 : ∃ k, k < n ∧ v k = lo) (h2 : ∃ k, k < n ∧ v k = hi) : mm v n = (lo, hi) := by
  obtain ⟨a, a1, a2⟩ := h1
  obtain ⟨b, b1, b2⟩ := h2
  obtain ⟨k1, ⟨c, c1, c2⟩, e, e1, e2⟩ := mm_in v n (by omega)
  have := k1 a a1
  have := k1 b b1
  have := h c c1
  have := h e e1
  exact Prod.ext (by omega) (by omega)
theorem half_up {X k : Int} : -(-(2 * X) / (4 * k)) = -(-X / (2 * k)) := by
  rw [← Int.mul_neg, show 4 * k = 2 * (2 * k) by omega, Int.mul_ediv_mul_of_pos _ _ (by omega)]
theorem up_mono {a b k : Int} (hk : 0 < k) (h : a ≤ b) : -(-a / k) ≤ -(-b / k) := by
  have := Int.ediv_le_ediv hk (show -b ≤ -a by omega)
  omega
theorem cost_law {f : Frm} (hf : FNum f) (hz : ¬ f.left + f.right = 0) {d : Int × Int} {r : Rul} (hr : RNum r) {n : Nat} (hn : 1 ≤ n ∧ n ≤ 4) :
    mm (fun k => screwV f d (candT f r n k)) (27 * 3 ^ (n - 1)) = costV f d r n := by
  have h2 := hf.left
  have h3 := hf.right
  obtain ⟨⟨a, a1, a2⟩, b, b1, b2⟩ := size_ends (f := f) (d := d) hr hn
  refine mm_eq (fun k _ => ?_) ⟨a, a1, ?_⟩ ⟨b, b1, ?_⟩
  · have := size_in (f := f) (d := d) hr (n := n) (by omega) k
    unfold screwV
    rw [← half_up, ← half_up]
    exact ⟨up_mono (by omega) this.1, up_mono (by omega) this.2⟩
  · unfold screwV; rw [a2, half_up]
  · unfold screwV; rw [b2, half_up]
end Go.Lo

/- Cost, by the reference. -/
namespace Go.Lo
open Go.Proofs
set_option linter.unusedSimpArgs false
set_option maxHeartbeats 8000000
theorem p82 (s : Int × Int) (to : Int) : R 82 [eS s, I to] = some (.agg [I s.1, I s.2, I (near1 s to)]) := by
  refine run2_body 1 rfl rfl rfl rfl rfl ?_
  have hnear : min (max to s.1) s.2 = near1 s to := rfl
  simp (maxSteps := 2000000) (disch := first | omega | (simp; done) | (simp; omega)) [-getElem?_pos, -maxL, -minL, maxL2, minL2, l82, hnear]
theorem x_idx3 {call : Nat → List V → Option V} {bx : Nat → Option (List V)} {ex : List Nat} {d : Nat} {s : Int × Int} {to : Int} {m : Nat} (hm : m < 3) : sem2 call bx ex d (.idx 3 1 none) [.agg [I s.1, I s.2, I (near1 s to)], .int .i64 (m : Int)] = some (.val (I (endAt s to m))) := by
  match m, hm with
  | 0, _ => rfl
  | 1, _ => rfl
  | 2, _ => rfl
theorem tmod3 (k : Nat) : (k : Int).tmod 3 = ((k % 3 : Nat) : Int) := by rw [Int.tmod_eq_emod_of_nonneg (by omega)]; omega
theorem tdivN (k c : Nat) : (k : Int).tdiv (c : Int) = ((k / c : Nat) : Int) := by rw [Int.tdiv_eq_ediv_of_nonneg (by omega)]; exact (Int.natCast_ediv k c).symm
theorem loop36_2 {f : Frm} (hf : FNum f) {r : Rul} (hr : RNum r) {n : Nat} (hn : 1 ≤ n ∧ n ≤ 4) (d o : Int × Int) (fst : Bool) (al : Int) (k : Nat) (hk : k ≤ 1000) {th a b : Int} (ht : 0 ≤ th ∧ th ≤ 200000) (M : Nat) :
    iter (evC2 R M b36_2) (n + 1) { fr := [(2, I n), (4, .box (eF f)), (5, .box (eRu r)), (7, .box [I d.1, I d.2]), (8, .box [I 0, I 0]), (9, .box [I o.1, I o.2]), (10, B fst), (11, I al), (13, I k), (14, .box [.sl (some 2008900) 2 [], I a, I b]), (15, I th), (16, I 0), (17, I (k / 27 : Nat)), (18, I 0)], tk := [] } =
      some (.exit 4, { fr := [(2, I n), (4, .box (eF f)), (5, .box (eRu r)), (7, .box [I d.1, I d.2]), (8, .box [I 0, I 0]), (9, .box [I o.1, I o.2]), (10, B fst), (11, I al), (13, I k), (14, .box [.sl (some 2008900) 2 (eS2 (teethC f r th (k / 27) n)), I a, I b]), (15, I th), (16, I (posC f r (k / 27) (n - 1))), (17, I (k / 27 / 3 ^ (n - 1) : Nat)), (18, I n), (63, B false)], tk := [] }) := by
  have hrest : k / 27 ≤ 1000 := by omega
  generalize k / 27 = rest at *
  have L := loop_all (s := fun i => { fr := [(2, I n), (4, .box (eF f)), (5, .box (eRu r)), (7, .box [I d.1, I d.2]), (8, .box [I 0, I 0]), (9, .box [I o.1, I o.2]), (10, B fst), (11, I al), (13, I k), (14, .box [.sl (some 2008900) 2 (eS2 (teethC f r th rest i)), I a, I b]), (15, I th), (16, I (posC f r rest (i - 1))), (17, I (rest / 3 ^ (i - 1) : Nat)), (18, I i)], tk := [] }) (f := evC2 R M b36_2) (n := n)
    (X := (.exit 4, { fr := [(2, I n), (4, .box (eF f)), (5, .box (eRu r)), (7, .box [I d.1, I d.2]), (8, .box [I 0, I 0]), (9, .box [I o.1, I o.2]), (10, B fst), (11, I al), (13, I k), (14, .box [.sl (some 2008900) 2 (eS2 (teethC f r th rest n)), I a, I b]), (15, I th), (16, I (posC f r rest (n - 1))), (17, I (rest / 3 ^ (n - 1) : Nat)), (18, I n), (63, B false)], tk := [] }))
    (fun i hi => by
      have e1 := p82 r.step 0
      have hacc : eS2 (teethC f r th rest (i + 1)) = eS2 (teethC f r th rest i) ++ [[I (posC f r rest i), I (posC f r rest i + th)]] := by unfold teethC; rw [List.range_succ, List.map_append, eS2, List.map_append]; rfl
      have hll : (eS2 (teethC f r th rest i)).length ≤ 4 := by simp [teethC]; omega
      have hb := posC_bd hf hr rest i
      have hp := hf.pitch
      rw [hacc, Nat.add_sub_cancel]
      generalize eS2 (teethC f r th rest i) = l at *
      by_cases h0 : i = 0
      · subst h0
        simp only [posC, Nat.pow_zero, Nat.div_one, Nat.zero_sub] at *
        have w1 := wrap64 (n := th) (by omega) (by omega)
        have hn0 : (0 : Int) < n := by omega
        have hn1 : 0 < n := by omega
        simp (maxSteps := 2000000) (disch := first | omega | (simp; done) | (simp; omega)) [-getElem?_pos, b36_2, eF, hn0, hn1, w1, wrap64]
      · obtain ⟨j, rfl⟩ : ∃ j, i = j + 1 := ⟨i - 1, by omega⟩
        have hb2 := posC_bd hf hr rest j
        have hsx := hr.step
        have hse := endAt_in hsx.2.1 0 (rest / 3 ^ j % 3)
        have hpos : posC f r rest (j + 1) = posC f r rest j + (f.pitch + endAt r.step 0 (rest / 3 ^ j % 3)) := rfl
        have hdv : rest / 3 ^ (j + 1) = rest / 3 ^ j / 3 := by rw [Nat.pow_succ, Nat.div_div_eq_div_mul]
        have hmle : rest / 3 ^ j ≤ 1000 := Nat.le_trans (Nat.div_le_self _ _) hrest
        rw [Nat.add_sub_cancel, hdv]
        rw [hpos] at hb ⊢
        have hm3 : rest / 3 ^ j % 3 < 3 := Nat.mod_lt _ (by omega)
        have q1 := tmod3 (rest / 3 ^ j)
        have q2 := tdivN (rest / 3 ^ j) 3
        have hq3 : rest / 3 ^ j / 3 ≤ 1000 := by omega
        generalize rest / 3 ^ j = m at *
        have x1 : ∀ (bx : Nat → Option (List V)) ex d', sem2 R bx ex d' (.idx 3 1 none) [.agg [I r.step.1, I r.step.2, I (near1 r.step 0)], .int .i64 ((m % 3 : Nat) : Int)] = some (.val (I (endAt r.step 0 (m % 3)))) := fun _ _ _ => x_idx3 hm3
        generalize m % 3 = m3 at *
        generalize m / 3 = md at *
        generalize endAt r.step 0 m3 = sx at *
        generalize posC f r rest j = ps at *
        generalize near1 r.step 0 = nr at *
        have hlt : ((j : Int) + 1) < n := by omega
        have hj0 : (0 : Int) < (j : Int) + 1 := by omega
        have hw3 : IntKind.i64.wrap (((md : Nat) : Int)) = ((md : Nat) : Int) := wrap64 (by omega) (by omega)
        have q2' : (m : Int).tdiv 3 = (md : Int) := q2
        simp (maxSteps := 2000000) (disch := first | omega | (simp; done) | (simp; omega)) [-getElem?_pos, b36_2, eF, eRu, e1, x1, q1, q2', hw3, hlt, hj0, wrap64]
        done) (by
      have hl2 : (eS2 (teethC f r th rest n)).length ≤ 4 := by simp [teethC]; omega
      generalize eS2 (teethC f r th rest n) = l at *
      generalize rest / 3 ^ (n - 1) = m at *
      generalize posC f r rest (n - 1) = ps at *
      simp (maxSteps := 2000000) (disch := first | omega | (simp; done) | (simp; omega)) [-getElem?_pos, b36_2, eF]) (by simp)
  have q0 : rest / 3 ^ (0 - 1) = rest := by simp
  rw [q0] at L
  exact L
def outC (f : Frm) (d : Int × Int) (r : Rul) (n k : Nat) : Int × Int := mm (fun k => screwV f d (candT f r n k)) k
theorem p36 {f : Frm} (hf : FNum f) (hz : ¬ f.left + f.right = 0) {d : Int × Int} (hd : DOk d) {r : Rul} (hr : RNum r) {n : Nat} (hn : 1 ≤ n ∧ n ≤ 4) : R 36 [.agg (eF f), .agg (eRu r), I n, eS d] = some (eS (costV f d r n)) := by
  have hpw : 3 ^ (n - 1) ≤ 27 := by
    have key : ∀ n, n < 5 → 3 ^ (n - 1) ≤ 27 := by decide
    exact key n (by omega)
  have L0 := loop_all (s := fun i => { fr := [(2, I n), (4, .box (eF f)), (5, .box (eRu r)), (7, .box [I d.1, I d.2]), (8, .box [I 0, I 0]), (9, .box [I 0, I 0]), (10, B true), (11, I (3 ^ i : Nat)), (12, I (i + 1 : Nat))], tk := [] }) (f := evC2 R 730 b36_0) (n := n - 1)
    (X := (.exit 0, { fr := [(2, I n), (4, .box (eF f)), (5, .box (eRu r)), (7, .box [I d.1, I d.2]), (8, .box [I 0, I 0]), (9, .box [I 0, I 0]), (10, B true), (11, I (3 ^ (n - 1) : Nat)), (12, I n), (23, B false)], tk := [] }))
    (fun i hi => by
      have hp : ((3 ^ (i + 1) : Nat) : Int) = ((3 ^ i : Nat) : Int) * 3 := by rw [Nat.pow_succ]; omega
      have hpb : 3 ^ i ≤ 27 := by
        have key : ∀ n, n < 4 → 3 ^ n ≤ 27 := by decide
        exact key i (by omega)
      rw [hp]
      generalize 3 ^ i = q at *
      have hlt : ((i : Int) + 1) < n := by omega
      simp (maxSteps := 2000000) (disch := first | omega | (simp; done) | (simp; omega)) [-getElem?_pos, b36_0, hlt, wrap64]) (by
      have e : n - 1 + 1 = n := by omega
      rw [e]
      generalize 3 ^ (n - 1) = q at *
      simp (maxSteps := 2000000) (disch := first | omega | (simp; done) | (simp; omega)) [-getElem?_pos, b36_0]) (by simp)
  have L0 := iter_le (f := evC2 R 730 b36_0) (fun _ _ h => h) (show n - 1 + 1 ≤ 730 by omega) L0
  rw [← cost_law hf hz hr hn]
  have L1 := loop_all (s := fun k => { fr := [(2, I n), (4, .box (eF f)), (5, .box (eRu r)), (7, .box [I d.1, I d.2]), (8, .box [I 0, I 0]), (9, .box [I (outC f d r n k).1, I (outC f d r n k).2]), (10, B (decide (k = 0))), (11, I (3 ^ (n - 1) : Nat)), (13, I k)], tk := [] }) (f := evC2 R 730 b36_1) (n := 27 * 3 ^ (n - 1))
    (X := (.exit 2, { fr := [(2, I n), (4, .box (eF f)), (5, .box (eRu r)), (7, .box [I d.1, I d.2]), (8, .box [I 0, I 0]), (9, .box [I (outC f d r n (27 * 3 ^ (n - 1))).1, I (outC f d r n (27 * 3 ^ (n - 1))).2]), (10, B (decide (27 * 3 ^ (n - 1) = 0))), (11, I (3 ^ (n - 1) : Nat)), (13, I (27 * 3 ^ (n - 1) : Nat)), (31, B false)], tk := [] }))
    (fun k hk => by
      have ht := hr.thick
      have het := endAt_in ht.2.1 0 (k / 9 % 3)
      have L2 := loop36_2 hf hr hn d (outC f d r n k) (decide (k = 0)) (3 ^ (n - 1) : Nat) k (by omega) (th := endAt r.thick 0 (k / 9 % 3)) (a := endAt r.left f.left (k % 3)) (b := endAt r.right f.right (k / 3 % 3)) (by omega) 730
      have L2 := iter_le (f := evC2 R 730 b36_2) (fun _ _ h => h) (show n + 1 ≤ 730 by omega) L2
      have e1 := p23 hf hz hd (candT_ok hf hr (n := n) (by omega) k)
      have hstep : outC f d r n (k + 1) = if k = 0 then (screwV f d (candT f r n k), screwV f d (candT f r n k)) else (min (outC f d r n k).1 (screwV f d (candT f r n k)), max (outC f d r n k).2 (screwV f d (candT f r n k))) := by
        unfold outC
        rw [mm]
        by_cases h0 : k = 0
        · subst h0; rfl
        · rw [if_neg h0, if_neg h0]
      rw [hstep]
      have hcand : eT (candT f r n k) = [S 2 (eS2 (teethC f r (endAt r.thick 0 (k / 9 % 3)) (k / 27) n)), I (endAt r.left f.left (k % 3)), I (endAt r.right f.right (k / 3 % 3))] := rfl
      rw [hcand] at e1
      generalize screwV f d (candT f r n k) = v at *
      have g1 := p82 r.left f.left
      have g2 := p82 r.right f.right
      have g3 := p82 r.thick 0
      have x1 : ∀ (bx : Nat → Option (List V)) ex d', sem2 R bx ex d' (.idx 3 1 none) [.agg [I r.left.1, I r.left.2, I (near1 r.left f.left)], .int .i64 ((k % 3 : Nat) : Int)] = some (.val (I (endAt r.left f.left (k % 3)))) := fun _ _ _ => x_idx3 (Nat.mod_lt _ (by omega))
      have x2 : ∀ (bx : Nat → Option (List V)) ex d', sem2 R bx ex d' (.idx 3 1 none) [.agg [I r.right.1, I r.right.2, I (near1 r.right f.right)], .int .i64 ((k / 3 % 3 : Nat) : Int)] = some (.val (I (endAt r.right f.right (k / 3 % 3)))) := fun _ _ _ => x_idx3 (Nat.mod_lt _ (by omega))
      have x3 : ∀ (bx : Nat → Option (List V)) ex d', sem2 R bx ex d' (.idx 3 1 none) [.agg [I r.thick.1, I r.thick.2, I (near1 r.thick 0)], .int .i64 ((k / 9 % 3 : Nat) : Int)] = some (.val (I (endAt r.thick 0 (k / 9 % 3)))) := fun _ _ _ => x_idx3 (Nat.mod_lt _ (by omega))
      have q1 := tmod3 k
      have q2 : (k : Int).tdiv 3 = ((k / 3 : Nat) : Int) := tdivN k 3
      have q3 := tmod3 (k / 3)
      have q4 : (k : Int).tdiv 9 = ((k / 9 : Nat) : Int) := tdivN k 9
      have q5 := tmod3 (k / 9)
      have q6 : (k : Int).tdiv 27 = ((k / 27 : Nat) : Int) := tdivN k 27
      have w2 : IntKind.i64.wrap ((k / 3 : Nat) : Int) = ((k / 3 : Nat) : Int) := wrap64 (by omega) (by omega)
      have w4 : IntKind.i64.wrap ((k / 9 : Nat) : Int) = ((k / 9 : Nat) : Int) := wrap64 (by omega) (by omega)
      have w6 : IntKind.i64.wrap ((k / 27 : Nat) : Int) = ((k / 27 : Nat) : Int) := wrap64 (by omega) (by omega)
      have hlt : (k : Int) < 27 * ((3 ^ (n - 1) : Nat) : Int) := by omega
      generalize outC f d r n k = o at *
      generalize eS2 (teethC f r (endAt r.thick 0 (k / 9 % 3)) (k / 27) n) = tl at *
      generalize posC f r (k / 27) (n - 1) = ps at *
      generalize k / 27 / 3 ^ (n - 1) = rs at *
      generalize k / 27 = k27 at *
      generalize endAt r.left f.left (k % 3) = y1 at *
      generalize endAt r.right f.right (k / 3 % 3) = y2 at *
      generalize endAt r.thick 0 (k / 9 % 3) = y3 at *
      generalize k % 3 = m1 at *
      generalize k / 3 % 3 = m2 at *
      generalize k / 9 % 3 = m3 at *
      generalize k / 3 = k3 at *
      generalize k / 9 = k9 at *
      generalize near1 r.left f.left = z1 at *
      generalize near1 r.right f.right = z2 at *
      generalize near1 r.thick 0 = z3 at *
      have hn2 : -3000 ≤ 0 := by omega
      generalize 3 ^ (n - 1) = pw at *
      simp only [eF, eRu] at L2 e1 ⊢
      by_cases h0 : k = 0
      · have d1 : decide (k = 0) = true := by simp [h0]
        rw [if_pos h0]
        simp only [d1] at L2 ⊢
        clear h0
        simp (maxSteps := 2000000) (disch := first | omega | (simp; done) | (simp; omega)) [-getElem?_pos, -maxL, -minL, maxL2, minL2, b36_1, g1, g2, g3, x1, x2, x3, q1, q2, q3, q4, q5, q6, w2, w4, w6, hlt, L2, e1, wrap64]
      · simp only [h0, decide_false, if_false, Nat.succ_ne_zero] at L2 ⊢
        simp (maxSteps := 2000000) (disch := first | omega | (simp; done) | (simp; omega)) [-getElem?_pos, -maxL, -minL, maxL2, minL2, b36_1, g1, g2, g3, x1, x2, x3, q1, q2, q3, q4, q5, q6, w2, w4, w6, hlt, L2, e1, wrap64]) (by
      generalize outC f d r n (27 * 3 ^ (n - 1)) = o at *
      generalize 3 ^ (n - 1) = pw at *
      simp (maxSteps := 2000000) (disch := first | omega | (simp; done) | (simp; omega)) [-getElem?_pos, b36_1, wrap64]) (by simp)
  have L1 := iter_le (f := evC2 R 730 b36_1) (fun _ _ h => h) (show 27 * 3 ^ (n - 1) + 1 ≤ 730 by omega) L1
  simp only [Nat.pow_zero, Nat.zero_add, Int.natCast_one] at L0
  have o0 : outC f d r n 0 = (0, 0) := rfl
  simp only [o0, decide_true, Int.natCast_zero] at L1
  have hout : mm (fun k => screwV f d (candT f r n k)) (27 * 3 ^ (n - 1)) = outC f d r n (27 * 3 ^ (n - 1)) := rfl
  rw [hout]
  generalize outC f d r n (27 * 3 ^ (n - 1)) = o at *
  generalize 3 ^ (n - 1) = pw at *
  simp only [eF, eRu] at L0 L1 ⊢
  refine run2_body 730 rfl rfl rfl rfl rfl ?_
  simp (maxSteps := 2000000) (disch := first | omega | (simp; done) | (simp; omega)) [-getElem?_pos, l36, L0, L1]
end Go.Lo

/- FitCosts. -/
namespace Go.Lo
open Go.Proofs
set_option linter.unusedSimpArgs false
set_option maxHeartbeats 8000000
theorem p6_costs (hk : R 14 [] = some (B true)) (f : Frm) (r : Rul) (a b n : Int) (d : Int × Int) : R 6 [.agg (eF f), .agg (eRu r), .agg [I a, I b, I n, I d.1, I d.2]] = some (B true) := by
  have e1 := p21 f
  have e2 := p31 n 1 60
  have e3 := p34 r
  have e4 := p22 d
  have e5 := p35 f d r n
  unfold costE at e5
  by_cases c1 : frmB f = true
  · have hf : FNum f := frmN_num (by unfold frmB at c1; simp only [Bool.and_eq_true] at c1; exact c1.1)
    rw [if_neg (by simp [c1])] at e5
    rw [c1] at e1
    by_cases c2 : 1 ≤ n ∧ n ≤ 60
    · simp only [c2, and_self, decide_true] at e2
      rw [if_neg (fun h => h c2)] at e5
      by_cases c3 : rulB r = true
      · rw [c3] at e3
        rw [if_neg (by simp [c3])] at e5
        have hr := rulB_num c3
        by_cases c4 : dOk d = true
        · have hd := dOk_iff.1 c4
          rw [c4] at e4
          rw [if_neg (by simp [c4])] at e5
          have h2 := hf.left
          have h3 := hf.right
          have w := wrap64 (n := f.left + f.right) (by omega) (by omega)
          by_cases hz : f.left + f.right = 0
          · rw [if_pos hz] at e5
            simp only [eF, eRu, sE] at e1 e3 e5 ⊢
            refine run2_body 1 rfl rfl rfl rfl rfl ?_
            simp (maxSteps := 2000000) (disch := first | omega | (simp; done) | (simp; omega)) [-getElem?_pos, l6, e1, e2, e3, e4, e5, hz, w, hk, wrap64]
          · rw [if_neg hz] at e5
            by_cases h4 : n ≤ 4
            · obtain ⟨m, rfl⟩ : ∃ m : Nat, n = m := ⟨n.toNat, by omega⟩
              have e6 := p36 hf hz hd hr (n := m) (by omega)
              generalize costV f d r m = z at *
              have h4' : ¬ (m : Int) > 4 := by omega
              have h5 : ¬ 4 < m := by omega
              simp only [eF, eRu, sE] at e1 e3 e5 e6 ⊢
              refine run2_body 1 rfl rfl rfl rfl rfl ?_
              simp (maxSteps := 2000000) (disch := first | omega | (simp; done) | (simp; omega)) [-getElem?_pos, l6, e1, e2, e3, e4, e5, e6, hz, w, hk, h4', h5]
            · have h4' : n > 4 := by omega
              have h5 : 4 < n := h4'
              simp only [eF, eRu, sE] at e1 e3 ⊢
              refine run2_body 1 rfl rfl rfl rfl rfl ?_
              simp (maxSteps := 2000000) (disch := first | omega | (simp; done) | (simp; omega)) [-getElem?_pos, l6, e1, e2, e3, e4, hz, w, hk, h4', h5]
        · have c4' : dOk d = false := by simpa using c4
          rw [c4'] at e4
          rw [if_pos c4'] at e5
          simp only [eF, eRu, sE] at e1 e3 e5 ⊢
          refine run2_body 1 rfl rfl rfl rfl rfl ?_
          simp (maxSteps := 2000000) (disch := first | omega | (simp; done) | (simp; omega)) [-getElem?_pos, l6, e1, e2, e3, e4, e5, hk]
      · have c3' : rulB r = false := by simpa using c3
        rw [c3'] at e3
        rw [if_pos c3'] at e5
        simp only [eF, eRu, sE] at e1 e3 e5 ⊢
        refine run2_body 1 rfl rfl rfl rfl rfl ?_
        simp (maxSteps := 2000000) (disch := first | omega | (simp; done) | (simp; omega)) [-getElem?_pos, l6, e1, e2, e3, e5, hk]
    · simp only [c2, decide_false] at e2
      rw [if_pos c2] at e5
      simp only [eF, eRu, sE] at e1 e5 ⊢
      refine run2_body 1 rfl rfl rfl rfl rfl ?_
      simp (maxSteps := 2000000) (disch := first | omega | (simp; done) | (simp; omega)) [-getElem?_pos, l6, e1, e2, e5, hk]
  · have c1' : frmB f = false := by simpa using c1
    rw [c1'] at e1
    rw [if_pos c1'] at e5
    simp only [eF, eRu, sE] at e1 e5 ⊢
    refine run2_body 1 rfl rfl rfl rfl rfl ?_
    simp (maxSteps := 2000000) (disch := first | omega | (simp; done) | (simp; omega)) [-getElem?_pos, l6, e1, e5, hk]
end Go.Lo

namespace Go.Lo
theorem laidOutFitCosts : laidOutB Go.Proofs.Try.prog = true := by kernel_rfl
abbrev rulTy : Ty := .st [spTy, spTy, spTy, spTy]
theorem can_rul {v : V} (h : HasV rulTy v) : ∃ r : Rul, v = .agg (eRu r) := by
  simp only [HasV] at h
  obtain ⟨cs, rfl, h⟩ := h
  obtain ⟨x1, r1, rfl, h1, h⟩ := h.inv
  obtain ⟨x2, r2, rfl, h2, h⟩ := h.inv
  obtain ⟨x3, r3, rfl, h3, h⟩ := h.inv
  obtain ⟨x4, r4, rfl, h4, h⟩ := h.inv
  rw [HasCs] at h
  subst h
  obtain ⟨a, b, rfl⟩ := can_sp h1
  obtain ⟨c, d, rfl⟩ := can_sp h2
  obtain ⟨e, f, rfl⟩ := can_sp h3
  obtain ⟨g, i, rfl⟩ := can_sp h4
  exact ⟨⟨(a, b), (c, d), (e, f), (g, i)⟩, rfl⟩
end Go.Lo
namespace Go.Proofs.Ytgmgjibmjdhkhaa
open Go.Lo Go.ChangeShapes
set_option maxRecDepth 100000 in
theorem fitCosts_lifted (os : Os) (started : os.Started) (H : Type) (enc : TypeId × Value → H) :
    ReturnsInHanded {} Try.checked os 6 .any (Rows.fitCostsSpec.pre6 enc Try.prog Try.f6 Rows.fitCostsRow.domain false) (Rows.fitCostsSpec.post enc Try.prog Try.f6 false true false false) := by
  refine returnsInHanded_of_change (C := Try.checked) (by kernel_rfl) started (by kernel_rfl) Try.func6
    (ChangeSpec.witness6 (enc := enc) (C := Try.checked) false ⟨#[], #[.agg #[.int .i64 0, .int .i64 0, .int .i64 0, .int .i64 0, .int .i64 0, .int .i64 0, .bool false, .int .i64 0], .agg #[.int .i64 0, .int .i64 0, .int .i64 0, .int .i64 0, .int .i64 0, .int .i64 0, .int .i64 0, .int .i64 0], .agg #[.int .i64 0, .int .i64 0, .int .i64 0, .int .i64 0, .int .i64 0]], []⟩ 8 (by kernel_rfl) (by kernel_rfl) (by kernel_rfl) (by kernel_rfl)) ?_
  intro W base args ds gs before hval hW _ _
  refine law_contract laidOutFitCosts rfl (tb := 4) (by kernel_rfl) (by kernel_rfl) (d := 6) (tys := [frmTy, rulTy, .st [.int .i64, .int .i64, .int .i64, spTy]]) (by kernel_rfl) (fun t ht => ?_) (fun ds hds => ?_) (fun vs hvs => ?_) W base args ds gs before hval hW
  · have h : ∀ t ∈ Try.f6.params.toList, decide (Try.prog.readableRec t = true ∧ t < Try.prog.types.size) = true := by
      have : Try.f6.params.toList.all (fun t => decide (Try.prog.readableRec t = true ∧ t < Try.prog.types.size)) = true := by kernel_rfl
      exact List.all_eq_true.1 this
    exact of_decide_eq_true (h t ht)
  · have hp : Try.f6.params.size = 3 := by kernel_rfl
    rw [hp] at hds
    match ds, hds with
    | [d1, d2, d3], _ => exact ⟨rfl, rfl, rfl⟩
  · simp only [HasVs] at hvs
    obtain ⟨v1, u1, rfl, h1, v2, u2, rfl, h2, v3, u3, rfl, h3, rfl⟩ := hvs
    obtain ⟨f, rfl⟩ := can_frm h1
    obtain ⟨r, rfl⟩ := can_rul h2
    obtain ⟨a, b, c, d, rfl⟩ := can_at h3
    exact (run_sound tabOk 6 _ _ (run2_true tabR (p6_costs p14 f r a b c d) (RelL.cons (rel_frm f) (RelL.cons (rel_aggI [r.step.1, r.step.2, r.thick.1, r.thick.2, r.left.1, r.left.2, r.right.1, r.right.2]) (RelL.one (rel_aggI [a, b, c, d.1, d.2])))))).2
theorem fitCosts_holds : Rows.FitCostsSaid :=
  OpenClaim.holds_of_wide 6 Try.f6 rfl rfl rfl rfl rfl rfl rfl ⟨rfl, rfl, rfl, rfl, rfl⟩ rfl rfl rfl rfl rfl (by kernel_rfl) Try.func6 (by kernel_rfl)
    (of_decide_eq_true (by kernel_rfl)) (by unfold Func.isWrapper; rw [if_neg (by decide +kernel)]; exact ⟨rfl, rfl⟩)
    (fun os started H enc _ => fitCosts_lifted os started H enc)
end Go.Proofs.Ytgmgjibmjdhkhaa
#print axioms Go.Proofs.Ytgmgjibmjdhkhaa.fitCosts_holds
