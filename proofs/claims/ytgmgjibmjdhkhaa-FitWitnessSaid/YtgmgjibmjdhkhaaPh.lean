/- Texts put together. -/
import Derived.Test.YtgmgjibmjdhkhaaPg
/- Perfect threads of the reference: rings and plugs. -/
namespace Go.Lo
open Go.Proofs
set_option linter.unusedSimpArgs false
set_option maxHeartbeats 8000000
theorem p74 {f : Frm} (hf : FNum f) {c : Int} (hc : -100000000000 ≤ c ∧ c ≤ 100000000000) {k : Nat} (hk : k < 60) {y : Int} (hy : -200000 ≤ y ∧ y ≤ 200000) :
    R 74 [.agg (eF f), I c, I k, I y] = some (.tup [I (4000 * k * f.pitch - 1000 * f.pitch + 4 * (y - c) * f.left), I (4000 * k * f.pitch + 1000 * f.pitch - 4 * (y - c) * f.right)]) := by
  have h1 := hf.pitch
  have h2 := hf.left
  have h3 := hf.right
  have m1 := abs_mul (a := 4000 * (k : Int)) (b := f.pitch) (A := 240000) (C := 200000) (by omega) (by omega)
  have m2 := abs_mul (a := 4 * (y - c)) (b := f.left) (A := 400000800000) (C := 3000) (by omega) (by omega)
  have m3 := abs_mul (a := 4 * (y - c)) (b := f.right) (A := 400000800000) (C := 3000) (by omega) (by omega)
  have w1 := wrap64 (n := 4000 * (k : Int) * f.pitch) (by omega) (by omega)
  have w2 := wrap64 (n := 4 * (y - c) * f.left) (by omega) (by omega)
  have w3 := wrap64 (n := 4 * (y - c) * f.right) (by omega) (by omega)
  generalize hz1 : 4000 * (k : Int) * f.pitch = z1 at *
  generalize hz2 : 4 * (y - c) * f.left = z2 at *
  generalize hz3 : 4 * (y - c) * f.right = z3 at *
  refine run2_body 1 rfl rfl rfl rfl rfl ?_
  simp (maxSteps := 2000000) (disch := first | omega | (simp; done) | (simp; omega)) [-getElem?_pos, l74, eF, hz1, hz2, hz3, w1, w2, w3, wrap64]
theorem rfold_bdA {A : Int} (hA : 0 ≤ A ∧ A ≤ 1152921504606846976) {l : List (Int × Int)} (hb : ∀ x ∈ l, (-A ≤ x.1 ∧ x.1 ≤ A) ∧ (-A ≤ x.2 ∧ x.2 ≤ A)) : (-1152921504606846976 ≤ (rfold l).1 ∧ (rfold l).1 ≤ A) ∧ (-A ≤ (rfold l).2 ∧ (rfold l).2 ≤ 1152921504606846976) := by
  have key : ∀ (l : List (Int × Int)) (y : Int × Int), (∀ x ∈ l, (-A ≤ x.1 ∧ x.1 ≤ A) ∧ (-A ≤ x.2 ∧ x.2 ≤ A)) → ((-1152921504606846976 ≤ y.1 ∧ y.1 ≤ A) ∧ (-A ≤ y.2 ∧ y.2 ≤ 1152921504606846976)) → ((-1152921504606846976 ≤ (l.foldl rstep y).1 ∧ (l.foldl rstep y).1 ≤ A) ∧ (-A ≤ (l.foldl rstep y).2 ∧ (l.foldl rstep y).2 ≤ 1152921504606846976)) := by
    intro l
    induction l with
    | nil => intro y _ h; exact h
    | cons x l ih =>
      intro y h1 h2
      refine ih _ (fun z hz => h1 z (by simp [hz])) ?_
      have := h1 x (by simp)
      unfold rstep
      simp only
      omega
  exact key l _ hb (by simp only; omega)
def ringP (f : Frm) (d : Int × Int) (t : Thr) (c : Int) (k : Nat) : Int × Int := (-lf f t k + 4 * mst d (f.left - t.2.1) - 4 * (c * f.left), -rt f t k - 4 * mst d (f.right - t.2.2) + 4 * (c * f.right))
def plugP (f : Frm) (d : Int × Int) (t : Thr) (c : Int) (k : Nat) : Int × Int := (lf f t k + 4 * mst d (t.2.1 - f.left) + 4 * (c * f.left), rt f t k - 4 * mst d (t.2.2 - f.right) - 4 * (c * f.right))
theorem ringP_bd {f : Frm} (hf : FNum f) {d : Int × Int} (hd : DOk d) {t : Thr} (ht : TOk t) {c : Int} (hc : -100000000000 ≤ c ∧ c ≤ 100000000000) {k : Nat} (hk : k < t.1.length) : (-2000000000000000 ≤ (ringP f d t c k).1 ∧ (ringP f d t c k).1 ≤ 2000000000000000) ∧ (-2000000000000000 ≤ (ringP f d t c k).2 ∧ (ringP f d t c k).2 ≤ 2000000000000000) := by
  have h2 := hf.left
  have h3 := hf.right
  have hl := ht.lean
  have b := flank_bd hf ht hk
  have m1 := mst_bd hd (b := f.left - t.2.1) (by omega)
  have m2 := mst_bd hd (b := f.right - t.2.2) (by omega)
  have m3 := abs_mul (a := c) (b := f.left) (A := 100000000000) (C := 3000) (by omega) (by omega)
  have m4 := abs_mul (a := c) (b := f.right) (A := 100000000000) (C := 3000) (by omega) (by omega)
  unfold ringP
  simp only
  omega
def ringF (f : Frm) (d : Int × Int) (t : Thr) (c : Int) (n : Nat) : Int × Int := rfold ((List.range n).map (ringP f d t c))
theorem ringF_succ (f : Frm) (d : Int × Int) (t : Thr) (c : Int) (n : Nat) : ringF f d t c (n + 1) = rstep (ringF f d t c n) (ringP f d t c n) := by
  unfold ringF; rw [List.range_succ, List.map_append]; exact rfold_snoc _ _
theorem p63 {f : Frm} (hf : FNum f) {d : Int × Int} (hd : DOk d) {t : Thr} (ht : TOk t) {c : Int} (hc : -100000000000 ≤ c ∧ c ≤ 100000000000) :
    R 63 [.agg (eF f), .agg (eT t), eS d, I c] = some (B (decide ((ringF f d t c t.1.length).1 ≤ (ringF f d t c t.1.length).2))) := by
  have hl := ht.len
  have L := loop_all (s := fun i => { fr := [(3, I c), (4, .box (eF f)), (5, .box (eT t)), (6, .box [I d.1, I d.2]), (9, I (ringF f d t c i).1), (10, I (ringF f d t c i).2), (11, I i)], tk := [] }) (f := evC2 R (t.1.length + 3) b63_0) (n := t.1.length)
    (X := (.exit 0, { fr := [(3, I c), (4, .box (eF f)), (5, .box (eT t)), (6, .box [I d.1, I d.2]), (9, I (ringF f d t c t.1.length).1), (10, I (ringF f d t c t.1.length).2), (11, I t.1.length), (20, B false)], tk := [] }))
    (fun i hi => by
      have hx := turn_get hi
      have hy := rfold_bdA (A := 2000000000000000) (by omega) (l := (List.range i).map (ringP f d t c)) (fun x hx => by
        obtain ⟨k, hk, rfl⟩ := List.mem_map.1 hx
        exact ringP_bd hf hd ht hc (by have := List.mem_range.1 hk; omega))
      rw [show rfold ((List.range i).map (ringP f d t c)) = ringF f d t c i from rfl] at hy
      have ha := (ht.turn _ (List.mem_of_getElem? hx)).1
      have dlo := hd.lo
      have dle := hd.le
      have dhi := hd.hi
      have i0 := p74 hf hc (k := i) (by omega) (y := d.1) (by omega)
      have i1 := p74 hf hc (k := i) (by omega) (y := d.2) (by omega)
      have l0 := p68 ht hx (y := d.1) (by omega)
      have l1 := p68 ht hx (y := d.2) (by omega)
      have r0 := p69 ht hx (y := d.1) (by omega)
      have r1 := p69 ht hx (y := d.2) (by omega)
      have h1 := hf.pitch
      have h2 := hf.left
      have h3 := hf.right
      have hle := ht.lean
      have n1 := abs_mul (a := (i : Int)) (b := f.pitch) (A := 60) (C := 200000) (by omega) (by omega)
      have n2 := abs_mul (a := c) (b := f.left) (A := 100000000000) (C := 3000) (by omega) (by omega)
      have n3 := abs_mul (a := c) (b := f.right) (A := 100000000000) (C := 3000) (by omega) (by omega)
      have n4 := abs_mul (a := d.1) (b := f.left) (A := 200000) (C := 3000) (by omega) (by omega)
      have n5 := abs_mul (a := d.2) (b := f.left) (A := 200000) (C := 3000) (by omega) (by omega)
      have n6 := abs_mul (a := d.1) (b := f.right) (A := 200000) (C := 3000) (by omega) (by omega)
      have n7 := abs_mul (a := d.2) (b := f.right) (A := 200000) (C := 3000) (by omega) (by omega)
      have m0 := abs_mul (a := d.1) (b := t.2.1) (A := 200000) (C := 3000) (by omega) (by omega)
      have m1 := abs_mul (a := d.2) (b := t.2.1) (A := 200000) (C := 3000) (by omega) (by omega)
      have m4 := abs_mul (a := d.1) (b := t.2.2) (A := 200000) (C := 3000) (by omega) (by omega)
      have m5 := abs_mul (a := d.2) (b := t.2.2) (A := 200000) (C := 3000) (by omega) (by omega)
      rw [ringF_succ]
      generalize ringF f d t c i = y at *
      have q0 : 4000 * (i : Int) * f.pitch = 4000 * ((i : Int) * f.pitch) := Int.mul_assoc _ _ _
      have q1 : 4 * (d.1 - c) * f.left = 4 * (d.1 * f.left - c * f.left) := by rw [Int.mul_assoc, Int.sub_mul]
      have q2 : 4 * (d.2 - c) * f.left = 4 * (d.2 * f.left - c * f.left) := by rw [Int.mul_assoc, Int.sub_mul]
      have q3 : 4 * (d.1 - c) * f.right = 4 * (d.1 * f.right - c * f.right) := by rw [Int.mul_assoc, Int.sub_mul]
      have q4 : 4 * (d.2 - c) * f.right = 4 * (d.2 * f.right - c * f.right) := by rw [Int.mul_assoc, Int.sub_mul]
      have q5 : 4 * (i : Int) * f.pitch = 4 * ((i : Int) * f.pitch) := Int.mul_assoc _ _ _
      rw [q0, q1, q3] at i0
      rw [q0, q2, q4] at i1
      have hst : ∃ u0 u1 v0 v1 : Int, rstep y (ringP f d t c i) = (max (max y.1 u0) u1, min (min y.2 v0) v1) ∧ u0 = (4000 * ((i : Int) * f.pitch) - 1000 * f.pitch + 4 * (d.1 * f.left - c * f.left)) - 4 * (1000 * (turn t.1 i).1 + d.1 * t.2.1) ∧ u1 = (4000 * ((i : Int) * f.pitch) - 1000 * f.pitch + 4 * (d.2 * f.left - c * f.left)) - 4 * (1000 * (turn t.1 i).1 + d.2 * t.2.1) ∧
          v0 = (4000 * ((i : Int) * f.pitch) + 1000 * f.pitch - 4 * (d.1 * f.right - c * f.right)) - 4 * (1000 * (turn t.1 i).2 - d.1 * t.2.2) ∧ v1 = (4000 * ((i : Int) * f.pitch) + 1000 * f.pitch - 4 * (d.2 * f.right - c * f.right)) - 4 * (1000 * (turn t.1 i).2 - d.2 * t.2.2) := by
        refine ⟨_, _, _, _, ?_, rfl, rfl, rfl, rfl⟩
        unfold rstep ringP mst lf rt
        rw [q5]
        simp only [Int.mul_sub d.1, Int.mul_sub d.2]
        refine Prod.ext ?_ ?_ <;> simp only <;> omega
      obtain ⟨u0, u1, v0, v1, hst, hu0, hu1, hv0, hv1⟩ := hst
      rw [hst]
      clear hst q0 q1 q2 q3 q4 q5
      generalize turn t.1 i = x at *
      generalize (i : Int) * f.pitch = z0 at *
      generalize c * f.left = z1 at *
      generalize c * f.right = z2 at *
      generalize d.1 * f.left = z3 at *
      generalize d.2 * f.left = z4 at *
      generalize d.1 * f.right = z5 at *
      generalize d.2 * f.right = z6 at *
      generalize d.1 * t.2.1 = z7 at *
      generalize d.2 * t.2.1 = z8 at *
      generalize d.1 * t.2.2 = z9 at *
      generalize d.2 * t.2.2 = z10 at *
      have Li : iter (evC2 R (t.1.length + 3) b63_1) (t.1.length + 3) { fr := [(3, I c), (4, .box (eF f)), (5, .box (eT t)), (6, .box [I d.1, I d.2]), (9, I y.1), (10, I y.2), (11, I i), (12, I 0)], tk := [] } =
          some (.exit 2, { fr := [(3, I c), (4, .box (eF f)), (5, .box (eT t)), (6, .box [I d.1, I d.2]), (9, I (max (max y.1 u0) u1)), (10, I (min (min y.2 v0) v1)), (11, I i), (12, I 2), (24, B false)], tk := [] }) := by
        simp only [eF, eT] at i0 i1 l0 l1 r0 r1
        rw [iter_succ]
        subst hu0 hv0
        simp (maxSteps := 2000000) (disch := first | omega | (simp; done) | (simp; omega)) [-getElem?_pos, -maxL, -minL, maxL2, minL2, b63_1, eF, eT, i0, l0, r0, wrap64]
        rw [iter_succ]
        subst hu1 hv1
        simp (maxSteps := 2000000) (disch := first | omega | (simp; done) | (simp; omega)) [-getElem?_pos, -maxL, -minL, maxL2, minL2, b63_1, eF, eT, i1, l1, r1, wrap64]
        rw [iter_succ]
        simp (maxSteps := 2000000) (disch := first | omega | (simp; done) | (simp; omega)) [-getElem?_pos, b63_1]
      clear i0 i1 l0 l1 r0 r1
      generalize max (max y.1 u0) u1 = a1 at *
      generalize min (min y.2 v0) v1 = a2 at *
      simp [eF, eT] at Li
      simp (maxSteps := 2000000) (disch := first | omega | (simp; done) | (simp; omega)) [-getElem?_pos, b63_0, eF, eT, hi, Li, wrap64]) (by
      generalize ringF f d t c t.1.length = y at *
      simp (maxSteps := 2000000) (disch := first | omega | (simp; done) | (simp; omega)) [-getElem?_pos, b63_0, eF, eT]) (by simp)
  have L := iter_le (f := evC2 R (t.1.length + 3) b63_0) (fun _ _ h => h) (show t.1.length + 1 ≤ t.1.length + 3 by omega) L
  have h0 : ringF f d t c 0 = (-1152921504606846976, 1152921504606846976) := rfl
  simp only [h0] at L
  generalize ringF f d t c t.1.length = y at *
  simp [eF, eT] at L
  refine run2_body (t.1.length + 3) rfl rfl rfl rfl rfl ?_
  simp (maxSteps := 2000000) (disch := first | omega | (simp; done) | (simp; omega)) [-getElem?_pos, l63, eF, eT, L]
theorem plugP_bd {f : Frm} (hf : FNum f) {d : Int × Int} (hd : DOk d) {t : Thr} (ht : TOk t) {c : Int} (hc : -100000000000 ≤ c ∧ c ≤ 100000000000) {k : Nat} (hk : k < t.1.length) : (-2000000000000000 ≤ (plugP f d t c k).1 ∧ (plugP f d t c k).1 ≤ 2000000000000000) ∧ (-2000000000000000 ≤ (plugP f d t c k).2 ∧ (plugP f d t c k).2 ≤ 2000000000000000) := by
  have h2 := hf.left
  have h3 := hf.right
  have hl := ht.lean
  have b := flank_bd hf ht hk
  have m1 := mst_bd hd (b := t.2.1 - f.left) (by omega)
  have m2 := mst_bd hd (b := t.2.2 - f.right) (by omega)
  have m3 := abs_mul (a := c) (b := f.left) (A := 100000000000) (C := 3000) (by omega) (by omega)
  have m4 := abs_mul (a := c) (b := f.right) (A := 100000000000) (C := 3000) (by omega) (by omega)
  unfold plugP
  simp only
  omega
def plugF (f : Frm) (d : Int × Int) (t : Thr) (c : Int) (n : Nat) : Int × Int := rfold ((List.range n).map (plugP f d t c))
theorem plugF_succ (f : Frm) (d : Int × Int) (t : Thr) (c : Int) (n : Nat) : plugF f d t c (n + 1) = rstep (plugF f d t c n) (plugP f d t c n) := by
  unfold plugF; rw [List.range_succ, List.map_append]; exact rfold_snoc _ _
theorem p64 {f : Frm} (hf : FNum f) {d : Int × Int} (hd : DOk d) {t : Thr} (ht : TOk t) {c : Int} (hc : -100000000000 ≤ c ∧ c ≤ 100000000000) :
    R 64 [.agg (eF f), .agg (eT t), eS d, I c] = some (B (decide ((plugF f d t c t.1.length).1 ≤ (plugF f d t c t.1.length).2))) := by
  have hl := ht.len
  have L := loop_all (s := fun i => { fr := [(3, I c), (4, .box (eF f)), (5, .box (eT t)), (6, .box [I d.1, I d.2]), (9, I (plugF f d t c i).1), (10, I (plugF f d t c i).2), (11, I i)], tk := [] }) (f := evC2 R (t.1.length + 3) b64_0) (n := t.1.length)
    (X := (.exit 0, { fr := [(3, I c), (4, .box (eF f)), (5, .box (eT t)), (6, .box [I d.1, I d.2]), (9, I (plugF f d t c t.1.length).1), (10, I (plugF f d t c t.1.length).2), (11, I t.1.length), (20, B false)], tk := [] }))
    (fun i hi => by
      have hx := turn_get hi
      have hy := rfold_bdA (A := 2000000000000000) (by omega) (l := (List.range i).map (plugP f d t c)) (fun x hx => by
        obtain ⟨k, hk, rfl⟩ := List.mem_map.1 hx
        exact plugP_bd hf hd ht hc (by have := List.mem_range.1 hk; omega))
      rw [show rfold ((List.range i).map (plugP f d t c)) = plugF f d t c i from rfl] at hy
      have ha := (ht.turn _ (List.mem_of_getElem? hx)).1
      have dlo := hd.lo
      have dle := hd.le
      have dhi := hd.hi
      have i0 := p74 hf hc (k := i) (by omega) (y := d.1) (by omega)
      have i1 := p74 hf hc (k := i) (by omega) (y := d.2) (by omega)
      have l0 := p68 ht hx (y := d.1) (by omega)
      have l1 := p68 ht hx (y := d.2) (by omega)
      have r0 := p69 ht hx (y := d.1) (by omega)
      have r1 := p69 ht hx (y := d.2) (by omega)
      have h1 := hf.pitch
      have h2 := hf.left
      have h3 := hf.right
      have hle := ht.lean
      have n1 := abs_mul (a := (i : Int)) (b := f.pitch) (A := 60) (C := 200000) (by omega) (by omega)
      have n2 := abs_mul (a := c) (b := f.left) (A := 100000000000) (C := 3000) (by omega) (by omega)
      have n3 := abs_mul (a := c) (b := f.right) (A := 100000000000) (C := 3000) (by omega) (by omega)
      have n4 := abs_mul (a := d.1) (b := f.left) (A := 200000) (C := 3000) (by omega) (by omega)
      have n5 := abs_mul (a := d.2) (b := f.left) (A := 200000) (C := 3000) (by omega) (by omega)
      have n6 := abs_mul (a := d.1) (b := f.right) (A := 200000) (C := 3000) (by omega) (by omega)
      have n7 := abs_mul (a := d.2) (b := f.right) (A := 200000) (C := 3000) (by omega) (by omega)
      have m0 := abs_mul (a := d.1) (b := t.2.1) (A := 200000) (C := 3000) (by omega) (by omega)
      have m1 := abs_mul (a := d.2) (b := t.2.1) (A := 200000) (C := 3000) (by omega) (by omega)
      have m4 := abs_mul (a := d.1) (b := t.2.2) (A := 200000) (C := 3000) (by omega) (by omega)
      have m5 := abs_mul (a := d.2) (b := t.2.2) (A := 200000) (C := 3000) (by omega) (by omega)
      rw [plugF_succ]
      generalize plugF f d t c i = y at *
      have q0 : 4000 * (i : Int) * f.pitch = 4000 * ((i : Int) * f.pitch) := Int.mul_assoc _ _ _
      have q1 : 4 * (d.1 - c) * f.left = 4 * (d.1 * f.left - c * f.left) := by rw [Int.mul_assoc, Int.sub_mul]
      have q2 : 4 * (d.2 - c) * f.left = 4 * (d.2 * f.left - c * f.left) := by rw [Int.mul_assoc, Int.sub_mul]
      have q3 : 4 * (d.1 - c) * f.right = 4 * (d.1 * f.right - c * f.right) := by rw [Int.mul_assoc, Int.sub_mul]
      have q4 : 4 * (d.2 - c) * f.right = 4 * (d.2 * f.right - c * f.right) := by rw [Int.mul_assoc, Int.sub_mul]
      have q5 : 4 * (i : Int) * f.pitch = 4 * ((i : Int) * f.pitch) := Int.mul_assoc _ _ _
      rw [q0, q1, q3] at i0
      rw [q0, q2, q4] at i1
      have hst : ∃ u0 u1 v0 v1 : Int, rstep y (plugP f d t c i) = (max (max y.1 u0) u1, min (min y.2 v0) v1) ∧ u0 = 4 * (1000 * (turn t.1 i).1 + d.1 * t.2.1) - (4000 * ((i : Int) * f.pitch) - 1000 * f.pitch + 4 * (d.1 * f.left - c * f.left)) ∧ u1 = 4 * (1000 * (turn t.1 i).1 + d.2 * t.2.1) - (4000 * ((i : Int) * f.pitch) - 1000 * f.pitch + 4 * (d.2 * f.left - c * f.left)) ∧
          v0 = 4 * (1000 * (turn t.1 i).2 - d.1 * t.2.2) - (4000 * ((i : Int) * f.pitch) + 1000 * f.pitch - 4 * (d.1 * f.right - c * f.right)) ∧ v1 = 4 * (1000 * (turn t.1 i).2 - d.2 * t.2.2) - (4000 * ((i : Int) * f.pitch) + 1000 * f.pitch - 4 * (d.2 * f.right - c * f.right)) := by
        refine ⟨_, _, _, _, ?_, rfl, rfl, rfl, rfl⟩
        unfold rstep plugP mst lf rt
        rw [q5]
        simp only [Int.mul_sub d.1, Int.mul_sub d.2]
        refine Prod.ext ?_ ?_ <;> simp only <;> omega
      obtain ⟨u0, u1, v0, v1, hst, hu0, hu1, hv0, hv1⟩ := hst
      rw [hst]
      clear hst q0 q1 q2 q3 q4 q5
      generalize turn t.1 i = x at *
      generalize (i : Int) * f.pitch = z0 at *
      generalize c * f.left = z1 at *
      generalize c * f.right = z2 at *
      generalize d.1 * f.left = z3 at *
      generalize d.2 * f.left = z4 at *
      generalize d.1 * f.right = z5 at *
      generalize d.2 * f.right = z6 at *
      generalize d.1 * t.2.1 = z7 at *
      generalize d.2 * t.2.1 = z8 at *
      generalize d.1 * t.2.2 = z9 at *
      generalize d.2 * t.2.2 = z10 at *
      have Li : iter (evC2 R (t.1.length + 3) b64_1) (t.1.length + 3) { fr := [(3, I c), (4, .box (eF f)), (5, .box (eT t)), (6, .box [I d.1, I d.2]), (9, I y.1), (10, I y.2), (11, I i), (12, I 0)], tk := [] } =
          some (.exit 2, { fr := [(3, I c), (4, .box (eF f)), (5, .box (eT t)), (6, .box [I d.1, I d.2]), (9, I (max (max y.1 u0) u1)), (10, I (min (min y.2 v0) v1)), (11, I i), (12, I 2), (24, B false)], tk := [] }) := by
        simp only [eF, eT] at i0 i1 l0 l1 r0 r1
        rw [iter_succ]
        subst hu0 hv0
        simp (maxSteps := 2000000) (disch := first | omega | (simp; done) | (simp; omega)) [-getElem?_pos, -maxL, -minL, maxL2, minL2, b64_1, eF, eT, i0, l0, r0, wrap64]
        rw [iter_succ]
        subst hu1 hv1
        simp (maxSteps := 2000000) (disch := first | omega | (simp; done) | (simp; omega)) [-getElem?_pos, -maxL, -minL, maxL2, minL2, b64_1, eF, eT, i1, l1, r1, wrap64]
        rw [iter_succ]
        simp (maxSteps := 2000000) (disch := first | omega | (simp; done) | (simp; omega)) [-getElem?_pos, b64_1]
      clear i0 i1 l0 l1 r0 r1
      generalize max (max y.1 u0) u1 = a1 at *
      generalize min (min y.2 v0) v1 = a2 at *
      simp [eF, eT] at Li
      simp (maxSteps := 2000000) (disch := first | omega | (simp; done) | (simp; omega)) [-getElem?_pos, b64_0, eF, eT, hi, Li, wrap64]) (by
      generalize plugF f d t c t.1.length = y at *
      simp (maxSteps := 2000000) (disch := first | omega | (simp; done) | (simp; omega)) [-getElem?_pos, b64_0, eF, eT]) (by simp)
  have L := iter_le (f := evC2 R (t.1.length + 3) b64_0) (fun _ _ h => h) (show t.1.length + 1 ≤ t.1.length + 3 by omega) L
  have h0 : plugF f d t c 0 = (-1152921504606846976, 1152921504606846976) := rfl
  simp only [h0] at L
  generalize plugF f d t c t.1.length = y at *
  simp [eF, eT] at L
  refine run2_body (t.1.length + 3) rfl rfl rfl rfl rfl ?_
  simp (maxSteps := 2000000) (disch := first | omega | (simp; done) | (simp; omega)) [-getElem?_pos, l64, eF, eT, L]
end Go.Lo

/- Sizes by halving: the reference's Screw and Nut. -/
namespace Go.Lo
open Go.Proofs
set_option linter.unusedSimpArgs false
set_option maxHeartbeats 8000000
theorem shf_mx (A C : Nat → Int) (U V : Int) : ∀ n, 0 < n → shf ((List.range n).map fun k => (A k + U, -(C k) - V)) = (mx ((List.range n).map A) + U, -mx ((List.range n).map C) - V) := by
  intro n
  induction n with
  | zero => intro h; omega
  | succ n ih =>
    intro _
    rw [List.range_succ, List.map_append, List.map_append, List.map_append]
    simp only [List.map_cons, List.map_nil]
    rw [shf_snoc, mx_snoc, mx_snoc]
    by_cases hn : n = 0
    · subst hn; simp
    · have e : ∀ {β : Type} (g : Nat → β), ¬ (List.range n).map g = [] := fun g h => by
        have := congrArg List.length h
        simp at this; omega
      rw [if_neg (e _), if_neg (e _), if_neg (e _), ih (by omega)]
      refine Prod.ext ?_ ?_ <;> simp only <;> omega
theorem ringF_eq {f : Frm} (hf : FNum f) {d : Int × Int} (hd : DOk d) {t : Thr} (ht : TOk t) {c : Int} (hc : -100000000000 ≤ c ∧ c ≤ 100000000000) :
    decide ((ringF f d t c t.1.length).1 ≤ (ringF f d t c t.1.length).2) = decide (sizeOf3 f d t 1 ≤ 4 * (c * (f.left + f.right))) := by
  have hp := ht.pos
  have e1 : ringF f d t c t.1.length = shf ((List.range t.1.length).map (ringP f d t c)) := by
    unfold ringF
    refine rfold_shf (fun h => ?_) (fun x hx => ?_)
    · have h0 := congrArg List.length h; rw [List.length_map, List.length_range, List.length_nil] at h0; omega
    · obtain ⟨k, hk, rfl⟩ := List.mem_map.1 hx
      have := ringP_bd hf hd ht hc (List.mem_range.1 hk)
      omega
  have e2 : ringP f d t c = fun k => ((fun k => -lf f t k) k + (4 * mst d (f.left - t.2.1) - 4 * (c * f.left)), -((fun k => rt f t k) k) - (4 * mst d (f.right - t.2.2) - 4 * (c * f.right))) := by
    funext k
    unfold ringP
    refine Prod.ext ?_ ?_ <;> simp only <;> omega
  rw [e1, e2, shf_mx _ _ _ _ _ (by omega)]
  unfold sizeOf3 lefts rights
  simp only [Int.one_mul, Int.neg_mul, Int.mul_add]
  generalize mx ((List.range t.1.length).map fun k => -lf f t k) = a
  generalize mx ((List.range t.1.length).map fun k => rt f t k) = b
  rw [decide_eq_decide]
  omega
theorem plugF_eq {f : Frm} (hf : FNum f) {d : Int × Int} (hd : DOk d) {t : Thr} (ht : TOk t) {c : Int} (hc : -100000000000 ≤ c ∧ c ≤ 100000000000) :
    decide ((plugF f d t c t.1.length).1 ≤ (plugF f d t c t.1.length).2) = decide (4 * (c * (f.left + f.right)) ≤ -sizeOf3 f d t (-1)) := by
  have hp := ht.pos
  have e1 : plugF f d t c t.1.length = shf ((List.range t.1.length).map (plugP f d t c)) := by
    unfold plugF
    refine rfold_shf (fun h => ?_) (fun x hx => ?_)
    · have h0 := congrArg List.length h; rw [List.length_map, List.length_range, List.length_nil] at h0; omega
    · obtain ⟨k, hk, rfl⟩ := List.mem_map.1 hx
      have := plugP_bd hf hd ht hc (List.mem_range.1 hk)
      omega
  have e2 : plugP f d t c = fun k => ((fun k => lf f t k) k + (4 * mst d (t.2.1 - f.left) + 4 * (c * f.left)), -((fun k => -rt f t k) k) - (4 * mst d (t.2.2 - f.right) + 4 * (c * f.right))) := by
    funext k
    unfold plugP
    refine Prod.ext ?_ ?_ <;> simp only <;> omega
  rw [e1, e2, shf_mx _ _ _ _ _ (by omega)]
  unfold sizeOf3 lefts rights
  have s1 : -1 * (f.left - t.2.1) = t.2.1 - f.left := by omega
  have s2 : -1 * (f.right - t.2.2) = t.2.2 - f.right := by omega
  rw [s1, s2]
  simp only [Int.one_mul, Int.neg_mul, Int.neg_neg, Int.mul_add]
  generalize mx ((List.range t.1.length).map fun k => lf f t k) = a
  generalize mx ((List.range t.1.length).map fun k => -rt f t k) = b
  rw [decide_eq_decide]
  omega
/-- Halving. -/
theorem loop_bis {f : St → Option (Ex × St)} {s : Int → Int → St} {P : Int → Bool} {X : Int → Int → Ex × St} {A : Int}
    (hs : ∀ a b, -A ≤ a ∧ a < b ∧ b ≤ A → 1 < b - a → f (s a b) = some (.normal, if P ((a + b).tdiv 2) = true then s a ((a + b).tdiv 2) else s ((a + b).tdiv 2) b))
    (hX : ∀ a b, -A ≤ a ∧ a < b ∧ b ≤ A → ¬ 1 < b - a → f (s a b) = some (X a b)) (hx : ∀ a b, (X a b).1 ≠ .normal) :
    ∀ n a b, -A ≤ a ∧ a < b ∧ b ≤ A → b - a ≤ ((2 ^ n : Nat) : Int) → P a = false → P b = true → ∃ c, P c = true ∧ P (c - 1) = false ∧ (-A ≤ c - 1 ∧ c ≤ A) ∧ iter f (n + 1) (s a b) = some (X (c - 1) c) := by
  have fin : ∀ n a b, -A ≤ a ∧ a < b ∧ b ≤ A → ¬ 1 < b - a → P a = false → P b = true → ∃ c, P c = true ∧ P (c - 1) = false ∧ (-A ≤ c - 1 ∧ c ≤ A) ∧ iter f (n + 1) (s a b) = some (X (c - 1) c) := by
    intro n a b h1 h2 h3 h4
    have e : b - 1 = a := by omega
    refine ⟨b, h4, by rw [e]; exact h3, by omega, ?_⟩
    rw [e]
    simp only [iter, hX a b h1 h2]
    have := hx a b
    generalize X a b = q at *
    obtain ⟨x, τ⟩ := q
    cases x with
    | normal => exact absurd rfl this
    | exit _ => rfl
    | ret => rfl
  intro n
  induction n with
  | zero =>
    intro a b h1 h2 h3 h4
    exact fin 0 a b h1 (by simp at h2; omega) h3 h4
  | succ n ih =>
    intro a b h1 h2 h3 h4
    by_cases hb : 1 < b - a
    · have hm : a < (a + b).tdiv 2 ∧ (a + b).tdiv 2 < b ∧ (a + b).tdiv 2 - a ≤ ((2 ^ n : Nat) : Int) ∧ b - (a + b).tdiv 2 ≤ ((2 ^ n : Nat) : Int) := by
        have hp : ((2 ^ (n + 1) : Nat) : Int) = 2 * ((2 ^ n : Nat) : Int) := by rw [Nat.pow_succ]; omega
        rw [hp] at h2
        generalize ((2 ^ n : Nat) : Int) = q at *
        have := Int.tmod_add_mul_tdiv (a + b) 2
        have h5 : (a + b).tmod 2 < 2 := by
          have := Int.tmod_lt_of_pos (a + b) (show (0 : Int) < 2 by omega); exact this
        have h6 : -2 < (a + b).tmod 2 := by
          have := Int.tmod_lt_of_pos (-(a + b)) (show (0 : Int) < 2 by omega)
          rw [Int.neg_tmod] at this; omega
        omega
      generalize hmm : (a + b).tdiv 2 = m at *
      have hstep := hs a b h1 hb
      rw [hmm] at hstep
      cases hP : P m with
      | true =>
        rw [hP, if_pos rfl] at hstep
        obtain ⟨c, k1, k2, k3, k4⟩ := ih a m ⟨h1.1, hm.1, by omega⟩ hm.2.2.1 h3 hP
        refine ⟨c, k1, k2, k3, ?_⟩
        rw [iter, hstep]; exact k4
      | false =>
        rw [hP, if_neg (by simp)] at hstep
        obtain ⟨c, k1, k2, k3, k4⟩ := ih m b ⟨by omega, hm.2.1, h1.2.2⟩ hm.2.2.2 hP h4
        refine ⟨c, k1, k2, k3, ?_⟩
        rw [iter, hstep]; exact k4
    · exact fin _ a b h1 hb h3 h4
theorem ceil_spec {S k c : Int} (hk : 0 < k) (h1 : S ≤ k * c) (h2 : ¬ S ≤ k * (c - 1)) : -(-S / k) = c := by
  have h3 : k * (c - 1) = k * c - k := by rw [Int.mul_sub, Int.mul_one]
  rw [h3] at h2
  have : -S / k = -c := by
    refine (Int.ediv_emod_unique (r := k * c - S) hk).2 ⟨?_, by omega, by omega⟩ |>.1
    rw [Int.mul_neg]; omega
  omega
theorem floor_spec {S k c : Int} (hk : 0 < k) (h1 : k * (c - 1) ≤ S) (h2 : ¬ k * c ≤ S) : S / k = c - 1 := by
  have h3 : k * (c - 1) = k * c - k := by rw [Int.mul_sub, Int.mul_one]
  rw [h3] at h1
  refine (Int.ediv_emod_unique (r := S - (k * c - k)) hk).2 ⟨?_, by omega, by omega⟩ |>.1
  rw [h3]; omega
theorem p23 {f : Frm} (hf : FNum f) (hz : ¬ f.left + f.right = 0) {d : Int × Int} (hd : DOk d) {t : Thr} (ht : TOk t) : R 23 [.agg (eF f), .agg (eT t), eS d] = some (I (screwV f d t)) := by
  have h2 := hf.left
  have h3 := hf.right
  have hb := size_bd hf hd ht (sg := 1) (.inl rfl)
  have hring : ∀ c, -100000000000 ≤ c ∧ c ≤ 100000000000 → R 63 [.agg (eF f), .agg (eT t), eS d, I c] = some (B (decide (sizeOf3 f d t 1 ≤ 4 * (c * (f.left + f.right))))) := fun c hc => by
    rw [← ringF_eq hf hd ht hc]; exact p63 hf hd ht hc
  have L := loop_bis (s := fun a b => { fr := [(3, .box (eF f)), (4, .box (eT t)), (5, .box [I d.1, I d.2]), (7, I a), (8, I b)], tk := [] }) (f := evC2 R 41 b23_0) (P := fun c => decide (sizeOf3 f d t 1 ≤ 4 * (c * (f.left + f.right))))
    (X := fun a b => (.exit 0, { fr := [(3, .box (eF f)), (4, .box (eT t)), (5, .box [I d.1, I d.2]), (7, I a), (8, I b), (13, B false)], tk := [] })) (A := 100000000000)
    (fun a b h1 h2 => by
      have hm : -100000000000 ≤ (a + b).tdiv 2 ∧ (a + b).tdiv 2 ≤ 100000000000 := by
        have := Int.tmod_add_mul_tdiv (a + b) 2
        have h5 : (a + b).tmod 2 < 2 := Int.tmod_lt_of_pos (a + b) (show (0 : Int) < 2 by omega)
        have h6 : -2 < (a + b).tmod 2 := by
          have := Int.tmod_lt_of_pos (-(a + b)) (show (0 : Int) < 2 by omega)
          rw [Int.neg_tmod] at this; omega
        omega
      have e1 := hring _ hm
      have w1 := wrap64 (n := b - a) (by omega) (by omega)
      have w2 := wrap64 (n := a + b) (by omega) (by omega)
      have w3 := wrap64 (n := (a + b).tdiv 2) (by omega) (by omega)
      have h7 : b - a > 1 := h2
      generalize hmm : (a + b).tdiv 2 = m at *
      simp only [eF, eT] at e1
      by_cases hP : sizeOf3 f d t 1 ≤ 4 * (m * (f.left + f.right))
      · simp only [hP, decide_true] at e1 ⊢
        simp (maxSteps := 2000000) (disch := first | omega | (simp; done) | (simp; omega)) [-getElem?_pos, b23_0, eF, eT, e1, w1, w2, w3, h7, hmm]
      · simp only [hP, decide_false] at e1 ⊢
        simp (maxSteps := 2000000) (disch := first | omega | (simp; done) | (simp; omega)) [-getElem?_pos, b23_0, eF, eT, e1, w1, w2, w3, h7, hmm])
    (fun a b h1 h2 => by
      have w1 := wrap64 (n := b - a) (by omega) (by omega)
      have h7 : ¬ b - a > 1 := h2
      simp (maxSteps := 2000000) (disch := first | omega | (simp; done) | (simp; omega)) [-getElem?_pos, b23_0, eF, eT, w1, h7]) (fun _ _ => by simp) 40 (-100000000000) 100000000000 (by omega) (by decide) (by
      rw [decide_eq_false_iff_not, Int.mul_add]; omega) (by
      rw [decide_eq_true_eq, Int.mul_add]; omega)
  obtain ⟨c, k1, k2, k3, k4⟩ := L
  rw [decide_eq_true_eq] at k1
  rw [decide_eq_false_iff_not] at k2
  have hv : screwV f d t = c := by
    unfold screwV
    have e : ∀ c, 4 * (c * (f.left + f.right)) = 4 * (f.left + f.right) * c := fun c => by rw [Int.mul_assoc, Int.mul_comm c]
    rw [e] at k1 k2
    exact ceil_spec (by omega) k1 k2
  rw [hv]
  clear hring
  simp [eF, eT] at k4
  refine run2_body 41 rfl rfl rfl rfl rfl ?_
  simp (maxSteps := 2000000) (disch := first | omega | (simp; done) | (simp; omega)) [-getElem?_pos, l23, eF, eT, k4]
theorem p24 {f : Frm} (hf : FNum f) (hz : ¬ f.left + f.right = 0) {d : Int × Int} (hd : DOk d) {t : Thr} (ht : TOk t) : R 24 [.agg (eF f), .agg (eT t), eS d] = some (I (nutV f d t)) := by
  have h2 := hf.left
  have h3 := hf.right
  have hb := size_bd hf hd ht (sg := -1) (.inr rfl)
  have hplug : ∀ c, -100000000000 ≤ c ∧ c ≤ 100000000000 → R 64 [.agg (eF f), .agg (eT t), eS d, I c] = some (B (decide (4 * (c * (f.left + f.right)) ≤ -sizeOf3 f d t (-1)))) := fun c hc => by
    rw [← plugF_eq hf hd ht hc]; exact p64 hf hd ht hc
  have L := loop_bis (s := fun a b => { fr := [(3, .box (eF f)), (4, .box (eT t)), (5, .box [I d.1, I d.2]), (7, I a), (8, I b)], tk := [] }) (f := evC2 R 41 b24_0) (P := fun c => !decide (4 * (c * (f.left + f.right)) ≤ -sizeOf3 f d t (-1)))
    (X := fun a b => (.exit 0, { fr := [(3, .box (eF f)), (4, .box (eT t)), (5, .box [I d.1, I d.2]), (7, I a), (8, I b), (13, B false)], tk := [] })) (A := 100000000000)
    (fun a b h1 h2 => by
      have hm : -100000000000 ≤ (a + b).tdiv 2 ∧ (a + b).tdiv 2 ≤ 100000000000 := by
        have := Int.tmod_add_mul_tdiv (a + b) 2
        have h5 : (a + b).tmod 2 < 2 := Int.tmod_lt_of_pos (a + b) (show (0 : Int) < 2 by omega)
        have h6 : -2 < (a + b).tmod 2 := by
          have := Int.tmod_lt_of_pos (-(a + b)) (show (0 : Int) < 2 by omega)
          rw [Int.neg_tmod] at this; omega
        omega
      have e1 := hplug _ hm
      have w1 := wrap64 (n := b - a) (by omega) (by omega)
      have w2 := wrap64 (n := a + b) (by omega) (by omega)
      have w2' := wrap64 (n := b + a) (by omega) (by omega)
      have w4 : b + a = a + b := Int.add_comm _ _
      have w3 := wrap64 (n := (a + b).tdiv 2) (by omega) (by omega)
      have h7 : b - a > 1 := h2
      generalize hmm : (a + b).tdiv 2 = m at *
      have hmm' : (b + a).tdiv 2 = m := by rw [w4]; exact hmm
      simp only [eF, eT] at e1
      by_cases hP : 4 * (m * (f.left + f.right)) ≤ -sizeOf3 f d t (-1)
      · simp only [hP, decide_true] at e1 ⊢
        simp (maxSteps := 2000000) (disch := first | omega | (simp; done) | (simp; omega)) [-getElem?_pos, b24_0, eF, eT, e1, w1, w2, w2', w3, h7, hmm, hmm']
      · simp only [hP, decide_false] at e1 ⊢
        simp (maxSteps := 2000000) (disch := first | omega | (simp; done) | (simp; omega)) [-getElem?_pos, b24_0, eF, eT, e1, w1, w2, w2', w3, h7, hmm, hmm'])
    (fun a b h1 h2 => by
      have w1 := wrap64 (n := b - a) (by omega) (by omega)
      have h7 : ¬ b - a > 1 := h2
      simp (maxSteps := 2000000) (disch := first | omega | (simp; done) | (simp; omega)) [-getElem?_pos, b24_0, eF, eT, w1, h7]) (fun _ _ => by simp) 40 (-100000000000) 100000000000 (by omega) (by decide) (by
      rw [Bool.not_eq_false', decide_eq_true_eq, Int.mul_add]; omega) (by
      rw [Bool.not_eq_true', decide_eq_false_iff_not, Int.mul_add]; omega)
  obtain ⟨c, k1, k2, k3, k4⟩ := L
  rw [Bool.not_eq_true', decide_eq_false_iff_not] at k1
  rw [Bool.not_eq_false', decide_eq_true_eq] at k2
  have hv : nutV f d t = c - 1 := by
    unfold nutV
    have e : ∀ c, 4 * (c * (f.left + f.right)) = 4 * (f.left + f.right) * c := fun c => by rw [Int.mul_assoc, Int.mul_comm c]
    rw [e] at k1 k2
    exact floor_spec (by omega) k2 k1
  rw [hv]
  clear hplug
  simp [eF, eT] at k4
  refine run2_body 41 rfl rfl rfl rfl rfl ?_
  simp (maxSteps := 2000000) (disch := first | omega | (simp; done) | (simp; omega)) [-getElem?_pos, l24, eF, eT, k4]
end Go.Lo

/- The law of shifts. -/
namespace Go.Lo
open Go.Proofs
set_option linter.unusedSimpArgs false
set_option maxHeartbeats 8000000
theorem part_all {ts : List (Int × Int)} {m : Nat} (h : m ≤ ts.length) : part ts (ts.length - m) m = ts.drop (ts.length - m) := by
  unfold part
  rw [List.take_of_length_le (by omega)]
theorem refS_shf {d : Int × Int} (hd : DOk d) {s n : Thr} (hs : TOk s) (hn : TOk n) {t g m : Nat} (h1 : t + m ≤ s.1.length) (h2 : g + m ≤ n.1.length) (hm : 0 < m) : refS d s n t g m = shf (nds d s n (part s.1 t m) (part n.1 g m)) := by
  unfold refS
  refine rfold_shf ?_ fun x hx => ?_
  · intro e
    have := congrArg List.length e
    simp [part_len h1, part_len h2] at this
    omega
  · have := nds_mem hd hs hn (ts := part s.1 t m) (gs := part n.1 g m) part_sub part_sub x hx
    omega
theorem refS_step {d : Int × Int} (hd : DOk d) {s n : Thr} (hs : TOk s) (hn : TOk n) {j : Nat} (hj : j < n.1.length) : refS d s n (s.1.length - manyAt s j) (j + 1 - manyAt s j) (manyAt s j) = stepZ d s n j := by
  have h0 := hs.pos
  have hm : manyAt s j ≤ s.1.length ∧ manyAt s j ≤ j + 1 ∧ 0 < manyAt s j := by unfold manyAt; omega
  rw [refS_shf hd hs hn (by omega) (by omega) hm.2.2, part_all hm.1]
  rfl
theorem p28 {d : Int × Int} (hd : DOk d) {s n : Thr} (hs : TOk s) (hn : TOk n) : R 28 [.agg (eT s), .agg (eT n), eS d] = some (I (deepN d s n)) := by
  have ls := hs.len
  have ln := hn.len
  have hp := hs.pos
  have L := loop_if (s := fun i => { fr := [(3, .box (eT s)), (4, .box (eT n)), (5, .box [I d.1, I d.2]), (7, I s.1.length), (8, I (i + 1 : Nat))], tk := [] }) (f := evC2 R (n.1.length + 1) b28_0) (n := n.1.length) (g := fun j => !decide ((stepZ d s n j).1 ≤ (stepZ d s n j).2)) (E := fun i => (.ret, { fr := [(6, I i)], tk := [] }))
    (X := (.exit 0, { fr := [(3, .box (eT s)), (4, .box (eT n)), (5, .box [I d.1, I d.2]), (7, I s.1.length), (8, I (n.1.length + 1 : Nat)), (18, B false)], tk := [] }))
    (fun i hi => by
      have hm : manyAt s i ≤ s.1.length ∧ manyAt s i ≤ i + 1 ∧ 0 < manyAt s i := by unfold manyAt; omega
      have e1 := p29 hd hs hn (t := s.1.length - manyAt s i) (g := i + 1 - manyAt s i) (m := manyAt s i) (by omega) (by omega)
      rw [refS_step hd hs hn hi] at e1
      have hmi : min ((i : Int) + 1) (s.1.length : Int) = (manyAt s i : Int) := by unfold manyAt; omega
      generalize stepZ d s n i = z at *
      generalize manyAt s i = m at *
      have q1 : ((s.1.length - m : Nat) : Int) = (s.1.length : Int) - m := by omega
      have q2 : ((i + 1 - m : Nat) : Int) = (i : Int) + 1 - m := by omega
      rw [q1, q2] at e1
      have hle : (i : Int) + 1 ≤ n.1.length := by omega
      simp only [eT] at e1
      by_cases hz : z.1 ≤ z.2
      · have hz' : ¬ z.1 > z.2 := by omega
        simp (maxSteps := 2000000) (disch := first | omega | (simp; done) | (simp; omega)) [-getElem?_pos, -maxL, -minL, minL2, b28_0, eT, hi, hle, hmi, e1, hz, hz', wrap64]
      · have hz' : z.1 > z.2 := by omega
        simp (maxSteps := 2000000) (disch := first | omega | (simp; done) | (simp; omega)) [-getElem?_pos, -maxL, -minL, minL2, b28_0, eT, hi, hle, hmi, e1, hz, hz', wrap64]) (fun _ => by simp) (by
      have hle : ¬ (n.1.length : Int) + 1 ≤ n.1.length := by omega
      simp (maxSteps := 2000000) (disch := first | omega | (simp; done) | (simp; omega)) [-getElem?_pos, b28_0, eT, hle]) (by simp)
  rw [← List.range_eq_range'] at L
  unfold deepN
  refine run2_body (n.1.length + 1) rfl rfl rfl rfl rfl ?_
  cases hf : (List.range n.1.length).find? (fun j => !decide ((stepZ d s n j).1 ≤ (stepZ d s n j).2)) with
  | none => rw [hf] at L; simp [eT] at L; simp (maxSteps := 2000000) (disch := first | omega | (simp; done) | (simp; omega)) [-getElem?_pos, l28, eT, L]
  | some j => rw [hf] at L; simp [eT] at L; simp (maxSteps := 2000000) (disch := first | omega | (simp; done) | (simp; omega)) [-getElem?_pos, l28, eT, L]
theorem p20 {t : Thr} (hl : t.1.length ≤ 1000000000) : R 20 [.agg (eT t), .agg (eT t)] = some (B true) := by
  obtain ⟨ts, l, r⟩ := t
  have L := loop_all (s := fun i => { fr := [(2, .box (eT (ts, l, r))), (3, .box (eT (ts, l, r))), (5, I i)], tk := [] }) (f := evC2 R (ts.length + 1) b20_0) (n := ts.length) (X := (.exit 0, { fr := [(2, .box (eT (ts, l, r))), (3, .box (eT (ts, l, r))), (5, I ts.length), (31, B false)], tk := [] }))
    (fun i hi => by
      have h1 := turn_get hi
      simp only at hl
      generalize turn ts i = x at *
      simp (maxSteps := 2000000) (disch := first | omega | (simp; done) | (simp; omega)) [-getElem?_pos, b20_0, eT, h1, hi, wrap64]) (by simp (maxSteps := 2000000) (disch := first | omega | (simp; done) | (simp; omega)) [-getElem?_pos, b20_0, eT]) (by simp)
  simp [eT] at L
  refine run2_body (ts.length + 1) rfl rfl rfl rfl rfl ?_
  simp (maxSteps := 2000000) (disch := first | omega | (simp; done) | (simp; omega)) [-getElem?_pos, l20, eT, L]
theorem p15 {t : Thr} (hl : t.1.length ≤ 1000000000) : R 15 [.agg (eT t)] = some (.agg [.sl (some 0) 2 (eS2 t.1), I t.2.1, I t.2.2]) := by
  obtain ⟨ts, l, r⟩ := t
  simp only at hl
  refine run2_body 1 rfl rfl rfl rfl rfl ?_
  have hb : ts.length * 16 ≤ 140737488355328 := by omega
  simp (maxSteps := 2000000) (disch := first | omega | (simp; done) | (simp; omega)) [-getElem?_pos, l15, eT, hb]
theorem p13 (t : Thr) : R 13 [.agg (eT t)] = some (B (decide ((t.1.length : Int) > 65))) := by
  refine run2_body 1 rfl rfl rfl rfl rfl ?_
  simp (maxSteps := 2000000) (disch := first | omega | (simp; done) | (simp; omega)) [-getElem?_pos, l13, eT]
theorem flat_eS2 (l : List (Int × Int)) : flatE (eS2 l) = true := by simp [flatE, V.flat]
theorem p4 (hk : R 14 [] = some (B true)) (s n : Thr) (tooth groove many : Int) (d : Int × Int) : R 4 [.agg (eT s), .agg (eT n), .agg [I tooth, I groove, I many, I d.1, I d.2]] = some (B true) := by
  have e1 := p13 s
  have e2 := p13 n
  by_cases k1 : (s.1.length : Int) > 65
  · refine run2_body 1 rfl rfl rfl rfl rfl ?_
    simp (maxSteps := 2000000) (disch := first | omega | (simp; done) | (simp; omega)) [-getElem?_pos, l4, eT, e1, k1, hk]
  · by_cases k2 : (n.1.length : Int) > 65
    · refine run2_body 1 rfl rfl rfl rfl rfl ?_
      simp (maxSteps := 2000000) (disch := first | omega | (simp; done) | (simp; omega)) [-getElem?_pos, l4, eT, e1, e2, k1, k2, hk]
    · have c1 := p15 (t := s) (by omega)
      have c2 := p15 (t := n) (by omega)
      have s1 := p20 (t := s) (by omega)
      have s2 := p20 (t := n) (by omega)
      have e3 := p25 d s n tooth groove many
      have e4 := p26 d s n
      have e5 := p27 s n d
      unfold shiftE at e3
      unfold deepE at e4
      by_cases k0 : chkAll d [s, n] = 0
      · rw [if_neg (fun h => h k0)] at e3 e4
        obtain ⟨t1, t2, t3⟩ := chkAll_two k0
        have hs := chkT_ok t1
        have hn := chkT_ok t2
        have hd := dOk_iff.1 t3
        have e6 := p28 hd hs hn
        rw [k0] at e5
        generalize deepN d s n = dn at *
        have f1 := flat_eS2 s.1
        have f2 := flat_eS2 n.1
        have tests : placeB s n tooth groove many = false ∨ ((1 ≤ many ∧ many ≤ s.1.length ∧ many ≤ n.1.length) ∧ (0 ≤ tooth ∧ tooth ≤ s.1.length - many) ∧ (0 ≤ groove ∧ groove ≤ n.1.length - many)) := by
          cases hp : placeB s n tooth groove many with
          | false => exact .inl rfl
          | true =>
            unfold placeB at hp
            rw [decide_eq_true_eq] at hp
            right; omega
        have htot : ∀ {b : Bool}, placeB s n tooth groove many = b → (b = true ↔ ((1 ≤ many ∧ many ≤ s.1.length ∧ many ≤ n.1.length) ∧ (0 ≤ tooth ∧ tooth ≤ s.1.length - many) ∧ (0 ≤ groove ∧ groove ≤ n.1.length - many))) := fun {b} h => by
          rw [← h]
          unfold placeB
          rw [decide_eq_true_eq]
          omega
        by_cases j1 : many < 1
        · rw [show placeB s n tooth groove many = false from by cases h : placeB s n tooth groove many <;> have := htot h <;> simp at this ⊢; omega] at e3
          simp only [if_true] at e3
          refine run2_body 1 rfl rfl rfl rfl rfl ?_
          simp (maxSteps := 2000000) (disch := first | omega | (simp; done) | (simp; omega)) [-getElem?_pos, l4, eT, e1, e2, k1, k2, hk, c1, c2, s1, s2, e3, e4, e5, e6, f1, f2, j1]
        · by_cases j2 : many > s.1.length
          · rw [show placeB s n tooth groove many = false from by cases h : placeB s n tooth groove many <;> have := htot h <;> simp at this ⊢; omega] at e3
            simp only [if_true] at e3
            refine run2_body 1 rfl rfl rfl rfl rfl ?_
            simp (maxSteps := 2000000) (disch := first | omega | (simp; done) | (simp; omega)) [-getElem?_pos, l4, eT, e1, e2, k1, k2, hk, c1, c2, s1, s2, e3, e4, e5, e6, f1, f2, j1, j2]
          · by_cases j3 : many > n.1.length
            · rw [show placeB s n tooth groove many = false from by cases h : placeB s n tooth groove many <;> have := htot h <;> simp at this ⊢; omega] at e3
              simp only [if_true] at e3
              refine run2_body 1 rfl rfl rfl rfl rfl ?_
              simp (maxSteps := 2000000) (disch := first | omega | (simp; done) | (simp; omega)) [-getElem?_pos, l4, eT, e1, e2, k1, k2, hk, c1, c2, s1, s2, e3, e4, e5, e6, f1, f2, j1, j2, j3]
            · by_cases j4 : tooth < 0
              · rw [show placeB s n tooth groove many = false from by cases h : placeB s n tooth groove many <;> have := htot h <;> simp at this ⊢; omega] at e3
                simp only [if_true] at e3
                refine run2_body 1 rfl rfl rfl rfl rfl ?_
                simp (maxSteps := 2000000) (disch := first | omega | (simp; done) | (simp; omega)) [-getElem?_pos, l4, eT, e1, e2, k1, k2, hk, c1, c2, s1, s2, e3, e4, e5, e6, f1, f2, j1, j2, j3, j4]
              · by_cases j5 : tooth > s.1.length - many
                · rw [show placeB s n tooth groove many = false from by cases h : placeB s n tooth groove many <;> have := htot h <;> simp at this ⊢; omega] at e3
                  simp only [if_true] at e3
                  refine run2_body 1 rfl rfl rfl rfl rfl ?_
                  simp (maxSteps := 2000000) (disch := first | omega | (simp; done) | (simp; omega)) [-getElem?_pos, l4, eT, e1, e2, k1, k2, hk, c1, c2, s1, s2, e3, e4, e5, e6, f1, f2, j1, j2, j3, j4, j5, wrap64]
                · by_cases j6 : groove < 0
                  · rw [show placeB s n tooth groove many = false from by cases h : placeB s n tooth groove many <;> have := htot h <;> simp at this ⊢; omega] at e3
                    simp only [if_true] at e3
                    refine run2_body 1 rfl rfl rfl rfl rfl ?_
                    simp (maxSteps := 2000000) (disch := first | omega | (simp; done) | (simp; omega)) [-getElem?_pos, l4, eT, e1, e2, k1, k2, hk, c1, c2, s1, s2, e3, e4, e5, e6, f1, f2, j1, j2, j3, j4, j5, j6, wrap64]
                  · by_cases j7 : groove > n.1.length - many
                    · rw [show placeB s n tooth groove many = false from by cases h : placeB s n tooth groove many <;> have := htot h <;> simp at this ⊢; omega] at e3
                      simp only [if_true] at e3
                      refine run2_body 1 rfl rfl rfl rfl rfl ?_
                      simp (maxSteps := 2000000) (disch := first | omega | (simp; done) | (simp; omega)) [-getElem?_pos, l4, eT, e1, e2, k1, k2, hk, c1, c2, s1, s2, e3, e4, e5, e6, f1, f2, j1, j2, j3, j4, j5, j6, j7, wrap64]
                    · rw [show placeB s n tooth groove many = true from by cases h : placeB s n tooth groove many <;> have := htot h <;> simp at this ⊢; omega] at e3
                      simp only [Bool.true_eq_false, if_false] at e3
                      obtain ⟨m, rfl⟩ : ∃ m : Nat, many = m := ⟨many.toNat, by omega⟩
                      obtain ⟨t, rfl⟩ : ∃ t : Nat, tooth = t := ⟨tooth.toNat, by omega⟩
                      obtain ⟨g, rfl⟩ : ∃ g : Nat, groove = g := ⟨groove.toNat, by omega⟩
                      simp only [Int.toNat_natCast] at e3
                      have e7 := p29 hd hs hn (t := t) (g := g) (m := m) (by omega) (by omega)
                      rw [refS_shf hd hs hn (by omega) (by omega) (by omega)] at e7
                      unfold partS at e3
                      generalize shf (nds d s n (part s.1 t m) (part n.1 g m)) = z at *
                      refine run2_body 1 rfl rfl rfl rfl rfl ?_
                      by_cases hz : z.1 ≤ z.2
                      · have hz' : ¬ z.1 > z.2 := by omega
                        rw [if_pos hz] at e3
                        simp (maxSteps := 2000000) (disch := first | omega | (simp; done) | (simp; omega)) [-getElem?_pos, l4, eT, e1, e2, k1, k2, hk, c1, c2, s1, s2, e3, e4, e5, e6, e7, f1, f2, j1, j2, j3, j4, j5, j6, j7, hz, hz', wrap64]
                      · have hz' : z.1 > z.2 := by omega
                        rw [if_neg hz] at e3
                        simp (maxSteps := 2000000) (disch := first | omega | (simp; done) | (simp; omega)) [-getElem?_pos, l4, eT, e1, e2, k1, k2, hk, c1, c2, s1, s2, e3, e4, e5, e6, e7, f1, f2, j1, j2, j3, j4, j5, j6, j7, hz, hz', wrap64]
      · rw [if_pos k0] at e3 e4
        generalize chkAll d [s, n] = c at *
        have f1 := flat_eS2 s.1
        have f2 := flat_eS2 n.1
        refine run2_body 1 rfl rfl rfl rfl rfl ?_
        simp (maxSteps := 2000000) (disch := first | omega | (simp; done) | (simp; omega)) [-getElem?_pos, l4, eT, e1, e2, k1, k2, hk, c1, c2, s1, s2, e3, e4, e5, k0, f1, f2]
end Go.Lo

/- FitChecks. -/
namespace Go.Lo
open Go.Proofs
set_option linter.unusedSimpArgs false
set_option maxHeartbeats 8000000
theorem chkAll_1 (d : Int × Int) (t : Thr) : chkAll d [t] = if chkT t ≠ 0 then chkT t else if dOk d = true then 0 else 3 := by
  unfold chkAll
  by_cases h : chkT t = 0 <;> simp [h]
theorem p3_checks (hk : R 14 [] = some (B true)) (f : Frm) (t : Thr) (d : Int × Int) : R 3 [.agg (eF f), .agg (eT t), eS d] = some (B true) := by
  have e1 := p13 t
  by_cases k1 : (t.1.length : Int) > 65
  · refine run2_body 1 rfl rfl rfl rfl rfl ?_
    simp (maxSteps := 2000000) (disch := first | omega | (simp; done) | (simp; omega)) [-getElem?_pos, l3, eT, eF, e1, k1, hk]
  · have c1 := p15 (t := t) (by omega)
    have s1 := p20 (t := t) (by omega)
    have e3 := p17 f d t
    have e4 := p18 f d t
    have e5 := p16 t
    have e6 := p19 t
    have e7 := p21 f
    have e8 := p22 d
    have f1 := flat_eS2 t.1
    simp only [eF, eT] at e3 e4 e5 e6 e7
    by_cases b1 : frmB f = true
    · by_cases b2 : chkT t = 0
      · by_cases b3 : dOk d = true
        · have ho : opE f d [t] = 0 := by unfold opE; rw [if_pos b1, chkAll_1, if_neg (fun h => h b2), if_pos b3]
          obtain ⟨hf, hd, ht, _⟩ := opE_ok ho
          have h2 := hf.left
          have h3 := hf.right
          by_cases b4 : f.left + f.right = 0
          · have hsc : scE f d t = 7 := by unfold scE; rw [if_neg (fun h => h ho), if_pos b4]
            simp only [hsc] at e3 e4
            refine run2_body 1 rfl rfl rfl rfl rfl ?_
            simp (maxSteps := 2000000) (disch := first | omega | (simp; done) | (simp; omega)) [-getElem?_pos, l3, eT, eF, e1, k1, hk, c1, s1, e3, e4, e5, e6, e7, e8, f1, b1, b2, b3, b4, wrap64]
          · have hsc : scE f d t = 0 := by unfold scE; rw [if_neg (fun h => h ho), if_neg b4]
            have e9 := p23 hf b4 hd ht
            have e10 := p24 hf b4 hd ht
            simp only [hsc, if_true] at e3 e4
            simp only [eF, eT] at e9 e10
            have w1 := wrap64 (n := f.left + f.right) (by omega) (by omega)
            generalize screwV f d t = x at *
            generalize nutV f d t = y at *
            refine run2_body 1 rfl rfl rfl rfl rfl ?_
            simp (maxSteps := 2000000) (disch := first | omega | (simp; done) | (simp; omega)) [-getElem?_pos, l3, eT, eF, e1, k1, hk, c1, s1, e3, e4, e5, e6, e7, e8, e9, e10, f1, b1, b2, b3, b4, w1]
        · have hsc : scE f d t = 3 := by
            have ho : opE f d [t] = 3 := by unfold opE; rw [if_pos b1, chkAll_1, if_neg (fun h => h b2), if_neg b3]
            unfold scE; rw [ho, if_pos (by omega)]
          simp only [hsc] at e3 e4
          refine run2_body 1 rfl rfl rfl rfl rfl ?_
          simp (maxSteps := 2000000) (disch := first | omega | (simp; done) | (simp; omega)) [-getElem?_pos, l3, eT, eF, e1, k1, hk, c1, s1, e3, e4, e5, e6, e7, e8, f1, b1, b2, b3]
      · have hsc : scE f d t = chkT t := by
          have ho : opE f d [t] = chkT t := by unfold opE; rw [if_pos b1, chkAll_1, if_pos b2]
          unfold scE; rw [ho, if_pos b2]
        simp only [hsc, if_neg b2] at e3 e4
        generalize chkT t = c at *
        refine run2_body 1 rfl rfl rfl rfl rfl ?_
        simp (maxSteps := 2000000) (disch := first | omega | (simp; done) | (simp; omega)) [-getElem?_pos, l3, eT, eF, e1, k1, hk, c1, s1, e3, e4, e5, e6, e7, e8, f1, b1, b2]
    · have hsc : scE f d t = 2 := by
        have ho : opE f d [t] = 2 := by unfold opE; rw [if_neg b1]
        unfold scE; rw [ho, if_pos (by omega)]
      simp only [hsc] at e3 e4
      generalize chkT t = c at *
      refine run2_body 1 rfl rfl rfl rfl rfl ?_
      simp (maxSteps := 2000000) (disch := first | omega | (simp; done) | (simp; omega)) [-getElem?_pos, l3, eT, eF, e1, k1, hk, c1, s1, e3, e4, e5, e6, e7, e8, f1, b1]
end Go.Lo

/- Threads in small numbers. -/
namespace Go.Lo
open Go.Proofs
set_option linter.unusedSimpArgs false
set_option maxHeartbeats 8000000
structure Mad where
  p : Int
  l : Int
  r : Int
  off : List (Int × Int)
  lean : Int × Int
abbrev J (n : Int) : V := .int .i8 n
abbrev H (n : Int) : V := .int .u16 n
abbrev eOff (l : List (Int × Int)) : List (List V) := l.map fun x => [J x.1, J x.2]
abbrev eMad (m : Mad) : List V := [H m.p, H m.l, H m.r, S 2 (eOff m.off), J m.lean.1, J m.lean.2]
structure Mad.Ok (m : Mad) : Prop where
  p : 0 ≤ m.p ∧ m.p ≤ 65535
  l : 0 ≤ m.l ∧ m.l ≤ 65535
  r : 0 ≤ m.r ∧ m.r ≤ 65535
  off : ∀ x ∈ m.off, (-128 ≤ x.1 ∧ x.1 ≤ 127) ∧ (-128 ≤ x.2 ∧ x.2 ≤ 127)
  lean : (-128 ≤ m.lean.1 ∧ m.lean.1 ≤ 127) ∧ (-128 ≤ m.lean.2 ∧ m.lean.2 ≤ 127)
def madF (m : Mad) : Frm := ⟨2000 + m.p % 40000, 1 + m.l % 900, m.r % 900, 300, 300, 1, false, 0⟩
def madN (m : Mad) : Nat := max 1 (min 8 m.off.length)
theorem madF_num {m : Mad} (_h : m.Ok) : FNum (madF m) := by
  refine ⟨?_, ?_, ?_, ?_, ?_⟩ <;> simp only [madF] <;> omega
theorem p39 {m : Mad} (h : m.Ok) : R 39 [.agg (eMad m)] = some (.agg (eF (madF m))) := by
  have h1 := h.p
  have h2 := h.l
  have h3 := h.r
  have e1 := Int.tmod_eq_emod_of_nonneg (a := m.p) (b := 40000) (by omega)
  have e2 := Int.tmod_eq_emod_of_nonneg (a := m.l) (b := 900) (by omega)
  have e3 := Int.tmod_eq_emod_of_nonneg (a := m.r) (b := 900) (by omega)
  have w1 := wrap64 (n := m.p) (by omega) (by omega)
  have w2 := wrap64 (n := m.l) (by omega) (by omega)
  have w3 := wrap64 (n := m.r) (by omega) (by omega)
  have w4 := wrap64 (n := 2000 + m.p % 40000) (by omega) (by omega)
  have w5 := wrap64 (n := 1 + m.l % 900) (by omega) (by omega)
  unfold madF
  refine run2_body 1 rfl rfl rfl rfl rfl ?_
  simp (maxSteps := 2000000) (disch := first | omega | (simp; done) | (simp; omega)) [-getElem?_pos, l39, eMad, eF, e1, e2, e3, w1, w2, w3, w4, w5]
theorem p41 (m : Mad) : R 41 [.agg (eMad m)] = some (I (madN m)) := by
  refine run2_body 1 rfl rfl rfl rfl rfl ?_
  have e : ((madN m : Nat) : Int) = max 1 (min 8 (m.off.length : Int)) := by unfold madN; omega
  rw [e]
  simp (maxSteps := 2000000) (disch := first | omega | (simp; done) | (simp; omega)) [-getElem?_pos, -maxL, -minL, maxL2, minL2, l41, eMad]
def madD (a : Int × Int) : Int × Int := (min (20 * a.1) (20 * a.2), max (20 * a.1) (20 * a.2))
theorem madD_ok {a : Int × Int} (h : (-128 ≤ a.1 ∧ a.1 ≤ 127) ∧ (-128 ≤ a.2 ∧ a.2 ≤ 127)) : DOk (madD a) := by
  refine ⟨?_, ?_, ?_⟩ <;> simp only [madD] <;> omega
theorem p40 {a : Int × Int} (h : (-128 ≤ a.1 ∧ a.1 ≤ 127) ∧ (-128 ≤ a.2 ∧ a.2 ≤ 127)) : R 40 [.agg [J a.1, J a.2]] = some (eS (madD a)) := by
  have w1 := wrap64 (n := a.1) (by omega) (by omega)
  have w2 := wrap64 (n := a.2) (by omega) (by omega)
  have w3 := wrap64 (n := 20 * a.1) (by omega) (by omega)
  have w4 := wrap64 (n := 20 * a.2) (by omega) (by omega)
  unfold madD
  refine run2_body 1 rfl rfl rfl rfl rfl ?_
  simp (maxSteps := 2000000) (disch := first | omega | (simp; done) | (simp; omega)) [-getElem?_pos, -maxL, -minL, maxL2, minL2, l40, w1, w2, w3, w4]
end Go.Lo

/- Small numbers, as arguments. -/
namespace Go.Lo
open Go.Proofs
set_option linter.unusedSimpArgs false
abbrev arTy (n : Nat) (k : IntKind) : Ty := .arr n (.int k)
abbrev madTy : Ty := .st [.int .u16, .int .u16, .int .u16, .sl (arTy 2 .i8), arTy 2 .i8]
theorem can_k {k : IntKind} {x : List V} (h : HasC (.int k) x) : ∃ n, x = [.int k n] ∧ (Lit.int k n).wf = true := by
  simp only [HasC] at h
  exact h
theorem can_ar {k : IntKind} {n : Nat} {x : List V} (h : HasC (arTy n k) x) : ∃ xs : List Int, xs.length = n ∧ x = xs.map (fun x => .int k x) ∧ ∀ y ∈ xs, (Lit.int k y).wf = true := by
  obtain ⟨xs, h1, h2, h3⟩ := can_arr (v := .agg x) (k := k) (n := n) (by simp only [HasV]; exact ⟨x, rfl, h⟩)
  injection h2 with h2
  exact ⟨xs, h1, h2, h3⟩
theorem can_ar2 {k : IntKind} {x : List V} (h : HasC (arTy 2 k) x) : ∃ a b : Int, x = [.int k a, .int k b] ∧ (Lit.int k a).wf = true ∧ (Lit.int k b).wf = true := by
  obtain ⟨xs, h1, rfl, h3⟩ := can_ar h
  match xs, h1 with
  | [a, b], _ => exact ⟨a, b, rfl, h3 a (by simp), h3 b (by simp)⟩
theorem can_arV {k : IntKind} {n : Nat} {v : V} (h : HasV (arTy n k) v) : ∃ xs : List Int, xs.length = n ∧ v = .agg (xs.map fun x => .int k x) ∧ ∀ y ∈ xs, (Lit.int k y).wf = true := can_arr h
theorem can_arV2 {k : IntKind} {v : V} (h : HasV (arTy 2 k) v) : ∃ a b : Int, v = .agg [.int k a, .int k b] ∧ (Lit.int k a).wf = true ∧ (Lit.int k b).wf = true := by
  simp only [HasV] at h
  obtain ⟨cs, rfl, h⟩ := h
  obtain ⟨a, b, rfl, h1, h2⟩ := can_ar2 h
  exact ⟨a, b, rfl, h1, h2⟩
theorem can_mad {v : V} (h : HasV madTy v) : ∃ m : Mad, Rel (.agg (eMad m)) noT v ∧ m.Ok := by
  simp only [HasV] at h
  obtain ⟨cs, rfl, h⟩ := h
  obtain ⟨x1, r1, rfl, h1, h⟩ := h.inv
  obtain ⟨x2, r2, rfl, h2, h⟩ := h.inv
  obtain ⟨x3, r3, rfl, h3, h⟩ := h.inv
  obtain ⟨x4, r4, rfl, h4, h⟩ := h.inv
  obtain ⟨x5, r5, rfl, h5, h⟩ := h.inv
  rw [HasCs] at h
  subst h
  obtain ⟨p, rfl, wp⟩ := can_k h1
  obtain ⟨l, rfl, wl⟩ := can_k h2
  obtain ⟨r, rfl, wr⟩ := can_k h3
  obtain ⟨s, rfl⟩ := h4.sl1
  obtain ⟨a, b, rfl, wa, wb⟩ := can_ar2 h5
  obtain ⟨off, hl, hq⟩ := can_sl (E := fun x : Int × Int => [J x.1, J x.2]) (Q := fun x => (-128 ≤ x.1 ∧ x.1 ≤ 127) ∧ (-128 ≤ x.2 ∧ x.2 ≤ 127)) h4 fun x hx => by
    obtain ⟨a, b, rfl, wa, wb⟩ := can_ar2 hx
    exact ⟨(a, b), RelL.cons (rel_int _ _) (RelL.one (rel_int _ _)), wf_i8 wa, wf_i8 wb⟩
  refine ⟨⟨p, l, r, off, (a, b)⟩, ?_, ⟨wf_u16 wp, wf_u16 wl, wf_u16 wr, hq, wf_i8 wa, wf_i8 wb⟩⟩
  rw [Rel]
  refine ⟨_, rfl, RelL.cons (rel_int _ _) (RelL.cons (rel_int _ _) (RelL.cons (rel_int _ _) (RelL.cons ?_ (RelL.cons (rel_int _ _) (RelL.one (rel_int _ _))))))⟩
  exact hl
theorem rel_ar (k : IntKind) (xs : List Int) : Rel (.agg (xs.map fun x => .int k x)) noT (.agg (xs.map fun x => .int k x)) := rel_aggK k xs
end Go.Lo

/- Threads made of small numbers. -/
namespace Go.Lo
open Go.Proofs
set_option linter.unusedSimpArgs false
set_option maxHeartbeats 8000000
def offA (m : Mad) (i : Nat) : Int × Int := m.off.getD i (0, 0)
def madX (m : Mad) (size sg : Int) (i : Nat) : Int × Int := (i * (madF m).pitch - (madF m).pitch / 4 - size + sg * ((offA m i).1 + 128), i * (madF m).pitch + (madF m).pitch / 4 + size - sg * ((offA m i).2 + 128))
def madL (m : Mad) (size sg : Int) (n : Nat) : List (Int × Int) := (List.range n).map (madX m size sg)
def madT (m : Mad) (size sg : Int) : Thr := (madL m size sg (madN m), min (max ((madF m).left + m.lean.1.tdiv 4) 0) 3000, min (max ((madF m).right + m.lean.2.tdiv 4) 0) 3000)
theorem madF_bd {m : Mad} (_h : m.Ok) : (2000 ≤ (madF m).pitch ∧ (madF m).pitch ≤ 42000) ∧ (1 ≤ (madF m).left ∧ (madF m).left ≤ 900) ∧ (0 ≤ (madF m).right ∧ (madF m).right ≤ 900) := by
  simp only [madF]; omega
theorem offA_bd {m : Mad} (h : m.Ok) (i : Nat) : (-128 ≤ (offA m i).1 ∧ (offA m i).1 ≤ 127) ∧ (-128 ≤ (offA m i).2 ∧ (offA m i).2 ≤ 127) := by
  unfold offA
  by_cases hi : i < m.off.length
  · have : m.off.getD i (0, 0) = m.off[i] := by simp [hi]
    rw [this]; exact h.off _ (List.getElem_mem hi)
  · have : m.off.getD i (0, 0) = (0, 0) := by simp [hi]
    rw [this]; simp
theorem p42 {m : Mad} (h : m.Ok) {size sg : Int} (hs : -128 ≤ size ∧ size ≤ 127) (hg : sg = 1 ∨ sg = -1) : R 42 [.agg (eMad m), I size, I sg] = some (.agg [.sl (some 2000000) 2 (eS2 (madT m size sg).1), I (madT m size sg).2.1, I (madT m size sg).2.2]) := by
  have e1 := p39 h
  have e2 := p41 m
  have hn : madN m ≤ 8 := by unfold madN; omega
  obtain ⟨hP, hL, hR⟩ := madF_bd h
  have hl := h.lean
  have q1 := tdiv_le (n := m.lean.1) (k := 4) (by omega) 128 (by omega)
  have q2 := tdiv_le (n := m.lean.2) (k := 4) (by omega) 128 (by omega)
  have p4 := Int.tdiv_eq_ediv_of_nonneg (a := (madF m).pitch) (b := 4) (by omega)
  have L := loop_all (s := fun i => { fr := [(1, I size), (2, I sg), (3, .box (eMad m)), (6, .box [S 2 [], I 0, I 0]), (7, .box (eF (madF m))), (8, .box [.sl (some 2009700) 2 (eS2 (madL m size sg i)), I (madT m size sg).2.1, I (madT m size sg).2.2]), (9, I i)], tk := [] }) (f := evC2 R 9 b42_0) (n := madN m)
    (X := (.exit 0, { fr := [(1, I size), (2, I sg), (3, .box (eMad m)), (6, .box [S 2 [], I 0, I 0]), (7, .box (eF (madF m))), (8, .box [.sl (some 2009700) 2 (eS2 (madL m size sg (madN m))), I (madT m size sg).2.1, I (madT m size sg).2.2]), (9, I (madN m)), (38, B false)], tk := [] }))
    (fun i hi => by
      have hacc : madL m size sg (i + 1) = madL m size sg i ++ [madX m size sg i] := by unfold madL; rw [List.range_succ, List.map_append]; rfl
      have hl2 : (madL m size sg i).length ≤ 60 := by simp [madL]; omega
      rw [hacc]
      have ho := offA_bd h i
      have hx : madX m size sg i = (i * (madF m).pitch - (madF m).pitch / 4 - size + sg * ((offA m i).1 + 128), i * (madF m).pitch + (madF m).pitch / 4 + size - sg * ((offA m i).2 + 128)) := rfl
      have m1 := abs_mul (a := (i : Int)) (b := (madF m).pitch) (A := 8) (C := 42000) (by omega) (by omega)
      have m2 := abs_mul (a := sg) (b := (offA m i).1 + 128) (A := 1) (C := 300) (by omega) (by omega)
      have m3 := abs_mul (a := sg) (b := (offA m i).2 + 128) (A := 1) (C := 300) (by omega) (by omega)
      rw [hx]
      generalize madL m size sg i = l at *
      generalize (madT m size sg).2.1 = tl at *
      generalize (madT m size sg).2.2 = tr at *
      generalize hF : madF m = f at *
      simp only [eF, eMad] at e1 e2
      by_cases hi2 : i < m.off.length
      · have ha : m.off[i]? = some (offA m i) := by rw [List.getElem?_eq_getElem hi2]; simp [offA, hi2]
        generalize offA m i = o at *
        have w1 := wrap64 (n := (i : Int) * f.pitch) (by omega) (by omega)
        have w2 := wrap64 (n := sg * (o.1 + 128)) (by omega) (by omega)
        have w3 := wrap64 (n := sg * (o.2 + 128)) (by omega) (by omega)
        generalize hz1 : (i : Int) * f.pitch = z1 at *
        generalize hz2 : sg * (o.1 + 128) = z2 at *
        generalize hz3 : sg * (o.2 + 128) = z3 at *
        simp (maxSteps := 2000000) (disch := first | omega | (simp; done) | (simp; omega)) [-getElem?_pos, b42_0, eF, eMad, e1, e2, hi, hi2, ha, p4, w1, w2, w3, hz1, hz2, hz3, wrap64]
      · have ha : offA m i = (0, 0) := by simp [offA, hi2]
        rw [ha] at m2 m3 ⊢
        simp only at m2 m3 ⊢
        have w1 := wrap64 (n := (i : Int) * f.pitch) (by omega) (by omega)
        have w2 := wrap64 (n := sg * 128) (by omega) (by omega)
        generalize hz1 : (i : Int) * f.pitch = z1 at *
        simp (maxSteps := 2000000) (disch := first | omega | (simp; done) | (simp; omega)) [-getElem?_pos, b42_0, eF, eMad, e1, e2, hi, hi2, p4, w1, w2, hz1, wrap64]) (by
      generalize madL m size sg (madN m) = l at *
      generalize (madT m size sg).2.1 = tl at *
      generalize (madT m size sg).2.2 = tr at *
      simp only [eF, eMad] at e1 e2
      simp (maxSteps := 2000000) (disch := first | omega | (simp; done) | (simp; omega)) [-getElem?_pos, b42_0, eF, eMad, e1, e2]) (by simp)
  have L := iter_le (f := evC2 R 9 b42_0) (fun _ _ h => h) (show madN m + 1 ≤ 9 by omega) L
  have h0 : madL m size sg 0 = [] := rfl
  simp only [h0] at L
  have t1 : (madT m size sg).2.1 = min (max ((madF m).left + m.lean.1.tdiv 4) 0) 3000 := rfl
  have t2 : (madT m size sg).2.2 = min (max ((madF m).right + m.lean.2.tdiv 4) 0) 3000 := rfl
  have t3 : (madT m size sg).1 = madL m size sg (madN m) := rfl
  rw [t3]
  rw [t1, t2] at L ⊢
  have w1 := wrap64 (n := m.lean.1) (by omega) (by omega)
  have w2 := wrap64 (n := m.lean.2) (by omega) (by omega)
  generalize madL m size sg (madN m) = l at *
  generalize hq1 : m.lean.1.tdiv 4 = u1 at *
  generalize hq2 : m.lean.2.tdiv 4 = u2 at *
  generalize hF : madF m = f at *
  simp [eF, eMad] at L e1
  refine run2_body 9 rfl rfl rfl rfl rfl ?_
  simp (maxSteps := 2000000) (disch := first | omega | (simp; done) | (simp; omega)) [-getElem?_pos, -maxL, -minL, maxL2, minL2, l42, eF, eMad, e1, L, hq1, hq2, w1, w2, wrap64]
end Go.Lo

/- Threads made of small numbers are valid. -/
namespace Go.Lo
open Go.Proofs
set_option linter.unusedSimpArgs false
set_option maxHeartbeats 8000000
theorem madL_len (m : Mad) (size sg : Int) : (madT m size sg).1.length = madN m := by simp [madT, madL]
theorem madT_turn {m : Mad} {size sg : Int} {i : Nat} (hi : i < madN m) : turn (madT m size sg).1 i = madX m size sg i := by
  have : (madT m size sg).1[i]? = some (madX m size sg i) := by simp [madT, madL, hi]
  have h2 := turn_get (ts := (madT m size sg).1) (i := i) (by rw [madL_len]; exact hi)
  rw [this] at h2
  injection h2 with h2
  exact h2.symm
theorem madX_ok {m : Mad} (h : m.Ok) {size sg : Int} (hs : (sg = 1 ∧ -64 ≤ size ∧ size ≤ 64) ∨ (sg = -1 ∧ -128 ≤ size ∧ size ≤ 127)) {i : Nat} (hi : i < madN m) :
    (-10000000 ≤ (madX m size sg i).1 ∧ (madX m size sg i).1 ≤ (madX m size sg i).2 ∧ (madX m size sg i).2 ≤ 10000000) ∧ (0 < i → (madX m size sg (i - 1)).2 ≤ (madX m size sg i).1) := by
  have hn : madN m ≤ 8 := by unfold madN; omega
  obtain ⟨hP, hL, hR⟩ := madF_bd h
  have o1 := offA_bd h i
  have o2 := offA_bd h (i - 1)
  have m1 := abs_mul (a := (i : Int)) (b := (madF m).pitch) (A := 8) (C := 42000) (by omega) (by omega)
  have m0 : 0 ≤ (i : Int) * (madF m).pitch := Int.mul_nonneg (by omega) (by omega)
  unfold madX
  simp only
  generalize hz : (i : Int) * (madF m).pitch = z at *
  generalize offA m i = a at *
  generalize offA m (i - 1) = b at *
  refine ⟨?_, fun h0 => ?_⟩
  · rcases hs with ⟨rfl, h1⟩ | ⟨rfl, h1⟩ <;> omega
  · have hy : ((i - 1 : Nat) : Int) * (madF m).pitch = z - (madF m).pitch := by
      rw [← hz, show ((i - 1 : Nat) : Int) = (i : Int) - 1 by omega, Int.sub_mul, Int.one_mul]
    rw [hy]
    rcases hs with ⟨rfl, h1⟩ | ⟨rfl, h1⟩ <;> omega
theorem chkT_made {m : Mad} (h : m.Ok) {size sg : Int} (hs : (sg = 1 ∧ -64 ≤ size ∧ size ≤ 64) ∨ (sg = -1 ∧ -128 ≤ size ∧ size ≤ 127)) : chkT (madT m size sg) = 0 := by
  have hn : madN m ≤ 8 := by unfold madN; omega
  have hn1 : 1 ≤ madN m := by unfold madN; omega
  have hl := madL_len m size sg
  have hne : (madT m size sg).1 ≠ [] := fun e => by rw [e] at hl; simp at hl; omega
  have hlean : leanB (madT m size sg).2.1 (madT m size sg).2.2 = true := by
    unfold leanB madT
    rw [decide_eq_true_eq]
    simp only
    omega
  have hall : (List.range (madT m size sg).1.length).all (turnB (madT m size sg).1) = true := by
    rw [List.all_eq_true]
    intro i hi
    rw [hl] at hi
    have hi := List.mem_range.1 hi
    have k := madX_ok h hs hi
    unfold turnB aftT
    rw [madT_turn hi, decide_eq_true_eq]
    by_cases h0 : i = 0
    · subst h0; simp only [if_true]; omega
    · rw [if_neg h0, madT_turn (by omega : i - 1 < madN m)]
      have := k.2 (by omega)
      omega
  unfold chkT
  rw [hlean, hall]
  have : ¬ 60 < (madT m size sg).1.length := by rw [hl]; omega
  simp [this, hne]
theorem frmB_made {m : Mad} (h : m.Ok) : frmB (madF m) = true := by
  obtain ⟨hP, hL, hR⟩ := madF_bd h
  unfold frmB frmN wid
  have e1 : (madF m).above = 300 := rfl
  have e2 : (madF m).below = 300 := rfl
  have e3 : (madF m).starts = 1 := rfl
  have e4 : (madF m).taper = 0 := rfl
  rw [e1, e2, e3, e4, Bool.and_eq_true, decide_eq_true_eq, decide_eq_true_eq]
  omega
end Go.Lo

/- Gauges, and the pair that need not go together: the plain laws. -/
namespace Go.Lo
open Go.Proofs
set_option linter.unusedSimpArgs false
set_option maxHeartbeats 8000000
theorem shf_mem : ∀ {l : List (Int × Int)}, l ≠ [] → (∃ x ∈ l, (shf l).1 = x.1) ∧ ∃ y ∈ l, (shf l).2 = y.2 := by
  have key : ∀ (n : Nat) (l : List (Int × Int)), l.length = n → l ≠ [] → (∃ x ∈ l, (shf l).1 = x.1) ∧ ∃ y ∈ l, (shf l).2 = y.2 := by
    intro n
    induction n with
    | zero => intro l h1 h2; exact absurd (List.length_eq_zero_iff.1 h1) h2
    | succ n ih =>
      intro l h1 h2
      obtain ⟨q, x, rfl⟩ : ∃ q x, l = q ++ [x] := ⟨l.dropLast, l.getLast h2, (List.dropLast_concat_getLast h2).symm⟩
      rw [shf_snoc]
      by_cases hq : q = []
      · subst hq; simp
      · rw [if_neg hq]
        have hl : q.length = n := by simp at h1; exact h1
        obtain ⟨⟨a, a1, a2⟩, b, b1, b2⟩ := ih q hl hq
        refine ⟨?_, ?_⟩
        · by_cases h : (shf q).1 ≤ x.1
          · exact ⟨x, by simp, by simp only; omega⟩
          · exact ⟨a, by simp [a1], by simp only; omega⟩
        · by_cases h : (shf q).2 ≤ x.2
          · exact ⟨b, by simp [b1], by simp only; omega⟩
          · exact ⟨x, by simp, by simp only; omega⟩
  exact fun {l} h => key l.length l rfl h
theorem le_mx : ∀ {l : List Int} {x : Int}, x ∈ l → x ≤ mx l := by
  have key : ∀ (l : List Int) (a : Int), a ≤ l.foldl max a ∧ ∀ x ∈ l, x ≤ l.foldl max a := by
    intro l
    induction l with
    | nil => intro a; simp
    | cons y l ih =>
      intro a
      obtain ⟨h1, h2⟩ := ih (max a y)
      refine ⟨by simp only [List.foldl_cons]; omega, fun x hx => ?_⟩
      simp only [List.foldl_cons]
      rcases List.mem_cons.1 hx with rfl | hx
      · omega
      · exact h2 x hx
  intro l x hx
  cases l with
  | nil => cases hx
  | cons y l =>
    have := key l y
    rcases List.mem_cons.1 hx with rfl | hx
    · exact this.1
    · exact this.2 x hx
theorem mst_add (d : Int × Int) (a b : Int) : mst d (a + b) ≤ mst d a + mst d b := by
  unfold mst
  simp only [Int.mul_add]
  omega
theorem screw_le {S k c : Int} (hk : 0 < k) (h : -(-S / k) ≤ c) : S ≤ k * c := by
  have h1 := Int.ediv_mul_le (-S) (show k ≠ 0 by omega)
  have h2 : k * (-(-S / k)) ≤ k * c := Int.mul_le_mul_of_nonneg_left h (by omega)
  rw [Int.mul_neg, Int.mul_comm] at h2
  omega
theorem nut_ge {S k c : Int} (hk : 0 < k) (h : c ≤ S / k) : k * c ≤ S := by
  have h1 := Int.ediv_mul_le S (show k ≠ 0 by omega)
  have h2 : k * c ≤ k * (S / k) := Int.mul_le_mul_of_nonneg_left h (by omega)
  rw [Int.mul_comm k (S / k)] at h2
  omega
theorem goes_of {f : Frm} {d : Int × Int} {s n : Thr} (hs : TOk s) (hl : s.1.length = n.1.length) (h : sizeOf3 f d s 1 + sizeOf3 f d n (-1) ≤ 0) : goesB d s n = true := by
  have hp := hs.pos
  unfold goesB
  rw [decide_eq_true_eq]
  have hne : nds d s n s.1 n.1 ≠ [] := fun e => by
    have h0 := congrArg List.length e
    rw [List.length_zipWith, List.length_nil] at h0
    omega
  obtain ⟨⟨x, hx, ex⟩, y, hy, ey⟩ := shf_mem hne
  rw [ex, ey]
  obtain ⟨i, hi⟩ := List.getElem?_of_mem hx
  obtain ⟨j, hj⟩ := List.getElem?_of_mem hy
  have at_ : ∀ {k : Nat} {z : Int × Int}, (nds d s n s.1 n.1)[k]? = some z → k < s.1.length ∧ z = nd d (turn s.1 k) (turn n.1 k) s.2.1 s.2.2 n.2.1 n.2.2 := fun {k z} hz => by
    have hk : k < s.1.length := by
      have := (List.getElem?_eq_some_iff.1 hz).1
      simp at this; omega
    refine ⟨hk, ?_⟩
    have h1 := turn_get hk
    have h2 := turn_get (ts := n.1) (i := k) (by omega)
    rw [List.getElem?_zipWith, h1, h2] at hz
    injection hz with hz
    exact hz.symm
  obtain ⟨i1, rfl⟩ := at_ hi
  obtain ⟨j1, rfl⟩ := at_ hj
  have a1 := le_mx (l := lefts f s 1 s.1.length) (x := -1 * lf f s i) (List.mem_map.2 ⟨i, List.mem_range.2 i1, rfl⟩)
  have a2 := le_mx (l := lefts f n (-1) n.1.length) (x := - -1 * lf f n i) (List.mem_map.2 ⟨i, List.mem_range.2 (by omega), rfl⟩)
  have a3 := le_mx (l := rights f s 1 s.1.length) (x := 1 * rt f s j) (List.mem_map.2 ⟨j, List.mem_range.2 j1, rfl⟩)
  have a4 := le_mx (l := rights f n (-1) n.1.length) (x := -1 * rt f n j) (List.mem_map.2 ⟨j, List.mem_range.2 (by omega), rfl⟩)
  have b1 := mst_add d (-1 * (f.left - n.2.1)) (1 * (f.left - s.2.1))
  have b2 := mst_add d (-1 * (f.right - n.2.2)) (1 * (f.right - s.2.2))
  have c1 : -1 * (f.left - n.2.1) + 1 * (f.left - s.2.1) = n.2.1 - s.2.1 := by omega
  have c2 : -1 * (f.right - n.2.2) + 1 * (f.right - s.2.2) = n.2.2 - s.2.2 := by omega
  rw [c1] at b1
  rw [c2] at b2
  unfold sizeOf3 at h
  unfold nd
  simp only
  unfold lf at a1 a2
  unfold rt at a3 a4
  omega
theorem gauge {f : Frm} (hf : FNum f) (hz : ¬ f.left + f.right = 0) {d : Int × Int} {s n : Thr} (hs : TOk s) (hl : s.1.length = n.1.length) (h : screwV f d s ≤ nutV f d n) : goesB d s n = true := by
  have h2 := hf.left
  have h3 := hf.right
  have k1 := screw_le (S := sizeOf3 f d s 1) (k := 4 * (f.left + f.right)) (c := nutV f d n) (by omega) h
  have k2 := nut_ge (S := -sizeOf3 f d n (-1)) (k := 4 * (f.left + f.right)) (c := nutV f d n) (by omega) (Int.le_refl _)
  exact goes_of (f := f) hs hl (by omega)
theorem shf_le : ∀ {l : List (Int × Int)} {x : Int × Int}, x ∈ l → x.1 ≤ (shf l).1 ∧ (shf l).2 ≤ x.2 := by
  have key : ∀ (n : Nat) (l : List (Int × Int)), l.length = n → ∀ x ∈ l, x.1 ≤ (shf l).1 ∧ (shf l).2 ≤ x.2 := by
    intro n
    induction n with
    | zero => intro l h x hx; rw [List.length_eq_zero_iff.1 h] at hx; cases hx
    | succ n ih =>
      intro l h x hx
      have h2 : l ≠ [] := fun e => by rw [e] at h; cases h
      obtain ⟨q, z, rfl⟩ : ∃ q x, l = q ++ [x] := ⟨l.dropLast, l.getLast h2, (List.dropLast_concat_getLast h2).symm⟩
      rw [shf_snoc]
      by_cases hq : q = []
      · subst hq; simp at hx; subst hx; simp
      · rw [if_neg hq]
        have hl : q.length = n := by simp at h; exact h
        rcases List.mem_append.1 hx with hx | hx
        · have := ih q hl x hx; simp only; omega
        · simp at hx; subst hx; simp only; omega
  exact fun {l x} hx => key l.length l rfl x hx
theorem mst_zero (d : Int × Int) : mst d 0 = 0 := by unfold mst; omega
theorem upZ_spec (m : Int) : m ≤ 4000 * upZ m ∧ 4000 * upZ m < m + 4000 := by unfold upZ; omega
theorem dnZ_spec (m : Int) : m - 4000 < 4000 * dnZ m ∧ 4000 * dnZ m ≤ m := by unfold dnZ; omega
theorem mx_le {l : List Int} {A : Int} (h0 : l ≠ []) (h : ∀ x ∈ l, x ≤ A) : mx l ≤ A := by
  cases l with
  | nil => exact absurd rfl h0
  | cons x l =>
    have key : ∀ (l : List Int) (a : Int), a ≤ A → (∀ x ∈ l, x ≤ A) → l.foldl max a ≤ A := by
      intro l
      induction l with
      | nil => intro a h _; exact h
      | cons y l ih =>
        intro a ha hl
        refine ih _ ?_ fun z hz => hl z (by simp [hz])
        have := hl y (by simp)
        omega
    exact key l x (h x (by simp)) fun y hy => h y (by simp [hy])
theorem ring_turn {f : Frm} {size : Int} {n k : Nat} (hk : k < n) : turn (ringT f size n).1 k = (upZ (idL f size k), dnZ (idR f size k)) := by
  have hl : (ringT f size n).1.length = n := by simp [ringT, perfL]
  have h1 : (ringT f size n).1[k]? = some (upZ (idL f size k), dnZ (idR f size k)) := by simp [ringT, perfL, hk]
  have h2 := turn_get (ts := (ringT f size n).1) (i := k) (by omega)
  rw [h1] at h2
  injection h2 with h2
  exact h2.symm
theorem plug_turn {f : Frm} {size : Int} {n k : Nat} (hk : k < n) : turn (plugT f size n).1 k = (dnZ (idL f size k), upZ (idR f size k)) := by
  have hl : (plugT f size n).1.length = n := by simp [plugT, perfL]
  have h1 : (plugT f size n).1[k]? = some (dnZ (idL f size k), upZ (idR f size k)) := by simp [plugT, perfL, hk]
  have h2 := turn_get (ts := (plugT f size n).1) (i := k) (by omega)
  rw [h1] at h2
  injection h2 with h2
  exact h2.symm
theorem id_eq (f : Frm) (size : Int) (k : Nat) : idL f size k = 4000 * (k * f.pitch) - 1000 * f.pitch - 4 * (size * f.left) ∧ idR f size k = 4000 * (k * f.pitch) + 1000 * f.pitch + 4 * (size * f.right) := by
  unfold idL idR
  constructor <;> simp only [Int.mul_assoc]
theorem lf_eq (f : Frm) (t : Thr) (k : Nat) : lf f t k = 4000 * (turn t.1 k).1 - 4000 * (k * f.pitch) + 1000 * f.pitch ∧ rt f t k = 4000 * (turn t.1 k).2 - 4000 * (k * f.pitch) - 1000 * f.pitch := by
  unfold lf rt
  rw [Int.mul_assoc 4 (k : Int)]
  omega
theorem ring_size {f : Frm} {d : Int × Int} {size : Int} {n : Nat} (hn : 0 < n) : sizeOf3 f d (ringT f size n) 1 ≤ 4 * (f.left + f.right) * size := by
  have hl : (ringT f size n).1.length = n := by simp [ringT, perfL]
  unfold sizeOf3
  rw [hl, show (ringT f size n).2.1 = f.left from rfl, show (ringT f size n).2.2 = f.right from rfl, Int.sub_self, Int.sub_self, Int.mul_zero, mst_zero]
  have a1 : mx (lefts f (ringT f size n) 1 n) ≤ 4 * (size * f.left) := by
    refine mx_le (fun e => ?_) fun x hx => ?_
    · have := congrArg List.length e; simp [lefts] at this; omega
    · obtain ⟨k, hk, rfl⟩ := List.mem_map.1 hx
      have hk := List.mem_range.1 hk
      have h1 := (lf_eq f (ringT f size n) k).1
      rw [ring_turn hk] at h1
      have h2 := (id_eq f size k).1
      have h3 := upZ_spec (idL f size k)
      simp only at h1
      omega
  have a2 : mx (rights f (ringT f size n) 1 n) ≤ 4 * (size * f.right) := by
    refine mx_le (fun e => ?_) fun x hx => ?_
    · have := congrArg List.length e; simp [rights] at this; omega
    · obtain ⟨k, hk, rfl⟩ := List.mem_map.1 hx
      have hk := List.mem_range.1 hk
      have h1 := (lf_eq f (ringT f size n) k).2
      rw [ring_turn hk] at h1
      have h2 := (id_eq f size k).2
      have h3 := dnZ_spec (idR f size k)
      simp only at h1
      omega
  rw [Int.mul_assoc, Int.add_mul, Int.mul_comm f.left, Int.mul_comm f.right]
  omega
theorem plug_size {f : Frm} {d : Int × Int} {size : Int} {n : Nat} (hn : 0 < n) : 4 * (f.left + f.right) * size ≤ -sizeOf3 f d (plugT f size n) (-1) := by
  have hl : (plugT f size n).1.length = n := by simp [plugT, perfL]
  unfold sizeOf3
  rw [hl, show (plugT f size n).2.1 = f.left from rfl, show (plugT f size n).2.2 = f.right from rfl, Int.sub_self, Int.sub_self, Int.mul_zero, mst_zero]
  have a1 : mx (lefts f (plugT f size n) (-1) n) ≤ -(4 * (size * f.left)) := by
    refine mx_le (fun e => ?_) fun x hx => ?_
    · have := congrArg List.length e; simp [lefts] at this; omega
    · obtain ⟨k, hk, rfl⟩ := List.mem_map.1 hx
      have hk := List.mem_range.1 hk
      have h1 := (lf_eq f (plugT f size n) k).1
      rw [plug_turn hk] at h1
      have h2 := (id_eq f size k).1
      have h3 := dnZ_spec (idL f size k)
      simp only at h1
      omega
  have a2 : mx (rights f (plugT f size n) (-1) n) ≤ -(4 * (size * f.right)) := by
    refine mx_le (fun e => ?_) fun x hx => ?_
    · have := congrArg List.length e; simp [rights] at this; omega
    · obtain ⟨k, hk, rfl⟩ := List.mem_map.1 hx
      have hk := List.mem_range.1 hk
      have h1 := (lf_eq f (plugT f size n) k).2
      rw [plug_turn hk] at h1
      have h2 := (id_eq f size k).2
      have h3 := upZ_spec (idR f size k)
      simp only at h1
      omega
  rw [Int.mul_assoc, Int.add_mul, Int.mul_comm f.left, Int.mul_comm f.right]
  omega
theorem ring_le {f : Frm} (hf : FNum f) (hz : ¬ f.left + f.right = 0) {d : Int × Int} {size : Int} {n : Nat} (hn : 0 < n) : screwV f d (ringT f size n) ≤ size := by
  have h2 := hf.left
  have h3 := hf.right
  have h := ring_size (f := f) (d := d) (size := size) hn
  unfold screwV
  have : -size ≤ -sizeOf3 f d (ringT f size n) 1 / (4 * (f.left + f.right)) := by
    rw [Int.le_ediv_iff_mul_le (by omega), Int.neg_mul, Int.mul_comm]; omega
  omega
theorem plug_ge {f : Frm} (hf : FNum f) (hz : ¬ f.left + f.right = 0) {d : Int × Int} {size : Int} {n : Nat} (hn : 0 < n) : size ≤ nutV f d (plugT f size n) := by
  have h2 := hf.left
  have h3 := hf.right
  have h := plug_size (f := f) (d := d) (size := size) hn
  unfold nutV
  rw [Int.le_ediv_iff_mul_le (by omega), Int.mul_comm]; omega
theorem witness {f : Frm} {d : Int × Int} {ring plug : Int} {n : Nat} (hn : 0 < n) (h : 4000 < (ring - plug) * (f.left + f.right)) : goesB d (ringT f ring n) (plugT f plug n) = false := by
  unfold goesB
  rw [decide_eq_false_iff_not]
  intro hle
  have g1 : (ringT f ring n).1[0]? = some (upZ (idL f ring 0), dnZ (idR f ring 0)) := by simp [ringT, perfL, hn]
  have g2 : (plugT f plug n).1[0]? = some (dnZ (idL f plug 0), upZ (idR f plug 0)) := by simp [plugT, perfL, hn]
  have hm : nd d (upZ (idL f ring 0), dnZ (idR f ring 0)) (dnZ (idL f plug 0), upZ (idR f plug 0)) f.left f.right f.left f.right ∈ nds d (ringT f ring n) (plugT f plug n) (ringT f ring n).1 (plugT f plug n).1 := by
    refine List.mem_of_getElem? (i := 0) ?_
    unfold nds
    rw [List.getElem?_zipWith, g1, g2]
    rfl
  have hs := shf_le hm
  generalize shf (nds d (ringT f ring n) (plugT f plug n) (ringT f ring n).1 (plugT f plug n).1) = z at *
  unfold nd at hs
  rw [Int.sub_self, Int.sub_self, mst_zero] at hs
  simp only at hs
  have i1 := id_eq f ring 0
  have i2 := id_eq f plug 0
  have u1 := upZ_spec (idL f ring 0)
  have u2 := dnZ_spec (idR f ring 0)
  have u3 := dnZ_spec (idL f plug 0)
  have u4 := upZ_spec (idR f plug 0)
  have e : (ring - plug) * (f.left + f.right) = ring * f.left + ring * f.right - plug * f.left - plug * f.right := by
    rw [Int.sub_mul, Int.mul_add, Int.mul_add]; omega
  omega
end Go.Lo

/- The plain laws, and threads in small numbers. -/

/- Do they go together? By the laws' own helper. -/
namespace Go.Lo
open Go.Proofs
set_option linter.unusedSimpArgs false
set_option maxHeartbeats 8000000
theorem partS_all {d : Int × Int} {s n : Thr} (hl : s.1.length = n.1.length) : partS d s n 0 0 s.1.length = shf (nds d s n s.1 n.1) := by
  have q1 : part s.1 0 s.1.length = s.1 := by unfold part; simp
  have q2 : part n.1 0 s.1.length = n.1 := by unfold part; rw [hl]; simp
  unfold partS
  rw [q1, q2]
theorem p43_law {d : Int × Int} (hd : DOk d) {s n : Thr} (hs : chkT s = 0) (hn : chkT n = 0) (hl : s.1.length = n.1.length) : R 43 [.agg (eT s), .agg (eT n), eS d] = some (.tup [B (goesB d s n), B true]) := by
  have ts := chkT_ok hs
  have tn := chkT_ok hn
  have ls := ts.len
  have lp := ts.pos
  have c1 := p15 (t := s) (by omega)
  have c2 := p15 (t := n) (by omega)
  have e3 := p25 d s n 0 0 s.1.length
  have hall : chkAll d [s, n] = 0 := by rw [chkAll_2, hs, hn, dOk_iff.2 hd]; simp
  have hpl : placeB s n 0 0 s.1.length = true := by unfold placeB; rw [decide_eq_true_eq]; omega
  unfold shiftE at e3
  rw [if_neg (fun h => h hall), hpl] at e3
  simp only [Bool.true_eq_false, if_false, Int.toNat_natCast, Int.toNat_zero, partS_all hl] at e3
  have f1 := flat_eS2 s.1
  have f2 := flat_eS2 n.1
  unfold goesB
  generalize shf (nds d s n s.1 n.1) = z at *
  simp only [eT] at c1 c2 e3
  refine run2_body 1 rfl rfl rfl rfl rfl ?_
  by_cases hz : z.1 ≤ z.2
  · simp only [hz, if_true] at e3
    simp (maxSteps := 2000000) (disch := first | omega | (simp; done) | (simp; omega)) [-getElem?_pos, l43, eT, c1, c2, e3, f1, f2, hz]
  · simp only [hz, if_false] at e3
    simp (maxSteps := 2000000) (disch := first | omega | (simp; done) | (simp; omega)) [-getElem?_pos, l43, eT, c1, c2, e3, f1, f2, hz]
theorem scE_made {m : Mad} (h : m.Ok) {d : Int × Int} (hd : DOk d) {t : Thr} (ht : chkT t = 0) : scE (madF m) d t = 0 := by
  obtain ⟨hP, hL, hR⟩ := madF_bd h
  have h1 : opE (madF m) d [t] = 0 := by
    unfold opE chkAll
    rw [if_pos (frmB_made h)]
    simp [ht, dOk_iff.2 hd]
  unfold scE
  rw [if_neg (fun x => x h1), if_neg (by omega)]
end Go.Lo

/- Texts put together. -/

/- FitWitness. -/
namespace Go.Lo
open Go.Proofs
set_option linter.unusedSimpArgs false
set_option maxHeartbeats 8000000
abbrev G (n : Int) : V := .int .i16 n
theorem p9_witness (hk : R 14 [] = some (B true)) {a : Mad} (ha : a.Ok) {x y : Int} (hx : -32768 ≤ x ∧ x ≤ 32767) (hy : -32768 ≤ y ∧ y ≤ 32767) {at_ : Int × Int} (hat : (-128 ≤ at_.1 ∧ at_.1 ≤ 127) ∧ (-128 ≤ at_.2 ∧ at_.2 ≤ 127)) :
    R 9 [.agg (eMad a), .agg [G x, G y], .agg [J at_.1, J at_.2]] = some (B true) := by
  have hd := madD_ok hat
  have hf := madF_num ha
  obtain ⟨hP, hL, hR⟩ := madF_bd ha
  have hz : ¬ (madF a).left + (madF a).right = 0 := by omega
  have hn1 : 1 ≤ madN a ∧ madN a ≤ 8 := by unfold madN; omega
  have bx := Int.tmod_lt_of_pos x (show (0 : Int) < 300 by omega)
  have bx2 := Int.tmod_lt_of_pos (-x) (show (0 : Int) < 300 by omega)
  rw [Int.neg_tmod] at bx2
  have by1 := Int.tmod_lt_of_pos y (show (0 : Int) < 300 by omega)
  have by2 := Int.tmod_lt_of_pos (-y) (show (0 : Int) < 300 by omega)
  rw [Int.neg_tmod] at by2
  have e1 := p39 ha
  have e2 := p40 hat
  have e3 := p41 a
  generalize hr : x.tmod 300 = ring at *
  generalize hp : y.tmod 300 = plug at *
  have e4 := p30 (madF a) ring plug (madN a) (madD at_)
  unfold showE at e4
  have hok : showOk ring plug (madN a) (madD at_) = true := by
    unfold showOk
    simp only [Bool.and_eq_true, decide_eq_true_eq]
    exact ⟨⟨by omega, by omega⟩, dOk_iff.2 hd⟩
  rw [frmB_made ha, hok, Int.toNat_natCast] at e4
  simp only [Bool.true_eq_false, if_false] at e4
  have wx := wrap64 (n := x) (by omega) (by omega)
  have wy := wrap64 (n := y) (by omega) (by omega)
  by_cases hc : chkAll (madD at_) [ringT (madF a) ring (madN a), plugT (madF a) plug (madN a)] = 0
  · rw [if_pos hc] at e4
    obtain ⟨c1, c2, c3⟩ := chkAll_two hc
    have l1 : (ringT (madF a) ring (madN a)).1.length = madN a := by simp [ringT, perfL]
    have l2 : (plugT (madF a) plug (madN a)).1.length = madN a := by simp [plugT, perfL]
    have e6 := p15 (t := ringT (madF a) ring (madN a)) (by omega)
    have e7 := p15 (t := plugT (madF a) plug (madN a)) (by omega)
    have e8 := p17 (madF a) (madD at_) (ringT (madF a) ring (madN a))
    have e9 := p18 (madF a) (madD at_) (plugT (madF a) plug (madN a))
    rw [scE_made ha hd c1] at e8
    rw [scE_made ha hd c2] at e9
    have e10 := p43_law hd c1 c2 (by omega)
    have r1 := ring_le hf hz (d := madD at_) (size := ring) (n := madN a) (by omega)
    have r2 := plug_ge hf hz (d := madD at_) (size := plug) (n := madN a) (by omega)
    have r3 : ring ≤ plug → goesB (madD at_) (ringT (madF a) ring (madN a)) (plugT (madF a) plug (madN a)) = true := fun h => gauge hf hz (chkT_ok c1) (by omega) (by omega)
    have r4 : 4000 < (ring - plug) * ((madF a).left + (madF a).right) → goesB (madD at_) (ringT (madF a) ring (madN a)) (plugT (madF a) plug (madN a)) = false := fun h => witness (by omega) h
    have m1 := abs_mul (a := ring - plug) (b := (madF a).left + (madF a).right) (A := 600) (C := 2000) (by omega) (by omega)
    have f1 := flat_eS2 (ringT (madF a) ring (madN a)).1
    have f2 := flat_eS2 (plugT (madF a) plug (madN a)).1
    have s1 : (ringT (madF a) ring (madN a)).2 = ((madF a).left, (madF a).right) := rfl
    have s2 : (plugT (madF a) plug (madN a)).2 = ((madF a).left, (madF a).right) := rfl
    clear hc hok
    generalize ringT (madF a) ring (madN a) = M at *
    generalize plugT (madF a) plug (madN a) = N at *
    generalize screwV (madF a) (madD at_) M = sv at *
    generalize nutV (madF a) (madD at_) N = nv at *
    generalize goesB (madD at_) M N = g at *
    generalize madF a = f at *
    generalize madD at_ = d at *
    generalize madN a = n at *
    obtain ⟨mts, ml, mr⟩ := M
    obtain ⟨nts, nl, nr⟩ := N
    simp only [Prod.mk.injEq] at s1 s2
    obtain ⟨rfl, rfl⟩ := s1
    obtain ⟨rfl, rfl⟩ := s2
    simp only at l1 l2
    simp only [eT, eF, eMad, shE, if_true] at e1 e2 e3 e4 e6 e7 e8 e9 e10 f1 f2 ⊢
    have hem : ∃ x l, eS2 mts = x :: l := by
      cases mts with
      | nil => simp at l1; omega
      | cons x l => exact ⟨_, _, rfl⟩
    have hen : ∃ x l, eS2 nts = x :: l := by
      cases nts with
      | nil => simp at l2; omega
      | cons x l => exact ⟨_, _, rfl⟩
    have k1 : (eS2 mts).length = n := by simp [l1]
    have k2 : (eS2 nts).length = n := by simp [l2]
    generalize eS2 mts = em at *
    generalize eS2 nts = en at *
    obtain ⟨u, em, rfl⟩ := hem
    obtain ⟨v, en, rfl⟩ := hen
    have hs1 : ¬ sv > ring := by omega
    have hs2 : ¬ nv < plug := by omega
    have k1' : (em.length : Int) + 1 = n := by rw [List.length_cons] at k1; omega
    have k2' : (en.length : Int) + 1 = n := by rw [List.length_cons] at k2; omega
    have w1 := wrap64 (n := ring - plug) (by omega) (by omega)
    have w2 := wrap64 (n := f.left + f.right) (by omega) (by omega)
    have w3 := wrap64 (n := (ring - plug) * (f.left + f.right)) (by omega) (by omega)
    generalize hz1 : (ring - plug) * (f.left + f.right) = z1 at *
    refine run2_body 1 rfl rfl rfl rfl rfl ?_
    by_cases q1 : ring ≤ plug
    · have r3 := r3 q1
      subst r3
      have q1' : ¬ ring > plug := by omega
      have q2 : z1 ≤ 4000 := by
        by_cases h : 4000 < z1
        · exact absurd (r4 h) (by simp)
        · omega
      simp (maxSteps := 2000000) (disch := first | omega | (simp; done) | (simp; omega)) [-getElem?_pos, l9, e1, e2, e3, e4, e6, e7, e8, e9, e10, f1, f2, hk, hr, hp, wx, wy, hs1, hs2, k1', k2', w1, w2, w3, hz1, q1', q2]
    · have q1' : ring > plug := by omega
      by_cases q2 : z1 ≤ 4000
      · cases g <;> simp (maxSteps := 2000000) (disch := first | omega | (simp; done) | (simp; omega)) [-getElem?_pos, l9, e1, e2, e3, e4, e6, e7, e8, e9, e10, f1, f2, hk, hr, hp, wx, wy, hs1, hs2, k1', k2', w1, w2, w3, hz1, q1', q2]
      · have r4 := r4 (by omega)
        subst r4
        simp (maxSteps := 2000000) (disch := first | omega | (simp; done) | (simp; omega)) [-getElem?_pos, l9, e1, e2, e3, e4, e6, e7, e8, e9, e10, f1, f2, hk, hr, hp, wx, wy, hs1, hs2, k1', k2', w1, w2, w3, hz1, q1', q2]
  · rw [if_neg hc] at e4
    clear hc hok
    generalize madF a = f at *
    generalize madD at_ = d at *
    generalize madN a = n at *
    simp only [eT, eF, eMad, shE, t0, List.map_nil] at e1 e2 e3 e4 ⊢
    refine run2_body 1 rfl rfl rfl rfl rfl ?_
    simp (maxSteps := 2000000) (disch := first | omega | (simp; done) | (simp; omega)) [-getElem?_pos, l9, e1, e2, e3, e4, hk, hr, hp, wx, wy, wrap64]
end Go.Lo
