/- Texts put together. -/
import Derived.Test.YtohdbgibdopinaaPf
/- Gauges, and the pair that need not go together: the plain laws. -/
namespace Go.Lo
open Go.Proofs
set_option linter.unusedSimpArgs false
set_option maxHeartbeats 8000000
theorem shf_mem : ∀ {l : List (Int × Int)}, l ≠ [] → (∃ x ∈ l, (shf l).1 = x.1) ∧ ∃ y ∈ l, (shf l).2 = y.2 := by
  have key : ∀ (n : Nat) (l : List (Int × Int)), l.length = n → l ≠ [] → (∃ x ∈ l, (shf l).1 = x.1) ∧ ∃ y ∈ l, (shf l).2 = y.2 := by
    intro n
    induction n with
    | zero => intro l h1 h2; exact absurd (List.length_eq_zero_iff.1 h1) h2
    | succ n ih =>
      intro l h1 h2
      obtain ⟨q, x, rfl⟩ : ∃ q x, l = q ++ [x] := ⟨l.dropLast, l.getLast h2, (List.dropLast_concat_getLast h2).symm⟩
      rw [shf_snoc]
      by_cases hq : q = []
      · subst hq; simp
      · rw [if_neg hq]
        have hl : q.length = n := by simp at h1; exact h1
        obtain ⟨⟨a, a1, a2⟩, b, b1, b2⟩ := ih q hl hq
        refine ⟨?_, ?_⟩
        · by_cases h : (shf q).1 ≤ x.1
          · exact ⟨x, by simp, by simp only; omega⟩
          · exact ⟨a, by simp [a1], by simp only; omega⟩
        · by_cases h : (shf q).2 ≤ x.2
          · exact ⟨b, by simp [b1], by simp only; omega⟩
          · exact ⟨x, by simp, by simp only; omega⟩
  exact fun {l} h => key l.length l rfl h
theorem le_mx : ∀ {l : List Int} {x : Int}, x ∈ l → x ≤ mx l := by
  have key : ∀ (l : List Int) (a : Int), a ≤ l.foldl max a ∧ ∀ x ∈ l, x ≤ l.foldl max a := by
    intro l
    induction l with
    | nil => intro a; simp
    | cons y l ih =>
      intro a
      obtain ⟨h1, h2⟩ := ih (max a y)
      refine ⟨by simp only [List.foldl_cons]; omega, fun x hx => ?_⟩
      simp only [List.foldl_cons]
      rcases List.mem_cons.1 hx with rfl | hx
      · omega
      · exact h2 x hx
  intro l x hx
  cases l with
  | nil => cases hx
  | cons y l =>
    have := key l y
    rcases List.mem_cons.1 hx with rfl | hx
    · exact this.1
    · exact this.2 x hx
theorem mst_add (d : Int × Int) (a b : Int) : mst d (a + b) ≤ mst d a + mst d b := by
  unfold mst
  simp only [Int.mul_add]
  omega
theorem screw_le {S k c : Int} (hk : 0 < k) (h : -(-S / k) ≤ c) : S ≤ k * c := by
  have h1 := Int.ediv_mul_le (-S) (show k ≠ 0 by omega)
  have h2 : k * (-(-S / k)) ≤ k * c := Int.mul_le_mul_of_nonneg_left h (by omega)
  rw [Int.mul_neg, Int.mul_comm] at h2
  omega
theorem nut_ge {S k c : Int} (hk : 0 < k) (h : c ≤ S / k) : k * c ≤ S := by
  have h1 := Int.ediv_mul_le S (show k ≠ 0 by omega)
  have h2 : k * c ≤ k * (S / k) := Int.mul_le_mul_of_nonneg_left h (by omega)
  rw [Int.mul_comm k (S / k)] at h2
  omega
theorem goes_of {f : Frm} {d : Int × Int} {s n : Thr} (hs : TOk s) (hl : s.1.length = n.1.length) (h : sizeOf3 f d s 1 + sizeOf3 f d n (-1) ≤ 0) : goesB d s n = true := by
  have hp := hs.pos
  unfold goesB
  rw [decide_eq_true_eq]
  have hne : nds d s n s.1 n.1 ≠ [] := fun e => by
    have h0 := congrArg List.length e
    rw [List.length_zipWith, List.length_nil] at h0
    omega
  obtain ⟨⟨x, hx, ex⟩, y, hy, ey⟩ := shf_mem hne
  rw [ex, ey]
  obtain ⟨i, hi⟩ := List.getElem?_of_mem hx
  obtain ⟨j, hj⟩ := List.getElem?_of_mem hy
  have at_ : ∀ {k : Nat} {z : Int × Int}, (nds d s n s.1 n.1)[k]? = some z → k < s.1.length ∧ z = nd d (turn s.1 k) (turn n.1 k) s.2.1 s.2.2 n.2.1 n.2.2 := fun {k z} hz => by
    have hk : k < s.1.length := by
      have := (List.getElem?_eq_some_iff.1 hz).1
      simp at this; omega
    refine ⟨hk, ?_⟩
    have h1 := turn_get hk
    have h2 := turn_get (ts := n.1) (i := k) (by omega)
    rw [List.getElem?_zipWith, h1, h2] at hz
    injection hz with hz
    exact hz.symm
  obtain ⟨i1, rfl⟩ := at_ hi
  obtain ⟨j1, rfl⟩ := at_ hj
  have a1 := le_mx (l := lefts f s 1 s.1.length) (x := -1 * lf f s i) (List.mem_map.2 ⟨i, List.mem_range.2 i1, rfl⟩)
  have a2 := le_mx (l := lefts f n (-1) n.1.length) (x := - -1 * lf f n i) (List.mem_map.2 ⟨i, List.mem_range.2 (by omega), rfl⟩)
  have a3 := le_mx (l := rights f s 1 s.1.length) (x := 1 * rt f s j) (List.mem_map.2 ⟨j, List.mem_range.2 j1, rfl⟩)
  have a4 := le_mx (l := rights f n (-1) n.1.length) (x := -1 * rt f n j) (List.mem_map.2 ⟨j, List.mem_range.2 (by omega), rfl⟩)
  have b1 := mst_add d (-1 * (f.left - n.2.1)) (1 * (f.left - s.2.1))
  have b2 := mst_add d (-1 * (f.right - n.2.2)) (1 * (f.right - s.2.2))
  have c1 : -1 * (f.left - n.2.1) + 1 * (f.left - s.2.1) = n.2.1 - s.2.1 := by omega
  have c2 : -1 * (f.right - n.2.2) + 1 * (f.right - s.2.2) = n.2.2 - s.2.2 := by omega
  rw [c1] at b1
  rw [c2] at b2
  unfold sizeOf3 at h
  unfold nd
  simp only
  unfold lf at a1 a2
  unfold rt at a3 a4
  omega
theorem gauge {f : Frm} (hf : FNum f) (hz : ¬ f.left + f.right = 0) {d : Int × Int} {s n : Thr} (hs : TOk s) (hl : s.1.length = n.1.length) (h : screwV f d s ≤ nutV f d n) : goesB d s n = true := by
  have h2 := hf.left
  have h3 := hf.right
  have k1 := screw_le (S := sizeOf3 f d s 1) (k := 4 * (f.left + f.right)) (c := nutV f d n) (by omega) h
  have k2 := nut_ge (S := -sizeOf3 f d n (-1)) (k := 4 * (f.left + f.right)) (c := nutV f d n) (by omega) (Int.le_refl _)
  exact goes_of (f := f) hs hl (by omega)
theorem shf_le : ∀ {l : List (Int × Int)} {x : Int × Int}, x ∈ l → x.1 ≤ (shf l).1 ∧ (shf l).2 ≤ x.2 := by
  have key : ∀ (n : Nat) (l : List (Int × Int)), l.length = n → ∀ x ∈ l, x.1 ≤ (shf l).1 ∧ (shf l).2 ≤ x.2 := by
    intro n
    induction n with
    | zero => intro l h x hx; rw [List.length_eq_zero_iff.1 h] at hx; cases hx
    | succ n ih =>
      intro l h x hx
      have h2 : l ≠ [] := fun e => by rw [e] at h; cases h
      obtain ⟨q, z, rfl⟩ : ∃ q x, l = q ++ [x] := ⟨l.dropLast, l.getLast h2, (List.dropLast_concat_getLast h2).symm⟩
      rw [shf_snoc]
      by_cases hq : q = []
      · subst hq; simp at hx; subst hx; simp
      · rw [if_neg hq]
        have hl : q.length = n := by simp at h; exact h
        rcases List.mem_append.1 hx with hx | hx
        · have := ih q hl x hx; simp only; omega
        · simp at hx; subst hx; simp only; omega
  exact fun {l x} hx => key l.length l rfl x hx
theorem mst_zero (d : Int × Int) : mst d 0 = 0 := by unfold mst; omega
theorem upZ_spec (m : Int) : m ≤ 4000 * upZ m ∧ 4000 * upZ m < m + 4000 := by unfold upZ; omega
theorem dnZ_spec (m : Int) : m - 4000 < 4000 * dnZ m ∧ 4000 * dnZ m ≤ m := by unfold dnZ; omega
theorem mx_le {l : List Int} {A : Int} (h0 : l ≠ []) (h : ∀ x ∈ l, x ≤ A) : mx l ≤ A := by
  cases l with
  | nil => exact absurd rfl h0
  | cons x l =>
    have key : ∀ (l : List Int) (a : Int), a ≤ A → (∀ x ∈ l, x ≤ A) → l.foldl max a ≤ A := by
      intro l
      induction l with
      | nil => intro a h _; exact h
      | cons y l ih =>
        intro a ha hl
        refine ih _ ?_ fun z hz => hl z (by simp [hz])
        have := hl y (by simp)
        omega
    exact key l x (h x (by simp)) fun y hy => h y (by simp [hy])
theorem ring_turn {f : Frm} {size : Int} {n k : Nat} (hk : k < n) : turn (ringT f size n).1 k = (upZ (idL f size k), dnZ (idR f size k)) := by
  have hl : (ringT f size n).1.length = n := by simp [ringT, perfL]
  have h1 : (ringT f size n).1[k]? = some (upZ (idL f size k), dnZ (idR f size k)) := by simp [ringT, perfL, hk]
  have h2 := turn_get (ts := (ringT f size n).1) (i := k) (by omega)
  rw [h1] at h2
  injection h2 with h2
  exact h2.symm
theorem plug_turn {f : Frm} {size : Int} {n k : Nat} (hk : k < n) : turn (plugT f size n).1 k = (dnZ (idL f size k), upZ (idR f size k)) := by
  have hl : (plugT f size n).1.length = n := by simp [plugT, perfL]
  have h1 : (plugT f size n).1[k]? = some (dnZ (idL f size k), upZ (idR f size k)) := by simp [plugT, perfL, hk]
  have h2 := turn_get (ts := (plugT f size n).1) (i := k) (by omega)
  rw [h1] at h2
  injection h2 with h2
  exact h2.symm
theorem id_eq (f : Frm) (size : Int) (k : Nat) : idL f size k = 4000 * (k * f.pitch) - 1000 * f.pitch - 4 * (size * f.left) ∧ idR f size k = 4000 * (k * f.pitch) + 1000 * f.pitch + 4 * (size * f.right) := by
  unfold idL idR
  constructor <;> simp only [Int.mul_assoc]
theorem lf_eq (f : Frm) (t : Thr) (k : Nat) : lf f t k = 4000 * (turn t.1 k).1 - 4000 * (k * f.pitch) + 1000 * f.pitch ∧ rt f t k = 4000 * (turn t.1 k).2 - 4000 * (k * f.pitch) - 1000 * f.pitch := by
  unfold lf rt
  rw [Int.mul_assoc 4 (k : Int)]
  omega
theorem ring_size {f : Frm} {d : Int × Int} {size : Int} {n : Nat} (hn : 0 < n) : sizeOf3 f d (ringT f size n) 1 ≤ 4 * (f.left + f.right) * size := by
  have hl : (ringT f size n).1.length = n := by simp [ringT, perfL]
  unfold sizeOf3
  rw [hl, show (ringT f size n).2.1 = f.left from rfl, show (ringT f size n).2.2 = f.right from rfl, Int.sub_self, Int.sub_self, Int.mul_zero, mst_zero]
  have a1 : mx (lefts f (ringT f size n) 1 n) ≤ 4 * (size * f.left) := by
    refine mx_le (fun e => ?_) fun x hx => ?_
    · have := congrArg List.length e; simp [lefts] at this; omega
    · obtain ⟨k, hk, rfl⟩ := List.mem_map.1 hx
      have hk := List.mem_range.1 hk
      have h1 := (lf_eq f (ringT f size n) k).1
      rw [ring_turn hk] at h1
      have h2 := (id_eq f size k).1
      have h3 := upZ_spec (idL f size k)
      simp only at h1
      omega
  have a2 : mx (rights f (ringT f size n) 1 n) ≤ 4 * (size * f.right) := by
    refine mx_le (fun e => ?_) fun x hx => ?_
    · have := congrArg List.length e; simp [rights] at this; omega
    · obtain ⟨k, hk, rfl⟩ := List.mem_map.1 hx
      have hk := List.mem_range.1 hk
      have h1 := (lf_eq f (ringT f size n) k).2
      rw [ring_turn hk] at h1
      have h2 := (id_eq f size k).2
      have h3 := dnZ_spec (idR f size k)
      simp only at h1
      omega
  rw [Int.mul_assoc, Int.add_mul, Int.mul_comm f.left, Int.mul_comm f.right]
  omega
theorem plug_size {f : Frm} {d : Int × Int} {size : Int} {n : Nat} (hn : 0 < n) : 4 * (f.left + f.right) * size ≤ -sizeOf3 f d (plugT f size n) (-1) := by
  have hl : (plugT f size n).1.length = n := by simp [plugT, perfL]
  unfold sizeOf3
  rw [hl, show (plugT f size n).2.1 = f.left from rfl, show (plugT f size n).2.2 = f.right from rfl, Int.sub_self, Int.sub_self, Int.mul_zero, mst_zero]
  have a1 : mx (lefts f (plugT f size n) (-1) n) ≤ -(4 * (size * f.left)) := by
    refine mx_le (fun e => ?_) fun x hx => ?_
    · have := congrArg List.length e; simp [lefts] at this; omega
    · obtain ⟨k, hk, rfl⟩ := List.mem_map.1 hx
      have hk := List.mem_range.1 hk
      have h1 := (lf_eq f (plugT f size n) k).1
      rw [plug_turn hk] at h1
      have h2 := (id_eq f size k).1
      have h3 := dnZ_spec (idL f size k)
      simp only at h1
      omega
  have a2 : mx (rights f (plugT f size n) (-1) n) ≤ -(4 * (size * f.right)) := by
    refine mx_le (fun e => ?_) fun x hx => ?_
    · have := congrArg List.length e; simp [rights] at this; omega
    · obtain ⟨k, hk, rfl⟩ := List.mem_map.1 hx
      have hk := List.mem_range.1 hk
      have h1 := (lf_eq f (plugT f size n) k).2
      rw [plug_turn hk] at h1
      have h2 := (id_eq f size k).2
      have h3 := upZ_spec (idR f size k)
      simp only at h1
      omega
  rw [Int.mul_assoc, Int.add_mul, Int.mul_comm f.left, Int.mul_comm f.right]
  omega
theorem ring_le {f : Frm} (hf : FNum f) (hz : ¬ f.left + f.right = 0) {d : Int × Int} {size : Int} {n : Nat} (hn : 0 < n) : screwV f d (ringT f size n) ≤ size := by
  have h2 := hf.left
  have h3 := hf.right
  have h := ring_size (f := f) (d := d) (size := size) hn
  unfold screwV
  have : -size ≤ -sizeOf3 f d (ringT f size n) 1 / (4 * (f.left + f.right)) := by
    rw [Int.le_ediv_iff_mul_le (by omega), Int.neg_mul, Int.mul_comm]; omega
  omega
theorem plug_ge {f : Frm} (hf : FNum f) (hz : ¬ f.left + f.right = 0) {d : Int × Int} {size : Int} {n : Nat} (hn : 0 < n) : size ≤ nutV f d (plugT f size n) := by
  have h2 := hf.left
  have h3 := hf.right
  have h := plug_size (f := f) (d := d) (size := size) hn
  unfold nutV
  rw [Int.le_ediv_iff_mul_le (by omega), Int.mul_comm]; omega
theorem witness {f : Frm} {d : Int × Int} {ring plug : Int} {n : Nat} (hn : 0 < n) (h : 4000 < (ring - plug) * (f.left + f.right)) : goesB d (ringT f ring n) (plugT f plug n) = false := by
  unfold goesB
  rw [decide_eq_false_iff_not]
  intro hle
  have g1 : (ringT f ring n).1[0]? = some (upZ (idL f ring 0), dnZ (idR f ring 0)) := by simp [ringT, perfL, hn]
  have g2 : (plugT f plug n).1[0]? = some (dnZ (idL f plug 0), upZ (idR f plug 0)) := by simp [plugT, perfL, hn]
  have hm : nd d (upZ (idL f ring 0), dnZ (idR f ring 0)) (dnZ (idL f plug 0), upZ (idR f plug 0)) f.left f.right f.left f.right ∈ nds d (ringT f ring n) (plugT f plug n) (ringT f ring n).1 (plugT f plug n).1 := by
    refine List.mem_of_getElem? (i := 0) ?_
    unfold nds
    rw [List.getElem?_zipWith, g1, g2]
    rfl
  have hs := shf_le hm
  generalize shf (nds d (ringT f ring n) (plugT f plug n) (ringT f ring n).1 (plugT f plug n).1) = z at *
  unfold nd at hs
  rw [Int.sub_self, Int.sub_self, mst_zero] at hs
  simp only at hs
  have i1 := id_eq f ring 0
  have i2 := id_eq f plug 0
  have u1 := upZ_spec (idL f ring 0)
  have u2 := dnZ_spec (idR f ring 0)
  have u3 := dnZ_spec (idL f plug 0)
  have u4 := upZ_spec (idR f plug 0)
  have e : (ring - plug) * (f.left + f.right) = ring * f.left + ring * f.right - plug * f.left - plug * f.right := by
    rw [Int.sub_mul, Int.mul_add, Int.mul_add]; omega
  omega
end Go.Lo

/- TopZoneFit: what it is about. -/
namespace Go.Lo
open Go.Proofs
set_option linter.unusedSimpArgs false
set_option maxHeartbeats 8000000
abbrev J (n : Int) : V := .int .i8 n
abbrev H (n : Int) : V := .int .u16 n
abbrev U (n : Int) : V := .int .u8 n
abbrev u8r (n : Int) : Prop := 0 ≤ n ∧ n ≤ 255
abbrev u16r (n : Int) : Prop := 0 ≤ n ∧ n ≤ 65535
abbrev i8r (n : Int) : Prop := -128 ≤ n ∧ n ≤ 127
theorem tmodP {n k : Int} (h : 0 ≤ n) : n.tmod k = n % k := Int.tmod_eq_emod_of_nonneg h
theorem p8 (a b : Int) : R 8 [I a, I b] = some (eS (a, b)) := by
  refine run2_body 1 rfl rfl rfl rfl rfl ?_
  simp (maxSteps := 2000000) (disch := first | omega | (simp; done) | (simp; omega)) [-getElem?_pos, l8]
def arF (p l r : Int) : Frm := ⟨4 * (1000 + p % 5000), 1 + l % 900, 1 + r % 900, 900, 900, 1 + p % 3, false, 0⟩
def arD (x y : Int) : Int × Int := (min (7 * x) (7 * y), max (7 * x) (7 * y))
theorem p15 {p l r : Int} (hp : u16r p) (hl : u16r l) (hr : u16r r) (x y : Int) : R 15 [.agg [H p, H l, H r, J x, J y]] = some (.agg (eF (arF p l r))) := by
  have e1 := tmodP (n := p) (k := 5000) hp.1
  have e2 := tmodP (n := l) (k := 900) hl.1
  have e3 := tmodP (n := r) (k := 900) hr.1
  have e4 := tmodP (n := p) (k := 3) hp.1
  have w1 := wrap64 (n := p) (by omega) (by omega)
  have w2 := wrap64 (n := l) (by omega) (by omega)
  have w3 := wrap64 (n := r) (by omega) (by omega)
  have b1 : 0 ≤ p % 5000 ∧ p % 5000 < 5000 := by omega
  have b2 : 0 ≤ l % 900 ∧ l % 900 < 900 := by omega
  have b3 : 0 ≤ r % 900 ∧ r % 900 < 900 := by omega
  have b4 : 0 ≤ p % 3 ∧ p % 3 < 3 := by omega
  unfold arF
  generalize p % 5000 = y1 at *
  generalize l % 900 = y2 at *
  generalize r % 900 = y3 at *
  generalize p % 3 = y4 at *
  refine run2_body 1 rfl rfl rfl rfl rfl ?_
  simp (maxSteps := 2000000) (disch := first | omega | (simp; done) | (simp; omega)) [-getElem?_pos, l15, eF, e1, e2, e3, e4, w1, w2, w3, wrap64]
theorem p17 {x y : Int} (hx : i8r x) (hy : i8r y) (p l r : Int) : R 17 [.agg [H p, H l, H r, J x, J y]] = some (eS (arD x y)) := by
  have w1 := wrap64 (n := x) (by omega) (by omega)
  have w2 := wrap64 (n := y) (by omega) (by omega)
  have w3 := wrap64 (n := 7 * x) (by omega) (by omega)
  have w4 := wrap64 (n := 7 * y) (by omega) (by omega)
  have e1 := p8 (min (7 * x) (7 * y)) (max (7 * x) (7 * y))
  unfold arD
  refine run2_body 1 rfl rfl rfl rfl rfl ?_
  simp (maxSteps := 2000000) (disch := first | omega | (simp; done) | (simp; omega)) [-getElem?_pos, -maxL, -minL, maxL2, minL2, l17, e1, w1, w2, w3, w4]
theorem arD_ok {x y : Int} (hx : i8r x) (hy : i8r y) : DOk (arD x y) := by
  refine ⟨?_, ?_, ?_⟩ <;> simp only [arD] <;> omega
structure Arm (f : Frm) : Prop where
  pitch : 4000 ≤ f.pitch ∧ f.pitch ≤ 30000
  left : 1 ≤ f.left ∧ f.left ≤ 900
  right : 1 ≤ f.right ∧ f.right ≤ 900
theorem arF_arm (p l r : Int) : Arm (arF p l r) := by
  refine ⟨?_, ?_, ?_⟩ <;> simp only [arF] <;> omega
theorem arF_frm (p l r : Int) : frmB (arF p l r) = true := by
  have h := arF_arm p l r
  have h1 := h.pitch
  have h2 := h.left
  have h3 := h.right
  unfold frmB frmN wid
  have e1 : (arF p l r).above = 900 := rfl
  have e2 : (arF p l r).below = 900 := rfl
  have e3 : (arF p l r).starts = 1 + p % 3 := rfl
  have e4 : (arF p l r).taper = 0 := rfl
  rw [e1, e2, e3, e4, Bool.and_eq_true, decide_eq_true_eq, decide_eq_true_eq]
  omega
theorem perf_chk {f : Frm} (h : Arm f) {size : Int} (hs : -200 ≤ size ∧ size ≤ 200) {n : Nat} (hn : 1 ≤ n ∧ n ≤ 5) : chkT (ringT f size n) = 0 ∧ chkT (plugT f size n) = 0 := by
  have h1 := h.pitch
  have h2 := h.left
  have h3 := h.right
  have m1 := abs_mul (a := size) (b := f.left) (A := 200) (C := 900) (by omega) (by omega)
  have m2 := abs_mul (a := size) (b := f.right) (A := 200) (C := 900) (by omega) (by omega)
  have hk : ∀ k : Nat, k < n → 0 ≤ (k : Int) * f.pitch ∧ (k : Int) * f.pitch ≤ 150000 := fun k hk => by
    have := abs_mul (a := (k : Int)) (b := f.pitch) (A := 5) (C := 30000) (by omega) (by omega)
    exact ⟨Int.mul_nonneg (by omega) (by omega), by omega⟩
  have hsub : ∀ k : Nat, 0 < k → ((k - 1 : Nat) : Int) * f.pitch = k * f.pitch - f.pitch := fun k hk => by
    rw [show ((k - 1 : Nat) : Int) = (k : Int) - 1 by omega, Int.sub_mul, Int.one_mul]
  have hlean : leanB f.left f.right = true := by unfold leanB; rw [decide_eq_true_eq]; omega
  have key : ∀ t : Thr, t.1.length = n → t.2 = (f.left, f.right) → (∀ k, k < n → turnB t.1 k = true) → chkT t = 0 := fun t hl ht hb => by
    have hne : t.1 ≠ [] := fun e => by rw [e] at hl; simp at hl; omega
    have hall : (List.range t.1.length).all (turnB t.1) = true := by
      rw [List.all_eq_true]; intro k hk; rw [hl] at hk; exact hb k (List.mem_range.1 hk)
    unfold chkT
    rw [ht, hall]
    simp only
    rw [hlean]
    have : ¬ 60 < t.1.length := by omega
    simp [this, hne]
  constructor
  · refine key _ (by simp [ringT, perfL]) rfl fun k hkn => ?_
    have a0 := hk k hkn
    have i1 := id_eq f size k
    have i2 := id_eq f size (k - 1)
    have u1 := upZ_spec (idL f size k)
    have u2 := dnZ_spec (idR f size k)
    have u3 := dnZ_spec (idR f size (k - 1))
    unfold turnB aftT
    rw [ring_turn hkn, decide_eq_true_eq]
    by_cases h0 : k = 0
    · rw [if_pos h0]; simp only; omega
    · rw [if_neg h0, ring_turn (by omega : k - 1 < n)]
      have := hsub k (by omega)
      simp only
      omega
  · refine key _ (by simp [plugT, perfL]) rfl fun k hkn => ?_
    have a0 := hk k hkn
    have i1 := id_eq f size k
    have i2 := id_eq f size (k - 1)
    have u1 := dnZ_spec (idL f size k)
    have u2 := upZ_spec (idR f size k)
    have u3 := upZ_spec (idR f size (k - 1))
    unfold turnB aftT
    rw [plug_turn hkn, decide_eq_true_eq]
    by_cases h0 : k = 0
    · rw [if_pos h0]; simp only; omega
    · rw [if_neg h0, plug_turn (by omega : k - 1 < n)]
      have := hsub k (by omega)
      simp only
      omega
/-- What Show says of a ring and a plug that are near 0. -/
theorem show_arm {f : Frm} (h : Arm f) (hb : frmB f = true) {d : Int × Int} (hd : DOk d) {c e : Int} (hc : -200 ≤ c ∧ c ≤ 200) (he : -200 ≤ e ∧ e ≤ 200) {n : Nat} (hn : 1 ≤ n ∧ n ≤ 5) :
    showE f c e n d = (ringT f c n, plugT f e n, goesB d (ringT f c n) (plugT f e n), 0) ∧ (c ≤ e → goesB d (ringT f c n) (plugT f e n) = true) ∧ (4000 < (c - e) * (f.left + f.right) → goesB d (ringT f c n) (plugT f e n) = false) := by
  have h2 := h.left
  have h3 := h.right
  have hf : FNum f := frmN_num (by unfold frmB at hb; simp only [Bool.and_eq_true] at hb; exact hb.1)
  have hz : ¬ f.left + f.right = 0 := by omega
  have c1 := (perf_chk h hc hn).1
  have c2 := (perf_chk h he hn).2
  have l1 : (ringT f c n).1.length = n := by simp [ringT, perfL]
  have l2 : (plugT f e n).1.length = n := by simp [plugT, perfL]
  refine ⟨?_, fun hle => ?_, fun hlt => witness (by omega) hlt⟩
  · unfold showE
    have hok : showOk c e n d = true := by
      unfold showOk
      simp only [Bool.and_eq_true, decide_eq_true_eq]
      exact ⟨⟨by omega, by omega⟩, dOk_iff.2 hd⟩
    rw [hb, hok, Int.toNat_natCast]
    simp only [Bool.true_eq_false, if_false]
    rw [if_pos]
    rw [chkAll_2, c1, c2, dOk_iff.2 hd]; simp
  · have r1 := ring_le hf hz (d := d) (size := c) (n := n) (by omega)
    have r2 := plug_ge hf hz (d := d) (size := e) (n := n) (by omega)
    exact gauge hf hz (chkT_ok c1) (by omega) (by omega)
end Go.Lo

/- Shift, by the program. -/
namespace Go.Lo
open Go.Proofs
set_option linter.unusedSimpArgs false
set_option maxHeartbeats 8000000
/-! ### Shift -/
def part (ts : List (Int × Int)) (at_ many : Nat) : List (Int × Int) := (ts.take (at_ + many)).drop at_
def placeB (s n : Thr) (tooth groove many : Int) : Bool := decide ((1 ≤ many ∧ many ≤ min (s.1.length : Int) n.1.length) ∧ (0 ≤ tooth ∧ tooth ≤ s.1.length - many) ∧ (0 ≤ groove ∧ groove ≤ n.1.length - many))
def partS (d : Int × Int) (s n : Thr) (tooth groove many : Nat) : Int × Int := shf (nds d s n (part s.1 tooth many) (part n.1 groove many))
def shiftE (d : Int × Int) (s n : Thr) (tooth groove many : Int) : (Int × Int) × Int :=
  if chkAll d [s, n] ≠ 0 then ((0, 0), chkAll d [s, n])
  else if placeB s n tooth groove many = false then ((0, 0), 7)
  else if (partS d s n tooth.toNat groove.toNat many.toNat).1 ≤ (partS d s n tooth.toNat groove.toNat many.toNat).2 then (partS d s n tooth.toNat groove.toNat many.toNat, 0) else ((0, 0), 9)
abbrev sE (x : (Int × Int) × Int) : V := .tup [eS x.1, I x.2]
theorem p21 (d : Int × Int) (s n : Thr) (tooth groove many : Int) : R 21 [.agg (eT s), .agg (eT n), I tooth, I groove, I many, eS d] = some (sE (shiftE d s n tooth groove many)) := by
  have e1 := p40 d (l := [s, n]) (by simp)
  unfold shiftE
  by_cases c0 : chkAll d [s, n] = 0
  · rw [if_neg (fun h => h c0)]
    obtain ⟨c1, c2, c3⟩ := chkAll_two c0
    have hs := chkT_ok c1
    have hn := chkT_ok c2
    have hd := dOk_iff.1 c3
    have ls := hs.len
    have ln := hn.len
    rw [c0] at e1
    have w1 := p35_1 1 (min (s.1.length : Int) n.1.length) many
    have w2 := p35_1 0 (s.1.length - many) tooth
    have w3 := p35_1 0 (n.1.length - many) groove
    simp only [eT, List.map_cons, List.map_nil] at e1
    unfold placeB
    by_cases k1 : 1 ≤ many ∧ many ≤ min (s.1.length : Int) n.1.length
    · by_cases k2 : 0 ≤ tooth ∧ tooth ≤ s.1.length - many
      · by_cases k3 : 0 ≤ groove ∧ groove ≤ n.1.length - many
        · obtain ⟨m, rfl⟩ : ∃ m : Nat, many = m := ⟨many.toNat, by omega⟩
          obtain ⟨t, rfl⟩ : ∃ t : Nat, tooth = t := ⟨tooth.toNat, by omega⟩
          obtain ⟨g, rfl⟩ : ∃ g : Nat, groove = g := ⟨groove.toNat, by omega⟩
          simp only [k1, k2, k3, and_self, decide_true] at w1 w2 w3
          simp only [k1, k2, k3, and_self, decide_true, Int.toNat_natCast, Bool.true_eq_false, if_false]
          have l1 : (part s.1 t m).length = m := by unfold part; simp; omega
          have l2 : (part n.1 g m).length = m := by unfold part; simp; omega
          have e2 := p47 hd hs hn (ts := part s.1 t m) (gs := part n.1 g m) (fun x hx => (hs.turn x (List.mem_of_mem_take (List.mem_of_mem_drop hx))).1) (fun x hx => (hn.turn x (List.mem_of_mem_take (List.mem_of_mem_drop hx))).1) (by omega) (by omega)
          unfold partS
          generalize shf (nds d s n (part s.1 t m) (part n.1 g m)) = z at *
          simp only [eT, List.cons_append, List.nil_append, part, List.map_take, List.map_drop] at e2
          have q1 : ((t : Int) + m).toNat = t + m := by omega
          have q2 : ((g : Int) + m).toNat = g + m := by omega
          refine run2_body 1 rfl rfl rfl rfl rfl ?_
          by_cases hz : z.1 ≤ z.2 <;> simp (maxSteps := 2000000) (disch := first | omega | (simp; done) | (simp; omega)) [-getElem?_pos, -maxL, -minL, minL2, l21, eT, e1, e2, w1, w2, w3, q1, q2, hz, wrap64]
        · simp only [k1, k2, k3, and_self, decide_true, decide_false] at w1 w2 w3
          refine run2_body 1 rfl rfl rfl rfl rfl ?_
          simp (maxSteps := 2000000) (disch := first | omega | (simp; done) | (simp; omega)) [-getElem?_pos, -maxL, -minL, minL2, l21, eT, e1, w1, w2, w3, k1, k2, k3, wrap64]
      · simp only [k1, k2, and_self, decide_true, decide_false] at w1 w2
        refine run2_body 1 rfl rfl rfl rfl rfl ?_
        simp (maxSteps := 2000000) (disch := first | omega | (simp; done) | (simp; omega)) [-getElem?_pos, -maxL, -minL, minL2, l21, eT, e1, w1, w2, k1, k2, wrap64]
    · simp only [k1, decide_false] at w1
      refine run2_body 1 rfl rfl rfl rfl rfl ?_
      simp (maxSteps := 2000000) (disch := first | omega | (simp; done) | (simp; omega)) [-getElem?_pos, -maxL, -minL, minL2, l21, eT, e1, w1, k1, wrap64]
  · rw [if_pos c0]
    generalize chkAll d [s, n] = c at *
    simp only [eT, List.map_cons, List.map_nil] at e1
    refine run2_body 1 rfl rfl rfl rfl rfl ?_
    simp (maxSteps := 2000000) (disch := first | omega | (simp; done) | (simp; omega)) [-getElem?_pos, l21, eT, e1, c0]
end Go.Lo

/- TopDieFit. -/
namespace Go.Lo
open Go.Proofs
set_option linter.unusedSimpArgs false
set_option maxHeartbeats 8000000
def mtF : Frm := ⟨10000, 577, 577, 3000, 3000, 1, false, 0⟩
abbrev d3 : Int × Int := (-3000, 3000)
theorem mtF_arm : Arm mtF := ⟨by decide, by decide, by decide⟩
theorem mtF_frm : frmB mtF = true := by decide
theorem d3_ok : DOk d3 := by refine ⟨?_, ?_, ?_⟩ <;> simp
theorem p19 : R 19 [] = some (.agg [I 10000, I 577, I 577, I 3000, I 3000, I 1, B false, I 0]) := by
  refine run2_body 1 rfl rfl rfl rfl rfl ?_
  simp (maxSteps := 2000000) (disch := first | omega | (simp; done) | (simp; omega)) [-getElem?_pos, l19]
theorem flat_dj (l : List (Int × Int)) : flatE (eS2 l) = true := by simp [flatE, V.flat]
theorem partS_same {d : Int × Int} {s n : Thr} (hl : s.1.length = n.1.length) : partS d s n 0 0 s.1.length = shf (nds d s n s.1 n.1) := by
  have q1 : part s.1 0 s.1.length = s.1 := by unfold part; simp
  have q2 : part n.1 0 s.1.length = n.1 := by unfold part; rw [hl]; simp
  unfold partS
  rw [q1, q2]
/-- A screw of perfect form that is no greater than the plug's nut. -/
theorem fit_facts {c r : Int} (hc : -200 ≤ c ∧ c ≤ 200) (hr : -200 ≤ r ∧ r ≤ 200) (hcr : c ≤ r) {n : Nat} (hn : 1 ≤ n ∧ n ≤ 5) :
    ∃ (x : Int) (y : Int × Int) (g : Bool), x ≤ r ∧ y.1 ≤ y.2 ∧
      R 16 [.agg (eF mtF), I c, I r, I n, eS d3] = some (.tup [.agg (eT (ringT mtF c n)), .agg (eT (plugT mtF r n)), B g, I 0]) ∧
      R 20 [.agg (eF mtF), .agg (eT (ringT mtF c n)), eS d3] = some (.tup [I x, I 0]) ∧
      R 21 [.agg (eT (ringT mtF c n)), .agg (eT (plugT mtF r n)), I 0, I 0, I n, eS d3] = some (.tup [eS y, I 0]) := by
  have hA := mtF_arm
  have hB := mtF_frm
  have hd := d3_ok
  obtain ⟨o1, o2, -⟩ := show_arm hA hB hd (c := c) (e := r) hc hr hn
  have hf : FNum mtF := frmN_num (by have := hB; unfold frmB at this; simp only [Bool.and_eq_true] at this; exact this.1)
  have hz : ¬ mtF.left + mtF.right = 0 := by decide
  have c1 := (perf_chk hA hc hn).1
  have c2 := (perf_chk hA hr hn).2
  have l1 : (ringT mtF c n).1.length = n := by simp [ringT, perfL]
  have l2 : (plugT mtF r n).1.length = n := by simp [plugT, perfL]
  have e1 := p16 mtF c r n d3
  rw [o1] at e1
  have e2 := p20 mtF d3 (ringT mtF c n)
  have s0 : scE mtF d3 (ringT mtF c n) = 0 := by
    have h1 : opE mtF d3 [ringT mtF c n] = 0 := by
      unfold opE chkAll
      rw [if_pos hB]
      simp [c1, dOk_iff.2 hd]
    unfold scE
    rw [if_neg (fun x => x h1), if_neg hz]
  rw [s0, if_pos rfl] at e2
  have e3 := p21 d3 (ringT mtF c n) (plugT mtF r n) 0 0 n
  have hall : chkAll d3 [ringT mtF c n, plugT mtF r n] = 0 := by rw [chkAll_2, c1, c2, dOk_iff.2 hd]; simp
  have hpl : placeB (ringT mtF c n) (plugT mtF r n) 0 0 n = true := by unfold placeB; rw [decide_eq_true_eq]; omega
  have hp := partS_same (d := d3) (s := ringT mtF c n) (n := plugT mtF r n) (by omega)
  rw [l1] at hp
  have hg := o2 hcr
  unfold shiftE at e3
  rw [if_neg (fun h => h hall), hpl] at e3
  simp only [Bool.true_eq_false, if_false, Int.toNat_natCast, Int.toNat_zero, hp] at e3
  have hg2 := hg
  unfold goesB at hg2
  rw [decide_eq_true_eq] at hg2
  rw [if_pos hg2] at e3
  have r1 := ring_le hf hz (d := d3) (size := c) (n := n) (by omega)
  exact ⟨_, _, _, by omega, hg2, e1, e2, e3⟩
abbrev sDj (ring : Int) (n : Nat) (A : List Int) (N : List (List V)) (i : Nat) : St := { fr := [(5, I ring), (6, I n), (7, .sl (some 5004000) 1 (A.map fun y => [I y])), (8, B true), (10, .box [I (-3000), I 3000]), (12, .box [S 2 N, I 577, I 577]), (15, I i)], tk := [] }
theorem floor2 (y : Int) : (if 2 * y.tdiv 2 > y then y.tdiv 2 - 1 else y.tdiv 2) = y / 2 := by
  have h := tdiv_floor (n := y) (k := 2) (by omega)
  have h1 : 2 * y.tdiv 2 + y.tmod 2 = y := by
    have := Int.mul_tdiv_add_tmod y 2
    exact this
  split
  · rw [if_pos (by omega)] at h; exact h
  · rw [if_neg (by omega)] at h; exact h
theorem dj_round {M : Nat} {ring : Int} {n : Nat} {A : List Int} {i : Nat} {e : Int} (hr : 0 ≤ ring ∧ ring ≤ 59) (hn : 1 ≤ n ∧ n ≤ 4) (hi : A[i]? = some e) (hA : A.length ≤ 60) (he : 89700 ≤ e ∧ e ≤ 90000 + 2 * ring) :
    evC2 R M b5_0 (sDj ring n A (eS2 (plugT mtF ring n).1) i) = some (.normal, sDj ring n A (eS2 (plugT mtF ring n).1) (i + 7)) := by
  have hi1 : i < A.length := by
    rw [List.getElem?_eq_some_iff] at hi
    exact hi.1
  have hi2 : (i : Int) < (A.length : Int) := by omega
  have hfl := floor2 (e - 90000)
  obtain ⟨x, y, g, h1, h2, e1, e2, e3⟩ := fit_facts (c := (e - 90000) / 2) (r := ring) (by omega) (by omega) (by omega) (n := n) (by omega)
  have e4 := p19
  have f1 := flat_dj (ringT mtF ((e - 90000) / 2) n).1
  have f2 := flat_dj (plugT mtF ring n).1
  have m1 : eT (ringT mtF ((e - 90000) / 2) n) = [S 2 (eS2 (ringT mtF ((e - 90000) / 2) n).1), I 577, I 577] := rfl
  have m2 : eT (plugT mtF ring n) = [S 2 (eS2 (plugT mtF ring n).1), I 577, I 577] := rfl
  have m3 : eF mtF = [I 10000, I 577, I 577, I 3000, I 3000, I 1, B false, I 0] := rfl
  simp only [m1, m2, m3] at e1 e2 e3
  simp only [sDj]
  generalize eS2 (ringT mtF ((e - 90000) / 2) n).1 = L1 at *
  generalize eS2 (plugT mtF ring n).1 = L2 at *
  have b0 := tdiv_le (n := e - 90000) (k := 2) (by omega) 1000 (by omega)
  have w1 := wrap64 (n := e - 90000) (by omega) (by omega)
  have w2 := wrap64 (n := (e - 90000).tdiv 2) (by omega) (by omega)
  have w3 := wrap64 (n := 2 * (e - 90000).tdiv 2) (by omega) (by omega)
  have w4 := wrap64 (n := (e - 90000).tdiv 2 - 1) (by omega) (by omega)
  have w5 := wrap64 (n := (i : Int) + 7) (by omega) (by omega)
  have w6 := wrap64 (n := (e - 90000) / 2) (by omega) (by omega)
  have c1 : ((i + 7 : Nat) : Int) = (i : Int) + 7 := by omega
  have x1 : ¬ x > ring := by omega
  have x2 : ¬ y.1 > y.2 := by omega
  clear hr hn he hA m1 m2 m3 h1 h2 b0
  generalize (e - 90000) / 2 = q at *
  generalize ht : (e - 90000).tdiv 2 = t at *
  rw [c1]
  by_cases hcm : 2 * t > e - 90000
  · rw [if_pos hcm] at hfl
    have hcm2 : e - 90000 < 2 * t := by omega
    clear hcm
    have EQ := fun (_ : Unit) => And.intro w1 (And.intro w2 (And.intro w3 (And.intro w4 (And.intro w5 (And.intro ht (And.intro w6 hfl))))))
    clear w1 w2 w3 w4 w5 w6 hfl ht
    simp (maxSteps := 2000000) (disch := first | omega | (simp; done) | (simp; omega)) [-getElem?_pos, b5_0, hi, hi2, e1, e2, e3, e4, f1, f2, EQ (), x1, x2, hcm2]
  · rw [if_neg hcm] at hfl
    have hcm2 : ¬ e - 90000 < 2 * t := by omega
    clear hcm
    subst hfl
    have EQ := fun (_ : Unit) => And.intro w1 (And.intro w2 (And.intro w3 (And.intro ht w5)))
    clear w1 w2 w3 w4 w5 ht
    simp (maxSteps := 2000000) (disch := first | omega | (simp; done) | (simp; omega)) [-getElem?_pos, b5_0, hi, hi2, e1, e2, e3, e4, f1, f2, EQ (), x1, x2, hcm2]
end Go.Lo

/- TopDieFit, the law. -/
namespace Go.Lo
open Go.Proofs
set_option linter.unusedSimpArgs false
set_option maxHeartbeats 8000000
theorem p5_diefit (k1 : R 18 [] = some (B true)) (k2 : R 11 [] = some (B true)) {x : Ad} (hx : x.Ok) {v0 v1 v2 : Int} (h0 : u8r v0) (h1 : u8r v1) (h2 : u8r v2) :
    R 5 [.agg (eAd x), .agg [U v0, U v1, U v2]] = some (B true) := by
  have t1 := tmodP (n := v0) (k := 60) h0.1
  have t2 := tmodP (n := v1) (k := 4) h1.1
  have t3 := tmodP (n := v2) (k := 7) h2.1
  have w0 := wrap64 (n := v0) (by omega) (by omega)
  have w1 := wrap64 (n := v1) (by omega) (by omega)
  have w2 := wrap64 (n := v2) (by omega) (by omega)
  have b1 : 0 ≤ v0 % 60 ∧ v0 % 60 ≤ 59 := by omega
  obtain ⟨n, hn⟩ : ∃ n : Nat, 1 + v1 % 4 = n := ⟨(1 + v1 % 4).toNat, by omega⟩
  obtain ⟨i0, hi0⟩ : ∃ i : Nat, v2 % 7 = i := ⟨(v2 % 7).toNat, by omega⟩
  have b2 : 1 ≤ n ∧ n ≤ 4 := by omega
  generalize v0 % 60 = ring at *
  have e1 := p8 89700 (90000 + 2 * ring)
  have e2 := p8 (-3000) 3000
  have e3 := p19
  obtain ⟨xx, yy, g, hh1, hh2, e4, -, -⟩ := fit_facts (c := ring) (r := ring) (by omega) (by omega) (by omega) (n := n) (by omega)
  have f1 := flat_dj (ringT mtF ring n).1
  have f2 := flat_dj (plugT mtF ring n).1
  have m1 : eT (ringT mtF ring n) = [S 2 (eS2 (ringT mtF ring n).1), I 577, I 577] := rfl
  have m2 : eT (plugT mtF ring n) = [S 2 (eS2 (plugT mtF ring n).1), I 577, I 577] := rfl
  have m3 : eF mtF = [I 10000, I 577, I 577, I 3000, I 3000, I 1, B false, I 0] := rfl
  simp only [m1, m2, m3] at e4
  have hz : 0 ≤ ((89700, 90000 + 2 * ring) : Int × Int).1 ∧ ((89700, 90000 + 2 * ring) : Int × Int).1 ≤ ((89700, 90000 + 2 * ring) : Int × Int).2 ∧ ((89700, 90000 + 2 * ring) : Int × Int).2 ≤ 10000000 := by simp only; omega
  have hlim := lim_nn (shpOf_ok hx hz)
  have W1 := wrap64 (n := 2 * ring) (by omega) (by omega)
  have W2 := wrap64 (n := 90000 + 2 * ring) (by omega) (by omega)
  have W3 := wrap64 (n := 1 + v1 % 4) (by omega) (by omega)
  rw [hn] at W3
  by_cases hl : lim (shpOf x (89700, 90000 + 2 * ring)) = 0
  · have e5 := p12_no hx hz hl
    simp only [eAd] at e5 ⊢
    generalize eS2 (ringT mtF ring n).1 = L1 at *
    generalize eS2 (plugT mtF ring n).1 = L2 at *
    generalize x.tr.map _ = tr at *
    clear hz hlim hl m1 m2 m3 hh1 hh2 h0 h1 h2 b1 b2
    have EQ := fun (_ : Unit) => And.intro w0 (And.intro w1 (And.intro w2 (And.intro W1 (And.intro W2 (And.intro W3 (And.intro t1 (And.intro t2 (And.intro t3 (And.intro hn hi0)))))))))
    clear w0 w1 w2 W1 W2 W3 t1 t2 t3 hn hi0
    refine run2_body 3 rfl rfl rfl rfl rfl ?_
    have L : iter (evC2 R 3 b5_0) 3 { fr := [(5, I ring), (6, I n), (7, .sl none 1 []), (8, B false), (10, .box [I (-3000), I 3000]), (12, .box [S 2 L2, I 577, I 577]), (15, I i0)], tk := [] } =
        some (.exit 0, { fr := [(5, I ring), (6, I n), (7, .sl none 1 []), (8, B false), (10, .box [I (-3000), I 3000]), (12, .box [S 2 L2, I 577, I 577]), (15, I i0), (70, B false)], tk := [] }) := by
      rw [iter_succ]
      have hi1 : ¬ (i0 : Int) < 0 := by omega
      simp (maxSteps := 2000000) (disch := first | omega | (simp; done) | (simp; omega)) [-getElem?_pos, b5_0, hi1]
    simp (maxSteps := 2000000) (disch := first | omega | (simp; done) | (simp; omega)) [-getElem?_pos, l5, e1, e2, e3, e4, e5, f1, f2, EQ (), L, k1, k2]
  · have hl1 : 1 ≤ lim (shpOf x (89700, 90000 + 2 * ring)) := by omega
    have e5 := p12 hx hz hl1
    have hin := allL_in hx hz hl1 _ (Nat.le_refl _)
    have hlen := allL_len (x := x) (shpOf_ok hx hz) hl1 (tgO (shpOf x (89700, 90000 + 2 * ring))) _ (Nat.le_refl _)
    have h60 := n60 x hx (89700, 90000 + 2 * ring)
    have hpb := pos_bd (shpOf_ok hx hz) hl1 (cuts (shpOf x (89700, 90000 + 2 * ring)))
    have hpc := psN_cast (shpOf_ok hx hz) hl1 (cuts (shpOf x (89700, 90000 + 2 * ring)))
    generalize allL x (shpOf x (89700, 90000 + 2 * ring)) (tgO (shpOf x (89700, 90000 + 2 * ring))) (cuts (shpOf x (89700, 90000 + 2 * ring))) = A at *
    have hA : A.length ≤ 60 := by omega
    have fA := ints_flat A
    clear hpb hpc h60 hlen
    have L := loop_all (s := fun k => sDj ring n A (eS2 (plugT mtF ring n).1) (i0 + 7 * k)) (f := evC2 R ((A.length - i0 + 6) / 7 + 1) b5_0) (n := (A.length - i0 + 6) / 7)
      (X := (.exit 0, { fr := [(5, I ring), (6, I n), (7, .sl (some 5004000) 1 (A.map fun y => [I y])), (8, B true), (10, .box [I (-3000), I 3000]), (12, .box [S 2 (eS2 (plugT mtF ring n).1), I 577, I 577]), (15, I (i0 + 7 * ((A.length - i0 + 6) / 7) : Nat)), (70, B false)], tk := [] }))
      (fun k hk => by
        have hk1 : i0 + 7 * k < A.length := by omega
        have := hin _ (List.getElem_mem hk1)
        exact dj_round (M := (A.length - i0 + 6) / 7 + 1) (e := A[i0 + 7 * k]) b1 b2 (List.getElem?_eq_getElem hk1) hA (by simp only at this; exact this)) (by
        have hx1 : ¬ i0 + 7 * ((A.length - i0 + 6) / 7) < A.length := by omega
        generalize i0 + 7 * ((A.length - i0 + 6) / 7) = j at *
        have hx2 : ¬ (j : Int) < (A.length : Int) := by omega
        simp only [sDj]
        generalize eS2 (plugT mtF ring n).1 = L2 at *
        clear e1 e2 e3 e4 e5 hin hz hlim hl hl1
        simp (maxSteps := 2000000) (disch := first | omega | (simp; done) | (simp; omega)) [-getElem?_pos, b5_0, hx1, hx2]) (by simp)
    simp only [sDj, eAd, Nat.mul_zero, Nat.add_zero] at L e5 ⊢
    generalize eS2 (ringT mtF ring n).1 = L1 at *
    generalize eS2 (plugT mtF ring n).1 = L2 at *
    generalize x.tr.map _ = tr at *
    generalize (A.length - i0 + 6) / 7 = mm at *
    generalize A.map (fun y => [I y]) = AA at *
    clear hz hlim hl hl1 m1 m2 m3 hh1 hh2 h0 h1 h2 b1 b2 hin hA
    have EQ := fun (_ : Unit) => And.intro w0 (And.intro w1 (And.intro w2 (And.intro W1 (And.intro W2 (And.intro W3 (And.intro t1 (And.intro t2 (And.intro t3 (And.intro hn hi0)))))))))
    clear w0 w1 w2 W1 W2 W3 t1 t2 t3 hn hi0
    refine run2_body (mm + 1) rfl rfl rfl rfl rfl ?_
    simp (maxSteps := 2000000) (disch := first | omega | (simp; done) | (simp; omega)) [-getElem?_pos, l5, e1, e2, e3, e4, e5, f1, f2, fA, EQ (), L, k1, k2]
end Go.Lo
