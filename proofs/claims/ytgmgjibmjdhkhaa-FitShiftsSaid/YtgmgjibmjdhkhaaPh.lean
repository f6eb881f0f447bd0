/- The statement about shifts is proved: the shifts with which any teeth of any screw lie in any grooves of any nut, and how far it can be screwed in, or the errors, are what the document says; both are not changed; whatever the input. No condition. -/
import Derived.Test.YtgmgjibmjdhkhaaPg
import Derived.Test.YtgmgjibmjdhkhaaRows
import Derived.JoinedOf
import Derived.Seven
/- How teeth lie in grooves. -/
namespace Go.Lo
open Go.Proofs
set_option linter.unusedSimpArgs false
set_option maxHeartbeats 4000000
theorem maxL2 {a b : Int} : maxL a [b] = max a b := by simp only [maxL]; split <;> omega
theorem minL2 {a b : Int} : minL a [b] = min a b := by simp only [minL]; split <;> omega
theorem maxL3 {a b c : Int} : maxL a [b, c] = max (max a b) c := by simp only [maxL]; split <;> split <;> omega
theorem abs_mul {a b A C : Int} (h1 : -A ≤ a ∧ a ≤ A) (h2 : -C ≤ b ∧ b ≤ C) : -(A * C) ≤ a * b ∧ a * b ≤ A * C := by
  have hA : 0 ≤ A := by omega
  have hC : 0 ≤ C := by omega
  have key : ∀ {x y : Int}, 0 ≤ x → x ≤ A → -C ≤ y → y ≤ C → -(A * C) ≤ x * y ∧ x * y ≤ A * C := fun {x y} p1 p2 p3 p4 => by
    have e1 := Int.mul_le_mul_of_nonneg_left p4 p1
    have e2 := Int.mul_le_mul_of_nonneg_right p2 hC
    have e3 := Int.mul_le_mul_of_nonneg_left p3 p1
    have e4 : x * -C = -(x * C) := Int.mul_neg x C
    omega
  by_cases h : 0 ≤ a
  · exact key h h1.2 h2.1 h2.2
  · have := key (x := -a) (y := b) (by omega) (by omega) h2.1 h2.2
    rw [Int.neg_mul] at this
    omega
/-- A height is one of those at which flanks can touch. -/
structure DOk (d : Int × Int) : Prop where
  lo : -200000 ≤ d.1
  le : d.1 ≤ d.2
  hi : d.2 ≤ 200000
theorem dOk_iff {d : Int × Int} : dOk d = true ↔ DOk d := by
  unfold dOk
  rw [decide_eq_true_eq]
  exact ⟨fun h => ⟨h.1, h.2.1, h.2.2⟩, fun h => ⟨h.1, h.2, h.3⟩⟩
def mst (d : Int × Int) (b : Int) : Int := max (d.1 * b) (d.2 * b)
theorem mst_bd {d : Int × Int} (hd : DOk d) {b : Int} (hb : -3000 ≤ b ∧ b ≤ 3000) : -600000000 ≤ mst d b ∧ mst d b ≤ 600000000 := by
  obtain ⟨h1, h2, h3⟩ := hd
  have := abs_mul (a := d.1) (b := b) (A := 200000) (C := 3000) (by omega) (by omega)
  have := abs_mul (a := d.2) (b := b) (A := 200000) (C := 3000) (by omega) (by omega)
  unfold mst
  omega
theorem p87 {d : Int × Int} (hd : DOk d) {b : Int} (hb : -3000 ≤ b ∧ b ≤ 3000) : R 87 [eS d, I b] = some (I (mst d b)) := by
  obtain ⟨h1, h2, h3⟩ := hd
  have b1 := abs_mul (a := d.1) (b := b) (A := 200000) (C := 3000) (by omega) (by omega)
  have b2 := abs_mul (a := d.2) (b := b) (A := 200000) (C := 3000) (by omega) (by omega)
  unfold mst
  have w1 := wrap64 (n := d.1 * b) (by omega) (by omega)
  have w2 := wrap64 (n := d.2 * b) (by omega) (by omega)
  generalize hx : d.1 * b = x at *
  generalize hy : d.2 * b = y at *
  refine run2_body 1 rfl rfl rfl rfl rfl ?_
  simp (maxSteps := 2000000) (disch := first | omega | (simp; done) | (simp; omega)) [-getElem?_pos, -maxL, maxL2, l87, hx, hy, w1, w2]
/-- What two flanks need of the shift. -/
def nd (d : Int × Int) (a b : Int × Int) (sl sr nl nr : Int) : Int × Int := (1000 * (b.1 - a.1) + mst d (nl - sl), 1000 * (b.2 - a.2) - mst d (nr - sr))
abbrev far1 (x : Int × Int) : Prop := (-10000000 ≤ x.1 ∧ x.1 ≤ 10000000) ∧ (-10000000 ≤ x.2 ∧ x.2 ≤ 10000000)
abbrev lean1 (l r : Int) : Prop := (0 ≤ l ∧ l ≤ 3000) ∧ (0 ≤ r ∧ r ≤ 3000)
theorem nd_bd {d : Int × Int} (hd : DOk d) {a b : Int × Int} (ha : far1 a) (hb : far1 b) {sl sr nl nr : Int} (hs : lean1 sl sr) (hn : lean1 nl nr) : (-30000000000 ≤ (nd d a b sl sr nl nr).1 ∧ (nd d a b sl sr nl nr).1 ≤ 30000000000) ∧ (-30000000000 ≤ (nd d a b sl sr nl nr).2 ∧ (nd d a b sl sr nl nr).2 ≤ 30000000000) := by
  have m1 := mst_bd hd (b := nl - sl) (by omega)
  have m2 := mst_bd hd (b := nr - sr) (by omega)
  unfold nd
  omega
theorem p91 {d : Int × Int} (hd : DOk d) {a b : Int × Int} (ha : far1 a) (hb : far1 b) {sl sr nl nr : Int} (hs : lean1 sl sr) (hn : lean1 nl nr) (x y : V) (hx : x = .sl none 2 [] ∨ ∃ es, x = .sl none 2 es) (hy : ∃ es, y = .sl none 2 es) :
    R 91 [eS d, eS a, eS b, .agg [x, I sl, I sr], .agg [y, I nl, I nr]] = some (eS (nd d a b sl sr nl nr)) := by
  have hx' : ∃ es, x = .sl none 2 es := by rcases hx with h | h; exact ⟨_, h⟩; exact h
  obtain ⟨ex, rfl⟩ := hx'
  obtain ⟨ey, rfl⟩ := hy
  have e1 := p87 hd (b := nl - sl) (by omega)
  have e2 := p87 hd (b := nr - sr) (by omega)
  have m1 := mst_bd hd (b := nl - sl) (by omega)
  have m2 := mst_bd hd (b := nr - sr) (by omega)
  unfold nd
  generalize mst d (nl - sl) = y1 at *
  generalize mst d (nr - sr) = y2 at *
  refine run2_body 1 rfl rfl rfl rfl rfl ?_
  simp (maxSteps := 2000000) (disch := first | omega | (simp; done) | (simp; omega)) [-getElem?_pos, l91, e1, e2, wrap64]
/-- The shifts that all of these allow. -/
def shf : List (Int × Int) → Int × Int
  | [] => (0, 0)
  | x :: r => r.foldl (fun s n => (max s.1 n.1, min s.2 n.2)) x
theorem shf_snoc (l : List (Int × Int)) (x : Int × Int) : shf (l ++ [x]) = if l = [] then x else (max (shf l).1 x.1, min (shf l).2 x.2) := by
  cases l with
  | nil => rfl
  | cons y l => simp [shf]
abbrev nds (d : Int × Int) (s n : Thr) (ts gs : List (Int × Int)) : List (Int × Int) := List.zipWith (fun a b => nd d a b s.2.1 s.2.2 n.2.1 n.2.2) ts gs
theorem take_at {α : Type} {l : List α} {i : Nat} {x : α} (h : l[i]? = some x) : l.take (i + 1) = l.take i ++ [x] := by
  rw [List.take_add_one, h]; rfl
theorem nds_take {d : Int × Int} {s n : Thr} {ts gs : List (Int × Int)} {i : Nat} {a b : Int × Int} (h1 : ts[i]? = some a) (h2 : gs[i]? = some b) : nds d s n (ts.take (i + 1)) (gs.take (i + 1)) = nds d s n (ts.take i) (gs.take i) ++ [nd d a b s.2.1 s.2.2 n.2.1 n.2.2] := by
  rw [take_at h1, take_at h2]
  have := (List.getElem?_eq_some_iff.1 h1).1
  have := (List.getElem?_eq_some_iff.1 h2).1
  unfold nds
  rw [List.zipWith_append (by simp; omega)]
  rfl
theorem zw_take {α β γ : Type} (f : α → β → γ) : ∀ (l : List α) (r : List β), List.zipWith f l (r.take l.length) = List.zipWith f l r
  | [], r => by simp
  | x :: l, [] => by simp
  | x :: l, y :: r => by simp [zw_take f l r]
/-- A valid thread. -/
structure TOk (t : Thr) : Prop where
  len : t.1.length ≤ 60
  pos : 0 < t.1.length
  lean : lean1 t.2.1 t.2.2
  turn : ∀ x ∈ t.1, far1 x ∧ x.1 ≤ x.2
  asc : ∀ i x y, t.1[i]? = some x → t.1[i + 1]? = some y → x.2 ≤ y.1
theorem chkT_ok {t : Thr} (h : chkT t = 0) : TOk t := by
  obtain ⟨ts, l, r⟩ := t
  unfold chkT at h
  simp only at h
  split at h
  · omega
  · rename_i h1
    split at h
    · omega
    · rename_i h2
      split at h
      · rename_i h3
        rw [List.all_eq_true] at h3
        have hb : ∀ i, i < ts.length → turnB ts i = true := fun i hi => h3 i (List.mem_range.2 hi)
        have hlow : ∀ i, i < ts.length → -10000000 ≤ (turn ts i).1 ∧ (turn ts i).1 ≤ (turn ts i).2 := by
          intro i
          induction i with
          | zero =>
            intro hi
            have := hb 0 hi
            unfold turnB aftT at this
            rw [decide_eq_true_eq] at this
            simp at this
            omega
          | succ i ih =>
            intro hi
            have h4 := hb (i + 1) hi
            have h5 := ih (by omega)
            unfold turnB aftT at h4
            rw [decide_eq_true_eq] at h4
            simp at h4
            omega
        refine ⟨by simp only; omega, ?_, ?_, fun x hx => ?_, fun i x y h4 h5 => ?_⟩
        · have : ts ≠ [] := fun e => h2 (.inl e)
          exact Nat.pos_of_ne_zero fun e => this (List.length_eq_zero_iff.1 e)
        · have h4 : leanB l r = true := by
            cases hq : leanB l r with
            | true => rfl
            | false => exact absurd (.inr hq) h2
          unfold leanB at h4
          rw [decide_eq_true_eq] at h4
          exact h4
        · obtain ⟨i, hi, rfl⟩ := List.mem_iff_getElem.1 hx
          have h4 := hb i hi
          have h5 := hlow i hi
          have h6 : ts[i] = turn ts i := by simp [Go.Lo.turn, hi]
          rw [h6]
          unfold turnB at h4
          rw [decide_eq_true_eq] at h4
          exact ⟨⟨by omega, by omega⟩, h5.2⟩
        · have hi := (List.getElem?_eq_some_iff.1 h5).1
          have h6 := hb (i + 1) hi
          have h7 := turn_get (ts := ts) (i := i) (by simp only at hi; omega)
          have h8 := turn_get (ts := ts) (i := i + 1) hi
          simp only at h4 h5
          rw [h7] at h4
          rw [h8] at h5
          injection h4 with h4
          injection h5 with h5
          unfold turnB aftT at h6
          rw [decide_eq_true_eq] at h6
          simp at h6
          rw [← h4, ← h5]
          omega
      · omega
theorem p66 {d : Int × Int} (hd : DOk d) {s n : Thr} (hs : TOk s) (hn : TOk n) {ts gs : List (Int × Int)} (ht : ∀ x ∈ ts, far1 x) (hg : ∀ x ∈ gs, far1 x) (hl : ts.length ≤ gs.length) (hl2 : ts.length ≤ 1000) :
    R 66 [.agg ([I d.1, I d.2] ++ eT s ++ eT n), S 2 (eS2 ts), S 2 (eS2 gs)] = some (.tup [eS (shf (nds d s n ts gs)), B (decide ((shf (nds d s n ts gs)).1 ≤ (shf (nds d s n ts gs)).2))]) := by
  have hnb : ∀ i, i ≤ ts.length → (-30000000000 ≤ (shf (nds d s n (ts.take i) (gs.take i))).1 ∧ (shf (nds d s n (ts.take i) (gs.take i))).1 ≤ 30000000000) ∧ (-30000000000 ≤ (shf (nds d s n (ts.take i) (gs.take i))).2 ∧ (shf (nds d s n (ts.take i) (gs.take i))).2 ≤ 30000000000) := by
    intro i
    induction i with
    | zero => intro _; simp [shf]
    | succ i ih =>
      intro hi
      have h1 : ts[i]? = some ts[i] := List.getElem?_eq_getElem (by omega)
      have h2 : gs[i]? = some gs[i] := List.getElem?_eq_getElem (by omega)
      have k1 := ht _ (List.getElem_mem (show i < ts.length by omega))
      have k2 := hg _ (List.getElem_mem (show i < gs.length by omega))
      rw [nds_take h1 h2, shf_snoc]
      have b1 := nd_bd hd k1 k2 hs.lean hn.lean
      have b2 := ih (by omega)
      split
      · exact b1
      · simp only; omega
  have L := loop_all (s := fun i => { fr := [(2, S 2 (eS2 gs)), (3, .box ([I d.1, I d.2] ++ eT s ++ eT n)), (6, .box [I (shf (nds d s n (ts.take i) (gs.take i))).1, I (shf (nds d s n (ts.take i) (gs.take i))).2]), (11, S 2 (eS2 ts)), (12, I ts.length), (13, I i)], tk := [] }) (f := evC2 R (ts.length + 1) b66_0) (n := ts.length)
    (X := (.exit 0, { fr := [(2, S 2 (eS2 gs)), (3, .box ([I d.1, I d.2] ++ eT s ++ eT n)), (6, .box [I (shf (nds d s n ts gs)).1, I (shf (nds d s n ts gs)).2]), (11, S 2 (eS2 ts)), (12, I ts.length), (13, I ts.length), (14, B false)], tk := [] }))
    (fun i hi => by
      have h1 : ts[i]? = some ts[i] := List.getElem?_eq_getElem hi
      have h2 : gs[i]? = some gs[i] := List.getElem?_eq_getElem (by omega)
      have k1 := ht _ (List.getElem_mem hi)
      have k2 := hg _ (List.getElem_mem (show i < gs.length by omega))
      have hz : nds d s n (ts.take i) (gs.take i) = [] ↔ i = 0 := by
        rw [← List.length_eq_zero_iff, List.length_zipWith, List.length_take, List.length_take]; omega
      rw [nds_take h1 h2, shf_snoc]
      generalize ts[i] = a at *
      generalize gs[i] = b at *
      have e1 := p91 hd k1 k2 hs.lean hn.lean (S 2 (eS2 s.1)) (S 2 (eS2 n.1)) (.inr ⟨_, rfl⟩) ⟨_, rfl⟩
      generalize nd d a b s.2.1 s.2.2 n.2.1 n.2.2 = z at *
      generalize shf (nds d s n (ts.take i) (gs.take i)) = y at *
      by_cases h0 : i = 0
      · rw [if_pos (hz.2 h0)]
        subst h0
        have m1 : max z.1 z.1 = z.1 := by omega
        have m2 : min z.2 z.2 = z.2 := by omega
        simp (maxSteps := 2000000) (disch := first | omega | (simp; done) | (simp; omega)) [-getElem?_pos, -maxL, -minL, maxL2, minL2, b66_0, eT, h1, h2, hi, e1, m1, m2, wrap64]
      · rw [if_neg (fun h => h0 (hz.1 h))]
        simp (maxSteps := 2000000) (disch := first | omega | (simp; done) | (simp; omega)) [-getElem?_pos, -maxL, -minL, maxL2, minL2, b66_0, eT, h1, h2, hi, e1, h0, wrap64]) (by
      have e : nds d s n (ts.take ts.length) (gs.take ts.length) = nds d s n ts gs := by
        rw [List.take_length]; exact zw_take _ _ _
      rw [e]
      generalize shf (nds d s n ts gs) = y at *
      simp (maxSteps := 2000000) (disch := first | omega | (simp; done) | (simp; omega)) [-getElem?_pos, b66_0, eT]) (by simp)
  generalize shf (nds d s n ts gs) = y at *
  simp [eT, shf] at L
  refine run2_body (ts.length + 1) rfl rfl rfl rfl rfl ?_
  simp (maxSteps := 2000000) (disch := first | omega | (simp; done) | (simp; omega)) [-getElem?_pos, l66, eT, L]
end Go.Lo

/- Shifts and steps, by the program. -/
namespace Go.Lo
open Go.Proofs
set_option linter.unusedSimpArgs false
set_option maxHeartbeats 8000000
theorem chkAll_two {d : Int × Int} {s n : Thr} (h : chkAll d [s, n] = 0) : chkT s = 0 ∧ chkT n = 0 ∧ dOk d = true := by
  unfold chkAll at h
  by_cases h1 : chkT s = 0
  · by_cases h2 : chkT n = 0
    · simp [h1, h2] at h
      exact ⟨h1, h2, h⟩
    · simp [h1, h2] at h
  · simp [h1] at h
theorem chkAll_one {d : Int × Int} {s : Thr} (h : chkAll d [s] = 0) : chkT s = 0 ∧ dOk d = true := by
  unfold chkAll at h
  by_cases h1 : chkT s = 0
  · simp [h1] at h
    exact ⟨h1, h⟩
  · simp [h1] at h
def goesB (d : Int × Int) (s n : Thr) : Bool := decide ((shf (nds d s n s.1 n.1)).1 ≤ (shf (nds d s n s.1 n.1)).2)
theorem p73 {d : Int × Int} (hd : DOk d) {s n : Thr} (hs : TOk s) (hn : TOk n) (hl : s.1.length ≤ n.1.length) : R 73 [.agg (eT s), .agg (eT n), eS d] = some (B (goesB d s n)) := by
  have e1 := p66 hd hs hn (fun x hx => (hs.turn x hx).1) (fun x hx => (hn.turn x hx).1) hl (by have := hs.len; omega)
  unfold goesB
  generalize shf (nds d s n s.1 n.1) = z at *
  refine run2_body 1 rfl rfl rfl rfl rfl ?_
  simp only [eT, List.cons_append, List.nil_append] at e1
  simp (maxSteps := 2000000) (disch := first | omega | (simp; done) | (simp; omega)) [-getElem?_pos, l73, eT, e1]
/-! ### Shift -/
def part (ts : List (Int × Int)) (at_ many : Nat) : List (Int × Int) := (ts.take (at_ + many)).drop at_
def placeB (s n : Thr) (tooth groove many : Int) : Bool := decide ((1 ≤ many ∧ many ≤ min (s.1.length : Int) n.1.length) ∧ (0 ≤ tooth ∧ tooth ≤ s.1.length - many) ∧ (0 ≤ groove ∧ groove ≤ n.1.length - many))
def partS (d : Int × Int) (s n : Thr) (tooth groove many : Nat) : Int × Int := shf (nds d s n (part s.1 tooth many) (part n.1 groove many))
def shiftE (d : Int × Int) (s n : Thr) (tooth groove many : Int) : (Int × Int) × Int :=
  if chkAll d [s, n] ≠ 0 then ((0, 0), chkAll d [s, n])
  else if placeB s n tooth groove many = false then ((0, 0), 7)
  else if (partS d s n tooth.toNat groove.toNat many.toNat).1 ≤ (partS d s n tooth.toNat groove.toNat many.toNat).2 then (partS d s n tooth.toNat groove.toNat many.toNat, 0) else ((0, 0), 9)
abbrev sE (x : (Int × Int) × Int) : V := .tup [eS x.1, I x.2]
theorem p25 (d : Int × Int) (s n : Thr) (tooth groove many : Int) : R 25 [.agg (eT s), .agg (eT n), I tooth, I groove, I many, eS d] = some (sE (shiftE d s n tooth groove many)) := by
  have e1 := p65 d (l := [s, n]) (by simp)
  unfold shiftE
  by_cases c0 : chkAll d [s, n] = 0
  · rw [if_neg (fun h => h c0)]
    obtain ⟨c1, c2, c3⟩ := chkAll_two c0
    have hs := chkT_ok c1
    have hn := chkT_ok c2
    have hd := dOk_iff.1 c3
    have ls := hs.len
    have ln := hn.len
    rw [c0] at e1
    have w1 := p55_1 1 (min (s.1.length : Int) n.1.length) many
    have w2 := p55_1 0 (s.1.length - many) tooth
    have w3 := p55_1 0 (n.1.length - many) groove
    simp only [eT, List.map_cons, List.map_nil] at e1
    unfold placeB
    by_cases k1 : 1 ≤ many ∧ many ≤ min (s.1.length : Int) n.1.length
    · by_cases k2 : 0 ≤ tooth ∧ tooth ≤ s.1.length - many
      · by_cases k3 : 0 ≤ groove ∧ groove ≤ n.1.length - many
        · obtain ⟨m, rfl⟩ : ∃ m : Nat, many = m := ⟨many.toNat, by omega⟩
          obtain ⟨t, rfl⟩ : ∃ t : Nat, tooth = t := ⟨tooth.toNat, by omega⟩
          obtain ⟨g, rfl⟩ : ∃ g : Nat, groove = g := ⟨groove.toNat, by omega⟩
          simp only [k1, k2, k3, and_self, decide_true] at w1 w2 w3
          simp only [k1, k2, k3, and_self, decide_true, Int.toNat_natCast, Bool.true_eq_false, if_false]
          have l1 : (part s.1 t m).length = m := by unfold part; simp; omega
          have l2 : (part n.1 g m).length = m := by unfold part; simp; omega
          have e2 := p66 hd hs hn (ts := part s.1 t m) (gs := part n.1 g m) (fun x hx => (hs.turn x (List.mem_of_mem_take (List.mem_of_mem_drop hx))).1) (fun x hx => (hn.turn x (List.mem_of_mem_take (List.mem_of_mem_drop hx))).1) (by omega) (by omega)
          unfold partS
          generalize shf (nds d s n (part s.1 t m) (part n.1 g m)) = z at *
          simp only [eT, List.cons_append, List.nil_append, part, List.map_take, List.map_drop] at e2
          have q1 : ((t : Int) + m).toNat = t + m := by omega
          have q2 : ((g : Int) + m).toNat = g + m := by omega
          refine run2_body 1 rfl rfl rfl rfl rfl ?_
          by_cases hz : z.1 ≤ z.2 <;> simp (maxSteps := 2000000) (disch := first | omega | (simp; done) | (simp; omega)) [-getElem?_pos, -maxL, -minL, minL2, l25, eT, e1, e2, w1, w2, w3, q1, q2, hz, wrap64]
        · simp only [k1, k2, k3, and_self, decide_true, decide_false] at w1 w2 w3
          refine run2_body 1 rfl rfl rfl rfl rfl ?_
          simp (maxSteps := 2000000) (disch := first | omega | (simp; done) | (simp; omega)) [-getElem?_pos, -maxL, -minL, minL2, l25, eT, e1, w1, w2, w3, k1, k2, k3, wrap64]
      · simp only [k1, k2, and_self, decide_true, decide_false] at w1 w2
        refine run2_body 1 rfl rfl rfl rfl rfl ?_
        simp (maxSteps := 2000000) (disch := first | omega | (simp; done) | (simp; omega)) [-getElem?_pos, -maxL, -minL, minL2, l25, eT, e1, w1, w2, k1, k2, wrap64]
    · simp only [k1, decide_false] at w1
      refine run2_body 1 rfl rfl rfl rfl rfl ?_
      simp (maxSteps := 2000000) (disch := first | omega | (simp; done) | (simp; omega)) [-getElem?_pos, -maxL, -minL, minL2, l25, eT, e1, w1, k1, wrap64]
  · rw [if_pos c0]
    generalize chkAll d [s, n] = c at *
    simp only [eT, List.map_cons, List.map_nil] at e1
    refine run2_body 1 rfl rfl rfl rfl rfl ?_
    simp (maxSteps := 2000000) (disch := first | omega | (simp; done) | (simp; omega)) [-getElem?_pos, l25, eT, e1, c0]
end Go.Lo

/- How far a screw goes, by the program. -/
namespace Go.Lo
open Go.Proofs
set_option linter.unusedSimpArgs false
set_option maxHeartbeats 8000000
def stopN (a n : Nat) : Nat := if a = 0 then n else min a n
theorem foldR_find {f : St → List V → Option (Ex × St)} {s : Nat → St} {W : Nat → List V} {n : Nat} {g : Nat → Bool} {E : Nat → Ex × St} (hs : ∀ i, i < n → f (s i) (W i) = some (if g i = true then E i else (.normal, s (i + 1)))) (hE : ∀ i, (E i).1 ≠ .normal) :
    ∀ (m i k : Nat), i + m ≤ n → foldR f k (s i) ((List.range' i m).map W) = some (match (List.range' i m).find? g with
      | some j => (some (k + (j - i), (E j).1), (E j).2)
      | none => (none, s (i + m)))
  | 0, i, k, h => by simp [foldR]
  | m + 1, i, k, h => by
    rw [List.range'_succ, List.map_cons, foldR, hs i (by omega), List.find?_cons]
    cases hg : g i with
    | true =>
      simp only [if_true]
      have := hE i
      generalize hEi : E i = e at *
      obtain ⟨x1, x2⟩ := e
      cases x1 <;> first | exact absurd rfl this | simp
    | false =>
      simp only [Bool.false_eq_true, if_false]
      rw [foldR_find hs hE m (i + 1) (k + 1) (by omega)]
      cases hf : (List.range' (i + 1) m).find? g with
      | none => simp; congr 1; omega
      | some j =>
        have := List.mem_of_find?_eq_some hf
        simp at this
        simp
        omega
/-- A range over a function: on and on, up to the first stop. -/
theorem rng_find {f : St → List V → Option (Ex × St)} {it : Nat → Option V} {σ0 : St} {s : Nat → St} {W : Nat → List V} {n : Nat} {g : Nat → Bool} {E : Nat → Ex × St} (h1 : ∀ a, it a = some (.tup (tupsL ((List.range (stopN a n)).map W)))) (hn : 0 < n) (h0 : f σ0 (W 0) = f (s 0) (W 0))
    (hs : ∀ i, i < n → f (s i) (W i) = some (if g i = true then E i else (.normal, s (i + 1)))) (hE : ∀ i, (E i).1 ≠ .normal) :
    rngE f it σ0 = some (match (List.range n).find? g with
      | some j => E j
      | none => (.normal, s n)) := by
  have start : ∀ m, 0 < m → foldR f 0 σ0 ((List.range m).map W) = foldR f 0 (s 0) ((List.range m).map W) := by
    intro m hm
    obtain ⟨m, rfl⟩ : ∃ k, m = k + 1 := ⟨m - 1, by omega⟩
    rw [List.range_eq_range', List.range'_succ, List.map_cons, foldR, foldR, h0]
  have F := fun m (hm : m ≤ n) => foldR_find hs hE m 0 0 (by omega)
  unfold rngE
  rw [h1 0]
  simp only [itemsOf, itemsL_tups]
  rw [show stopN 0 n = n from rfl, start n hn, List.range_eq_range', F n (Nat.le_refl n)]
  cases hf : (List.range' 0 n).find? g with
  | none => simp
  | some j =>
    have hj := List.mem_of_find?_eq_some hf
    simp at hj
    simp only
    rw [h1 (0 + (j - 0) + 1)]
    simp only [itemsL_tups]
    rw [show 0 + (j - 0) + 1 = j + 1 by omega, show stopN (j + 1) n = j + 1 from by unfold stopN; simp; omega, start (j + 1) (by omega), List.range_eq_range', F (j + 1) (by omega)]
    have hf2 : (List.range' 0 (j + 1)).find? g = some j := by
      rw [show List.range' 0 (j + 1) = List.range' 0 j ++ [j] from by rw [← List.range_eq_range', List.range_succ, List.range_eq_range'], List.find?_append]
      rw [← List.range_eq_range', List.find?_range_eq_some] at hf
      have : (List.range' 0 j).find? g = none := by
        rw [List.find?_eq_none]
        intro x hx
        simp at hx
        have := hf.2.2 x hx
        simpa using this
      rw [this]
      simp [hf.1]
    rw [hf2]
    simp
abbrev eM (d : Int × Int) (s n : Thr) : List V := [I d.1, I d.2] ++ eT s ++ eT n
def manyAt (s : Thr) (j : Nat) : Nat := min (j + 1) s.1.length
def teethAt (s : Thr) (j : Nat) : List (Int × Int) := s.1.drop (s.1.length - manyAt s j)
def groovesAt (s n : Thr) (j : Nat) : List (Int × Int) := part n.1 (j + 1 - manyAt s j) (manyAt s j)
def stW (s n : Thr) (j : Nat) : List V := [S 2 (eS2 (teethAt s j)), S 2 (eS2 (groovesAt s n j))]
def accW (s n : Thr) (j : Nat) : List (List V) := (List.range j).map (stW s n)
theorem accW_succ (s n : Thr) (j : Nat) : accW s n (j + 1) = accW s n j ++ [stW s n j] := by unfold accW; rw [List.range_succ, List.map_append]; rfl
theorem p67 {d : Int × Int} {s n : Thr} (hs : s.1.length ≤ 1000) (hn : n.1.length ≤ 1000) (a : Nat) : R 67 [.agg (eM d s n), .fn (.y a) []] = some (.tup (tupsL (accW s n (stopN a n.1.length)))) := by
  have L := loop_if (s := fun j => { fr := [(1, .fn (.y a) []), (2, .box (eM d s n)), (4, I s.1.length), (14, I n.1.length), (15, I j)], tk := [], tr := some (accW s n j) }) (f := evC2 R (n.1.length + 1) b67_0) (n := n.1.length) (g := fun j => decide (a = j + 1))
    (E := fun j => (.ret, { fr := [(1, .fn (.y a) []), (2, .box (eM d s n)), (4, I s.1.length), (14, I n.1.length), (15, I j), (41, B true)], tk := [], tr := some (accW s n (j + 1)) }))
    (X := (.exit 0, { fr := [(1, .fn (.y a) []), (2, .box (eM d s n)), (4, I s.1.length), (14, I n.1.length), (15, I n.1.length), (16, B false)], tk := [], tr := some (accW s n n.1.length) }))
    (fun j hj => by
      have hlen : (accW s n j).length = j := by simp [accW]
      rw [accW_succ]
      have hg : goesOn a (some (accW s n j)) = !decide (a = j + 1) := by simp only [goesOn]; rw [hlen]; by_cases h : a = j + 1 <;> simp [h]
      generalize accW s n j = acc at *
      unfold stW teethAt groovesAt part manyAt
      obtain ⟨m, hm⟩ : ∃ m, m = min (j + 1) s.1.length := ⟨_, rfl⟩
      have hm1 : min ((j : Int) + 1) (s.1.length : Int) = (m : Int) := by omega
      have q1 : ((s.1.length : Int) - m).toNat = s.1.length - m := by omega
      have q2 : ((j : Int) + 1 - m).toNat = j + 1 - m := by omega
      have q3 : ((j : Int) + 1).toNat = j + 1 := by omega
      have q4 : j + 1 - m + m = j + 1 := by omega
      rw [← hm, q4]
      have hle1 : m ≤ s.1.length := by omega
      have hle2 : m ≤ j + 1 := by omega
      clear hlen
      have hta : List.take s.1.length (eS2 s.1) = eS2 s.1 := List.take_of_length_le (by simp)
      have htb : List.take s.1.length (s.1.map fun x => [I x.1, I x.2]) = s.1.map fun x => [I x.1, I x.2] := List.take_of_length_le (by simp)
      by_cases ha : a = j + 1
      · simp only [ha, decide_true, Bool.not_true] at hg
        subst ha
        simp (maxSteps := 2000000) (disch := first | omega | (simp; done) | (simp; omega)) [-getElem?_pos, -maxL, -minL, minL2, -goesOn, b67_0, eT, hj, hm1, q1, q2, q3, hg, hta, htb, wrap64]
      · simp only [ha, decide_false, Bool.not_false] at hg
        simp (maxSteps := 2000000) (disch := first | omega | (simp; done) | (simp; omega)) [-getElem?_pos, -maxL, -minL, minL2, -goesOn, b67_0, eT, hj, hm1, q1, q2, q3, hg, ha, hta, htb, wrap64]) (fun _ => by simp) (by
      generalize accW s n n.1.length = acc
      simp (maxSteps := 2000000) (disch := first | omega | (simp; done) | (simp; omega)) [-getElem?_pos, b67_0, eT]) (by simp)
  refine run2_iter (n.1.length + 1) rfl rfl rfl rfl rfl ?_
  rw [← List.range_eq_range'] at L
  unfold stopN
  cases hf : (List.range n.1.length).find? (fun j => decide (a = j + 1)) with
  | none =>
    rw [hf] at L
    have : (if a = 0 then n.1.length else min a n.1.length) = n.1.length := by
      rw [List.find?_eq_none] at hf
      by_cases h : a = 0
      · rw [if_pos h]
      · rw [if_neg h]
        apply Decidable.byContradiction
        intro hlt
        have := hf (a - 1) (by simp; omega)
        simp at this
        omega
    rw [this]
    simp only at L
    generalize accW s n n.1.length = acc at *
    simp [eT, accW] at L
    simp (maxSteps := 2000000) (disch := first | omega | (simp; done) | (simp; omega)) [-getElem?_pos, l67, eT, L]
  | some j =>
    rw [hf] at L
    have hj := List.mem_of_find?_eq_some hf
    have hj2 := List.find?_some hf
    simp at hj hj2
    rw [show (if a = 0 then n.1.length else min a n.1.length) = j + 1 from by rw [if_neg (by omega)]; omega]
    simp only at L
    generalize accW s n (j + 1) = acc at *
    simp [eT, accW] at L
    simp (maxSteps := 2000000) (disch := first | omega | (simp; done) | (simp; omega)) [-getElem?_pos, l67, eT, L]
/-- May it be screwed so far? -/
def stepZ (d : Int × Int) (s n : Thr) (j : Nat) : Int × Int := shf (nds d s n (teethAt s j) (groovesAt s n j))
def deepN (d : Int × Int) (s n : Thr) : Nat := match (List.range n.1.length).find? fun j => !decide ((stepZ d s n j).1 ≤ (stepZ d s n j).2) with
  | some j => j
  | none => n.1.length
def deepE (d : Int × Int) (s n : Thr) : Int × Int := if chkAll d [s, n] ≠ 0 then (0, chkAll d [s, n]) else (deepN d s n, 0)
theorem stepZ_shifts {d : Int × Int} (hd : DOk d) {s n : Thr} (hs : TOk s) (hn : TOk n) {j : Nat} (hj : j < n.1.length) : R 66 (.agg (eM d s n) :: stW s n j) = some (.tup [eS (stepZ d s n j), B (decide ((stepZ d s n j).1 ≤ (stepZ d s n j).2))]) := by
  have ls := hs.len
  have lt : (teethAt s j).length = manyAt s j := by unfold teethAt manyAt; rw [List.length_drop]; omega
  have lg : (groovesAt s n j).length = manyAt s j := by unfold groovesAt part manyAt; rw [List.length_drop, List.length_take]; omega
  have hm : manyAt s j ≤ 60 := by unfold manyAt; omega
  have e := p66 hd hs hn (ts := teethAt s j) (gs := groovesAt s n j) (fun x hx => (hs.turn x (List.mem_of_mem_drop hx)).1) (fun x hx => (hn.turn x (List.mem_of_mem_take (List.mem_of_mem_drop hx))).1) (by omega) (by omega)
  exact e
theorem p26 (d : Int × Int) (s n : Thr) : R 26 [.agg (eT s), .agg (eT n), eS d] = some (.tup [I (deepE d s n).1, I (deepE d s n).2]) := by
  have e1 := p65 d (l := [s, n]) (by simp)
  unfold deepE
  by_cases c0 : chkAll d [s, n] = 0
  · rw [if_neg (fun h => h c0)]
    obtain ⟨c1, c2, c3⟩ := chkAll_two c0
    have hs := chkT_ok c1
    have hn := chkT_ok c2
    have hd := dOk_iff.1 c3
    rw [c0] at e1
    have Lr := rng_find (f := roundE (evC2 R 1 b26_0a) (evC2 R 1 b26_0) [29, 30] b26_0w) (it := fun y => R 67 [.agg (eM d s n), .fn (.y y) []])
      (σ0 := { fr := [(6, .box [I 0]), (9, .box (eM d s n)), (28, .fn (.m 67) [.agg (eM d s n)])], tk := [] }) (s := fun j => { fr := [(6, .box [I j]), (9, .box (eM d s n))], tk := [] }) (W := stW s n) (n := n.1.length)
      (g := fun j => !decide ((stepZ d s n j).1 ≤ (stepZ d s n j).2)) (E := fun j => (.exit 0, { fr := [(6, .box [I j]), (9, .box (eM d s n))], tk := [] }))
      (fun a => p67 (d := d) (by have := hs.len; omega) (by have := hn.len; omega) a) hn.pos
      (by unfold stW; simp (maxSteps := 2000000) (disch := first | omega | (simp; done) | (simp; omega)) [-getElem?_pos, b26_0a, b26_0w, eT]) (fun j hj => by
        have e2 := stepZ_shifts hd hs hn hj
        have := hn.len
        generalize stepZ d s n j = z at *
        unfold stW at *
        generalize teethAt s j = ts at *
        generalize groovesAt s n j = gs at *
        simp only [eM, eT, List.cons_append, List.nil_append] at e2
        by_cases hz : z.1 ≤ z.2 <;> simp (maxSteps := 2000000) (disch := first | omega | (simp; done) | (simp; omega)) [-getElem?_pos, b26_0a, b26_0, b26_0w, eT, e2, hz, wrap64]) (fun j => by simp)
    have hdw : ∀ A B' C : V, dropL b26_0w [(6, A), (9, B'), (28, C)] = [(6, A), (9, B'), (28, C)] := fun _ _ _ => rfl
    unfold deepN
    simp only [eT, List.map_cons, List.map_nil] at e1
    refine run2_body 1 rfl rfl rfl rfl rfl ?_
    cases hf : (List.range n.1.length).find? (fun j => !decide ((stepZ d s n j).1 ≤ (stepZ d s n j).2)) with
    | none =>
      rw [hf] at Lr
      simp [eM, eT] at Lr
      simp (maxSteps := 2000000) (disch := first | omega | (simp; done) | (simp; omega)) [-getElem?_pos, -dropL, l26, eT, e1, hdw, Lr]
    | some j =>
      rw [hf] at Lr
      simp [eM, eT] at Lr
      simp (maxSteps := 2000000) (disch := first | omega | (simp; done) | (simp; omega)) [-getElem?_pos, -dropL, l26, eT, e1, hdw, Lr]
  · rw [if_pos c0]
    generalize chkAll d [s, n] = c at *
    simp only [eT, List.map_cons, List.map_nil] at e1
    refine run2_body 1 rfl rfl rfl rfl rfl ?_
    simp (maxSteps := 2000000) (disch := first | omega | (simp; done) | (simp; omega)) [-getElem?_pos, l26, eT, e1, c0]
end Go.Lo

/- Chapter 3's reference: threads are checked; shifts; steps. -/
namespace Go.Lo
open Go.Proofs
set_option linter.unusedSimpArgs false
set_option maxHeartbeats 8000000
theorem p31 (x lo hi : Int) : R 31 [I x, I lo, I hi] = some (B (decide (lo ≤ x ∧ x ≤ hi))) := by
  refine run2_body 1 rfl rfl rfl rfl rfl ?_
  by_cases h : lo ≤ x <;> simp (maxSteps := 2000000) (disch := first | omega | (simp; done) | (simp; omega)) [-getElem?_pos, l31, h]
theorem p62 (s : Int × Int) (lo hi : Int) : R 62 [eS s, I lo, I hi] = some (B (decide (lo ≤ s.1 ∧ s.1 ≤ s.2 ∧ s.2 ≤ hi))) := by
  have e1 := p31 s.1 lo s.2
  rw [show decide (lo ≤ s.1 ∧ s.1 ≤ s.2 ∧ s.2 ≤ hi) = (decide (lo ≤ s.1 ∧ s.1 ≤ s.2) && decide (s.2 ≤ hi)) from by rw [Bool.eq_iff_iff]; simp; omega]
  generalize decide (lo ≤ s.1 ∧ s.1 ≤ s.2) = b at *
  refine run2_body 1 rfl rfl rfl rfl rfl ?_
  cases b <;> simp (maxSteps := 2000000) (disch := first | omega | (simp; done) | (simp; omega)) [-getElem?_pos, l62, e1]
theorem p22 (d : Int × Int) : R 22 [eS d] = some (B (dOk d)) := by
  have e1 := p62 d (-200000) 200000
  rw [show decide (-200000 ≤ d.1 ∧ d.1 ≤ d.2 ∧ d.2 ≤ 200000) = dOk d from rfl] at e1
  refine run2_body 1 rfl rfl rfl rfl rfl ?_
  simp (maxSteps := 2000000) (disch := first | omega | (simp; done) | (simp; omega)) [-getElem?_pos, l22, e1]
def refB (ts : List (Int × Int)) (i : Nat) : Bool := decide (((-10000000 ≤ (turn ts i).1 ∧ (turn ts i).1 ≤ (turn ts i).2) ∧ (turn ts i).2 ≤ 10000000) ∧ ¬ (0 < i ∧ (turn ts i).1 < (turn ts (i - 1)).2))
theorem all_ref (ts : List (Int × Int)) (n : Nat) : (List.range n).all (refB ts) = (List.range n).all (turnB ts) := by
  rw [Bool.eq_iff_iff, List.all_eq_true, List.all_eq_true]
  constructor
  · intro h i hi
    have h1 := h i hi
    unfold refB at h1
    unfold turnB aftT
    rw [decide_eq_true_eq] at h1 ⊢
    split <;> omega
  · intro h
    have hb : ∀ i, i < n → turnB ts i = true := fun i hi => h i (List.mem_range.2 hi)
    have hlow : ∀ i, i < n → -10000000 ≤ (turn ts i).1 ∧ (turn ts i).1 ≤ (turn ts i).2 := by
      intro i
      induction i with
      | zero =>
        intro hi
        have := hb 0 hi
        unfold turnB aftT at this
        rw [decide_eq_true_eq] at this
        simp at this
        omega
      | succ i ih =>
        intro hi
        have h4 := hb (i + 1) hi
        have h5 := ih (by omega)
        unfold turnB aftT at h4
        rw [decide_eq_true_eq] at h4
        simp at h4
        omega
    intro i hi
    rw [List.mem_range] at hi
    have h1 := hb i hi
    have h2 := hlow i hi
    unfold refB
    unfold turnB aftT at h1
    rw [decide_eq_true_eq] at h1 ⊢
    split at h1 <;> omega
theorem loop19_0 {ts : List (Int × Int)} (l r : Int) (hl : ts.length ≤ 60) (M : Nat) :
    iter (evC2 R M b19_0) (ts.length + 1) { fr := [(1, .box (eT (ts, l, r))), (3, I 0)], tk := [] } =
      if (List.range ts.length).all (turnB ts) = true then some (.exit 0, { fr := [(1, .box (eT (ts, l, r))), (3, I ts.length), (29, B false)], tk := [] })
      else some (.ret, { fr := [(2, I 2)], tk := [] }) := by
  have L := loop_if (s := fun i => { fr := [(1, .box (eT (ts, l, r))), (3, I i)], tk := [] }) (f := evC2 R M b19_0) (n := ts.length) (g := fun i => !refB ts i) (E := fun _ => (.ret, { fr := [(2, I 2)], tk := [] })) (X := (.exit 0, { fr := [(1, .box (eT (ts, l, r))), (3, I ts.length), (29, B false)], tk := [] }))
    (fun i hi => by
      have h1 := turn_get hi
      unfold refB
      have e1 := p31 (turn ts i).1 (-10000000) (turn ts i).2
      by_cases c1 : -10000000 ≤ (turn ts i).1 ∧ (turn ts i).1 ≤ (turn ts i).2
      · simp only [c1, and_self, decide_true] at e1
        by_cases c2 : (turn ts i).2 ≤ 10000000
        · have c2' : ¬ (turn ts i).2 > 10000000 := by omega
          by_cases c3 : 0 < i
          · have c3' : (0 : Int) < i := by omega
            have h0 := turn_get (ts := ts) (i := i - 1) (by omega)
            have q : ((i : Int) - 1).toNat = i - 1 := by omega
            generalize turn ts i = x at *
            generalize turn ts (i - 1) = y at *
            by_cases c4 : x.1 < y.2 <;> simp (maxSteps := 2000000) (disch := first | omega | (simp; done) | (simp; omega)) [-getElem?_pos, b19_0, eT, h1, h0, hi, e1, c1, c2, c2', c3, c3', c4, q, wrap64]
          · generalize turn ts i = x at *
            generalize turn ts (i - 1) = y at *
            simp (maxSteps := 2000000) (disch := first | omega | (simp; done) | (simp; omega)) [-getElem?_pos, b19_0, eT, h1, hi, e1, c1, c2, c2', c3, wrap64]
        · have c2' : (turn ts i).2 > 10000000 := by omega
          generalize turn ts i = x at *
          generalize turn ts (i - 1) = y at *
          simp (maxSteps := 2000000) (disch := first | omega | (simp; done) | (simp; omega)) [-getElem?_pos, b19_0, eT, h1, hi, e1, c1, c2, c2', wrap64]
      · simp only [c1, decide_false] at e1
        generalize turn ts i = x at *
        generalize turn ts (i - 1) = y at *
        simp (maxSteps := 2000000) (disch := first | omega | (simp; done) | (simp; omega)) [-getElem?_pos, b19_0, eT, h1, hi, e1, c1, wrap64]) (fun _ => by simp) (by simp (maxSteps := 2000000) (disch := first | omega | (simp; done) | (simp; omega)) [-getElem?_pos, b19_0, eT]) (by simp)
  rw [← List.range_eq_range'] at L
  rw [show ((0 : Nat) : Int) = 0 from rfl] at L
  rw [L, ← all_ref, all_find]
  cases (List.range ts.length).find? (fun i => !refB ts i) <;> simp
theorem p19 (t : Thr) : R 19 [.agg (eT t)] = some (I (chkT t)) := by
  obtain ⟨ts, l, r⟩ := t
  have e1 := p31 l 0 3000
  have e2 := p31 r 0 3000
  refine run2_body (ts.length + 1) rfl rfl rfl rfl rfl ?_
  unfold chkT leanB
  simp only [eT]
  by_cases c1 : (ts.length : Int) > 60
  · have c1' : 60 < ts.length := by omega
    simp (maxSteps := 2000000) (disch := first | omega | (simp; done) | (simp; omega)) [-getElem?_pos, l19, c1, c1']
  · have c1' : ¬ 60 < ts.length := by omega
    by_cases c2 : ts = []
    · subst c2
      simp (maxSteps := 2000000) (disch := first | omega | (simp; done) | (simp; omega)) [-getElem?_pos, l19]
    · have c2' : ¬ ts.length = 0 := fun h => c2 (List.length_eq_zero_iff.1 h)
      have L := loop19_0 (ts := ts) l r (by omega) (ts.length + 1)
      generalize (List.range ts.length).all (turnB ts) = q at *
      by_cases k1 : 0 ≤ l ∧ l ≤ 3000
      · by_cases k2 : 0 ≤ r ∧ r ≤ 3000
        · simp only [k1, k2, and_self, decide_true] at e1 e2
          cases q <;> simp [eT] at L <;> simp (maxSteps := 2000000) (disch := first | omega | (simp; done) | (simp; omega)) [-getElem?_pos, l19, c1, c1', c2, c2', e1, e2, k1, k2, L]
        · simp only [k1, k2, and_self, decide_true, decide_false] at e1 e2
          simp (maxSteps := 2000000) (disch := first | omega | (simp; done) | (simp; omega)) [-getElem?_pos, l19, c1, c1', c2, c2', e1, e2, k1, k2]
      · simp only [k1, decide_false] at e1
        simp (maxSteps := 2000000) (disch := first | omega | (simp; done) | (simp; omega)) [-getElem?_pos, l19, c1, c1', c2, c2', e1, k1]
theorem chkAll_2 (d : Int × Int) (s n : Thr) : chkAll d [s, n] = if chkT s ≠ 0 then chkT s else if chkT n ≠ 0 then chkT n else if dOk d = true then 0 else 3 := by
  unfold chkAll
  by_cases h1 : chkT s = 0
  · by_cases h2 : chkT n = 0 <;> simp [h1, h2]
  · simp [h1]
theorem p27 (s n : Thr) (d : Int × Int) : R 27 [.agg (eT s), .agg (eT n), eS d] = some (I (chkAll d [s, n])) := by
  have e1 := p19 s
  have e2 := p19 n
  have e3 := p22 d
  rw [chkAll_2]
  simp only [eT] at e1 e2
  generalize chkT s = c1 at *
  generalize chkT n = c2 at *
  generalize dOk d = q at *
  refine run2_body 1 rfl rfl rfl rfl rfl ?_
  by_cases h1 : c1 = 0
  · by_cases h2 : c2 = 0
    · cases q <;> simp (maxSteps := 2000000) (disch := first | omega | (simp; done) | (simp; omega)) [-getElem?_pos, l27, eT, e1, e2, e3, h1, h2]
    · simp (maxSteps := 2000000) (disch := first | omega | (simp; done) | (simp; omega)) [-getElem?_pos, l27, eT, e1, e2, h1, h2]
  · simp (maxSteps := 2000000) (disch := first | omega | (simp; done) | (simp; omega)) [-getElem?_pos, l27, eT, e1, h1]
/-! ### Shifts -/
theorem p68 {t : Thr} (ht : TOk t) {i : Nat} {x : Int × Int} (hx : t.1[i]? = some x) {y : Int} (hy : -200000 ≤ y ∧ y ≤ 200000) : R 68 [.agg (eT t), I i, I y] = some (I (1000 * x.1 + y * t.2.1)) := by
  have hb := (ht.turn x (List.mem_of_getElem? hx)).1
  have hl := ht.lean
  have m := abs_mul (a := y) (b := t.2.1) (A := 200000) (C := 3000) hy (by omega)
  have hi : i < t.1.length := (List.getElem?_eq_some_iff.1 hx).1
  have w1 := wrap64 (n := y * t.2.1) (by omega) (by omega)
  generalize hz : y * t.2.1 = z at *
  refine run2_body 1 rfl rfl rfl rfl rfl ?_
  simp (maxSteps := 2000000) (disch := first | omega | (simp; done) | (simp; omega)) [-getElem?_pos, l68, eT, hx, hi, hz, w1, wrap64]
theorem p69 {t : Thr} (ht : TOk t) {i : Nat} {x : Int × Int} (hx : t.1[i]? = some x) {y : Int} (hy : -200000 ≤ y ∧ y ≤ 200000) : R 69 [.agg (eT t), I i, I y] = some (I (1000 * x.2 - y * t.2.2)) := by
  have hb := (ht.turn x (List.mem_of_getElem? hx)).1
  have hl := ht.lean
  have m := abs_mul (a := y) (b := t.2.2) (A := 200000) (C := 3000) hy (by omega)
  have hi : i < t.1.length := (List.getElem?_eq_some_iff.1 hx).1
  have w1 := wrap64 (n := y * t.2.2) (by omega) (by omega)
  generalize hz : y * t.2.2 = z at *
  refine run2_body 1 rfl rfl rfl rfl rfl ?_
  simp (maxSteps := 2000000) (disch := first | omega | (simp; done) | (simp; omega)) [-getElem?_pos, l69, eT, hx, hi, hz, w1, wrap64]
def rstep (s n : Int × Int) : Int × Int := (max s.1 n.1, min s.2 n.2)
def rfold (l : List (Int × Int)) : Int × Int := l.foldl rstep (-1152921504606846976, 1152921504606846976)
theorem rfold_snoc (l : List (Int × Int)) (x : Int × Int) : rfold (l ++ [x]) = rstep (rfold l) x := by simp [rfold]
theorem rfold_shf {l : List (Int × Int)} (hl : l ≠ []) (hb : ∀ x ∈ l, -1152921504606846976 ≤ x.1 ∧ x.2 ≤ 1152921504606846976) : rfold l = shf l := by
  cases l with
  | nil => exact absurd rfl hl
  | cons x l =>
    have h := hb x (by simp)
    have e : rstep (-1152921504606846976, 1152921504606846976) x = x := by
      unfold rstep
      refine Prod.ext ?_ ?_ <;> simp only <;> omega
    unfold rfold shf
    rw [List.foldl_cons, e]
    rfl
theorem rfold_bd {l : List (Int × Int)} (hb : ∀ x ∈ l, (-30000000000 ≤ x.1 ∧ x.1 ≤ 30000000000) ∧ (-30000000000 ≤ x.2 ∧ x.2 ≤ 30000000000)) : (-1152921504606846976 ≤ (rfold l).1 ∧ (rfold l).1 ≤ 30000000000) ∧ (-30000000000 ≤ (rfold l).2 ∧ (rfold l).2 ≤ 1152921504606846976) := by
  have key : ∀ (l : List (Int × Int)) (a : Int × Int), (∀ x ∈ l, (-30000000000 ≤ x.1 ∧ x.1 ≤ 30000000000) ∧ (-30000000000 ≤ x.2 ∧ x.2 ≤ 30000000000)) → ((-1152921504606846976 ≤ a.1 ∧ a.1 ≤ 30000000000) ∧ (-30000000000 ≤ a.2 ∧ a.2 ≤ 1152921504606846976)) →
      ((-1152921504606846976 ≤ (l.foldl rstep a).1 ∧ (l.foldl rstep a).1 ≤ 30000000000) ∧ (-30000000000 ≤ (l.foldl rstep a).2 ∧ (l.foldl rstep a).2 ≤ 1152921504606846976)) := by
    intro l
    induction l with
    | nil => intro a _ h; exact h
    | cons x l ih =>
      intro a hl ha
      refine ih _ (fun y hy => hl y (by simp [hy])) ?_
      have := hl x (by simp)
      unfold rstep
      simp only
      omega
  exact key l _ hb (by simp)
theorem nds_mem {d : Int × Int} (hd : DOk d) {s n : Thr} (hs : TOk s) (hn : TOk n) {ts gs : List (Int × Int)} (ht : ∀ x ∈ ts, x ∈ s.1) (hg : ∀ x ∈ gs, x ∈ n.1) : ∀ x ∈ nds d s n ts gs, (-30000000000 ≤ x.1 ∧ x.1 ≤ 30000000000) ∧ (-30000000000 ≤ x.2 ∧ x.2 ≤ 30000000000) := by
  intro x hx
  unfold nds at hx
  rw [List.zipWith_eq_zipWith_take_min] at hx
  obtain ⟨i, hi, rfl⟩ := List.mem_iff_getElem.1 hx
  rw [List.getElem_zipWith]
  exact nd_bd hd (hs.turn _ (ht _ (List.mem_of_mem_take (List.getElem_mem _)))).1 (hn.turn _ (hg _ (List.mem_of_mem_take (List.getElem_mem _)))).1 hs.lean hn.lean
theorem part_get {ts : List (Int × Int)} {t m i : Nat} (h : t + m ≤ ts.length) (hi : i < m) : ∃ x, ts[t + i]? = some x ∧ (part ts t m)[i]? = some x := by
  refine ⟨ts[t + i], List.getElem?_eq_getElem (by omega), ?_⟩
  unfold part
  rw [List.getElem?_drop, List.getElem?_take, if_pos (by omega)]
  exact List.getElem?_eq_getElem (by omega)
theorem part_len {ts : List (Int × Int)} {t m : Nat} (h : t + m ≤ ts.length) : (part ts t m).length = m := by unfold part; simp; omega
theorem part_sub {ts : List (Int × Int)} {t m : Nat} : ∀ x ∈ part ts t m, x ∈ ts := fun _ hx => List.mem_of_mem_take (List.mem_of_mem_drop hx)
def refS (d : Int × Int) (s n : Thr) (t g m : Nat) : Int × Int := rfold (nds d s n (part s.1 t m) (part n.1 g m))
theorem p29 {d : Int × Int} (hd : DOk d) {s n : Thr} (hs : TOk s) (hn : TOk n) {t g m : Nat} (h1 : t + m ≤ s.1.length) (h2 : g + m ≤ n.1.length) : R 29 [.agg (eT s), .agg (eT n), I t, I g, I m, eS d] = some (eS (refS d s n t g m)) := by
  have ls := hs.len
  have ln := hn.len
  have hb := nds_mem hd hs hn (ts := part s.1 t m) (gs := part n.1 g m) part_sub part_sub
  have L := loop_all (s := fun i => { fr := [(2, I t), (3, I g), (4, I m), (6, .box (eT s)), (7, .box (eT n)), (11, .box [I d.1, I d.2]), (12, .box [I 0, I 0]), (13, .box [I (rfold (nds d s n ((part s.1 t m).take i) ((part n.1 g m).take i))).1, I (rfold (nds d s n ((part s.1 t m).take i) ((part n.1 g m).take i))).2]), (14, I i)], tk := [] }) (f := evC2 R (m + 3) b29_0) (n := m)
    (X := (.exit 0, { fr := [(2, I t), (3, I g), (4, I m), (6, .box (eT s)), (7, .box (eT n)), (11, .box [I d.1, I d.2]), (12, .box [I 0, I 0]), (13, .box [I (refS d s n t g m).1, I (refS d s n t g m).2]), (14, I m), (20, B false)], tk := [] }))
    (fun i hi => by
      obtain ⟨a, a1, a2⟩ := part_get h1 hi
      obtain ⟨b, b1, b2⟩ := part_get h2 hi
      have hy := rfold_bd (l := nds d s n ((part s.1 t m).take i) ((part n.1 g m).take i)) (nds_mem hd hs hn (fun x hx => part_sub x (List.mem_of_mem_take hx)) (fun x hx => part_sub x (List.mem_of_mem_take hx)))
      rw [nds_take a2 b2, rfold_snoc]
      generalize rfold (nds d s n ((part s.1 t m).take i) ((part n.1 g m).take i)) = y at *
      have l0 := p68 hs a1 (y := d.1) ⟨hd.lo, by have := hd.le; have := hd.hi; omega⟩
      have l1 := p68 hs a1 (y := d.2) ⟨by have := hd.le; have := hd.lo; omega, hd.hi⟩
      have l2 := p68 hn b1 (y := d.1) ⟨hd.lo, by have := hd.le; have := hd.hi; omega⟩
      have l3 := p68 hn b1 (y := d.2) ⟨by have := hd.le; have := hd.lo; omega, hd.hi⟩
      have r0 := p69 hs a1 (y := d.1) ⟨hd.lo, by have := hd.le; have := hd.hi; omega⟩
      have r1 := p69 hs a1 (y := d.2) ⟨by have := hd.le; have := hd.lo; omega, hd.hi⟩
      have r2 := p69 hn b1 (y := d.1) ⟨hd.lo, by have := hd.le; have := hd.hi; omega⟩
      have r3 := p69 hn b1 (y := d.2) ⟨by have := hd.le; have := hd.lo; omega, hd.hi⟩
      have ha := (hs.turn a (List.mem_of_getElem? a1)).1
      have hb' := (hn.turn b (List.mem_of_getElem? b1)).1
      have hsl := hs.lean
      have hnl := hn.lean
      have dlo := hd.lo
      have dle := hd.le
      have dhi := hd.hi
      have m0 := abs_mul (a := d.1) (b := s.2.1) (A := 200000) (C := 3000) (by omega) (by omega)
      have m1 := abs_mul (a := d.2) (b := s.2.1) (A := 200000) (C := 3000) (by omega) (by omega)
      have m2 := abs_mul (a := d.1) (b := n.2.1) (A := 200000) (C := 3000) (by omega) (by omega)
      have m3 := abs_mul (a := d.2) (b := n.2.1) (A := 200000) (C := 3000) (by omega) (by omega)
      have m4 := abs_mul (a := d.1) (b := s.2.2) (A := 200000) (C := 3000) (by omega) (by omega)
      have m5 := abs_mul (a := d.2) (b := s.2.2) (A := 200000) (C := 3000) (by omega) (by omega)
      have m6 := abs_mul (a := d.1) (b := n.2.2) (A := 200000) (C := 3000) (by omega) (by omega)
      have m7 := abs_mul (a := d.2) (b := n.2.2) (A := 200000) (C := 3000) (by omega) (by omega)
      have hst : rstep y (nd d a b s.2.1 s.2.2 n.2.1 n.2.2) = (max (max y.1 (1000 * b.1 + d.1 * n.2.1 - (1000 * a.1 + d.1 * s.2.1))) (1000 * b.1 + d.2 * n.2.1 - (1000 * a.1 + d.2 * s.2.1)), min (min y.2 (1000 * b.2 - d.1 * n.2.2 - (1000 * a.2 - d.1 * s.2.2))) (1000 * b.2 - d.2 * n.2.2 - (1000 * a.2 - d.2 * s.2.2))) := by
        unfold rstep nd mst
        simp only [Int.mul_sub]
        refine Prod.ext ?_ ?_ <;> simp only <;> omega
      rw [hst]
      generalize d.1 * s.2.1 = z0 at *
      generalize d.2 * s.2.1 = z1 at *
      generalize d.1 * n.2.1 = z2 at *
      generalize d.2 * n.2.1 = z3 at *
      generalize d.1 * s.2.2 = z4 at *
      generalize d.2 * s.2.2 = z5 at *
      generalize d.1 * n.2.2 = z6 at *
      generalize d.2 * n.2.2 = z7 at *
      have q1 : IntKind.i64.wrap ((g : Int) + i) = ((g + i : Nat) : Int) := by rw [wrap64 (by omega) (by omega)]; omega
      have q2 : IntKind.i64.wrap ((t : Int) + i) = ((t + i : Nat) : Int) := by rw [wrap64 (by omega) (by omega)]; omega
      have Li : iter (evC2 R (m + 3) b29_1) (m + 3) { fr := [(2, I t), (3, I g), (4, I m), (6, .box (eT s)), (7, .box (eT n)), (11, .box [I d.1, I d.2]), (12, .box [I 0, I 0]), (13, .box [I y.1, I y.2]), (14, I i), (15, I 0)], tk := [] } =
          some (.exit 2, { fr := [(2, I t), (3, I g), (4, I m), (6, .box (eT s)), (7, .box (eT n)), (11, .box [I d.1, I d.2]), (12, .box [I 0, I 0]), (13, .box [I (max (max y.1 (1000 * b.1 + z2 - (1000 * a.1 + z0))) (1000 * b.1 + z3 - (1000 * a.1 + z1))), I (min (min y.2 (1000 * b.2 - z6 - (1000 * a.2 - z4))) (1000 * b.2 - z7 - (1000 * a.2 - z5)))]), (14, I i), (15, I 2), (24, B false)], tk := [] }) := by
        rw [iter_succ]
        simp only [eT, Int.natCast_add] at l0 l1 l2 l3 r0 r1 r2 r3
        simp (maxSteps := 2000000) (disch := first | omega | (simp; done) | (simp; omega)) [-getElem?_pos, -maxL, -minL, maxL2, minL2, b29_1, eT, q1, q2, l0, l2, r0, r2, wrap64]
        rw [iter_succ]
        simp (maxSteps := 2000000) (disch := first | omega | (simp; done) | (simp; omega)) [-getElem?_pos, -maxL, -minL, maxL2, minL2, b29_1, eT, q1, q2, l1, l3, r1, r3, wrap64]
        rw [iter_succ]
        simp (maxSteps := 2000000) (disch := first | omega | (simp; done) | (simp; omega)) [-getElem?_pos, b29_1]
      clear l0 l1 l2 l3 r0 r1 r2 r3 hst
      generalize max (max y.1 (1000 * b.1 + z2 - (1000 * a.1 + z0))) (1000 * b.1 + z3 - (1000 * a.1 + z1)) = u1 at *
      generalize min (min y.2 (1000 * b.2 - z6 - (1000 * a.2 - z4))) (1000 * b.2 - z7 - (1000 * a.2 - z5)) = u2 at *
      simp [eT] at Li
      simp (maxSteps := 2000000) (disch := first | omega | (simp; done) | (simp; omega)) [-getElem?_pos, b29_0, eT, hi, Li, wrap64]) (by
      have e : nds d s n ((part s.1 t m).take m) ((part n.1 g m).take m) = nds d s n (part s.1 t m) (part n.1 g m) := by
        rw [List.take_of_length_le (by rw [part_len h1]; omega), List.take_of_length_le (by rw [part_len h2]; omega)]
      rw [e]
      unfold refS
      generalize rfold (nds d s n (part s.1 t m) (part n.1 g m)) = y at *
      simp (maxSteps := 2000000) (disch := first | omega | (simp; done) | (simp; omega)) [-getElem?_pos, b29_0, eT]) (by simp)
  have L := iter_le (f := evC2 R (m + 3) b29_0) (fun _ _ h => h) (show m + 1 ≤ m + 3 by omega) L
  generalize refS d s n t g m = y at *
  simp [eT, rfold] at L
  refine run2_body (m + 3) rfl rfl rfl rfl rfl ?_
  simp (maxSteps := 2000000) (disch := first | omega | (simp; done) | (simp; omega)) [-getElem?_pos, l29, eT, L]
end Go.Lo

/- The law of shifts. -/
namespace Go.Lo
open Go.Proofs
set_option linter.unusedSimpArgs false
set_option maxHeartbeats 8000000
theorem part_all {ts : List (Int × Int)} {m : Nat} (h : m ≤ ts.length) : part ts (ts.length - m) m = ts.drop (ts.length - m) := by
  unfold part
  rw [List.take_of_length_le (by omega)]
theorem refS_shf {d : Int × Int} (hd : DOk d) {s n : Thr} (hs : TOk s) (hn : TOk n) {t g m : Nat} (h1 : t + m ≤ s.1.length) (h2 : g + m ≤ n.1.length) (hm : 0 < m) : refS d s n t g m = shf (nds d s n (part s.1 t m) (part n.1 g m)) := by
  unfold refS
  refine rfold_shf ?_ fun x hx => ?_
  · intro e
    have := congrArg List.length e
    simp [part_len h1, part_len h2] at this
    omega
  · have := nds_mem hd hs hn (ts := part s.1 t m) (gs := part n.1 g m) part_sub part_sub x hx
    omega
theorem refS_step {d : Int × Int} (hd : DOk d) {s n : Thr} (hs : TOk s) (hn : TOk n) {j : Nat} (hj : j < n.1.length) : refS d s n (s.1.length - manyAt s j) (j + 1 - manyAt s j) (manyAt s j) = stepZ d s n j := by
  have h0 := hs.pos
  have hm : manyAt s j ≤ s.1.length ∧ manyAt s j ≤ j + 1 ∧ 0 < manyAt s j := by unfold manyAt; omega
  rw [refS_shf hd hs hn (by omega) (by omega) hm.2.2, part_all hm.1]
  rfl
theorem p28 {d : Int × Int} (hd : DOk d) {s n : Thr} (hs : TOk s) (hn : TOk n) : R 28 [.agg (eT s), .agg (eT n), eS d] = some (I (deepN d s n)) := by
  have ls := hs.len
  have ln := hn.len
  have hp := hs.pos
  have L := loop_if (s := fun i => { fr := [(3, .box (eT s)), (4, .box (eT n)), (5, .box [I d.1, I d.2]), (7, I s.1.length), (8, I (i + 1 : Nat))], tk := [] }) (f := evC2 R (n.1.length + 1) b28_0) (n := n.1.length) (g := fun j => !decide ((stepZ d s n j).1 ≤ (stepZ d s n j).2)) (E := fun i => (.ret, { fr := [(6, I i)], tk := [] }))
    (X := (.exit 0, { fr := [(3, .box (eT s)), (4, .box (eT n)), (5, .box [I d.1, I d.2]), (7, I s.1.length), (8, I (n.1.length + 1 : Nat)), (18, B false)], tk := [] }))
    (fun i hi => by
      have hm : manyAt s i ≤ s.1.length ∧ manyAt s i ≤ i + 1 ∧ 0 < manyAt s i := by unfold manyAt; omega
      have e1 := p29 hd hs hn (t := s.1.length - manyAt s i) (g := i + 1 - manyAt s i) (m := manyAt s i) (by omega) (by omega)
      rw [refS_step hd hs hn hi] at e1
      have hmi : min ((i : Int) + 1) (s.1.length : Int) = (manyAt s i : Int) := by unfold manyAt; omega
      generalize stepZ d s n i = z at *
      generalize manyAt s i = m at *
      have q1 : ((s.1.length - m : Nat) : Int) = (s.1.length : Int) - m := by omega
      have q2 : ((i + 1 - m : Nat) : Int) = (i : Int) + 1 - m := by omega
      rw [q1, q2] at e1
      have hle : (i : Int) + 1 ≤ n.1.length := by omega
      simp only [eT] at e1
      by_cases hz : z.1 ≤ z.2
      · have hz' : ¬ z.1 > z.2 := by omega
        simp (maxSteps := 2000000) (disch := first | omega | (simp; done) | (simp; omega)) [-getElem?_pos, -maxL, -minL, minL2, b28_0, eT, hi, hle, hmi, e1, hz, hz', wrap64]
      · have hz' : z.1 > z.2 := by omega
        simp (maxSteps := 2000000) (disch := first | omega | (simp; done) | (simp; omega)) [-getElem?_pos, -maxL, -minL, minL2, b28_0, eT, hi, hle, hmi, e1, hz, hz', wrap64]) (fun _ => by simp) (by
      have hle : ¬ (n.1.length : Int) + 1 ≤ n.1.length := by omega
      simp (maxSteps := 2000000) (disch := first | omega | (simp; done) | (simp; omega)) [-getElem?_pos, b28_0, eT, hle]) (by simp)
  rw [← List.range_eq_range'] at L
  unfold deepN
  refine run2_body (n.1.length + 1) rfl rfl rfl rfl rfl ?_
  cases hf : (List.range n.1.length).find? (fun j => !decide ((stepZ d s n j).1 ≤ (stepZ d s n j).2)) with
  | none => rw [hf] at L; simp [eT] at L; simp (maxSteps := 2000000) (disch := first | omega | (simp; done) | (simp; omega)) [-getElem?_pos, l28, eT, L]
  | some j => rw [hf] at L; simp [eT] at L; simp (maxSteps := 2000000) (disch := first | omega | (simp; done) | (simp; omega)) [-getElem?_pos, l28, eT, L]
theorem p20 {t : Thr} (hl : t.1.length ≤ 1000000000) : R 20 [.agg (eT t), .agg (eT t)] = some (B true) := by
  obtain ⟨ts, l, r⟩ := t
  have L := loop_all (s := fun i => { fr := [(2, .box (eT (ts, l, r))), (3, .box (eT (ts, l, r))), (5, I i)], tk := [] }) (f := evC2 R (ts.length + 1) b20_0) (n := ts.length) (X := (.exit 0, { fr := [(2, .box (eT (ts, l, r))), (3, .box (eT (ts, l, r))), (5, I ts.length), (31, B false)], tk := [] }))
    (fun i hi => by
      have h1 := turn_get hi
      simp only at hl
      generalize turn ts i = x at *
      simp (maxSteps := 2000000) (disch := first | omega | (simp; done) | (simp; omega)) [-getElem?_pos, b20_0, eT, h1, hi, wrap64]) (by simp (maxSteps := 2000000) (disch := first | omega | (simp; done) | (simp; omega)) [-getElem?_pos, b20_0, eT]) (by simp)
  simp [eT] at L
  refine run2_body (ts.length + 1) rfl rfl rfl rfl rfl ?_
  simp (maxSteps := 2000000) (disch := first | omega | (simp; done) | (simp; omega)) [-getElem?_pos, l20, eT, L]
theorem p15 {t : Thr} (hl : t.1.length ≤ 1000000000) : R 15 [.agg (eT t)] = some (.agg [.sl (some 0) 2 (eS2 t.1), I t.2.1, I t.2.2]) := by
  obtain ⟨ts, l, r⟩ := t
  simp only at hl
  refine run2_body 1 rfl rfl rfl rfl rfl ?_
  have hb : ts.length * 16 ≤ 140737488355328 := by omega
  simp (maxSteps := 2000000) (disch := first | omega | (simp; done) | (simp; omega)) [-getElem?_pos, l15, eT, hb]
theorem p13 (t : Thr) : R 13 [.agg (eT t)] = some (B (decide ((t.1.length : Int) > 65))) := by
  refine run2_body 1 rfl rfl rfl rfl rfl ?_
  simp (maxSteps := 2000000) (disch := first | omega | (simp; done) | (simp; omega)) [-getElem?_pos, l13, eT]
theorem flat_eS2 (l : List (Int × Int)) : flatE (eS2 l) = true := by simp [flatE, V.flat]
theorem p4 (hk : R 14 [] = some (B true)) (s n : Thr) (tooth groove many : Int) (d : Int × Int) : R 4 [.agg (eT s), .agg (eT n), .agg [I tooth, I groove, I many, I d.1, I d.2]] = some (B true) := by
  have e1 := p13 s
  have e2 := p13 n
  by_cases k1 : (s.1.length : Int) > 65
  · refine run2_body 1 rfl rfl rfl rfl rfl ?_
    simp (maxSteps := 2000000) (disch := first | omega | (simp; done) | (simp; omega)) [-getElem?_pos, l4, eT, e1, k1, hk]
  · by_cases k2 : (n.1.length : Int) > 65
    · refine run2_body 1 rfl rfl rfl rfl rfl ?_
      simp (maxSteps := 2000000) (disch := first | omega | (simp; done) | (simp; omega)) [-getElem?_pos, l4, eT, e1, e2, k1, k2, hk]
    · have c1 := p15 (t := s) (by omega)
      have c2 := p15 (t := n) (by omega)
      have s1 := p20 (t := s) (by omega)
      have s2 := p20 (t := n) (by omega)
      have e3 := p25 d s n tooth groove many
      have e4 := p26 d s n
      have e5 := p27 s n d
      unfold shiftE at e3
      unfold deepE at e4
      by_cases k0 : chkAll d [s, n] = 0
      · rw [if_neg (fun h => h k0)] at e3 e4
        obtain ⟨t1, t2, t3⟩ := chkAll_two k0
        have hs := chkT_ok t1
        have hn := chkT_ok t2
        have hd := dOk_iff.1 t3
        have e6 := p28 hd hs hn
        rw [k0] at e5
        generalize deepN d s n = dn at *
        have f1 := flat_eS2 s.1
        have f2 := flat_eS2 n.1
        have tests : placeB s n tooth groove many = false ∨ ((1 ≤ many ∧ many ≤ s.1.length ∧ many ≤ n.1.length) ∧ (0 ≤ tooth ∧ tooth ≤ s.1.length - many) ∧ (0 ≤ groove ∧ groove ≤ n.1.length - many)) := by
          cases hp : placeB s n tooth groove many with
          | false => exact .inl rfl
          | true =>
            unfold placeB at hp
            rw [decide_eq_true_eq] at hp
            right; omega
        have htot : ∀ {b : Bool}, placeB s n tooth groove many = b → (b = true ↔ ((1 ≤ many ∧ many ≤ s.1.length ∧ many ≤ n.1.length) ∧ (0 ≤ tooth ∧ tooth ≤ s.1.length - many) ∧ (0 ≤ groove ∧ groove ≤ n.1.length - many))) := fun {b} h => by
          rw [← h]
          unfold placeB
          rw [decide_eq_true_eq]
          omega
        by_cases j1 : many < 1
        · rw [show placeB s n tooth groove many = false from by cases h : placeB s n tooth groove many <;> have := htot h <;> simp at this ⊢; omega] at e3
          simp only [if_true] at e3
          refine run2_body 1 rfl rfl rfl rfl rfl ?_
          simp (maxSteps := 2000000) (disch := first | omega | (simp; done) | (simp; omega)) [-getElem?_pos, l4, eT, e1, e2, k1, k2, hk, c1, c2, s1, s2, e3, e4, e5, e6, f1, f2, j1]
        · by_cases j2 : many > s.1.length
          · rw [show placeB s n tooth groove many = false from by cases h : placeB s n tooth groove many <;> have := htot h <;> simp at this ⊢; omega] at e3
            simp only [if_true] at e3
            refine run2_body 1 rfl rfl rfl rfl rfl ?_
            simp (maxSteps := 2000000) (disch := first | omega | (simp; done) | (simp; omega)) [-getElem?_pos, l4, eT, e1, e2, k1, k2, hk, c1, c2, s1, s2, e3, e4, e5, e6, f1, f2, j1, j2]
          · by_cases j3 : many > n.1.length
            · rw [show placeB s n tooth groove many = false from by cases h : placeB s n tooth groove many <;> have := htot h <;> simp at this ⊢; omega] at e3
              simp only [if_true] at e3
              refine run2_body 1 rfl rfl rfl rfl rfl ?_
              simp (maxSteps := 2000000) (disch := first | omega | (simp; done) | (simp; omega)) [-getElem?_pos, l4, eT, e1, e2, k1, k2, hk, c1, c2, s1, s2, e3, e4, e5, e6, f1, f2, j1, j2, j3]
            · by_cases j4 : tooth < 0
              · rw [show placeB s n tooth groove many = false from by cases h : placeB s n tooth groove many <;> have := htot h <;> simp at this ⊢; omega] at e3
                simp only [if_true] at e3
                refine run2_body 1 rfl rfl rfl rfl rfl ?_
                simp (maxSteps := 2000000) (disch := first | omega | (simp; done) | (simp; omega)) [-getElem?_pos, l4, eT, e1, e2, k1, k2, hk, c1, c2, s1, s2, e3, e4, e5, e6, f1, f2, j1, j2, j3, j4]
              · by_cases j5 : tooth > s.1.length - many
                · rw [show placeB s n tooth groove many = false from by cases h : placeB s n tooth groove many <;> have := htot h <;> simp at this ⊢; omega] at e3
                  simp only [if_true] at e3
                  refine run2_body 1 rfl rfl rfl rfl rfl ?_
                  simp (maxSteps := 2000000) (disch := first | omega | (simp; done) | (simp; omega)) [-getElem?_pos, l4, eT, e1, e2, k1, k2, hk, c1, c2, s1, s2, e3, e4, e5, e6, f1, f2, j1, j2, j3, j4, j5, wrap64]
                · by_cases j6 : groove < 0
                  · rw [show placeB s n tooth groove many = false from by cases h : placeB s n tooth groove many <;> have := htot h <;> simp at this ⊢; omega] at e3
                    simp only [if_true] at e3
                    refine run2_body 1 rfl rfl rfl rfl rfl ?_
                    simp (maxSteps := 2000000) (disch := first | omega | (simp; done) | (simp; omega)) [-getElem?_pos, l4, eT, e1, e2, k1, k2, hk, c1, c2, s1, s2, e3, e4, e5, e6, f1, f2, j1, j2, j3, j4, j5, j6, wrap64]
                  · by_cases j7 : groove > n.1.length - many
                    · rw [show placeB s n tooth groove many = false from by cases h : placeB s n tooth groove many <;> have := htot h <;> simp at this ⊢; omega] at e3
                      simp only [if_true] at e3
                      refine run2_body 1 rfl rfl rfl rfl rfl ?_
                      simp (maxSteps := 2000000) (disch := first | omega | (simp; done) | (simp; omega)) [-getElem?_pos, l4, eT, e1, e2, k1, k2, hk, c1, c2, s1, s2, e3, e4, e5, e6, f1, f2, j1, j2, j3, j4, j5, j6, j7, wrap64]
                    · rw [show placeB s n tooth groove many = true from by cases h : placeB s n tooth groove many <;> have := htot h <;> simp at this ⊢; omega] at e3
                      simp only [Bool.true_eq_false, if_false] at e3
                      obtain ⟨m, rfl⟩ : ∃ m : Nat, many = m := ⟨many.toNat, by omega⟩
                      obtain ⟨t, rfl⟩ : ∃ t : Nat, tooth = t := ⟨tooth.toNat, by omega⟩
                      obtain ⟨g, rfl⟩ : ∃ g : Nat, groove = g := ⟨groove.toNat, by omega⟩
                      simp only [Int.toNat_natCast] at e3
                      have e7 := p29 hd hs hn (t := t) (g := g) (m := m) (by omega) (by omega)
                      rw [refS_shf hd hs hn (by omega) (by omega) (by omega)] at e7
                      unfold partS at e3
                      generalize shf (nds d s n (part s.1 t m) (part n.1 g m)) = z at *
                      refine run2_body 1 rfl rfl rfl rfl rfl ?_
                      by_cases hz : z.1 ≤ z.2
                      · have hz' : ¬ z.1 > z.2 := by omega
                        rw [if_pos hz] at e3
                        simp (maxSteps := 2000000) (disch := first | omega | (simp; done) | (simp; omega)) [-getElem?_pos, l4, eT, e1, e2, k1, k2, hk, c1, c2, s1, s2, e3, e4, e5, e6, e7, f1, f2, j1, j2, j3, j4, j5, j6, j7, hz, hz', wrap64]
                      · have hz' : z.1 > z.2 := by omega
                        rw [if_neg hz] at e3
                        simp (maxSteps := 2000000) (disch := first | omega | (simp; done) | (simp; omega)) [-getElem?_pos, l4, eT, e1, e2, k1, k2, hk, c1, c2, s1, s2, e3, e4, e5, e6, e7, f1, f2, j1, j2, j3, j4, j5, j6, j7, hz, hz', wrap64]
      · rw [if_pos k0] at e3 e4
        generalize chkAll d [s, n] = c at *
        have f1 := flat_eS2 s.1
        have f2 := flat_eS2 n.1
        refine run2_body 1 rfl rfl rfl rfl rfl ?_
        simp (maxSteps := 2000000) (disch := first | omega | (simp; done) | (simp; omega)) [-getElem?_pos, l4, eT, e1, e2, k1, k2, hk, c1, c2, s1, s2, e3, e4, e5, k0, f1, f2]
end Go.Lo

namespace Go.Lo
theorem laidOutFitShifts : laidOutB Go.Proofs.Try.prog = true := by kernel_rfl
end Go.Lo
namespace Go.Proofs.Ytgmgjibmjdhkhaa
open Go.Lo Go.ChangeShapes
set_option maxRecDepth 100000 in
theorem fitShifts_lifted (os : Os) (started : os.Started) (H : Type) (enc : TypeId × Value → H) :
    ReturnsInHanded {} Try.checked os 4 .any (Rows.fitShiftsSpec.pre6 enc Try.prog Try.f4 Rows.fitShiftsRow.domain false) (Rows.fitShiftsSpec.post enc Try.prog Try.f4 false true false false) := by
  refine returnsInHanded_of_change (C := Try.checked) (by kernel_rfl) started (by kernel_rfl) Try.func4
    (ChangeSpec.witness6 (enc := enc) (C := Try.checked) false ⟨#[], #[.agg #[.slice none 0 0, .int .i64 0, .int .i64 0], .agg #[.slice none 0 0, .int .i64 0, .int .i64 0], .agg #[.int .i64 0, .int .i64 0, .int .i64 0, .int .i64 0, .int .i64 0]], []⟩ 8 (by kernel_rfl) (by kernel_rfl) (by kernel_rfl) (by kernel_rfl)) ?_
  intro W base args ds gs before hval hW _ _
  refine law_contract laidOutFitShifts rfl (tb := 4) (by kernel_rfl) (by kernel_rfl) (d := 6) (tys := [thrTy, thrTy, .st [.int .i64, .int .i64, .int .i64, spTy]]) (by kernel_rfl) (fun t ht => ?_) (fun ds hds => ?_) (fun vs hvs => ?_) W base args ds gs before hval hW
  · have h : ∀ t ∈ Try.f4.params.toList, decide (Try.prog.readableRec t = true ∧ t < Try.prog.types.size) = true := by
      have : Try.f4.params.toList.all (fun t => decide (Try.prog.readableRec t = true ∧ t < Try.prog.types.size)) = true := by kernel_rfl
      exact List.all_eq_true.1 this
    exact of_decide_eq_true (h t ht)
  · have hp : Try.f4.params.size = 3 := by kernel_rfl
    rw [hp] at hds
    match ds, hds with
    | [d1, d2, d3], _ => exact ⟨rfl, rfl, rfl⟩
  · simp only [HasVs] at hvs
    obtain ⟨v1, u1, rfl, h1, v2, u2, rfl, h2, v3, u3, rfl, h3, rfl⟩ := hvs
    obtain ⟨s, r1⟩ := can_thr h1
    obtain ⟨n, r2⟩ := can_thr h2
    obtain ⟨a, b, c, d, rfl⟩ := can_at h3
    exact (run_sound tabOk 4 _ _ (run2_true tabR (p4 p14 s n a b c d) (RelL.cons r1 (RelL.cons r2 (RelL.one (rel_aggI [a, b, c, d.1, d.2])))))).2
theorem fitShifts_holds : Rows.FitShiftsSaid :=
  OpenClaim.holds_of_wide 4 Try.f4 rfl rfl rfl rfl rfl rfl rfl ⟨rfl, rfl, rfl, rfl, rfl⟩ rfl rfl rfl rfl rfl (by kernel_rfl) Try.func4 (by kernel_rfl)
    (of_decide_eq_true (by kernel_rfl)) (by unfold Func.isWrapper; rw [if_neg (by decide +kernel)]; exact ⟨rfl, rfl⟩)
    (fun os started H enc _ => fitShifts_lifted os started H enc)
end Go.Proofs.Ytgmgjibmjdhkhaa
#print axioms Go.Proofs.Ytgmgjibmjdhkhaa.fitShifts_holds
