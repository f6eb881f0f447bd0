/- Texts put together. -/
import Derived.Test.YtcihkhhkppjcmaaPf
import Derived.WalkKit
import Derived.Maps.RangeWalk
import Derived.Maps.AppendAt
import Derived.Maps.OwnOps
import Derived.Deep.RegionLaw
/- The difference of two errors, by a walk of its own: the order of a map's keys is whatever it is. -/
namespace Go.Lo
open Go.Proofs Go.RowKit Go.Maps
theorem ls_und146 : Try.prog.underlying 146 = some (.map 3 3) := by kernel_rfl
theorem ls_und3 : Try.prog.underlying 3 = some (.int .i64) := by kernel_rfl
theorem ls_und112 : Try.prog.underlying 112 = some (.slice 144) := by kernel_rfl
theorem ls_info144 : (Try.prog.info? 144).map (fun i => (i.zero, i.size, i.bytes)) = some (some (.agg #[.int .i64 0, .int .i64 0]), 2, 16) := by kernel_rfl
theorem ls_ntmps : Try.f64.ntmps = 71 := by kernel_rfl
theorem ls_law3 : Keyed Try.prog 3 := int_keyed ls_und3
theorem ls_und114 : ∃ f, Try.prog.underlying 114 = some (.struct f) := by
  have h : (match Try.prog.underlying 114 with | some (.struct _) => true | _ => false) = true := by kernel_rfl
  split at h
  · rename_i f e; exact ⟨_, e⟩
  · cases h
theorem ls_size114 : (Try.prog.info? 114).map (·.size) = some 3 := by kernel_rfl
theorem ls_zero3 (w : World) : (zeroValue 3).run Try.prog w = .ok (.int .i64 0) w := by kernel_rfl
/-- Rows of two integers in memory. -/
def Rows2 (w : World) (b off : Nat) (rs : List (Int × Int)) : Prop := b < w.heap.size ∧ ∀ i x, rs[i]? = some x → w.cell? ⟨b, off + i * 2, none⟩ = some (.int .i64 x.1) ∧ w.cell? ⟨b, off + i * 2 + 1, none⟩ = some (.int .i64 x.2)
def SOk (x : Int × Int) : Prop := (0 ≤ x.1 ∧ x.1 ≤ 1000000) ∧ (-1000000 ≤ x.2 ∧ x.2 ≤ 1000000)
theorem wf64 {n : Int} (h : -9223372036854775808 ≤ n ∧ n < 9223372036854775808) : (Lit.int .i64 n).wf = true := by
  simp [Lit.wf, IntKind.min, IntKind.max, IntKind.signed, IntKind.bits]; omega
theorem wfW (n : Int) : (Lit.int .i64 (Go.RowKit.wrap64 n)).wf = true := wf64 (by unfold Go.RowKit.wrap64; omega)
/-- How often a key counts. -/
def tsum : List (Int × Int) → Int → Int
  | [], _ => 0
  | x :: r, k => (if x.1 = k then x.2 else 0) + tsum r k
theorem tsum_snoc (k : Int) (x : Int × Int) : ∀ rs : List (Int × Int), tsum (rs ++ [x]) k = tsum rs k + (if x.1 = k then x.2 else 0)
  | [] => by simp [tsum]
  | y :: r => by simp only [List.cons_append, tsum, tsum_snoc k x r]; omega
/-- What the map holds. -/
structure MIs (D : DataW Unit) (g : Int → Int) (ks : List Int) : Prop where
  at_ : ∀ k, D.atKey (.int .i64 k) (.lit (.int .i64 0)) = .lit (.int .i64 (g k))
  has : ∀ k, Maps.has D (.int .i64 k) = decide (k ∈ ks)
theorem sk_ne {a b : Int} (h : a ≠ b) : (Lit.int .i64 a) ≠ .int .i64 b := fun e => h (by injection e)
theorem MIs.start : MIs (.map []) (fun _ => 0) [] := ⟨fun _ => rfl, fun _ => rfl⟩
theorem MIs.put {D : DataW Unit} {g : Int → Int} {ks : List Int} (h : MIs D g ks) (hD : IsMap D) (k v : Int) : MIs (D.put (.int .i64 k) (.lit (.int .i64 v))) (fun j => if j = k then v else g j) (ks ++ [k]) := by
  refine ⟨fun j => ?_, fun j => ?_⟩
  · by_cases e : j = k
    · subst e; rw [if_pos rfl, atKey_put_same (k := .int .i64 j) hD (by trivial)]
    · rw [if_neg e, atKey_put_other (sk_ne e)]; exact h.at_ j
  · by_cases e : j = k
    · subst e; rw [has_put_same (k := .int .i64 j) hD (by trivial)]; simp
    · rw [has_put_other (sk_ne e), h.has j]; simp [e]
theorem MIs.cast {D : DataW Unit} {g g' : Int → Int} {ks ks' : List Int} (h : MIs D g ks) (hg : g = g') (hk : ks = ks') : MIs D g' ks' := by subst hg; subst hk; exact h
theorem tsum_bd (k : Int) : ∀ rs : List (Int × Int), (∀ x ∈ rs, SOk x) → -(rs.length * 1000000 : Int) ≤ tsum rs k ∧ tsum rs k ≤ rs.length * 1000000
  | [], _ => by simp [tsum]
  | x :: r, h => by
    have h1 := tsum_bd k r (fun y hy => h y (List.mem_cons_of_mem _ hy))
    have h2 := (h x List.mem_cons_self).2
    simp only [tsum, List.length_cons]
    split <;> omega
/-- What lies beside the map, and is not written. -/
def Beside (w wr : World) (b off c b' off' c' n n' : Nat) (l r l' r' : Int) : Prop :=
  Below w.heap.size w wr ∧ wr.heap[w.heap.size]? = some (.cells #[.slice (some ⟨b, off, none⟩) n c, .int .i64 l, .int .i64 r] 114 (0, 0)) ∧
    wr.heap[w.heap.size + 1]? = some (.cells #[.slice (some ⟨b', off', none⟩) n' c', .int .i64 l', .int .i64 r'] 114 (0, 0)) ∧
    wr.heap[w.heap.size + 1 + 1]? = some (.cells #[.slice none 0 0, .int .i64 0, .int .i64 0] 114 (0, 0)) ∧ w.heap.size + 3 < wr.heap.size
theorem Beside.step {w wr w1 : World} {b off c b' off' c' n n' : Nat} {l r l' r' : Int} (h : Beside w wr b off c b' off' c' n n' l r l' r') (O : Obj) (hg : (wr.alloc O).grownBy w1 (some (w.heap.size + 1 + 1 + 1))) : Beside w w1 b off c b' off' c' n n' l r l' r' := by
  obtain ⟨h1, h2, h3, h4, h5⟩ := h
  have hs := h1.size
  have e : (wr.alloc O).heap.size = wr.heap.size + 1 := by simp
  have hk : ∀ j, j < wr.heap.size → j ≠ w.heap.size + 1 + 1 + 1 → w1.heap[j]? = wr.heap[j]? := fun j hj hne => by
    rw [hg.block j (by omega) (fun x => hne (Option.some.inj x)), heap_alloc_lt wr O hj]
  refine ⟨(h1.alloc hs O).grown hg (by omega) (fun j hj => by cases hj; omega), ?_, ?_, ?_, ?_⟩
  · rw [hk _ (by omega) (by omega)]; exact h2
  · rw [hk _ (by omega) (by omega)]; exact h3
  · rw [hk _ (by omega) (by omega)]; exact h4
  · have := hg.size; omega
theorem Beside.rows {w wr : World} {b off c b' off' c' n n' : Nat} {l r l' r' : Int} (h : Beside w wr b off c b' off' c' n n' l r l' r') {d o i : Nat} {rs : List (Int × Int)} (hr : Rows2 w d o rs) {x : Int × Int} (hx : rs[i]? = some x) :
    wr.cell? ⟨d, o + i * 2, none⟩ = some (.int .i64 x.1) ∧ wr.cell? ⟨d, o + i * 2 + 1, none⟩ = some (.int .i64 x.2) := by
  obtain ⟨k1, k2⟩ := hr.2 i x hx
  exact ⟨(h.1.cell hr.1).trans k1, (h.1.cell hr.1).trans k2⟩
theorem w64 {n : Int} (h : -9223372036854775808 ≤ n ∧ n < 9223372036854775808) : Go.RowKit.wrap64 n = n := by unfold Go.RowKit.wrap64; omega
theorem take_snoc {α : Type} {rs : List α} {i : Nat} {x : α} (h : rs[i]? = some x) : rs.take (i + 1) = rs.take i ++ [x] := by rw [List.take_add_one, h]; rfl
theorem heap4 (w : World) (a b c d : Obj) : ((((w.alloc a).alloc b).alloc c).alloc d).heap[w.heap.size]? = some a ∧ ((((w.alloc a).alloc b).alloc c).alloc d).heap[w.heap.size + 1]? = some b ∧ ((((w.alloc a).alloc b).alloc c).alloc d).heap[w.heap.size + 1 + 1]? = some c ∧ ((((w.alloc a).alloc b).alloc c).alloc d).heap.size = w.heap.size + 4 := by
  have e1 : (w.alloc a).heap.size = w.heap.size + 1 := by simp
  have e2 : ((w.alloc a).alloc b).heap.size = w.heap.size + 1 + 1 := by simp
  have e3 : (((w.alloc a).alloc b).alloc c).heap.size = w.heap.size + 1 + 1 + 1 := by simp
  refine ⟨?_, ?_, ?_, by simp⟩
  · rw [heap_alloc_lt _ d (by omega), heap_alloc_lt _ c (by omega), heap_alloc_lt _ b (by omega)]; exact heap_alloc_new w a
  · rw [heap_alloc_lt _ d (by omega), heap_alloc_lt _ c (by omega), ← e1]; exact heap_alloc_new _ b
  · rw [heap_alloc_lt _ d (by omega), ← e2]; exact heap_alloc_new _ c
/-- The rows, one behind the other. -/
def flat2 (es : List (Int × Int)) : List Value := es.flatMap fun x => [.int .i64 x.1, .int .i64 x.2]
/-- What was collected: the entries that are no longer to come. -/
structure Coll (g : Int → Int) (ks : List Int) (left : Lit → Bool) (es : List (Int × Int)) : Prop where
  nd : (es.map (·.1)).Nodup
  mem : ∀ x, x ∈ es ↔ x.1 ∈ ks ∧ left (.int .i64 x.1) = false ∧ x.2 = g x.1
  left : ∀ k, left (.int .i64 k) = true → k ∈ ks
theorem Coll.start {D : DataW Unit} {g : Int → Int} {ks : List Int} (h : MIs D g ks) : Coll g ks (Maps.has D) [] := by
  refine ⟨List.nodup_nil, fun x => ⟨fun h => (by cases h), fun ⟨h1, h2, _⟩ => ?_⟩, fun k hk => ?_⟩
  · rw [h.has] at h2; simp [h1] at h2
  · rw [h.has] at hk; simpa using hk
theorem Coll.step {g : Int → Int} {ks : List Int} {left : Lit → Bool} {es : List (Int × Int)} (h : Coll g ks left es) {x : Int} (hx : left (.int .i64 x) = true) : Coll g ks (fun z => left z && !z.sameKey (.int .i64 x)) (es ++ [(x, g x)]) := by
  have hk : ∀ y : Int, (Lit.int .i64 y).sameKey (.int .i64 x) = decide (y = x) := fun y => by
    by_cases e : y = x
    · subst e; rw [WideAt.sameKey_self (by trivial)]; simp
    · rw [Maps.sameKey_ne (sk_ne e)]; simp [e]
  refine ⟨?_, fun y => ?_, fun k hk2 => h.left k (by simp only [Bool.and_eq_true] at hk2; exact hk2.1)⟩
  · rw [List.map_append, List.nodup_append]
    refine ⟨h.nd, by simp, fun a ha b hb => ?_⟩
    simp only [List.map_cons, List.map_nil, List.mem_singleton] at hb
    subst hb
    obtain ⟨y, hy, rfl⟩ := List.mem_map.1 ha
    intro e
    have := ((h.mem y).1 hy).2.1
    rw [e, hx] at this
    cases this
  · rw [List.mem_append, h.mem, List.mem_singleton, hk]
    constructor
    · rintro (⟨h1, h2, h3⟩ | rfl)
      · exact ⟨h1, by rw [h2]; rfl, h3⟩
      · exact ⟨h.left x hx, by simp, rfl⟩
    · rintro ⟨h1, h2, h3⟩
      by_cases e : y.1 = x
      · right
        obtain ⟨y1, y2⟩ := y
        simp only at e h3
        subst e; subst h3; rfl
      · left
        simp only [e, decide_false, Bool.not_false, Bool.and_true] at h2
        exact ⟨h1, h2, h3⟩
theorem own_slice {w : World} {base e size n : Nat} {v : Value} {xs : List Value} (h : w.ownsRow base e size v n xs) : ∃ p a c, v = .slice p a c := by
  rcases h.2 with ⟨e, _⟩ | ⟨g, cap, cur, e, _⟩
  · exact ⟨_, _, _, e⟩
  · exact ⟨_, _, _, e⟩
theorem own_ne {w : World} {base e size n o : Nat} {v : Value} {xs : List Value} (h : w.ownsRow base e size v n xs) (ho : o < base) : some o ≠ v.ownBlock := by
  rcases h.2 with ⟨e, _⟩ | ⟨g, cap, cur, e, hge, _⟩
  · rw [e]; intro h; cases h
  · rw [e]; intro h; have := Option.some.inj h; simp only [] at this; omega
theorem out_kept {w1 w3 : World} {C x : Obj} {o : Nat} {row : Option Nat} (hg : (w1.alloc C).grownBy w3 row) (hlt : o < w1.heap.size) (hne : some o ≠ row) (h : w1.heap[o]? = some x) : w3.heap[o]? = some x := by
  rw [hg.block o (by simp; omega) hne, heap_alloc_lt w1 C hlt]; exact h
theorem Beside.cells {w wr : World} {b off c b' off' c' n n' : Nat} {l r l' r' : Int} (h : Beside w wr b off c b' off' c' n n' l r l' r') :
    (wr.cell? ⟨w.heap.size, 1, none⟩ = some (.int .i64 l) ∧ wr.cell? ⟨w.heap.size, 2, none⟩ = some (.int .i64 r)) ∧
    wr.cell? ⟨w.heap.size + 1, 0, none⟩ = some (.slice (some ⟨b', off', none⟩) n' c') ∧ wr.cell? ⟨w.heap.size + 1, 1, none⟩ = some (.int .i64 l') ∧ wr.cell? ⟨w.heap.size + 1, 2, none⟩ = some (.int .i64 r') := by
  obtain ⟨h1, h2, h3, h4, h5⟩ := h
  exact ⟨⟨cell_of_row wr _ 1 _ 114 (0, 0) h2, cell_of_row wr _ 2 _ 114 (0, 0) h2⟩, cell_of_row wr _ 0 _ 114 (0, 0) h3, cell_of_row wr _ 1 _ 114 (0, 0) h3, cell_of_row wr _ 2 _ 114 (0, 0) h3⟩
/-- Numbers, each once. -/
def ded : List Int → List Int
  | [] => []
  | k :: r => if k ∈ r then ded r else k :: ded r
theorem mem_ded {x : Int} : ∀ {l : List Int}, x ∈ ded l ↔ x ∈ l
  | [] => Iff.rfl
  | k :: r => by
    unfold ded
    split
    · rename_i h
      rw [mem_ded, List.mem_cons]
      exact ⟨.inr, fun h2 => h2.elim (fun e => e ▸ h) id⟩
    · rw [List.mem_cons, List.mem_cons, mem_ded]
theorem nodup_ded : ∀ {l : List Int}, (ded l).Nodup
  | [] => List.nodup_nil
  | k :: r => by
    unfold ded
    split
    · exact nodup_ded
    · rename_i h
      exact List.nodup_cons.2 ⟨fun h2 => h (mem_ded.1 h2), nodup_ded⟩
/-- The shares of a difference, in some order. -/
def lessL (rs rs' : List (Int × Int)) : List (Int × Int) := (ded (rs.map (·.1) ++ rs'.map (·.1))).map fun k => (k, tsum rs k - tsum rs' k)
theorem nodup_of_map {α β : Type} (f : α → β) {l : List α} (h : (l.map f).Nodup) : l.Nodup := by
  unfold List.Nodup at *
  rw [List.pairwise_map] at h
  exact h.imp fun hne e => hne (by rw [e])
theorem Coll.perm {rs rs' : List (Int × Int)} {left : Lit → Bool} {es : List (Int × Int)} (h : Coll (fun k => tsum rs k - tsum rs' k) (rs.map (·.1) ++ rs'.map (·.1)) left es) (hl : ∀ kl, left kl = false) : es.Perm (lessL rs rs') := by
  have h2 : (lessL rs rs').Nodup := by
    refine nodup_of_map (·.1) ?_
    unfold lessL
    rw [List.map_map]
    have : ((fun x : Int × Int => x.1) ∘ fun k => (k, tsum rs k - tsum rs' k)) = id := rfl
    rw [this, List.map_id]
    exact nodup_ded
  refine (List.perm_ext_iff_of_nodup (nodup_of_map _ h.nd) h2).2 fun x => ?_
  rw [h.mem]
  unfold lessL
  rw [List.mem_map]
  constructor
  · rintro ⟨h1, _, h3⟩
    exact ⟨x.1, mem_ded.2 h1, by rw [← h3]⟩
  · rintro ⟨k, hk, rfl⟩
    exact ⟨mem_ded.1 hk, hl _, rfl⟩
theorem own_same {w w' : World} {base base' e size n : Nat} {v : Value} {xs : List Value} (h : w.ownsRow base e size v n xs) (hb : base' ≤ base) (hs : ∀ g, base ≤ g → w'.heap[g]? = w.heap[g]?) : w'.ownsRow base' e size v n xs := by
  refine ⟨h.1, h.2.imp id ?_⟩
  rintro ⟨g, cap, cur, e1, e2, e3, r⟩
  exact ⟨g, cap, cur, e1, Nat.le_trans hb e2, (hs g e2).trans e3, r⟩
theorem gset (W : World) (b : Nat) (v : Value) : W.grownBy (W.setCell ⟨b, 0, none⟩ v) (some b) :=
  ⟨rfl, rfl, rfl, by simp, fun i _ hne => heap_setCell_other W ⟨b, 0, none⟩ i v (fun e => hne (by rw [e]))⟩
theorem below_set {B : Nat} {w wr : World} (h : Below B w wr) {b o : Nat} (v : Value) (hb : B ≤ b) : Below B w (wr.setCell ⟨b, o, none⟩ v) :=
  ⟨h.os, h.tape, h.output, by simpa using h.size, fun j hj => (heap_setCell_other wr ⟨b, o, none⟩ j v (by simp only []; omega)).trans (h.block j hj)⟩
theorem flat2_snoc (es : List (Int × Int)) (x : Int × Int) : flat2 (es ++ [x]) = flat2 es ++ [.int .i64 x.1, .int .i64 x.2] := by simp [flat2]
theorem two_ok {w1 : World} {x c : Int} : ∀ (j : Nat) (u : Value), [Value.int .i64 x, .int .i64 c][j]? = some u → (w1.alloc (.cells #[.int .i64 x, .int .i64 c] 144)).cell? ((⟨w1.heap.size, 0, none⟩ : Addr).add j) = some u := by
  intro j u hj
  rw [addr_add, Nat.zero_add, cell_of_row _ w1.heap.size j #[.int .i64 x, .int .i64 c] 144 (0, 0) (heap_alloc_new _ _)]
  simpa using hj
theorem two_one {x c : Int} : ∀ u ∈ [Value.int .i64 x, .int .i64 c], u.oneCell' = true := by
  intro u hu
  simp only [List.mem_cons, List.not_mem_nil, or_false] at hu
  rcases hu with rfl | rfl <;> rfl
/-- What comes of a difference. -/
def LessPost (rs rs' : List (Int × Int)) (l r l' r' : Int) (w : World) (e : Ending) (w' : World) : Prop :=
  ∃ es v, e = .returned (.agg #[v, .int .i64 (Go.RowKit.wrap64 (l - l')), .int .i64 (Go.RowKit.wrap64 (r - r'))]) ∧ w'.ownsRow w.heap.size 144 2 v es.length (flat2 es) ∧ es.Perm (lessL rs rs') ∧ Below w.heap.size w w'
set_option maxRecDepth 100000 in
set_option maxHeartbeats 4000000 in
theorem ls_walk {b off c b' off' c' : Nat} {rs rs' : List (Int × Int)} {l r l' r' : Int} {w : World} (h1 : Rows2 w b off rs) (h2 : Rows2 w b' off' rs') (hl : 1 ≤ rs.length ∧ rs.length ≤ 1000) (hl' : 1 ≤ rs'.length ∧ rs'.length ≤ 1000) (hs : ∀ x ∈ rs, SOk x) (hs' : ∀ x ∈ rs', SOk x) :
    Calls Try.prog 64 #[.agg #[.slice (some ⟨b, off, none⟩) rs.length c, .int .i64 l, .int .i64 r], .agg #[.slice (some ⟨b', off', none⟩) rs'.length c', .int .i64 l', .int .i64 r']] w (LessPost rs rs' l r l' r' w) := by
  have hmm := @run_makeMap Try.prog
  obtain ⟨i0, hi, hz0, hz1, hz2⟩ := info_parts ls_info144
  go_enter Try.func64, ls_ntmps
  go_wp2
  go_loopw [17] (fun v wr => ∃ (i : Nat) (D : DataW Unit), v = .int .i64 i ∧ i ≤ rs.length ∧ wr.ownsMap Try.prog 3 (plainElem Try.prog 3) (w.heap.size + 1 + 1 + 1) i D ∧ MIs D (tsum (rs.take i)) ((rs.take i).map (·.1)) ∧
      Beside w wr b off c b' off' c' rs.length rs'.length l r l' r') (fun v _ => rs.length - (intOf v).toNat)
  case atStart =>
    refine ⟨0, .map [], rfl, Nat.zero_le _, ?_, MIs.start, ?_⟩
    · have := World.ownsMap_made (H := Unit) (((w.alloc (.cells #[.slice (some ⟨b, off, none⟩) rs.length c, .int .i64 l, .int .i64 r] 114)).alloc (.cells #[.slice (some ⟨b', off', none⟩) rs'.length c', .int .i64 l', .int .i64 r'] 114)).alloc (.cells #[.slice none 0 0, .int .i64 0, .int .i64 0] 114)) Try.prog 3 (plainElem Try.prog 3)
      simpa using this
    · obtain ⟨g1, g2, g3, g4⟩ := heap4 w (.cells #[.slice (some ⟨b, off, none⟩) rs.length c, .int .i64 l, .int .i64 r] 114) (.cells #[.slice (some ⟨b', off', none⟩) rs'.length c', .int .i64 l', .int .i64 r'] 114) (.cells #[.slice none 0 0, .int .i64 0, .int .i64 0] 114) (.map #[] 0)
      exact ⟨((((Below.refl _ _).alloc (Nat.le_refl _) _).alloc (by first | (simp; done) | (simp; omega)) _).alloc (by first | (simp; done) | (simp; omega)) _).alloc (by first | (simp; done) | (simp; omega)) _, g1, g2, g3, by omega⟩
  case round =>
    obtain ⟨i, D, rfl, hin, hown, hD, hbs⟩ := hrel
    by_cases hlt : i < rs.length
    · obtain ⟨x, hx⟩ : ∃ x, rs[i]? = some x := ⟨_, List.getElem?_eq_getElem hlt⟩
      obtain ⟨hc1, hc2⟩ := hbs.rows h1 hx
      have hx1 := hs x (List.mem_of_getElem? hx)
      have hx2 := hx1.2
      have hkey : keyOf Try.prog 3 (.int .i64 x.1) = some (.int .i64 x.1) := keyOf_int_mk ls_und3 (wf64 (by have := hx1.1; omega))
      go_wp2_with (first
        | (at_lookup; refine wpList_lookup_own_int _ rfl _ _ 146 rfl 3 3 .i64 ls_law3 ls_und146 ls_und3 (ls_zero3 _) _ i _ rfl (hown.alloc _) _ _ rfl hkey ?_; intro q hat hwq)
        | (at_mapUpdate; refine wpList_mapUpdate_own _ rfl _ _ _ 146 rfl 3 3 ls_law3 ls_und146 (plainElem Try.prog 3) _ i _ rfl (hown.alloc _) (by unfold maxLen; omega) _ _ _ rfl rfl hkey _ [] (plainElem_int ls_und3 (wfW _)) ?_; intro w1 hown1 hgrow1)
        | go_in)
      have hq : q = tsum (rs.take i) x.1 := by
        have := hD.at_ x.1
        rw [hat] at this
        injection this with this
        injection this with _ this
      have hb := tsum_bd x.1 (rs.take i) (fun y hy => hs y (List.mem_of_mem_take hy))
      rw [List.length_take, Nat.min_eq_left hin] at hb
      refine ⟨⟨i + 1, _, rfl, hlt, hown1, ?_, hbs.step _ hgrow1⟩, by simp only [intOf]; omega⟩
      rw [w64 (by omega)]
      refine (hD.put hown.isMap x.1 (q + x.2)).cast ?_ ?_
      · funext j
        rw [take_snoc hx, tsum_snoc]
        by_cases e : j = x.1
        · subst e; simp [hq]
        · rw [if_neg e, if_neg (fun h => e h.symm)]; omega
      · rw [take_snoc hx]; simp
    · obtain rfl : i = rs.length := by omega
      rw [List.take_length] at hD
      obtain ⟨⟨k1, k2⟩, k3, k4, k5⟩ := hbs.cells
      go_wp2
      go_loopw [32] (fun v wq => ∃ (i : Nat) (D : DataW Unit), v = .int .i64 i ∧ i ≤ rs'.length ∧ wq.ownsMap Try.prog 3 (plainElem Try.prog 3) (w.heap.size + 1 + 1 + 1) (rs.length + i) D ∧ MIs D (fun k => tsum rs k - tsum (rs'.take i) k) (rs.map (·.1) ++ (rs'.take i).map (·.1)) ∧
        Beside w wq b off c b' off' c' rs.length rs'.length l r l' r') (fun v _ => rs'.length - (intOf v).toNat)
      case atStart => exact ⟨0, D, rfl, Nat.zero_le _, hown, hD.cast (by funext k; simp [tsum]) (by simp), hbs⟩
      case round =>
        clear hD hown hbs k1 k2 k3 k4 k5 hin
        obtain ⟨i, D, rfl, hin, hown, hD, hbs⟩ := hrel
        by_cases hlt : i < rs'.length
        · obtain ⟨x, hx⟩ : ∃ x, rs'[i]? = some x := ⟨_, List.getElem?_eq_getElem hlt⟩
          obtain ⟨hc1, hc2⟩ := hbs.rows h2 hx
          have hx1 := hs' x (List.mem_of_getElem? hx)
          have hx2 := hx1.2
          have hkey : keyOf Try.prog 3 (.int .i64 x.1) = some (.int .i64 x.1) := keyOf_int_mk ls_und3 (wf64 (by have := hx1.1; omega))
          go_wp2_with (first
            | (at_lookup; refine wpList_lookup_own_int _ rfl _ _ 146 rfl 3 3 .i64 ls_law3 ls_und146 ls_und3 (ls_zero3 _) _ (rs.length + i) _ rfl (hown.alloc _) _ _ rfl hkey ?_; intro q hat hwq)
            | (at_mapUpdate; refine wpList_mapUpdate_own _ rfl _ _ _ 146 rfl 3 3 ls_law3 ls_und146 (plainElem Try.prog 3) _ (rs.length + i) _ rfl (hown.alloc _) (by unfold maxLen; omega) _ _ _ rfl rfl hkey _ [] (plainElem_int ls_und3 (wfW _)) ?_; intro w1 hown1 hgrow1)
            | go_in)
          have hq : q = tsum rs x.1 - tsum (rs'.take i) x.1 := by
            have := hD.at_ x.1
            rw [hat] at this
            injection this with this
            injection this with _ this
          have hb := tsum_bd x.1 (rs'.take i) (fun y hy => hs' y (List.mem_of_mem_take hy))
          have hb2 := tsum_bd x.1 rs hs
          rw [List.length_take, Nat.min_eq_left hin] at hb
          refine ⟨⟨i + 1, _, rfl, hlt, hown1, ?_, hbs.step _ hgrow1⟩, by simp only [intOf]; omega⟩
          rw [w64 (by omega)]
          refine (hD.put hown.isMap x.1 (q - x.2)).cast ?_ ?_
          · funext j
            rw [take_snoc hx, tsum_snoc]
            by_cases e : j = x.1
            · subst e; simp [hq]; omega
            · rw [if_neg e, if_neg (fun h => e h.symm)]; omega
          · rw [take_snoc hx]; simp
        · obtain rfl : i = rs'.length := by omega
          rw [List.take_length] at hD
          obtain ⟨⟨k1, k2⟩, k3, k4, k5⟩ := hbs.cells
          rename World => wz
          have e1 : (wz.alloc (.cells #[.slice none 0 0, .int .i64 (Go.RowKit.wrap64 (l - l')), .int .i64 (Go.RowKit.wrap64 (r - r'))] 114)).heap.size = wz.heap.size + 1 := by simp
          go_wp2_with (first
            | (at_range; refine wpList_range_own _ rfl _ 146 rfl 3 3 ls_law3 ls_und146 _ _ _ _ rfl (hown.alloc _) ?_; intro w0 hrg0 hg0 hs0)
            | go_in)
          try go_frame
          rw [e1] at hrg0 hs0
          go_loopw [11] (fun _ wt => ∃ (left : Lit → Bool) (cnt : Nat) (es : List (Int × Int)) (v : Value), wt.ranges Try.prog 3 (plainElem Try.prog 3) (w.heap.size + 1 + 1 + 1) (wz.heap.size + 1) (rs.length + rs'.length) D left cnt ∧ es.length + cnt ≤ rs.length + rs'.length ∧
            wt.ownsRow (wz.heap.size + 1 + 1) 144 2 v es.length (flat2 es) ∧ wt.heap[wz.heap.size]? = some (.cells #[v, .int .i64 (Go.RowKit.wrap64 (l - l')), .int .i64 (Go.RowKit.wrap64 (r - r'))] 114 (0, 0)) ∧
            wt.heap[w.heap.size + 1 + 1]? = some (.cells #[.slice none 0 0, .int .i64 0, .int .i64 0] 114 (0, 0)) ∧ Coll (fun k => tsum rs k - tsum rs' k) (rs.map (·.1) ++ rs'.map (·.1)) left es ∧ Below w.heap.size w wt ∧ wz.heap.size + 1 + 1 ≤ wt.heap.size) (fun _ wt => wt.rangeLeft (w.heap.size + 1 + 1 + 1) (wz.heap.size + 1))
          case atStart =>
            have hs3 := hbs.2.2.2.2
            refine ⟨_, _, [], .slice none 0 0, hrg0, ?_, World.ownsRow_nil _ _ _ _, ?_, ?_, Coll.start hD, ?_, by omega⟩
            · have := hown.size_le; simp only [List.length_nil]; omega
            · rw [hg0.block _ (by simp) (by simp)]; exact heap_alloc_new _ _
            · rw [hg0.block _ (by simp; omega) (by simp), heap_alloc_lt _ _ (by omega)]; exact hbs.2.2.2.1
            · exact (hbs.1.alloc hbs.1.size _).grown hg0 (by have := hbs.1.size; simp; omega) (fun j hj => by cases hj)
          case round =>
            obtain ⟨left, cnt, es, v, hrg, hcs, hrow, hO, hB, hC, hnx, hsz⟩ := hrel
            have hs3 := hbs.2.2.2.2
            obtain ⟨p0, n0, m0, rfl⟩ := own_slice hrow
            go_wp2_with (first
              | (at_next; refine wpList_next_ranges_ii _ rfl _ rfl 3 3 .i64 .i64 ls_law3 ls_und3 ls_und3 _ (wz.heap.size + 1) _ _ _ _ rfl hrg ?_ ?_)
              | go_in)
            · intro hc0 hl0
              have o0 := cell_of_row _ _ 0 _ 114 (0, 0) hO
              have o1 := cell_of_row _ _ 1 _ 114 (0, 0) hO
              have o2 := cell_of_row _ _ 2 _ 114 (0, 0) hO
              have b0 := cell_of_row _ _ 0 _ 114 (0, 0) hB
              have b1 := cell_of_row _ _ 1 _ 114 (0, 0) hB
              have b2 := cell_of_row _ _ 2 _ 114 (0, 0) hB
              have fz : ∀ j, wr.frozen? ⟨w.heap.size + 1 + 1, j, none⟩ = false := fun j => frozen_of_row _ _ j _ 114 hB
              go_wp2
              obtain ⟨d, hd1⟩ := ls_und114
              have hB3 := heap_setCell_same _ _ 2 _ 114 (.int .i64 (Go.RowKit.wrap64 (r - r'))) (heap_setCell_same _ _ 1 _ 114 (.int .i64 (Go.RowKit.wrap64 (l - l'))) (heap_setCell_same _ _ 0 _ 114 (.slice p0 n0 m0) hB))
              refine bodyPost_ret (results_cell_row rfl _ _ (w.heap.size + 1 + 1) 114 _ (0, 0) (.struct d) rfl hB3 hd1 rfl ls_size114) rfl ?_
              refine ⟨es, _, rfl, own_same hrow (by omega) (fun g hg => ?_), hC.perm hl0, below_set (below_set (below_set hnx _ (by omega)) _ (by omega)) _ (by omega)⟩
              rw [heap_setCell_other _ _ _ _ (by simp only []; omega), heap_setCell_other _ _ _ _ (by simp only []; omega), heap_setCell_other _ _ _ _ (by simp only []; omega)]
            · intro x cc w1 cnt1 hwx hwc hlx hat hrg1 hlt1 hg1 hs1 hen
              clear hs1
              have hOl : wz.heap.size < wr.heap.size := by omega
              have hO1 : w1.heap[wz.heap.size]? = _ := (hg1.block _ hOl (fun e => by have := Option.some.inj e; omega)).trans hO
              have hrow1 := hrow.kept hg1 (by
                rcases hrow.2 with ⟨e, _⟩ | ⟨g, cap, cur, e, hge, _⟩
                · left; rw [e]; rfl
                · right; rw [e]; intro h; have := Option.some.inj h; simp only [] at this; omega)
              have hO1l : wz.heap.size < w1.heap.size := Nat.lt_of_lt_of_le hOl hg1.size
              have hOb : wz.heap.size < wz.heap.size + 1 + 1 := by omega
              have o0 := cell_of_row _ _ 0 _ 114 (0, 0) hO1
              go_wp2_with (first
                | (at_builtin; refine wpList_append_own _ rfl _ _ 112 rfl (wz.heap.size + 1 + 1) 144 i0 (.agg #[.int .i64 0, .int .i64 0]) 2 16 ls_und112 hi hz0 hz1 hz2 rfl (by decide) _ _ _ rfl (hrow1.alloc _) ⟨w1.heap.size, 0, none⟩ 1 1 [.int .i64 x, .int .i64 cc] rfl rfl two_ok two_one (by unfold maxLen; omega) (by omega) (by have := hg1.size; simp; omega) ?_; intro v' w3 hown3 hg3 hnil3; obtain ⟨p3, n3, m3, rfl⟩ := own_slice hown3; have hO3 := out_kept hg3 hO1l (own_ne hrow hOb) hO1; have o3 := cell_of_row _ _ 0 _ 114 (0, 0) hO3; have f3 := frozen_of_row _ _ 0 _ 114 hO3)
                | go_in)
              have hMb : w.heap.size + 1 + 1 + 1 < wz.heap.size + 1 + 1 := by omega
              have hIb : wz.heap.size + 1 < wz.heap.size + 1 + 1 := by omega
              have hcc : cc = tsum rs x - tsum rs' x := by
                have h5 := hD.at_ x
                rw [hat] at h5
                injection h5 with h5
                injection h5 with _ h5
              have hrg3 := ((hrg1.alloc (.cells #[.int .i64 x, .int .i64 cc] 144)).kept hg3 (own_ne hrow hMb) (own_ne hrow hIb)).kept (gset w3 wz.heap.size (.slice p3 n3 m3)) (fun e => by have := Option.some.inj e; omega) (fun e => by have := Option.some.inj e; omega)
              have hB1 : w1.heap[w.heap.size + 1 + 1]? = _ := (hg1.block _ (by omega) (fun e => by have := Option.some.inj e; omega)).trans hB
              have hB2 : w3.heap[w.heap.size + 1 + 1]? = _ := out_kept hg3 (by omega) (own_ne hrow (by omega)) hB1
              have z1 := hg1.size
              have z3 := hg3.size
              simp only [World.size_alloc] at z3
              have hn1 := (hnx.grown hg1 hnx.size (fun j hj => by cases hj; omega)).alloc (by have := hnx.size; omega) (.cells #[.int .i64 x, .int .i64 cc] 144)
              have hn3 := hn1.grown hg3 hn1.size (fun j hj => by
                rcases hrow.2 with ⟨e, _⟩ | ⟨g, cap, cur, e, hge, _⟩
                · rw [e] at hj; cases hj
                · rw [e] at hj; have := Option.some.inj hj; simp only [] at this; omega)
              refine ⟨⟨_, cnt1, es ++ [(x, cc)], _, hrg3, by simp; omega, ?_, heap_setCell_same w3 _ 0 _ 114 _ hO3, ?_, ?_, below_set hn3 _ (by omega), ?_⟩, ?_⟩
              · rw [flat2_snoc, List.length_append]
                exact own_same hown3 (Nat.le_refl _) (fun g hg => heap_setCell_other _ _ _ _ (by simp only []; omega))
              · rw [heap_setCell_other _ _ _ _ (by simp only []; omega)]; exact hB2
              · rw [hcc]; exact hC.step hlx
              · simp; omega
              · rw [hrg3.left_eq, hrg.left_eq]; exact hlt1
end Go.Lo
