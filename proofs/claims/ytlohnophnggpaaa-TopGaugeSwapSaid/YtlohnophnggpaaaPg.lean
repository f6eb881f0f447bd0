/- Texts put together. -/
import Derived.Test.YtlohnophnggpaaaPf
import Derived.WalkKit
import Derived.Laws.CopyOwn
import Derived.Deep.OwnRows
import Derived.Deep.RegionLaw
/- slices.Repeat of one integer, by a walk of its own. -/
namespace Go.Lo
open Go.Proofs Go.RowKit
theorem mul_run {n : Nat} (hn : n ≤ 200) : run Ft Ct 106 [.int .u64 1, .int .u64 n] = some (.tup [.int .u64 0, .int .u64 n]) := by
  have key : ((List.range 201).all fun (n : Nat) => match evF Ft Ct 10 106 [.int .u64 1, .int .u64 n] with
    | some (.tup [.int .u64 a, .int .u64 b]) => a == 0 && b == n
    | _ => false) = true := by kernel_rfl
  have h := List.all_eq_true.1 key n (List.mem_range.2 (by omega))
  split at h
  · rename_i a b he
    simp only [Bool.and_eq_true, beq_iff_eq] at h
    obtain ⟨rfl, rfl⟩ := h
    exact run_of he
  · cases h
theorem mul_calls {n : Nat} (hn : n ≤ 200) (w : World) : Calls Try.prog 106 #[.int .u64 1, .int .u64 n] w fun e w' => e = .returned (.tuple #[.int .u64 0, .int .u64 n]) ∧ Below w.heap.size w w' := by
  have h := (run_sound tabOk 106 _ _ (mul_run hn)).2.1 rfl { o := fun _ => .out, lim := fun _ => 0, cur := fun _ => none, tsz := fun _ => 0 } w [.int .u64 1, .int .u64 n] ⟨fun _ => .inl rfl, fun _ h => absurd rfl h⟩ (by simp [DenL, Den])
  refine h.mono fun e w' he => ?_
  obtain ⟨x, Ω1, rfl, hb, hd, _⟩ := he
  refine ⟨?_, hb⟩
  simp only [Den, DenL] at hd
  obtain ⟨xs, rfl, x1, ys, rfl, rfl, x2, zs, rfl, rfl, rfl⟩ := hd
  rfl
theorem rep_info : (Try.prog.info? 3).map (fun i => (i.zero, i.size, i.bytes)) = some (some (.int .i64 0), 1, 8) := by kernel_rfl
theorem rep_size : (Try.prog.info? 3).map (·.size) = some 1 := by kernel_rfl
theorem rep_und : Try.prog.underlying 63 = some (.slice 3) := by kernel_rfl
theorem heap_alloc_here (w : World) (O : Obj) : (w.alloc O).heap[w.heap.size]? = some O := heap_alloc_new w O
theorem min1 {n : Nat} (h : 1 ≤ n) {x : Value} : [x].length = Nat.min 1 n := by
  simp [Nat.min_def]; omega
theorem src_ok {x : Int} {b off : Nat} {w w1 : World} (hb1 : Below w.heap.size w w1) (hb : b < w.heap.size) (hx : w.cell? ⟨b, off, none⟩ = some (.int .i64 x)) (O : Obj) : ∀ (j : Nat) v, [Value.int .i64 x][j]? = some v → (w1.alloc O).cell? ((⟨b, off, none⟩ : Addr).add j) = some v := by
  intro j v hj
  cases j with
  | zero =>
    simp only [List.getElem?_cons_zero, Option.some.injEq] at hj
    subst hj
    rw [addr_add, Nat.add_zero, ← hx]
    refine (World.cell?_of_block ?_)
    rw [heap_alloc_lt w1 O (Nat.lt_of_lt_of_le hb hb1.size), hb1.block b hb]
  | succ j => simp at hj
theorem fit_ok {n : Nat} (h : 1 ≤ n) {x z : Value} : 0 + [x].length ≤ (madeCells #[z] n).toList.length := by
  simp [size_madeCells]; omega
theorem one_ok {x : Int} : ∀ v ∈ [Value.int .i64 x], v.oneCell' = true := by
  intro v hv
  rw [List.mem_singleton] at hv
  subst hv; rfl
theorem sp_len {n : Nat} (h : 1 ≤ n) {x z : Value} : (Go.splice (madeCells #[z] n).toList 0 [x]).length = n := by
  rw [length_splice _ _ _ (fit_ok h)]
  simp [size_madeCells]
theorem sp_take {n : Nat} (_h : 1 ≤ n) {x z : Value} : Hid ((Go.splice (madeCells #[z] n).toList 0 [x]).take 1 = List.replicate 1 x) := by
  show _ = _
  simp [Go.splice]
theorem rep_one {x : Int} {m : Nat} : ∀ v ∈ List.replicate m (Value.int .i64 x), v.oneCell' = true := by
  intro v hv
  rw [List.mem_replicate] at hv
  rw [hv.2]; rfl
theorem fit2 {k n : Nat} {cur : List Value} {x : Value} (hl : cur.length = n) (hkn : k ≤ n) : k + (List.replicate (Nat.min k (n - k)) x).length ≤ cur.length := by
  rw [List.length_replicate, hl]
  have : Nat.min k (n - k) ≤ n - k := Nat.min_le_right _ _
  omega
theorem src2 {w : World} {g k n : Nat} {cur : List Value} {x : Int} (hg : Hid (w.heap[g]? = some (.cells cur.toArray 3 (0, 0)))) (ht : Hid (cur.take k = List.replicate k (.int .i64 x))) (_hl : cur.length = n) (_hkn : k ≤ n) :
    0 < (List.replicate (Nat.min k (n - k)) (Value.int .i64 x)).length → some (⟨g, k, none⟩ : Addr) = some ⟨g, k, none⟩ ∧ ∃ ad, some (⟨g, 0, none⟩ : Addr) = some ad ∧ ∀ (j : Nat) v, (List.replicate (Nat.min k (n - k)) (Value.int .i64 x))[j]? = some v → w.cell? (ad.add j) = some v := by
  intro _
  refine ⟨rfl, _, rfl, fun j v hj => ?_⟩
  rw [List.getElem?_replicate] at hj
  split at hj
  · rename_i hlt
    injection hj with hj; subst hj
    have h1 : j < k := Nat.lt_of_lt_of_le hlt (Nat.min_le_left _ _)
    have h2 : cur[j]? = some (.int .i64 x) := by
      have := congrArg (fun l => l[j]?) ht.out
      simp only [List.getElem?_take, if_pos h1, List.getElem?_replicate] at this
      exact this
    rw [addr_add, Nat.zero_add, cell_of_row w g j cur.toArray 3 (0, 0) hg.out]
    simpa using h2
  · cases hj
theorem end2 {w : World} {g k n : Nat} {cur : List Value} {x : Int} (hg : Hid (w.heap[g]? = some (.cells cur.toArray 3 (0, 0)))) (ht : Hid (cur.take k = List.replicate k (.int .i64 x))) (hl : cur.length = n) (hkn : n ≤ k) :
    w.heap[g]? = some (.cells (List.replicate n (.int .i64 x)).toArray 3 (0, 0)) := by
  rw [hg.out]
  have h : cur = List.replicate k (.int .i64 x) := by
    rw [← ht.out, List.take_of_length_le (by omega)]
  have : k = n := by
    have := congrArg List.length h
    rw [List.length_replicate] at this
    omega
  rw [h, this]
theorem le2 {k n : Nat} (h : k ≤ n) : k + Nat.min k (n - k) ≤ n := by
  have : Nat.min k (n - k) ≤ n - k := Nat.min_le_right _ _
  omega
theorem len2 {k n : Nat} {cur : List Value} {x : Value} (hl : cur.length = n) (hkn : k ≤ n) : (Go.splice cur k (List.replicate (Nat.min k (n - k)) x)).length = n := by
  rw [length_splice _ _ _ (fit2 hl hkn)]; exact hl
theorem take2 {k n : Nat} {cur : List Value} {x : Value} (ht : Hid (cur.take k = List.replicate k x)) (_hl : cur.length = n) (_hkn : k ≤ n) :
    Hid ((Go.splice cur k (List.replicate (Nat.min k (n - k)) x)).take (k + Nat.min k (n - k)) = List.replicate (k + Nat.min k (n - k)) x) := by
  show _ = _
  unfold Go.splice
  have h := ht.out
  have hk : (cur.take k).length = k := by rw [h]; simp
  rw [← List.append_assoc, List.take_append_of_le_length (by rw [List.length_append, hk, List.length_replicate]; exact Nat.le_refl _), List.take_of_length_le (by rw [List.length_append, hk, List.length_replicate]; exact Nat.le_refl _), h, List.replicate_append_replicate]
theorem meas2 {k n : Nat} (h : k < n) (h1 : 1 ≤ k) : n - (intOf (.int .i64 ((k : Int) + (Nat.min k (n - k) : Nat)))).toNat < n - (intOf (.int .i64 (k : Int))).toNat := by
  have h2 : 1 ≤ Nat.min k (n - k) := Nat.le_min.2 ⟨h1, by omega⟩
  have h3 : Nat.min k (n - k) ≤ n - k := Nat.min_le_right _ _
  simp only [intOf]
  omega
theorem rep_ntmps : Try.f91.ntmps = 48 := by kernel_rfl
set_option maxRecDepth 20000 in
set_option maxHeartbeats 4000000 in
theorem rep_walk (x : Int) (b off c n : Nat) (w : World) (hn : 1 ≤ n ∧ n ≤ 200) (hb : b < w.heap.size) (hx : w.cell? ⟨b, off, none⟩ = some (.int .i64 x)) :
    Calls Try.prog 91 #[.slice (some ⟨b, off, none⟩) 1 c, .int .i64 n] w fun e w' => ∃ g, w.heap.size ≤ g ∧ e = .returned (.slice (some ⟨g, 0, none⟩) n n) ∧ Below w.heap.size w w' ∧ w'.heap[g]? = some (.cells (List.replicate n (.int .i64 x)).toArray 3 (0, 0)) := by
  have hu : IntKind.u64.wrap (n : Int) = n := by simp [IntKind.wrap, IntKind.bits, IntKind.signed]; omega
  have hi : IntKind.i64.wrap (n : Int) = n := by simp [IntKind.wrap, IntKind.bits, IntKind.signed]; omega
  have hm : ∀ k : Nat, k ≤ n → IntKind.i64.wrap ((k : Int) + (Nat.min k (n - k) : Nat)) = ((k + Nat.min k (n - k) : Nat) : Int) := fun k hk => by
    have := le2 hk
    simp [IntKind.wrap, IntKind.bits, IntKind.signed]; omega
  go_enter Try.func91, rep_ntmps
  obtain ⟨i0, hi0, hz0, hz1, hz2⟩ := info_parts rep_info
  go_wp2_with (first
    | (go_at_call 106; refine (mul_calls hn.2 _).mono ?_; rintro e w1 ⟨rfl, hb1⟩)
    | (at_make; refine wpList_make_row _ rfl _ _ 63 rfl 3 i0 (.int .i64 0) rep_und hi0 hz0 hz1 rfl .i64 .i64 n rfl rfl (by rw [hz2]; omega) (by omega) ?_)
    | (refine wpList_copy_splice rfl (.tmp 31) (.tmp 32) 63 63 rfl 3 rep_und rep_size (some ⟨w1.heap.size, 0, none⟩) (some ⟨b, off, none⟩) n n 1 c rfl rfl w1.heap.size 0 (madeCells #[.int .i64 0] n).toList 3 (by rw [Array.toArray_toList]; exact heap_alloc_here _ _) [.int .i64 x] (min1 hn.1) (fun _ => ⟨rfl, _, rfl, src_ok hb1 hb hx _⟩) (fit_ok hn.1) one_ok w.heap.size w (hb1.alloc hb1.size _) hb1.size ?_; intro w2 hg2 hb2))
  go_loopw [8] (fun v wr => ∃ (k : Nat) (cur : List Value), 1 ≤ k ∧ k ≤ n ∧ v = .int .i64 k ∧ Hid (wr.heap[w1.heap.size]? = some (.cells cur.toArray 3 (0, 0))) ∧ cur.length = n ∧ Hid (cur.take k = List.replicate k (.int .i64 x)) ∧ Below w.heap.size w wr) (fun v _ => n - (intOf v).toNat)
  case atStart => exact ⟨1, _, Nat.le_refl _, hn.1, rfl, hg2, sp_len hn.1, sp_take hn.1, hb2⟩
  case round =>
    obtain ⟨k, cur, hk1, hkn, rfl, hg, hl, ht, hbl⟩ := hrel
    by_cases hlt : k < n
    · go_wp2
      go_region_law (refine step_copy_splice rfl (.tmp 41) (.tmp 44) 63 63 rfl 3 rep_und rep_size (some ⟨w1.heap.size, k, none⟩) (some ⟨w1.heap.size, 0, none⟩) (n - k) (n - k) k n (by simp [Act.eval, Act.put]; omega) (by simp [Act.eval, Act.put]) w1.heap.size k cur 3 hg.out (List.replicate (Nat.min k (n - k)) (.int .i64 x)) (by simp) (src2 hg ht hl hkn) (fit2 hl hkn) rep_one w.heap.size w ⟨hbl.os, hbl.tape, hbl.output, hbl.size, hbl.block⟩ hb1.size ?_; intro w4 hg4 hb4)
      simp only [Act.put, List.getElem_toArray, List.getElem_cons_succ, List.getElem_cons_zero]
      go_simp
      go_roundw
      case rel =>
        exact ⟨_, _, _, _, _, _, _, _, _, _, _, _, _, _, ⟨k + Nat.min k (n - k), _, Nat.le_trans hk1 (Nat.le_add_right _ _), le2 hkn, congrArg (Value.int .i64) (Int.natCast_add _ _).symm, hg4, len2 hl hkn, take2 ht hl hkn, hb4⟩, rfl⟩
      case measure =>
        exact meas2 hlt hk1
    · go_wp2
      go_ret
      exact ⟨w1.heap.size, hb1.size, rfl, hbl, end2 hg ht hl (by omega)⟩
end Go.Lo
