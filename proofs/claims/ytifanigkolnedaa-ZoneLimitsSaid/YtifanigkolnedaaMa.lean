/- Every order that a region may draw comes to the same as the written one. -/
import Derived.Test.YtifanigkolnedaaLz
namespace Go.Lo
section
variable {ops : Array Oper} {b : Array Nat} {is : List LIns}

def restOf (n : Nat) (listed : Array Bool) : List Nat := (List.range n).filter fun i => !listed.getD i true
/-- What is listed: whatever must come before is listed too. -/
def DownTo (ops : Array Oper) (listed : Array Bool) : Prop :=
  ∀ i o, ops[i]? = some o → listed.getD i true = true → ∀ e ∈ o.after, Region.binds .any e = true → listed.getD e.on false = true
theorem zipIdx_mem {α : Type} {l : List α} {i : Nat} {x : α} (h : l[i]? = some x) : (x, i) ∈ l.zipIdx := by
  rw [List.mem_iff_getElem?]
  exact ⟨i, by rw [List.getElem?_zipIdx, h]; simp⟩
theorem closedB_spec (h : closedB ops b = true) {i : Nat} {o : Oper} (ho : ops[i]? = some o) : (∀ e ∈ o.after, Region.binds .any e = true → e.on < i) ∧
    ∀ k, k < i → (b.getD i 0).testBit k = true → ∃ e ∈ o.after, Region.binds .any e = true ∧ (e.on = k ∨ (k < e.on ∧ (b.getD e.on 0).testBit k = true)) := by
  have h1 := List.all_eq_true.1 h (o, i) (zipIdx_mem (by simpa using ho))
  simp only [Bool.and_eq_true] at h1
  obtain ⟨h2, h3⟩ := h1
  refine ⟨fun e he hb => ?_, fun k hk ht => ?_⟩
  · have := Array.all_eq_true'.1 h2 e he
    rw [hb] at this
    simpa using this
  · have := List.all_eq_true.1 h3 k (List.mem_range.2 hk)
    rw [ht] at this
    simp only [Bool.not_true, Bool.false_or] at this
    obtain ⟨e, he, h4⟩ := Array.any_eq_true'.1 this
    simp only [Bool.and_eq_true, Bool.or_eq_true, beq_iff_eq, decide_eq_true_eq] at h4
    exact ⟨e, he, h4.1, h4.2⟩
theorem getD_size {listed : Array Bool} {i : Nat} (h : listed.getD i false = true) : i < listed.size ∧ listed.getD i true = true := by
  rcases Nat.lt_or_ge i listed.size with hi | hi
  · simp only [Array.getD, hi, dif_pos] at h ⊢
    exact ⟨trivial, h⟩
  · simp [Array.getD, Nat.not_lt.2 hi] at h
/-- Whatever comes before one that is ready is listed. -/
theorem before_listed (hc : closedB ops b = true) {listed : Array Bool} (hs : listed.size = ops.size) (hd : DownTo ops listed) : ∀ (i : Nat) {o : Oper}, ops[i]? = some o →
    (∀ e ∈ o.after, Region.binds .any e = true → listed.getD e.on false = true) → ∀ k, k < i → (b.getD i 0).testBit k = true → listed.getD k true = true := by
  intro i
  induction i using Nat.strongRecOn with
  | _ i ih =>
    intro o ho hall k hk ht
    obtain ⟨h1, h2⟩ := closedB_spec hc ho
    obtain ⟨e, he, hb, h3⟩ := h2 k hk ht
    obtain ⟨h4, h5⟩ := getD_size (hall e he hb)
    rcases h3 with rfl | ⟨h3, h6⟩
    · exact h5
    · have hlt : e.on < ops.size := by omega
      exact ih e.on (h1 e he hb) (Array.getElem?_eq_getElem hlt) (hd e.on _ (Array.getElem?_eq_getElem hlt) h5) k h3 h6
theorem drawOkL_spec (h : drawOkL b is = true) {i k : Nat} {x y : LIns} (hy : is[i]? = some y) (hx : is[k]? = some x) (hk : k < i) (ht : (b.getD i 0).testBit k = false) : apartL x y = true := by
  have h1 := List.all_eq_true.1 h (y, i) (zipIdx_mem hy)
  have h2 := List.all_eq_true.1 h1 (x, k) (zipIdx_mem hx)
  simp only [hk, ht, decide_true, Bool.not_false, Bool.and_self, if_true] at h2
  exact h2
theorem rest_split {n : Nat} {listed : Array Bool} {i : Nat} (hs : listed.size = n) (hi : i < n) (hu : listed.getD i true = false) :
    ∃ r s, restOf n listed = r ++ i :: s ∧ restOf n (listed.setIfInBounds i true) = r ++ s ∧ (∀ k ∈ r, k < i ∧ listed.getD k true = false) := by
  have hr : List.range n = List.range i ++ i :: List.range' (i + 1) (n - i - 1) := by
    rw [List.range_eq_range', List.range_eq_range', ← List.range'_succ]
    rw [show n - i - 1 + 1 = n - i by omega]
    have := List.range'_append (s := 0) (m := i) (n := n - i) (step := 1)
    simp only [Nat.one_mul, Nat.zero_add] at this
    rw [this]
    congr 1
    omega
  refine ⟨(List.range i).filter fun i => !listed.getD i true, (List.range' (i + 1) (n - i - 1)).filter fun i => !listed.getD i true, ?_, ?_, ?_⟩
  · unfold restOf
    rw [hr, List.filter_append, List.filter_cons_of_pos (by simp [hu])]
  · unfold restOf
    rw [hr, List.filter_append, List.filter_cons_of_neg (by simp [Array.getD, hs, hi])]
    congr 1
    · apply List.filter_congr
      intro j hj
      have := List.mem_range.1 hj
      rw [getD_set_ne true (by omega)]
    · apply List.filter_congr
      intro j hj
      have := List.mem_range'.1 hj
      rw [getD_set_ne true (by omega)]
  · intro k hk
    rw [List.mem_filter, List.mem_range] at hk
    exact ⟨hk.1, by simpa using hk.2⟩
theorem down_set {listed : Array Bool} {i : Nat} {o : Oper} (hd : DownTo ops listed) (_hs : listed.size = ops.size) (ho : ops[i]? = some o) (hall : ∀ e ∈ o.after, Region.binds .any e = true → listed.getD e.on false = true) :
    DownTo ops (listed.setIfInBounds i true) := by
  have key : ∀ j, listed.getD j false = true → (listed.setIfInBounds i true).getD j false = true := by
    intro j hj
    by_cases e : i = j
    · subst e
      obtain ⟨h1, _⟩ := getD_size hj
      simp [Array.getD, h1]
    · rw [getD_set_ne false e]; exact hj
  intro j p hp hl e he hb
  by_cases hij : i = j
  · subst hij
    rw [ho] at hp
    injection hp with hp; subst hp
    exact key _ (hall e he hb)
  · rw [getD_set_ne true hij] at hl
    exact key _ (hd j p hp hl e he hb)
theorem rest_length_set {n : Nat} {listed : Array Bool} {i : Nat} (hs : listed.size = n) (hi : i < n) (hu : listed.getD i true = false) : (restOf n (listed.setIfInBounds i true)).length + 1 = (restOf n listed).length := by
  obtain ⟨r, s, h1, h2, _⟩ := rest_split hs hi hu
  rw [h1, h2]; simp; omega
/-- The first that is not listed is ready. -/
theorem ready_some (hc : closedB ops b = true) {listed : Array Bool} (hs : listed.size = ops.size) (hne : restOf ops.size listed ≠ []) : Region.ready .any ops listed ≠ [] := by
  intro hr
  have hex : ∃ i, i < ops.size ∧ listed.getD i true = false := by
    obtain ⟨i, hi⟩ := List.exists_mem_of_ne_nil _ hne
    unfold restOf at hi
    rw [List.mem_filter, List.mem_range] at hi
    exact ⟨i, hi.1, by simpa using hi.2⟩
  have hmin : ∀ i, i < ops.size → listed.getD i true = false → False := by
    intro i
    induction i using Nat.strongRecOn with
    | _ i ih =>
      intro hi hu
      have : i ∈ Region.ready .any ops listed := mem_ready.2 ⟨hu, _, Array.getElem?_eq_getElem hi, fun e he hb => by
        have hlt := (closedB_spec hc (Array.getElem?_eq_getElem hi)).1 e he hb
        have hlt2 : e.on < listed.size := by omega
        cases hl : listed.getD e.on true with
        | false => exact (ih e.on hlt (by omega) hl).elim
        | true => simp only [Array.getD, hlt2, dif_pos] at hl ⊢; exact hl⟩
      rw [hr] at this
      cases this
  obtain ⟨i, h1, h2⟩ := hex
  exact hmin i h1 h2
theorem go_same {call : Nat → List V → Option V} (hc : closedB ops b = true) (hd : drawOkL b is = true) (hlen : is.length = ops.size) : ∀ (fuel t : Nat) (listed : Array Bool), listed.size = ops.size → DownTo ops listed → (restOf ops.size listed).length ≤ fuel →
    ∃ l, Region.linearise.go .any ops fuel t listed [] = l ∧ (∀ σ, stepIx call is l σ = stepIx call is (restOf ops.size listed) σ) ∧ l.Nodup ∧ ∀ i ∈ l, i < ops.size ∧ listed.getD i true = false := by
  intro fuel
  induction fuel with
  | zero =>
    intro t listed hs hdn hl
    have : restOf ops.size listed = [] := List.eq_nil_of_length_eq_zero (by omega)
    refine ⟨[], by simp [Region.linearise.go], fun σ => by rw [this], List.nodup_nil, by simp⟩
  | succ fuel ih =>
    intro t listed hs hdn hl
    simp only [Region.linearise.go]
    change ∃ l, (match (Region.ready .any ops listed)[t % (Region.ready .any ops listed).length]? with
      | some i => Region.linearise.go .any ops fuel (t / (Region.ready .any ops listed).length) (listed.setIfInBounds i true) [i]
      | none => [].reverse) = l ∧ _
    cases hi : (Region.ready .any ops listed)[t % (Region.ready .any ops listed).length]? with
    | none =>
      have hnil : Region.ready .any ops listed = [] := by
        cases hr : Region.ready .any ops listed with
        | nil => rfl
        | cons x xs =>
          rw [hr] at hi
          have hlt : t % (x :: xs).length < (x :: xs).length := Nat.mod_lt _ (by simp)
          simp at hi
          simp at hlt
          omega
      have : restOf ops.size listed = [] := by
        apply Decidable.byContradiction
        intro hne
        exact ready_some hc hs hne hnil
      exact ⟨[], rfl, fun σ => by rw [this], List.nodup_nil, by simp⟩
    | some i =>
      simp only
      obtain ⟨hu, o, ho, hall⟩ := mem_ready.1 (List.mem_of_getElem? hi)
      have hilt : i < ops.size := (Array.getElem?_eq_some_iff.1 ho).1
      obtain ⟨r, s, h1, h2, h3⟩ := rest_split hs hilt hu
      obtain ⟨l, e1, e2, e3, e4⟩ := ih (t / (Region.ready .any ops listed).length) (listed.setIfInBounds i true) (by simpa using hs) (down_set hdn hs ho hall) (by
        have := rest_length_set hs hilt hu
        omega)
      have hy : is[i]? = some is[i] := List.getElem?_eq_getElem (by omega)
      refine ⟨i :: l, by rw [linearise_go_acc, e1]; rfl, fun σ => ?_, ?_, ?_⟩
      · rw [h1, stepIx_first hy r s σ (fun k hk x hx => ?_) (fun k hk => by have := (h3 k hk).1; omega)]
        · simp only [stepIx, hy]
          cases stepI call is[i] σ with
          | none => rfl
          | some σ' => simp only; rw [e2, h2]
        · refine drawOkL_spec hd hy hx (h3 k hk).1 ?_
          cases ht : (b.getD i 0).testBit k with
          | false => rfl
          | true =>
            have := before_listed hc hs hdn i ho hall k (h3 k hk).1 ht
            rw [(h3 k hk).2] at this
            cases this
      · rw [List.nodup_cons]
        refine ⟨fun hm => ?_, e3⟩
        have := (e4 i hm).2
        simp [Array.getD, hs, hilt] at this
      · intro j hj
        rcases List.mem_cons.1 hj with rfl | hj
        · exact ⟨hilt, hu⟩
        · obtain ⟨h5, h6⟩ := e4 j hj
          refine ⟨h5, ?_⟩
          by_cases e : i = j
          · subst e; simp [Array.getD, hs, hilt] at h6
          · rw [getD_set_ne true e] at h6; exact h6
/-- A drawn order: every operation once, and it comes to the same. -/
theorem linearise_same {call : Nat → List V → Option V} (hc : closedB ops b = true) (hd : drawOkL b is = true) (hlen : is.length = ops.size) (t : Nat) :
    (∀ σ, stepIx call is (Region.linearise .any ops t) σ = stepL call is σ) ∧ (Region.linearise .any ops t).Nodup ∧ ∀ i ∈ Region.linearise .any ops t, i < ops.size := by
  have hun : ∀ i, i < ops.size → (Array.replicate ops.size false).getD i true = false := fun i hi => by simp [Array.getD, hi]
  have hrest : restOf ops.size (Array.replicate ops.size false) = List.range ops.size := by
    unfold restOf
    rw [List.filter_eq_self]
    intro i hi
    rw [hun i (List.mem_range.1 hi)]; rfl
  obtain ⟨l, e1, e2, e3, e4⟩ := go_same (call := call) hc hd hlen ops.size t (Array.replicate ops.size false) (by simp) (fun i o ho hl => by
    have hi : i < ops.size := (Array.getElem?_eq_some_iff.1 ho).1
    rw [hun i hi] at hl
    cases hl) (by rw [hrest]; simp)
  unfold Region.linearise
  rw [e1]
  refine ⟨fun σ => ?_, e3, fun i hi => (e4 i hi).1⟩
  rw [e2, hrest, stepL_ix call is is 0 σ (by simp), hlen, List.range_eq_range']
end
end Go.Lo
