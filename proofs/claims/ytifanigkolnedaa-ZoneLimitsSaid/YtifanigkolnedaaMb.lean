/- Regions. -/
import Derived.Test.YtifanigkolnedaaMa
namespace Go.Lo
section
variable {P : Program} {X : Sc} {w0 w : World} {Ω : Own} {a : Act} {σ σ' : St} {o : Oper} {call : Nat → List V → Option V} {ops : Array Oper} {b : Array Nat} {draw da : Bool}

/-! ### What was yielded grows -/
def TrLe (σ σ' : St) : Prop := ∃ m, σ'.tr = σ.tr.map (· ++ m)
theorem TrLe.refl (σ : St) : TrLe σ σ := ⟨[], by cases h : σ.tr <;> simp⟩
theorem TrLe.of {σ σ' : St} (h : σ'.tr = σ.tr) : TrLe σ σ' := ⟨[], by rw [h]; cases h : σ.tr <;> simp⟩
theorem TrLe.trans {σ σ1 σ2 : St} (h : TrLe σ σ1) (k : TrLe σ1 σ2) : TrLe σ σ2 := by
  obtain ⟨m, h⟩ := h
  obtain ⟨m', k⟩ := k
  refine ⟨m ++ m', ?_⟩
  rw [k, h]
  cases σ.tr <;> simp
theorem TrLe.none {σ σ' : St} (h : TrLe σ σ') (hn : σ.tr = none) : σ'.tr = none := by
  obtain ⟨m, h⟩ := h
  rw [h, hn]; rfl
theorem TrLe.upTo {σ σ' : St} (h : TrLe σ σ') {T : List (List V)} (hT : UpTo T σ') : UpTo T σ := fun l hl => by
  obtain ⟨m, h⟩ := h
  rw [hl] at h
  exact (List.prefix_append l m).trans (hT _ h)
theorem prep_tr (lp : Bool) (ds : List Nat) (σ : St) : (prep lp ds σ).tr = σ.tr := by
  cases lp <;> cases ds <;> rfl
theorem apply_tr (σ : St) (d : Option Nat) (e : Eff) : TrLe σ (apply σ d e) := by
  cases e with
  | yld a as ps => exact ⟨[as], rfl⟩
  | mkp v d n => exact .of (by simp only [apply]; exact prep_tr _ _ _)
  | _ => exact .of rfl
theorem stepI_tr {i : LIns} (h : stepI call i σ = some σ') : TrLe σ σ' := by
  unfold stepI at h
  split at h
  · split at h
    · split at h
      · simp only [Option.some.injEq] at h; subst h; exact apply_tr _ _ _
      · cases h
    · cases h
  · simp only [Option.some.injEq] at h; subst h; exact .of rfl
  · cases h
theorem stepIx_tr {is : List LIns} : ∀ {l : List Nat} {σ σ' : St}, stepIx call is l σ = some σ' → TrLe σ σ'
  | [], σ, σ', h => by simp only [stepIx, Option.some.injEq] at h; subst h; exact .refl _
  | i :: l, σ, σ', h => by
    simp only [stepIx] at h
    split at h
    · split at h
      · rename_i σ1 h1
        exact (stepI_tr h1).trans (stepIx_tr h)
      · cases h
    · cases h
theorem stepL_tr : ∀ {is : List LIns} {σ σ' : St}, stepL call is σ = some σ' → TrLe σ σ'
  | [], σ, σ', h => by simp only [stepL, Option.some.injEq] at h; subst h; exact .refl _
  | i :: is, σ, σ', h => by
    simp only [stepL] at h
    split at h
    · rename_i σ1 h1
      exact (stepI_tr h1).trans (stepL_tr h)
    · cases h

theorem insC_k (i : Nat) : insC P ops b draw da o i = badI ∨ ∃ k xs ys g, opC P o.op (if isAppend o = true then da else draw) (aliasC P 12 o.type) (makes P o) (if draw then storeRoot ops o else truncRoot ops o) = some (k, xs) ∧ opdsC xs = some ys ∧ guardC ops o = some g ∧
    insC P ops b draw da o i = { dst := o.dst, k := k, xs := ys, guard := g, ex := if draw then exOf ops b i else [] } ∧ (makes P o = true → ∃ d, o.dst = some d) := by
  unfold insC
  split
  · exact .inl rfl
  · rename_i hm
    split
    · rename_i k' xs hop
      split
      · exact .inl rfl
      · rename_i ys hys
        split
        · rename_i g hg
          refine .inr ⟨k', xs, ys, g, hop, hys, hg, rfl, fun hmk => ?_⟩
          cases hd : o.dst with
          | none => exact (hm ⟨hmk, hd⟩).elim
          | some d => exact ⟨d, rfl⟩
        · exact .inl rfl
    · exact .inl rfl
theorem guard_sound (h : Inv X w0 Ω w a.tmps σ) {g : Option (Nat × Bool)} (hg : guardC ops o = some g) {c : Bool} (hw : wanted σ.fr g = some c) : Region.wanted o (yielded ops a.tmps) = c := by
  unfold guardC at hg
  unfold Region.wanted
  split at hg
  · rename_i hgu
    rw [hgu]
    simp only [Option.some.injEq] at hg; subst hg
    simp only [wanted, Option.some.injEq] at hw
    exact hw
  · rename_i i wt hgu
    rw [hgu]
    split at hg
    · rename_i p hp
      split at hg
      · rename_i d hd
        simp only [Option.some.injEq] at hg; subst hg
        simp only [wanted] at hw
        have hy : ∀ v, get σ.fr d = some v → ∃ x, a.tmps[d]? = some x ∧ DenS Ω w d v x := fun v hv => by
          obtain ⟨h1, h2⟩ := h.slot d v hv
          refine ⟨a.tmps[d], Array.getElem?_eq_getElem h1, ?_⟩
          simpa [Array.getD, h1] using h2
        split at hw
        · rename_i c' hc
          obtain ⟨x, h1, h2⟩ := hy _ hc
          simp only [DenS, Den] at h2
          subst h2
          simp only [Option.some.injEq] at hw; subst hw
          simp only [yielded, hp, hd, Option.bind_some, h1]
          cases c' <;> cases wt <;> rfl
        · rename_i hc
          obtain ⟨x, h1, h2⟩ := hy _ hc
          simp only [DenS, Den] at h2
          subst h2
          simp only [Option.some.injEq] at hw; subst hw
          simp only [yielded, hp, hd, Option.bind_some, h1]
          rfl
        · cases hw
      · cases hg
    · cases hg
/-- What follows an operation. -/
def Next1 (P : Program) (X : Sc) (w0 : World) (Ω : Own) (a : Act) (o : Oper) (σ' : St) (K : Act → World → Prop) : Prop :=
  ∀ a' w' Ω', a'.tmps.size = a.tmps.size → a'.defers = a.defers → (∀ k, o.dst ≠ some k → a'.tmps.getD k undef = a.tmps.getD k undef) → Inv X w0 Ω' w' a'.tmps σ' → (∀ d, Fresh Ω d → (makes P o = true → o.dst ≠ some d) → Fresh Ω' d) → K a' w'
theorem put_size (a : Act) (dst : Option Nat) (x : Value) : (a.put dst x).tmps.size = a.tmps.size := by cases dst <;> simp [Act.put]
theorem put_keeps (a : Act) (dst : Option Nat) (x : Value) (k : Nat) (h : dst ≠ some k) : (a.put dst x).tmps.getD k undef = a.tmps.getD k undef := by
  cases dst with
  | none => rfl
  | some d => simp only [Act.put]; exact getD_set_other (fun e => h (by rw [e]))
theorem put_defers (a : Act) (dst : Option Nat) (x : Value) : (a.put dst x).defers = a.defers := by cases dst <;> rfl
theorem needs_da : needs P (if isAppend o = true then da else draw) o = needs P da o := by
  unfold needs
  cases isAppend o <;> simp
theorem wpOp_step {ro : Option Nat} {n i : Nat} {K : Act → World → Prop} {Q : Exit → Act → World → Prop} {T : List (List V)} (hY : YieldOk P X w0 T) (hT : UpTo T σ') (hcall : CallsOk P call) (h : Inv X w0 Ω w a.tmps σ) (ho : ops[i]? = some o) (hst : stepI call (insC P ops b draw da o i) σ = some σ')
    (hdst : ∀ d, (insC P ops b draw da o i).dst = some d → d < a.tmps.size) (hfr : needs P da o = true → ∀ d, o.dst = some d → Fresh Ω d) (hK : Next1 P X w0 Ω a o σ' K) : wpOpIn (wideR ro) n P ops Q i K a w := by
  rcases insC_k (P := P) (ops := ops) (b := b) (draw := draw) (da := da) (o := o) i with hbad | ⟨k, xs, ys, g, h1, h2, h3, h4, h5⟩
  · rw [hbad] at hst
    simp only [stepI, badI, wanted, opds, sem] at hst
    cases hst
  · rw [h4] at hst hdst
    simp only at hdst
    unfold stepI at hst
    simp only at hst
    unfold wpOpIn
    simp only [ho]
    split at hst
    · rename_i hw
      rw [guard_sound h h3 hw]
      simp only [if_true]
      split at hst
      · rename_i vs hvs
        split at hst
        · rename_i e he
          simp only [Option.some.injEq] at hst; subst hst
          have hs := op_sound hY hcall h hdst h1 h2 hvs he h5 (fun hn => hfr (by rw [← needs_da (draw := draw)]; exact hn)) hT
          exact hs ro n K Q fun x w' Ω' hi hf => hK _ w' Ω' (put_size _ _ _) (put_defers _ _ _) (put_keeps _ _ _) hi hf
        · cases hst
      · cases hst
    · rename_i hw
      rw [guard_sound h h3 hw]
      simp only [Bool.false_eq_true, if_false]
      simp only [Option.some.injEq] at hst; subst hst
      exact ⟨fun _ _ => trivial, hK _ w Ω (put_size _ _ _) (put_defers _ _ _) (put_keeps _ _ _) (h.putO hdst (by simp [Den]) a rfl) (fun _ hf _ => hf)⟩
    · cases hst

/-! ### Regions -/
theorem insCL_get (draw da : Bool) : ∀ (l : List Oper) (j i : Nat) (o : Oper), l[i]? = some o → (insCL P ops b draw da l j)[i]? = some (insC P ops b draw da o (j + i))
  | [], j, i, o, h => by simp at h
  | x :: l, j, 0, o, h => by
    simp only [List.getElem?_cons_zero, Option.some.injEq] at h; subst h
    simp [insCL]
  | x :: l, j, i + 1, o, h => by
    simp only [List.getElem?_cons_succ] at h
    simp only [insCL, List.getElem?_cons_succ]
    rw [insCL_get draw da l (j + 1) i o h]
    congr 2
    omega
theorem insCL_length (draw da : Bool) : ∀ (l : List Oper) (j : Nat), (insCL P ops b draw da l j).length = l.length
  | [], _ => rfl
  | x :: l, j => by simp [insCL, insCL_length draw da l (j + 1)]
/-- What is made by the operations that are still to come is not there yet. -/
def FreshIx (P : Program) (da : Bool) (ops : Array Oper) (Ω : Own) (l : List Nat) : Prop := ∀ i ∈ l, ∀ o d, ops[i]? = some o → needs P da o = true → o.dst = some d → Fresh Ω d
/-- What follows a region. -/
def NextR (X : Sc) (w0 : World) (Ω : Own) (a : Act) (σ' : St) (ks ds : List Nat) (K : Act → World → Prop) : Prop :=
  ∀ a' w' Ω', a'.tmps.size = a.tmps.size → a'.defers = a.defers → (∀ k, k ∉ ks → a'.tmps.getD k undef = a.tmps.getD k undef) → Inv X w0 Ω' w' a'.tmps σ' → (∀ d, Fresh Ω d → d ∉ ds → Fresh Ω' d) → K a' w'
theorem needs_makes {o : Oper} (h : needs P da o = true) : makes P o = true := by
  unfold needs at h
  simp only [Bool.and_eq_true] at h
  exact h.1
theorem ppOf_mem {l : List Oper} {d : Nat} : d ∈ ppOf P da l ↔ ∃ o ∈ l, needs P da o = true ∧ o.dst = some d := by
  unfold ppOf
  rw [List.mem_filterMap]
  constructor
  · rintro ⟨o, ho, h⟩
    split at h
    · exact ⟨o, ho, by assumption, h⟩
    · cases h
  · rintro ⟨o, ho, h1, h2⟩
    exact ⟨o, ho, by rw [if_pos h1, h2]⟩
theorem distinct_nodup : ∀ {l : List Nat}, distinctN l = true → l.Nodup
  | [], _ => List.nodup_nil
  | d :: l, h => by
    simp only [distinctN] at h
    split at h
    · cases h
    · rename_i hm
      rw [List.nodup_cons]
      exact ⟨fun hd => hm (memN_self hd), distinct_nodup h⟩
theorem dsOf_mem {l : List Oper} {d : Nat} : d ∈ dsOf P l ↔ ∃ o ∈ l, makes P o = true ∧ o.dst = some d := by
  unfold dsOf
  rw [List.mem_filterMap]
  constructor
  · rintro ⟨o, ho, h⟩
    split at h
    · exact ⟨o, ho, by assumption, h⟩
    · cases h
  · rintro ⟨o, ho, h1, h2⟩
    exact ⟨o, ho, by rw [if_pos h1, h2]⟩
/-- The slots of what is made are all different. -/
theorem ds_inj : ∀ {l : List Oper}, (dsOf P l).Nodup → ∀ {i j : Nat} {o p : Oper} {d : Nat}, l[i]? = some o → l[j]? = some p → makes P o = true → makes P p = true → o.dst = some d → p.dst = some d → i = j
  | [], _, i, j, o, p, d, hi, _, _, _, _, _ => by simp at hi
  | x :: l, hn, i, j, o, p, d, hi, hj, h1, h2, h3, h4 => by
    have hcons : makes P x = true → ∀ d, x.dst = some d → d ∉ dsOf P l ∧ (dsOf P l).Nodup := fun hx d hd => by
      simp only [dsOf, List.filterMap_cons, hx, if_true, hd, List.nodup_cons] at hn
      exact hn
    have htail : (dsOf P l).Nodup := by
      unfold dsOf at hn ⊢
      rw [List.filterMap_cons] at hn
      split at hn
      · exact hn
      · exact (List.nodup_cons.1 hn).2
    cases i with
    | zero =>
      simp only [List.getElem?_cons_zero, Option.some.injEq] at hi; subst hi
      cases j with
      | zero => rfl
      | succ j =>
        simp only [List.getElem?_cons_succ] at hj
        exact ((hcons h1 d h3).1 (dsOf_mem.2 ⟨p, List.mem_of_getElem? hj, h2, h4⟩)).elim
    | succ i =>
      simp only [List.getElem?_cons_succ] at hi
      cases j with
      | zero =>
        simp only [List.getElem?_cons_zero, Option.some.injEq] at hj; subst hj
        exact ((hcons h2 d h4).1 (dsOf_mem.2 ⟨o, List.mem_of_getElem? hi, h1, h3⟩)).elim
      | succ j =>
        simp only [List.getElem?_cons_succ] at hj
        rw [ds_inj htail hi hj h1 h2 h3 h4]
theorem wpOps_sound {ro : Option Nat} {n : Nat} {Q : Exit → Act → World → Prop} {T : List (List V)} (hY : YieldOk P X w0 T) (hcall : CallsOk P call) (hds : (dsOf P ops.toList).Nodup) {ks : List Nat} (hks : ∀ li ∈ insCL P ops b draw da ops.toList 0, ∀ d, li.dst = some d → d ∈ ks) : ∀ (l : List Nat) (a : Act) (w : World) (Ω : Own) (σ σ' : St), l.Nodup → UpTo T σ' → Inv X w0 Ω w a.tmps σ →
    stepIx call (insCL P ops b draw da ops.toList 0) l σ = some σ' → (∀ li ∈ insCL P ops b draw da ops.toList 0, ∀ d, li.dst = some d → d < a.tmps.size) → FreshIx P da ops Ω l → NextR X w0 Ω a σ' ks (dsOf P ops.toList) (Q .normal) → wpOpsIn (wideR ro) n P ops Q l a w
  | [], a, w, Ω, σ, σ', _, _, h, hst, _, _, hK => by
    simp only [stepIx, Option.some.injEq] at hst; subst hst
    exact hK a w Ω rfl rfl (fun _ _ => rfl) h (fun _ hf _ => hf)
  | i :: l, a, w, Ω, σ, σ', hn, hT, h, hst, hdst, hfr, hK => by
    rw [wpOpsIn_cons]
    simp only [stepIx] at hst
    split at hst
    · rename_i li hli
      have hilt : i < ops.size := by
        have := (List.getElem?_eq_some_iff.1 hli).1
        rw [insCL_length] at this
        simpa using this
      have ho : ops[i]? = some ops[i] := Array.getElem?_eq_getElem hilt
      have hli' := insCL_get (P := P) (ops := ops) (b := b) draw da ops.toList 0 i ops[i] (by simp)
      rw [Nat.zero_add] at hli'
      rw [hli'] at hli
      injection hli with hli; subst hli
      split at hst
      · rename_i σ1 h1
        have hmem : ops[i] ∈ ops.toList := by simp
        refine wpOp_step hY ((stepIx_tr hst).upTo hT) hcall h ho h1 (hdst _ (List.mem_of_getElem? hli')) (fun hm d hd => hfr i (by simp) _ d ho hm hd) ?_
        intro a' w' Ω' hsz hdf htm hinv hfresh
        have hn' := List.nodup_cons.1 hn
        refine wpOps_sound hY hcall hds hks l a' w' Ω' σ1 σ' hn'.2 hT hinv hst (fun o ho d hd => by rw [hsz]; exact hdst o ho d hd) (fun j hj p d hp hm hd => ?_) ?_
        · refine hfresh d (hfr j (by simp [hj]) p d hp hm hd) (fun hm' hd' => ?_)
          have := ds_inj hds (i := i) (j := j) (by simp) (by simpa using hp) hm' (needs_makes hm) hd' hd
          exact hn'.1 (this ▸ hj)
        · intro a'' w'' Ω'' hsz' hdf' htm' hinv' hf'
          refine hK a'' w'' Ω'' (hsz'.trans hsz) (hdf'.trans hdf) (fun k hk => (htm' k hk).trans (htm k fun e => hk (hks _ (List.mem_of_getElem? hli') k (by
            rcases insC_k (P := P) (ops := ops) (b := b) (draw := draw) (da := da) (o := ops[i]) i with hbad | ⟨_, _, _, _, _, _, _, h4, _⟩
            · rw [hbad] at h1
              simp only [stepI, badI, wanted, opds, sem] at h1
              cases h1
            · rw [h4]; exact e)))) hinv' (fun d hf hnd => hf' d (hfresh d hf (fun hm hd => hnd (dsOf_mem.2 ⟨_, hmem, hm, hd⟩))) hnd)
      · cases hst
    · cases hst
theorem inv_keep {tm : Array Value} (h : Inv X w0 Ω w tm σ) (kn : Nat) (kp : List Nat) : Inv X w0 Ω w tm { σ with fr := keepL kn kp σ.fr } where
  kept := h.kept
  ownB := h.ownB
  ownA := h.ownA
  bnd := h.bnd
  uniq := h.uniq
  limB := h.limB
  slot s v hs := h.slot s v (get_keepL hs)
  tok := h.tok
  old := h.old
  out := h.out
/-- A region. -/
theorem region_sound {ro : Option Nat} {n id : Nat} {Q : Exit → Act → World → Prop} {T : List (List V)} (hY : YieldOk P X w0 T) (hT : UpTo T σ') (hcall : CallsOk P call) (hmix : P.follows .mixedOrders = true) {lp : Bool} {kn : Nat} {kp : List Nat} {lc : LCode} (hc : regC P lp kn kp ops draw = some lc) (h : Inv X w0 Ω w a.tmps σ) {N : Nat} {ex : Ex}
    (hev : evC call N lc σ = some (ex, σ')) (hdst : ∀ d ∈ dstsC lc, d < a.tmps.size) (hfr : ∀ d ∈ onceC lc, Fresh Ω d)
    (hK : ex = .normal → NextR X w0 Ω a σ' (dstsC lc) (onceC lc ++ loopC lc) (Q .normal)) : (Code.region id ops draw).wpIn (wideR ro) n P Q a w := by
  unfold regC at hc
  generalize hb : (if draw = true then Region.before ops else #[]) = b at hc
  simp only at hc
  generalize drawsApp ops b draw = da at hc
  split at hc
  · rename_i hchk
    obtain ⟨hdraw, hdis⟩ := hchk
    simp only [Option.some.injEq] at hc; subst hc
    have hnd := distinct_nodup hdis
    simp only [evC] at hev
    split at hev
    · rename_i σ1 h1
      simp only [Option.some.injEq, Prod.mk.injEq] at hev
      obtain ⟨rfl, rfl⟩ := hev
      have hK := hK rfl
      have hdst' : ∀ li ∈ insCL P ops b draw da ops.toList 0, ∀ d, li.dst = some d → d < a.tmps.size := fun li hli d hd =>
        hdst d (by simp only [dstsC]; exact List.mem_filterMap.2 ⟨li, hli, hd⟩)
      -- the state behind the start
      obtain ⟨Ω1, hinv, hfresh, hkeep⟩ : ∃ Ω1, Inv X w0 Ω1 w a.tmps (prep lp (ppOf P da ops.toList) σ) ∧ (∀ d ∈ ppOf P da ops.toList, Fresh Ω1 d) ∧ ∀ d, Fresh Ω d → Fresh Ω1 d := by
        cases lp with
        | false =>
          refine ⟨Ω, h, fun d hd => hfr d (by
            obtain ⟨o, ho, hm, hdd⟩ := ppOf_mem.1 hd
            simpa [onceC] using dsOf_mem.2 ⟨o, ho, needs_makes hm, hdd⟩), fun _ hf => hf⟩
        | true =>
          generalize ppOf P da ops.toList = pp
          cases pp with
          | nil => exact ⟨Ω, h, (fun d hd => by cases hd), fun _ hf => hf⟩
          | cons p0 pp =>
          refine ⟨Ω.prep (p0 :: pp), h.prep _, fun d hd => fresh_prep (memN_self hd), fun d hf => ⟨fun b hb => hf.1 b (prep_box hb).1, fun b t p e hb => hf.2 b t p e (prep_arr hb).1⟩⟩
      have hmem : ∀ d, d ∉ onceC (.reg lp (dsOf P ops.toList) (ppOf P da ops.toList) (insCL P ops b draw da ops.toList 0) kn kp) ++ loopC (.reg lp (dsOf P ops.toList) (ppOf P da ops.toList) (insCL P ops b draw da ops.toList 0) kn kp) → d ∉ dsOf P ops.toList := by
        intro d hd hm
        apply hd
        cases lp <;> simp [onceC, loopC, hm]
      have go : ∀ (l : List Nat) (w' : World), l.Nodup → (∀ i ∈ l, i < ops.size) → stepIx call (insCL P ops b draw da ops.toList 0) l (prep lp (ppOf P da ops.toList) σ) = some σ1 → Inv X w0 Ω1 w' a.tmps (prep lp (ppOf P da ops.toList) σ) → wpOpsIn (wideR ro) n P ops Q l a w' := by
        intro l w' hl hlt hst hi
        refine wpOps_sound hY hcall hnd (ks := (insCL P ops b draw da ops.toList 0).filterMap (·.dst)) (fun li hli d hd => List.mem_filterMap.2 ⟨li, hli, hd⟩) l a w' Ω1 _ σ1 hl hT hi hst hdst' (fun i _ o d ho hm hd => hfresh d (ppOf_mem.2 ⟨o, List.mem_of_getElem? (i := i) (by rw [Array.getElem?_toList]; exact ho), hm, hd⟩)) ?_
        intro a' w' Ω' hsz hdf htm hinv' hf'
        exact hK a' w' Ω' hsz hdf htm (inv_keep hinv' kn kp) (fun d hf hd => hf' d (hkeep d hf) (hmem d hd))
      cases draw with
      | false =>
        refine wpIn_region (go _ w List.nodup_range (fun i hi => List.mem_range.1 hi) ?_ hinv)
        rw [stepL_ix call (insCL P ops b false da ops.toList 0) _ 0 _ (by simp), insCL_length, ← List.range_eq_range', Array.length_toList] at h1
        exact h1
      | true =>
        obtain ⟨hd1, hd2⟩ := hdraw rfl
        refine wpIn_region_draw fun t => ?_
        simp only [Region.schedule, hmix, Bool.true_or, if_true]
        obtain ⟨g1, g2, g3⟩ := linearise_same (call := call) hd2 hd1 (by rw [insCL_length, Array.length_toList]) t
        refine go _ _ g2 g3 ?_ ?_
        · rw [g1]; exact h1
        · exact hinv.drew 1
    · cases hev
  · cases hc
end
end Go.Lo
